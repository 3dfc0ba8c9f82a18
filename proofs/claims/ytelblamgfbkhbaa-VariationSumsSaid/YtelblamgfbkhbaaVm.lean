/- Several texts in one. No condition. -/
import Derived.Test.YtelblamgfbkhbaaA2
namespace Go.Proofs.Ytelblamgfbkhbaa
set_option linter.unusedVariables false
set_option linter.unusedSimpArgs false
set_option maxRecDepth 100000
open Go.RowKit
noncomputable def c10 : Code := Try.f10.body.getD .skip
inductive f10n0O where
  | ret (v71 : Bool)
def f10n0E : f10n0O → Ex × Tr × Hp
  | .ret v71 => (.ret, mkS [(0, (.pl (.bool v71)))], [])
def f10n0S : Tr × Hp := (initS [] 0 .leaf, [])
noncomputable def f10n0 : Option f10n0O :=
  (f12 0).bind fun x3 =>
  (f16 x3.1 str_b str_a str_p 3 10).bind fun x7 =>
  (f23r1 12).bind fun x13 =>
  (f14 x7.1 1 [(VariationPrice.mk str_p 12)]).bind fun x15 =>
  (f23r1 11).bind fun x21 =>
  (f14 x15.1 2 [(VariationPrice.mk str_p 11)]).bind fun x23 =>
  (f23r1 11).bind fun x29 =>
  (f14 x7.1 2 [(VariationPrice.mk str_p 11)]).bind fun x31 =>
  bif (decide (x3.2 = 0)) then
    bif (decide (x7.2 = 0)) then
      bif (decide (x15.2.2 = 0)) then
        (f25 6).bind fun x55 =>
        (f19 x15.2.1 x55).bind fun x57 =>
        bif x57 then
          bif (decide (x23.2.2 = 0)) then
            (f25 (-3)).bind fun x61 =>
            (f19 x23.2.1 x61).bind fun x63 =>
            bif x63 then
              bif (decide (x31.2.2 = 0)) then
                (f25 3).bind fun x67 =>
                (f19 x31.2.1 x67).bind fun x69 =>
                some (.ret x69)
              else
                some (.ret false)
            else
              some (.ret false)
          else
            some (.ret false)
        else
          some (.ret false)
      else
        some (.ret false)
    else
      some (.ret false)
  else
    some (.ret false)
theorem f10n0_ok {o : f10n0O} (h : f10n0 = some o) : T Try.prog Try.f10.ntmps 0 c10 f10n0S (fun r => r = f10n0E o) := by
  unfold f10n0 at h
  obtain ⟨x3, h4, h⟩ := bind_cases h
  obtain ⟨x7, h8, h⟩ := bind_cases h
  obtain ⟨x13, h14, h⟩ := bind_cases h
  obtain ⟨x15, h16, h⟩ := bind_cases h
  obtain ⟨x21, h22, h⟩ := bind_cases h
  obtain ⟨x23, h24, h⟩ := bind_cases h
  obtain ⟨x29, h30, h⟩ := bind_cases h
  obtain ⟨x31, h32, h⟩ := bind_cases h
  rcases cond_cases h with ⟨h52, h⟩ | ⟨h52, h⟩
  · rcases cond_cases h with ⟨h53, h⟩ | ⟨h53, h⟩
    · rcases cond_cases h with ⟨h54, h⟩ | ⟨h54, h⟩
      · obtain ⟨x55, h56, h⟩ := bind_cases h
        obtain ⟨x57, h58, h⟩ := bind_cases h
        rcases cond_cases h with ⟨h59, h⟩ | ⟨h59, h⟩
        · rcases cond_cases h with ⟨h60, h⟩ | ⟨h60, h⟩
          · obtain ⟨x61, h62, h⟩ := bind_cases h
            obtain ⟨x63, h64, h⟩ := bind_cases h
            rcases cond_cases h with ⟨h65, h⟩ | ⟨h65, h⟩
            · rcases cond_cases h with ⟨h66, h⟩ | ⟨h66, h⟩
              · obtain ⟨x67, h68, h⟩ := bind_cases h
                obtain ⟨x69, h70, h⟩ := bind_cases h
                obtain rfl := some_inj h
                exact run_end cfg_ok (rs := [([], [], []), ([], [(0, .call (.tup [(.pl (.agg (Variation.cells x3.1))), (.pl (.int .i64 x3.2))]) [])], []), ([], [(1, .call (.tup [(.pl (.agg (Variation.cells x7.1))), (.pl (.int .i64 x7.2))]) [])], []), ([], [(1, .call (.own 3) [none, none, none, some (.row false 2 ([(VariationPrice.mk str_p 12)].map VariationPrice.cells))]), (2, .call (.tup [(.pl (.agg (Variation.cells x15.1))), (.pl (.sl .any 2 (x15.2.1.map VariationPayment.cells))), (.pl (.int .i64 x15.2.2))]) [])], []), ([], [(1, .call (.own 6) [none, none, none, none, none, none, some (.row false 2 ([(VariationPrice.mk str_p 11)].map VariationPrice.cells))]), (2, .call (.tup [(.pl (.agg (Variation.cells x23.1))), (.pl (.sl .any 2 (x23.2.1.map VariationPayment.cells))), (.pl (.int .i64 x23.2.2))]) [])], []), ([], [(1, .call (.own 9) [none, none, none, none, none, none, none, none, none, some (.row false 2 ([(VariationPrice.mk str_p 11)].map VariationPrice.cells))]), (2, .call (.tup [(.pl (.agg (Variation.cells x31.1))), (.pl (.sl .any 2 (x31.2.1.map VariationPayment.cells))), (.pl (.int .i64 x31.2.2))]) [])], []), ([(3, true), (4, true), (7, true), (8, true), (11, true), (12, true), (13, true), (16, true), (17, true), (20, true), (21, true), (22, true), (25, true), (26, true), (29, true), (30, true), (31, true)], [(5, .bool true), (9, .bool true), (12, .call (.pl (.sl .any 2 (x55.map VariationPayment.cells))) []), (13, .call (.pl (.bool x57)) []), (14, .bool true), (18, .bool true), (21, .call (.pl (.sl .any 2 (x61.map VariationPayment.cells))) []), (22, .call (.pl (.bool x63)) []), (23, .bool true), (27, .bool true), (30, .call (.pl (.sl .any 2 (x67.map VariationPayment.cells))) []), (31, .call (.pl (.bool x69)) []), (32, .bool true)], [])]) (ps := []) (tds := []) (m := []) (keep := [0]) (r := (.ret, (f10n0E (.ret x69)).2)) (by kernel_rfl) (ap (f12_ok 0 h4) (ap (f16_ok x3.1 str_b str_a str_p 3 10 h8) (ap (CallS.ren (args' := [(.pl (.int .i64 12))]) (v' := (.own 3)) (B := [none, none, none]) (B' := [none, none, none, some (.row false 2 ([(VariationPrice.mk str_p 12)].map VariationPrice.cells))]) 3 [] (f23r1_ok 12 h14) (by kernel_rfl) (by kernel_rfl) (by kernel_rfl) (by kernel_rfl) (by kernel_rfl) (by kernel_rfl)) (ap (f14_ok x7.1 1 [(VariationPrice.mk str_p 12)] h16) (ap (CallS.ren (args' := [(.pl (.int .i64 11))]) (v' := (.own 6)) (B := [none, none, none, none, none, none]) (B' := [none, none, none, none, none, none, some (.row false 2 ([(VariationPrice.mk str_p 11)].map VariationPrice.cells))]) 6 [] (f23r1_ok 11 h22) (by kernel_rfl) (by kernel_rfl) (by kernel_rfl) (by kernel_rfl) (by kernel_rfl) (by kernel_rfl)) (ap (f14_ok x15.1 2 [(VariationPrice.mk str_p 11)] h24) (ap (CallS.ren (args' := [(.pl (.int .i64 11))]) (v' := (.own 9)) (B := [none, none, none, none, none, none, none, none, none]) (B' := [none, none, none, none, none, none, none, none, none, some (.row false 2 ([(VariationPrice.mk str_p 11)].map VariationPrice.cells))]) 9 [] (f23r1_ok 11 h30) (by kernel_rfl) (by kernel_rfl) (by kernel_rfl) (by kernel_rfl) (by kernel_rfl) (by kernel_rfl)) (ap (f14_ok x7.1 2 [(VariationPrice.mk str_p 11)] h32) (ap h52 (ap h52 (ap h52 (ap h53 (ap h53 (ap h53 (ap h54 (ap h54 (ap h54 (ap h54 (ap h59 (ap h59 (ap h59 (ap h60 (ap h60 (ap h60 (ap h60 (ap h65 (ap h65 (ap h65 (ap h66 (ap h66 (ap h66 (ap h66 (ap (f25_ok 6 h56) (ap (f19_ok x15.2.1 x55 h58) (ap (f25_ok (-3) h62) (ap (f19_ok x23.2.1 x61 h64) (ap (f25_ok 3 h68) (ap (f19_ok x31.2.1 x67 h70) an)))))))))))))))))))))))))))))))))))))) rfl
              · obtain rfl := some_inj h
                exact run_end cfg_ok (rs := [([], [], []), ([], [(0, .call (.tup [(.pl (.agg (Variation.cells x3.1))), (.pl (.int .i64 x3.2))]) [])], []), ([], [(1, .call (.tup [(.pl (.agg (Variation.cells x7.1))), (.pl (.int .i64 x7.2))]) [])], []), ([], [(1, .call (.own 3) [none, none, none, some (.row false 2 ([(VariationPrice.mk str_p 12)].map VariationPrice.cells))]), (2, .call (.tup [(.pl (.agg (Variation.cells x15.1))), (.pl (.sl .any 2 (x15.2.1.map VariationPayment.cells))), (.pl (.int .i64 x15.2.2))]) [])], []), ([], [(1, .call (.own 6) [none, none, none, none, none, none, some (.row false 2 ([(VariationPrice.mk str_p 11)].map VariationPrice.cells))]), (2, .call (.tup [(.pl (.agg (Variation.cells x23.1))), (.pl (.sl .any 2 (x23.2.1.map VariationPayment.cells))), (.pl (.int .i64 x23.2.2))]) [])], []), ([], [(1, .call (.own 9) [none, none, none, none, none, none, none, none, none, some (.row false 2 ([(VariationPrice.mk str_p 11)].map VariationPrice.cells))]), (2, .call (.tup [(.pl (.agg (Variation.cells x31.1))), (.pl (.sl .any 2 (x31.2.1.map VariationPayment.cells))), (.pl (.int .i64 x31.2.2))]) [])], []), ([(3, true), (4, true), (7, true), (8, true), (11, true), (12, true), (13, true), (16, true), (17, true), (20, true), (21, true), (22, true), (25, true), (26, true), (29, false), (30, false), (31, false)], [(5, .bool true), (9, .bool true), (12, .call (.pl (.sl .any 2 (x55.map VariationPayment.cells))) []), (13, .call (.pl (.bool x57)) []), (14, .bool true), (18, .bool true), (21, .call (.pl (.sl .any 2 (x61.map VariationPayment.cells))) []), (22, .call (.pl (.bool x63)) []), (23, .bool true), (27, .bool true), (32, .bool false)], [])]) (ps := []) (tds := []) (m := []) (keep := [0]) (r := (.ret, (f10n0E (.ret false)).2)) (by kernel_rfl) (ap (f12_ok 0 h4) (ap (f16_ok x3.1 str_b str_a str_p 3 10 h8) (ap (CallS.ren (args' := [(.pl (.int .i64 12))]) (v' := (.own 3)) (B := [none, none, none]) (B' := [none, none, none, some (.row false 2 ([(VariationPrice.mk str_p 12)].map VariationPrice.cells))]) 3 [] (f23r1_ok 12 h14) (by kernel_rfl) (by kernel_rfl) (by kernel_rfl) (by kernel_rfl) (by kernel_rfl) (by kernel_rfl)) (ap (f14_ok x7.1 1 [(VariationPrice.mk str_p 12)] h16) (ap (CallS.ren (args' := [(.pl (.int .i64 11))]) (v' := (.own 6)) (B := [none, none, none, none, none, none]) (B' := [none, none, none, none, none, none, some (.row false 2 ([(VariationPrice.mk str_p 11)].map VariationPrice.cells))]) 6 [] (f23r1_ok 11 h22) (by kernel_rfl) (by kernel_rfl) (by kernel_rfl) (by kernel_rfl) (by kernel_rfl) (by kernel_rfl)) (ap (f14_ok x15.1 2 [(VariationPrice.mk str_p 11)] h24) (ap (CallS.ren (args' := [(.pl (.int .i64 11))]) (v' := (.own 9)) (B := [none, none, none, none, none, none, none, none, none]) (B' := [none, none, none, none, none, none, none, none, none, some (.row false 2 ([(VariationPrice.mk str_p 11)].map VariationPrice.cells))]) 9 [] (f23r1_ok 11 h30) (by kernel_rfl) (by kernel_rfl) (by kernel_rfl) (by kernel_rfl) (by kernel_rfl) (by kernel_rfl)) (ap (f14_ok x7.1 2 [(VariationPrice.mk str_p 11)] h32) (ap h52 (ap h52 (ap h52 (ap h53 (ap h53 (ap h53 (ap h54 (ap h54 (ap h54 (ap h54 (ap h59 (ap h59 (ap h59 (ap h60 (ap h60 (ap h60 (ap h60 (ap h65 (ap h65 (ap h65 (ap h66 (ap h66 (ap h66 (ap h66 (ap (f25_ok 6 h56) (ap (f19_ok x15.2.1 x55 h58) (ap (f25_ok (-3) h62) (ap (f19_ok x23.2.1 x61 h64) an)))))))))))))))))))))))))))))))))))) rfl
            · obtain rfl := some_inj h
              exact run_end cfg_ok (rs := [([], [], []), ([], [(0, .call (.tup [(.pl (.agg (Variation.cells x3.1))), (.pl (.int .i64 x3.2))]) [])], []), ([], [(1, .call (.tup [(.pl (.agg (Variation.cells x7.1))), (.pl (.int .i64 x7.2))]) [])], []), ([], [(1, .call (.own 3) [none, none, none, some (.row false 2 ([(VariationPrice.mk str_p 12)].map VariationPrice.cells))]), (2, .call (.tup [(.pl (.agg (Variation.cells x15.1))), (.pl (.sl .any 2 (x15.2.1.map VariationPayment.cells))), (.pl (.int .i64 x15.2.2))]) [])], []), ([], [(1, .call (.own 6) [none, none, none, none, none, none, some (.row false 2 ([(VariationPrice.mk str_p 11)].map VariationPrice.cells))]), (2, .call (.tup [(.pl (.agg (Variation.cells x23.1))), (.pl (.sl .any 2 (x23.2.1.map VariationPayment.cells))), (.pl (.int .i64 x23.2.2))]) [])], []), ([], [(1, .call (.own 9) [none, none, none, none, none, none, none, none, none, some (.row false 2 ([(VariationPrice.mk str_p 11)].map VariationPrice.cells))]), (2, .call (.tup [(.pl (.agg (Variation.cells x31.1))), (.pl (.sl .any 2 (x31.2.1.map VariationPayment.cells))), (.pl (.int .i64 x31.2.2))]) [])], []), ([(3, true), (4, true), (7, true), (8, true), (11, true), (12, true), (13, true), (16, true), (17, true), (20, true), (21, true), (22, true), (25, false), (26, false)], [(5, .bool true), (9, .bool true), (12, .call (.pl (.sl .any 2 (x55.map VariationPayment.cells))) []), (13, .call (.pl (.bool x57)) []), (14, .bool true), (18, .bool true), (21, .call (.pl (.sl .any 2 (x61.map VariationPayment.cells))) []), (22, .call (.pl (.bool x63)) []), (23, .bool true), (27, .bool false)], [])]) (ps := []) (tds := []) (m := []) (keep := [0]) (r := (.ret, (f10n0E (.ret false)).2)) (by kernel_rfl) (ap (f12_ok 0 h4) (ap (f16_ok x3.1 str_b str_a str_p 3 10 h8) (ap (CallS.ren (args' := [(.pl (.int .i64 12))]) (v' := (.own 3)) (B := [none, none, none]) (B' := [none, none, none, some (.row false 2 ([(VariationPrice.mk str_p 12)].map VariationPrice.cells))]) 3 [] (f23r1_ok 12 h14) (by kernel_rfl) (by kernel_rfl) (by kernel_rfl) (by kernel_rfl) (by kernel_rfl) (by kernel_rfl)) (ap (f14_ok x7.1 1 [(VariationPrice.mk str_p 12)] h16) (ap (CallS.ren (args' := [(.pl (.int .i64 11))]) (v' := (.own 6)) (B := [none, none, none, none, none, none]) (B' := [none, none, none, none, none, none, some (.row false 2 ([(VariationPrice.mk str_p 11)].map VariationPrice.cells))]) 6 [] (f23r1_ok 11 h22) (by kernel_rfl) (by kernel_rfl) (by kernel_rfl) (by kernel_rfl) (by kernel_rfl) (by kernel_rfl)) (ap (f14_ok x15.1 2 [(VariationPrice.mk str_p 11)] h24) (ap (CallS.ren (args' := [(.pl (.int .i64 11))]) (v' := (.own 9)) (B := [none, none, none, none, none, none, none, none, none]) (B' := [none, none, none, none, none, none, none, none, none, some (.row false 2 ([(VariationPrice.mk str_p 11)].map VariationPrice.cells))]) 9 [] (f23r1_ok 11 h30) (by kernel_rfl) (by kernel_rfl) (by kernel_rfl) (by kernel_rfl) (by kernel_rfl) (by kernel_rfl)) (ap (f14_ok x7.1 2 [(VariationPrice.mk str_p 11)] h32) (ap h52 (ap h52 (ap h52 (ap h53 (ap h53 (ap h53 (ap h54 (ap h54 (ap h54 (ap h54 (ap h59 (ap h59 (ap h59 (ap h60 (ap h60 (ap h60 (ap h60 (ap h65 (ap h65 (ap h65 (ap (f25_ok 6 h56) (ap (f19_ok x15.2.1 x55 h58) (ap (f25_ok (-3) h62) (ap (f19_ok x23.2.1 x61 h64) an)))))))))))))))))))))))))))))))) rfl
          · obtain rfl := some_inj h
            exact run_end cfg_ok (rs := [([], [], []), ([], [(0, .call (.tup [(.pl (.agg (Variation.cells x3.1))), (.pl (.int .i64 x3.2))]) [])], []), ([], [(1, .call (.tup [(.pl (.agg (Variation.cells x7.1))), (.pl (.int .i64 x7.2))]) [])], []), ([], [(1, .call (.own 3) [none, none, none, some (.row false 2 ([(VariationPrice.mk str_p 12)].map VariationPrice.cells))]), (2, .call (.tup [(.pl (.agg (Variation.cells x15.1))), (.pl (.sl .any 2 (x15.2.1.map VariationPayment.cells))), (.pl (.int .i64 x15.2.2))]) [])], []), ([], [(1, .call (.own 6) [none, none, none, none, none, none, some (.row false 2 ([(VariationPrice.mk str_p 11)].map VariationPrice.cells))]), (2, .call (.tup [(.pl (.agg (Variation.cells x23.1))), (.pl (.sl .any 2 (x23.2.1.map VariationPayment.cells))), (.pl (.int .i64 x23.2.2))]) [])], []), ([], [(1, .call (.own 9) [none, none, none, none, none, none, none, none, none, some (.row false 2 ([(VariationPrice.mk str_p 11)].map VariationPrice.cells))]), (2, .call (.tup [(.pl (.agg (Variation.cells x31.1))), (.pl (.sl .any 2 (x31.2.1.map VariationPayment.cells))), (.pl (.int .i64 x31.2.2))]) [])], []), ([(3, true), (4, true), (7, true), (8, true), (11, true), (12, true), (13, true), (16, true), (17, true), (20, false), (21, false), (22, false)], [(5, .bool true), (9, .bool true), (12, .call (.pl (.sl .any 2 (x55.map VariationPayment.cells))) []), (13, .call (.pl (.bool x57)) []), (14, .bool true), (18, .bool true), (23, .bool false)], [])]) (ps := []) (tds := []) (m := []) (keep := [0]) (r := (.ret, (f10n0E (.ret false)).2)) (by kernel_rfl) (ap (f12_ok 0 h4) (ap (f16_ok x3.1 str_b str_a str_p 3 10 h8) (ap (CallS.ren (args' := [(.pl (.int .i64 12))]) (v' := (.own 3)) (B := [none, none, none]) (B' := [none, none, none, some (.row false 2 ([(VariationPrice.mk str_p 12)].map VariationPrice.cells))]) 3 [] (f23r1_ok 12 h14) (by kernel_rfl) (by kernel_rfl) (by kernel_rfl) (by kernel_rfl) (by kernel_rfl) (by kernel_rfl)) (ap (f14_ok x7.1 1 [(VariationPrice.mk str_p 12)] h16) (ap (CallS.ren (args' := [(.pl (.int .i64 11))]) (v' := (.own 6)) (B := [none, none, none, none, none, none]) (B' := [none, none, none, none, none, none, some (.row false 2 ([(VariationPrice.mk str_p 11)].map VariationPrice.cells))]) 6 [] (f23r1_ok 11 h22) (by kernel_rfl) (by kernel_rfl) (by kernel_rfl) (by kernel_rfl) (by kernel_rfl) (by kernel_rfl)) (ap (f14_ok x15.1 2 [(VariationPrice.mk str_p 11)] h24) (ap (CallS.ren (args' := [(.pl (.int .i64 11))]) (v' := (.own 9)) (B := [none, none, none, none, none, none, none, none, none]) (B' := [none, none, none, none, none, none, none, none, none, some (.row false 2 ([(VariationPrice.mk str_p 11)].map VariationPrice.cells))]) 9 [] (f23r1_ok 11 h30) (by kernel_rfl) (by kernel_rfl) (by kernel_rfl) (by kernel_rfl) (by kernel_rfl) (by kernel_rfl)) (ap (f14_ok x7.1 2 [(VariationPrice.mk str_p 11)] h32) (ap h52 (ap h52 (ap h52 (ap h53 (ap h53 (ap h53 (ap h54 (ap h54 (ap h54 (ap h54 (ap h59 (ap h59 (ap h59 (ap h60 (ap h60 (ap h60 (ap h60 (ap (f25_ok 6 h56) (ap (f19_ok x15.2.1 x55 h58) an))))))))))))))))))))))))))) rfl
        · obtain rfl := some_inj h
          exact run_end cfg_ok (rs := [([], [], []), ([], [(0, .call (.tup [(.pl (.agg (Variation.cells x3.1))), (.pl (.int .i64 x3.2))]) [])], []), ([], [(1, .call (.tup [(.pl (.agg (Variation.cells x7.1))), (.pl (.int .i64 x7.2))]) [])], []), ([], [(1, .call (.own 3) [none, none, none, some (.row false 2 ([(VariationPrice.mk str_p 12)].map VariationPrice.cells))]), (2, .call (.tup [(.pl (.agg (Variation.cells x15.1))), (.pl (.sl .any 2 (x15.2.1.map VariationPayment.cells))), (.pl (.int .i64 x15.2.2))]) [])], []), ([], [(1, .call (.own 6) [none, none, none, none, none, none, some (.row false 2 ([(VariationPrice.mk str_p 11)].map VariationPrice.cells))]), (2, .call (.tup [(.pl (.agg (Variation.cells x23.1))), (.pl (.sl .any 2 (x23.2.1.map VariationPayment.cells))), (.pl (.int .i64 x23.2.2))]) [])], []), ([], [(1, .call (.own 9) [none, none, none, none, none, none, none, none, none, some (.row false 2 ([(VariationPrice.mk str_p 11)].map VariationPrice.cells))]), (2, .call (.tup [(.pl (.agg (Variation.cells x31.1))), (.pl (.sl .any 2 (x31.2.1.map VariationPayment.cells))), (.pl (.int .i64 x31.2.2))]) [])], []), ([(3, true), (4, true), (7, true), (8, true), (11, true), (12, true), (13, true), (16, false), (17, false)], [(5, .bool true), (9, .bool true), (12, .call (.pl (.sl .any 2 (x55.map VariationPayment.cells))) []), (13, .call (.pl (.bool x57)) []), (14, .bool true), (18, .bool false)], [])]) (ps := []) (tds := []) (m := []) (keep := [0]) (r := (.ret, (f10n0E (.ret false)).2)) (by kernel_rfl) (ap (f12_ok 0 h4) (ap (f16_ok x3.1 str_b str_a str_p 3 10 h8) (ap (CallS.ren (args' := [(.pl (.int .i64 12))]) (v' := (.own 3)) (B := [none, none, none]) (B' := [none, none, none, some (.row false 2 ([(VariationPrice.mk str_p 12)].map VariationPrice.cells))]) 3 [] (f23r1_ok 12 h14) (by kernel_rfl) (by kernel_rfl) (by kernel_rfl) (by kernel_rfl) (by kernel_rfl) (by kernel_rfl)) (ap (f14_ok x7.1 1 [(VariationPrice.mk str_p 12)] h16) (ap (CallS.ren (args' := [(.pl (.int .i64 11))]) (v' := (.own 6)) (B := [none, none, none, none, none, none]) (B' := [none, none, none, none, none, none, some (.row false 2 ([(VariationPrice.mk str_p 11)].map VariationPrice.cells))]) 6 [] (f23r1_ok 11 h22) (by kernel_rfl) (by kernel_rfl) (by kernel_rfl) (by kernel_rfl) (by kernel_rfl) (by kernel_rfl)) (ap (f14_ok x15.1 2 [(VariationPrice.mk str_p 11)] h24) (ap (CallS.ren (args' := [(.pl (.int .i64 11))]) (v' := (.own 9)) (B := [none, none, none, none, none, none, none, none, none]) (B' := [none, none, none, none, none, none, none, none, none, some (.row false 2 ([(VariationPrice.mk str_p 11)].map VariationPrice.cells))]) 9 [] (f23r1_ok 11 h30) (by kernel_rfl) (by kernel_rfl) (by kernel_rfl) (by kernel_rfl) (by kernel_rfl) (by kernel_rfl)) (ap (f14_ok x7.1 2 [(VariationPrice.mk str_p 11)] h32) (ap h52 (ap h52 (ap h52 (ap h53 (ap h53 (ap h53 (ap h54 (ap h54 (ap h54 (ap h54 (ap h59 (ap h59 (ap h59 (ap (f25_ok 6 h56) (ap (f19_ok x15.2.1 x55 h58) an))))))))))))))))))))))) rfl
      · obtain rfl := some_inj h
        exact run_end cfg_ok (rs := [([], [], []), ([], [(0, .call (.tup [(.pl (.agg (Variation.cells x3.1))), (.pl (.int .i64 x3.2))]) [])], []), ([], [(1, .call (.tup [(.pl (.agg (Variation.cells x7.1))), (.pl (.int .i64 x7.2))]) [])], []), ([], [(1, .call (.own 3) [none, none, none, some (.row false 2 ([(VariationPrice.mk str_p 12)].map VariationPrice.cells))]), (2, .call (.tup [(.pl (.agg (Variation.cells x15.1))), (.pl (.sl .any 2 (x15.2.1.map VariationPayment.cells))), (.pl (.int .i64 x15.2.2))]) [])], []), ([], [(1, .call (.own 6) [none, none, none, none, none, none, some (.row false 2 ([(VariationPrice.mk str_p 11)].map VariationPrice.cells))]), (2, .call (.tup [(.pl (.agg (Variation.cells x23.1))), (.pl (.sl .any 2 (x23.2.1.map VariationPayment.cells))), (.pl (.int .i64 x23.2.2))]) [])], []), ([], [(1, .call (.own 9) [none, none, none, none, none, none, none, none, none, some (.row false 2 ([(VariationPrice.mk str_p 11)].map VariationPrice.cells))]), (2, .call (.tup [(.pl (.agg (Variation.cells x31.1))), (.pl (.sl .any 2 (x31.2.1.map VariationPayment.cells))), (.pl (.int .i64 x31.2.2))]) [])], []), ([(3, true), (4, true), (7, true), (8, true), (11, false), (12, false), (13, false)], [(5, .bool true), (9, .bool true), (14, .bool false)], [])]) (ps := []) (tds := []) (m := []) (keep := [0]) (r := (.ret, (f10n0E (.ret false)).2)) (by kernel_rfl) (ap (f12_ok 0 h4) (ap (f16_ok x3.1 str_b str_a str_p 3 10 h8) (ap (CallS.ren (args' := [(.pl (.int .i64 12))]) (v' := (.own 3)) (B := [none, none, none]) (B' := [none, none, none, some (.row false 2 ([(VariationPrice.mk str_p 12)].map VariationPrice.cells))]) 3 [] (f23r1_ok 12 h14) (by kernel_rfl) (by kernel_rfl) (by kernel_rfl) (by kernel_rfl) (by kernel_rfl) (by kernel_rfl)) (ap (f14_ok x7.1 1 [(VariationPrice.mk str_p 12)] h16) (ap (CallS.ren (args' := [(.pl (.int .i64 11))]) (v' := (.own 6)) (B := [none, none, none, none, none, none]) (B' := [none, none, none, none, none, none, some (.row false 2 ([(VariationPrice.mk str_p 11)].map VariationPrice.cells))]) 6 [] (f23r1_ok 11 h22) (by kernel_rfl) (by kernel_rfl) (by kernel_rfl) (by kernel_rfl) (by kernel_rfl) (by kernel_rfl)) (ap (f14_ok x15.1 2 [(VariationPrice.mk str_p 11)] h24) (ap (CallS.ren (args' := [(.pl (.int .i64 11))]) (v' := (.own 9)) (B := [none, none, none, none, none, none, none, none, none]) (B' := [none, none, none, none, none, none, none, none, none, some (.row false 2 ([(VariationPrice.mk str_p 11)].map VariationPrice.cells))]) 9 [] (f23r1_ok 11 h30) (by kernel_rfl) (by kernel_rfl) (by kernel_rfl) (by kernel_rfl) (by kernel_rfl) (by kernel_rfl)) (ap (f14_ok x7.1 2 [(VariationPrice.mk str_p 11)] h32) (ap h52 (ap h52 (ap h52 (ap h53 (ap h53 (ap h53 (ap h54 (ap h54 (ap h54 (ap h54 an)))))))))))))))))) rfl
    · obtain rfl := some_inj h
      exact run_end cfg_ok (rs := [([], [], []), ([], [(0, .call (.tup [(.pl (.agg (Variation.cells x3.1))), (.pl (.int .i64 x3.2))]) [])], []), ([], [(1, .call (.tup [(.pl (.agg (Variation.cells x7.1))), (.pl (.int .i64 x7.2))]) [])], []), ([], [(1, .call (.own 3) [none, none, none, some (.row false 2 ([(VariationPrice.mk str_p 12)].map VariationPrice.cells))]), (2, .call (.tup [(.pl (.agg (Variation.cells x15.1))), (.pl (.sl .any 2 (x15.2.1.map VariationPayment.cells))), (.pl (.int .i64 x15.2.2))]) [])], []), ([], [(1, .call (.own 6) [none, none, none, none, none, none, some (.row false 2 ([(VariationPrice.mk str_p 11)].map VariationPrice.cells))]), (2, .call (.tup [(.pl (.agg (Variation.cells x23.1))), (.pl (.sl .any 2 (x23.2.1.map VariationPayment.cells))), (.pl (.int .i64 x23.2.2))]) [])], []), ([], [(1, .call (.own 9) [none, none, none, none, none, none, none, none, none, some (.row false 2 ([(VariationPrice.mk str_p 11)].map VariationPrice.cells))]), (2, .call (.tup [(.pl (.agg (Variation.cells x31.1))), (.pl (.sl .any 2 (x31.2.1.map VariationPayment.cells))), (.pl (.int .i64 x31.2.2))]) [])], []), ([(3, true), (4, true), (7, false), (8, false)], [(5, .bool true), (9, .bool false)], [])]) (ps := []) (tds := []) (m := []) (keep := [0]) (r := (.ret, (f10n0E (.ret false)).2)) (by kernel_rfl) (ap (f12_ok 0 h4) (ap (f16_ok x3.1 str_b str_a str_p 3 10 h8) (ap (CallS.ren (args' := [(.pl (.int .i64 12))]) (v' := (.own 3)) (B := [none, none, none]) (B' := [none, none, none, some (.row false 2 ([(VariationPrice.mk str_p 12)].map VariationPrice.cells))]) 3 [] (f23r1_ok 12 h14) (by kernel_rfl) (by kernel_rfl) (by kernel_rfl) (by kernel_rfl) (by kernel_rfl) (by kernel_rfl)) (ap (f14_ok x7.1 1 [(VariationPrice.mk str_p 12)] h16) (ap (CallS.ren (args' := [(.pl (.int .i64 11))]) (v' := (.own 6)) (B := [none, none, none, none, none, none]) (B' := [none, none, none, none, none, none, some (.row false 2 ([(VariationPrice.mk str_p 11)].map VariationPrice.cells))]) 6 [] (f23r1_ok 11 h22) (by kernel_rfl) (by kernel_rfl) (by kernel_rfl) (by kernel_rfl) (by kernel_rfl) (by kernel_rfl)) (ap (f14_ok x15.1 2 [(VariationPrice.mk str_p 11)] h24) (ap (CallS.ren (args' := [(.pl (.int .i64 11))]) (v' := (.own 9)) (B := [none, none, none, none, none, none, none, none, none]) (B' := [none, none, none, none, none, none, none, none, none, some (.row false 2 ([(VariationPrice.mk str_p 11)].map VariationPrice.cells))]) 9 [] (f23r1_ok 11 h30) (by kernel_rfl) (by kernel_rfl) (by kernel_rfl) (by kernel_rfl) (by kernel_rfl) (by kernel_rfl)) (ap (f14_ok x7.1 2 [(VariationPrice.mk str_p 11)] h32) (ap h52 (ap h52 (ap h52 (ap h53 (ap h53 (ap h53 an)))))))))))))) rfl
  · obtain rfl := some_inj h
    exact run_end cfg_ok (rs := [([], [], []), ([], [(0, .call (.tup [(.pl (.agg (Variation.cells x3.1))), (.pl (.int .i64 x3.2))]) [])], []), ([], [(1, .call (.tup [(.pl (.agg (Variation.cells x7.1))), (.pl (.int .i64 x7.2))]) [])], []), ([], [(1, .call (.own 3) [none, none, none, some (.row false 2 ([(VariationPrice.mk str_p 12)].map VariationPrice.cells))]), (2, .call (.tup [(.pl (.agg (Variation.cells x15.1))), (.pl (.sl .any 2 (x15.2.1.map VariationPayment.cells))), (.pl (.int .i64 x15.2.2))]) [])], []), ([], [(1, .call (.own 6) [none, none, none, none, none, none, some (.row false 2 ([(VariationPrice.mk str_p 11)].map VariationPrice.cells))]), (2, .call (.tup [(.pl (.agg (Variation.cells x23.1))), (.pl (.sl .any 2 (x23.2.1.map VariationPayment.cells))), (.pl (.int .i64 x23.2.2))]) [])], []), ([], [(1, .call (.own 9) [none, none, none, none, none, none, none, none, none, some (.row false 2 ([(VariationPrice.mk str_p 11)].map VariationPrice.cells))]), (2, .call (.tup [(.pl (.agg (Variation.cells x31.1))), (.pl (.sl .any 2 (x31.2.1.map VariationPayment.cells))), (.pl (.int .i64 x31.2.2))]) [])], []), ([(3, false), (4, false)], [(5, .bool false)], [])]) (ps := []) (tds := []) (m := []) (keep := [0]) (r := (.ret, (f10n0E (.ret false)).2)) (by kernel_rfl) (ap (f12_ok 0 h4) (ap (f16_ok x3.1 str_b str_a str_p 3 10 h8) (ap (CallS.ren (args' := [(.pl (.int .i64 12))]) (v' := (.own 3)) (B := [none, none, none]) (B' := [none, none, none, some (.row false 2 ([(VariationPrice.mk str_p 12)].map VariationPrice.cells))]) 3 [] (f23r1_ok 12 h14) (by kernel_rfl) (by kernel_rfl) (by kernel_rfl) (by kernel_rfl) (by kernel_rfl) (by kernel_rfl)) (ap (f14_ok x7.1 1 [(VariationPrice.mk str_p 12)] h16) (ap (CallS.ren (args' := [(.pl (.int .i64 11))]) (v' := (.own 6)) (B := [none, none, none, none, none, none]) (B' := [none, none, none, none, none, none, some (.row false 2 ([(VariationPrice.mk str_p 11)].map VariationPrice.cells))]) 6 [] (f23r1_ok 11 h22) (by kernel_rfl) (by kernel_rfl) (by kernel_rfl) (by kernel_rfl) (by kernel_rfl) (by kernel_rfl)) (ap (f14_ok x15.1 2 [(VariationPrice.mk str_p 11)] h24) (ap (CallS.ren (args' := [(.pl (.int .i64 11))]) (v' := (.own 9)) (B := [none, none, none, none, none, none, none, none, none]) (B' := [none, none, none, none, none, none, none, none, none, some (.row false 2 ([(VariationPrice.mk str_p 11)].map VariationPrice.cells))]) 9 [] (f23r1_ok 11 h30) (by kernel_rfl) (by kernel_rfl) (by kernel_rfl) (by kernel_rfl) (by kernel_rfl) (by kernel_rfl)) (ap (f14_ok x7.1 2 [(VariationPrice.mk str_p 11)] h32) (ap h52 (ap h52 (ap h52 an))))))))))) rfl
noncomputable def f10 : Option Bool := f10n0.bind fun o => match o with
  | .ret v71 => some v71
theorem f10_ok {r : Bool} (h : f10 = some r) : CallS Try.prog false 10 [] [] (.pl (.bool r)) [] := by
  unfold f10 at h
  obtain ⟨o, ho, h⟩ := bind_cases h
  cases o with
  | ret v71 =>
    obtain rfl := some_inj h
    exact CallS.plain cfg_ok (f := Try.f10) (c := c10) (by kernel_rfl) (by kernel_rfl) (by kernel_rfl) (by kernel_rfl) ((f10n0_ok  ho).mono fun r e => by subst e; exact ⟨.inl rfl, (.pl (.bool v71)), (.pl (.bool v71)), by kernel_rfl, by kernel_rfl, ((Wk.refl _) : Wk (.pl (.bool v71)) (.pl (.bool v71)))⟩)

noncomputable def c11 : Code := Try.f11.body.getD .skip
inductive f11n2O where
  | exit0
  | ret
def f11n2E (bk1 : List Op_) : f11n2O → Ex × Tr × Hp
  | .exit0 => ((.exit 0), mkS [(0, (.pl (.sl .any 8 (bk1.map Op_.cells))))], [])
  | .ret => (.ret, mkS [(2, (.pl (.bool true)))], [])
def f11n2S (bk1 : List Op_) (v29 : Int) : Tr × Hp := (mkS [(0, (.pl (.sl .any 8 (bk1.map Op_.cells)))), (3, (.pl (.int .i64 v29)))], [])
noncomputable def f11n2 : Nat → List Op_ → Int → Option f11n2O
  | 0, _, _ => none
  | f + 1, bk1, v29 =>
    bif (decide (v29 < (bk1.length : Int))) then
      bif (decide (v29 ≤ 100)) then
        (at? bk1 v29).bind fun x39 =>
        bif (decide (220 < (x39.Prices.length : Int))) then
          some .ret
        else
          bif (decide (x39.Day < (-1))) then
            some .ret
          else
            bif (decide (100000 < x39.Day)) then
              some .ret
            else
              (f11n2 f bk1 (wr64 (v29 + 1)))
      else
        some .exit0
    else
      some .exit0
theorem f11n2_ok : ∀ (f : Nat) (bk1 : List Op_) (v29 : Int) {o : f11n2O}, (f11n2 f bk1 v29) = some o → TL Try.prog Try.f11.ntmps 0 f (cL (cL (dropC 1 (cL (dropC 1 c11))))) (f11n2S bk1 v29) (fun r => r = f11n2E bk1 o)
  | 0, _, _, o, h => by rw [f11n2] at h; cases h
  | f + 1, bk1, v29, o, h => by
    rw [f11n2] at h
    refine TL.body (K := fun s => ∃ v29 : Int, s = (f11n2S bk1 v29) ∧ (f11n2 f bk1 v29) = some o) ?_ (by rintro _ ⟨v29, rfl, hk⟩; exact f11n2_ok f _ _ hk)
    rcases cond_cases h with ⟨h32, h⟩ | ⟨h32, h⟩
    · rcases cond_cases h with ⟨h33, h⟩ | ⟨h33, h⟩
      · obtain ⟨x39, h40, h⟩ := bind_cases h
        rcases cond_cases h with ⟨h41, h⟩ | ⟨h41, h⟩
        · obtain rfl := some_inj h
          exact runK_end cfg_ok (k := 2) (rs := [([(5, true), (6, true)], [(7, .bool true)], [(2, .val (.pl (.int .i64 (bk1.length : Int))))]), ([(8, true), (9, true), (10, true), (11, true), (12, true), (13, true)], [(2, .idx (Int.toNat v29) (Op_.cells x39)), (14, .bool true)], [(5, .val (.pl (.int .i64 (x39.Prices.length : Int))))]), ([], [], [])]) (ps := [some true, none]) (tds := []) (m := []) (keep := [2]) (ex := .ret) (st' := (f11n2E bk1 .ret).2) (by kernel_rfl) (ap (len_cv (xs := bk1) (c := Op_.cells)) (ap h32 (ap h32 (ap h32 (ap h33 (ap (at_some h40).1 (ap (at_map Op_.cells (at_some h40).2) (ap (len_cv (xs := x39.Prices) (c := VariationPrice.cells)) (ap h41 (ap h41 (ap h41 (ap h41 (ap h41 (ap h41 (ap h41 an))))))))))))))) (fun h => nomatch h) (LoopQ.out rfl rfl)
        · rcases cond_cases h with ⟨h42, h⟩ | ⟨h42, h⟩
          · obtain rfl := some_inj h
            exact runK_end cfg_ok (k := 2) (rs := [([(5, true), (6, true)], [(7, .bool true)], [(2, .val (.pl (.int .i64 (bk1.length : Int))))]), ([(8, false), (9, false), (10, false), (11, false), (12, false), (13, false), (16, true), (17, true), (18, true), (19, true), (20, true), (21, true)], [(2, .idx (Int.toNat v29) (Op_.cells x39)), (10, .idx (Int.toNat v29) (Op_.cells x39)), (14, .bool false), (22, .bool true)], [(5, .val (.pl (.int .i64 (x39.Prices.length : Int))))]), ([], [], [])]) (ps := [some true, none]) (tds := []) (m := []) (keep := [2]) (ex := .ret) (st' := (f11n2E bk1 .ret).2) (by kernel_rfl) (ap (len_cv (xs := bk1) (c := Op_.cells)) (ap h32 (ap h32 (ap h32 (ap h33 (ap (at_some h40).1 (ap (at_map Op_.cells (at_some h40).2) (ap (len_cv (xs := x39.Prices) (c := VariationPrice.cells)) (ap h41 (ap h41 (ap h41 (ap (at_some h40).1 (ap (at_map Op_.cells (at_some h40).2) (ap h41 (ap h41 (ap h41 (ap h41 (ap h42 (ap h42 (ap h42 (ap h42 (ap h42 (ap h42 (ap h42 an)))))))))))))))))))))))) (fun h => nomatch h) (LoopQ.out rfl rfl)
          · rcases cond_cases h with ⟨h43, h⟩ | ⟨h43, h⟩
            · obtain rfl := some_inj h
              exact runK_end cfg_ok (k := 2) (rs := [([(5, true), (6, true)], [(7, .bool true)], [(2, .val (.pl (.int .i64 (bk1.length : Int))))]), ([(8, false), (9, false), (10, false), (11, false), (12, false), (13, false), (16, false), (17, false), (18, false), (19, false), (20, false), (21, false)], [(2, .idx (Int.toNat v29) (Op_.cells x39)), (10, .idx (Int.toNat v29) (Op_.cells x39)), (14, .bool false), (18, .idx (Int.toNat v29) (Op_.cells x39)), (22, .bool false)], [(5, .val (.pl (.int .i64 (x39.Prices.length : Int))))]), ([], [], [])]) (ps := [some true, some true]) (tds := []) (m := []) (keep := [2]) (ex := .ret) (st' := (f11n2E bk1 .ret).2) (by kernel_rfl) (ap (len_cv (xs := bk1) (c := Op_.cells)) (ap h32 (ap h32 (ap h32 (ap h33 (ap (at_some h40).1 (ap (at_map Op_.cells (at_some h40).2) (ap (len_cv (xs := x39.Prices) (c := VariationPrice.cells)) (ap h41 (ap h41 (ap h41 (ap (at_some h40).1 (ap (at_map Op_.cells (at_some h40).2) (ap h41 (ap h41 (ap h41 (ap h41 (ap h42 (ap h42 (ap h42 (ap (at_some h40).1 (ap (at_map Op_.cells (at_some h40).2) (ap h42 (ap h42 (ap h42 (ap h42 (ap h43 an))))))))))))))))))))))))))) (fun h => nomatch h) (LoopQ.out rfl rfl)
            · exact run_end cfg_ok (rs := [([(5, true), (6, true)], [(7, .bool true)], [(2, .val (.pl (.int .i64 (bk1.length : Int))))]), ([(8, false), (9, false), (10, false), (11, false), (12, false), (13, false), (16, false), (17, false), (18, false), (19, false), (20, false), (21, false)], [(2, .idx (Int.toNat v29) (Op_.cells x39)), (10, .idx (Int.toNat v29) (Op_.cells x39)), (14, .bool false), (18, .idx (Int.toNat v29) (Op_.cells x39)), (22, .bool false)], [(5, .val (.pl (.int .i64 (x39.Prices.length : Int))))]), ([], [], [])]) (ps := [some true, some false]) (tds := []) (m := []) (keep := [0, 3]) (r := (.norm, (f11n2S bk1 (wr64 (v29 + 1))))) (by kernel_rfl) (ap (len_cv (xs := bk1) (c := Op_.cells)) (ap h32 (ap h32 (ap h32 (ap h33 (ap (at_some h40).1 (ap (at_map Op_.cells (at_some h40).2) (ap (len_cv (xs := x39.Prices) (c := VariationPrice.cells)) (ap h41 (ap h41 (ap h41 (ap (at_some h40).1 (ap (at_map Op_.cells (at_some h40).2) (ap h41 (ap h41 (ap h41 (ap h41 (ap h42 (ap h42 (ap h42 (ap (at_some h40).1 (ap (at_map Op_.cells (at_some h40).2) (ap h42 (ap h42 (ap h42 (ap h42 (ap h43 an))))))))))))))))))))))))))) (LoopQ.norm ⟨(wr64 (v29 + 1)), rfl, h⟩)
      · obtain rfl := some_inj h
        exact runK_end cfg_ok (k := 1) (rs := [([(5, true), (6, true)], [(7, .bool true)], [(2, .val (.pl (.int .i64 (bk1.length : Int))))])]) (ps := [some false]) (tds := []) (m := []) (keep := [0]) (ex := (.exit 0)) (st' := (f11n2E bk1 .exit0).2) (by kernel_rfl) (ap (len_cv (xs := bk1) (c := Op_.cells)) (ap h32 (ap h32 (ap h32 (ap h33 an))))) (fun h => nomatch h) (LoopQ.out rfl rfl)
    · obtain rfl := some_inj h
      exact runK_end cfg_ok (k := 1) (rs := [([(5, false), (6, false)], [(7, .bool false)], [(2, .val (.pl (.int .i64 (bk1.length : Int))))])]) (ps := [none]) (tds := []) (m := []) (keep := [0]) (ex := (.exit 0)) (st' := (f11n2E bk1 .exit0).2) (by kernel_rfl) (ap (len_cv (xs := bk1) (c := Op_.cells)) (ap h32 (ap h32 (ap h32 an)))) (fun h => nomatch h) (LoopQ.out rfl rfl)
noncomputable def f11n2L (bk1 : List Op_) : List Op_ → Int → Option f11n2O
  | [], v29 =>
    some .exit0
  | x0 :: rest, v29 =>
    bif (decide (v29 ≤ 100)) then
      bif (decide (220 < (x0.Prices.length : Int))) then
        some .ret
      else
        bif (decide (x0.Day < (-1))) then
          some .ret
        else
          bif (decide (100000 < x0.Day)) then
            some .ret
          else
            (f11n2L bk1 rest (v29 + 1))
    else
      some .exit0
theorem f11n2L_eq (bk1 : List Op_) : ∀ (rest : List Op_) (f k : Nat), bk1.drop k = rest → bk1.length ≤ maxLen → rest.length < f → f11n2 f bk1 (k : Int) = f11n2L bk1 rest (k : Int)
  | _, 0, _, _, _, hf => absurd hf (Nat.not_lt_zero _)
  | [], f + 1, k, hd, hm, hf => by
    have hk : ¬ ((k : Int) < (bk1.length : Int)) := by have := drop_nil hd; omega
    rw [f11n2, f11n2L]
    simp only [decide_eq_false hk, cond_false]
  | x0 :: rest, f + 1, k, hd, hm, hf => by
    obtain ⟨hx, hlt, hd'⟩ := drop_cons hd
    have hk : (k : Int) < (bk1.length : Int) := by omega
    have hw : wr64 ((k : Int) + 1) = (k : Int) + 1 := wr64_of (by omega) (by unfold maxLen at hm; omega)
    have ih : f11n2 f bk1 ((k : Int) + 1) = f11n2L bk1 rest ((k : Int) + 1) := f11n2L_eq bk1 rest f (k + 1) hd' hm (by simpa using hf)
    rw [f11n2, f11n2L]
    simp only [decide_eq_true hk, cond_true, at_nat, hx, Option.bind_some, hw, ih]
theorem f11n2_run (bk1 : List Op_) (hm : bk1.length ≤ maxLen) : f11n2 FUEL bk1 0 = f11n2L bk1 bk1 0 := f11n2L_eq bk1 bk1 FUEL 0 List.drop_zero hm (lt_FUEL hm)
inductive f11n1O where
  | norm
  | ret
def f11n1E (bk1 : List Op_) : f11n1O → Ex × Tr × Hp
  | .norm => (.norm, mkS [(0, (.pl (.sl .any 8 (bk1.map Op_.cells))))], [])
  | .ret => (.ret, mkS [(2, (.pl (.bool true)))], [])
def f11n1S (bk1 : List Op_) : Tr × Hp := (mkS [(0, (.pl (.sl .any 8 (bk1.map Op_.cells))))], [])
noncomputable def f11n1 (bk1 : List Op_) : Option f11n1O :=
  (f11n2 FUEL bk1 0).bind fun o44 => match o44 with
  | .exit0 => some .norm
  | .ret => some .ret
theorem f11n1_ok (bk1 : List Op_) {o : f11n1O} (h : (f11n1 bk1) = some o) : T Try.prog Try.f11.ntmps 0 (cL (dropC 1 c11)) (f11n1S bk1) (fun r => r = f11n1E bk1 o) := by
  unfold f11n1 at h
  refine runK_norm cfg_ok (k := 1) (rs := [([], [], [])]) (ps := []) (tds := []) (m := []) (keep := [0, 3]) (st' := (f11n2S bk1 0)) (by kernel_rfl) an ?_
  obtain ⟨o44, h45, h⟩ := bind_cases h
  cases o44 with
  | exit0 =>
    obtain rfl := some_inj h
    exact T.last' (T.bl (i := 0) (by kernel_rfl) (by kernel_rfl) (f11n2_ok FUEL bk1 0 h45)) (tds := []) (m := []) (keep := [0]) (st2 := (f11n1E bk1 .norm).2) (by kernel_rfl) an rfl
  | ret =>
    obtain rfl := some_inj h
    exact T.last' (T.bl (i := 0) (by kernel_rfl) (by kernel_rfl) (f11n2_ok FUEL bk1 0 h45)) (tds := []) (m := []) (keep := [2]) (st2 := (f11n1E bk1 .ret).2) (by kernel_rfl) an rfl
inductive f11n0O where
  | ret (v48 : Bool)
def f11n0E (a1 : List Op_) : f11n0O → Ex × Tr × Hp
  | .ret v48 => (.ret, mkS [(2, (.pl (.bool v48)))], [])
def f11n0S (a1 : List Op_) : Tr × Hp := (initS [(.pl (.sl .any 8 (a1.map Op_.cells)))] 0 .leaf, [])
noncomputable def f11n0 (a1 : List Op_) : Option f11n0O :=
  (f11n1 a1).bind fun o46 => match o46 with
  | .norm => some (.ret (decide (100 < (a1.length : Int))))
  | .ret => some (.ret true)
theorem f11n0_ok (a1 : List Op_) {o : f11n0O} (h : (f11n0 a1) = some o) : T Try.prog Try.f11.ntmps 0 c11 (f11n0S a1) (fun r => r = f11n0E a1 o) := by
  unfold f11n0 at h
  refine runK_norm cfg_ok (k := 1) (rs := [([], [], [])]) (ps := []) (tds := []) (m := []) (keep := [0]) (st' := (f11n1S a1)) (by kernel_rfl) an ?_
  obtain ⟨o46, h47, h⟩ := bind_cases h
  cases o46 with
  | norm =>
    refine T.oneN (by kernel_rfl) (f11n1_ok a1 h47) (st2 := (f11n1E a1 .norm).2) rfl ?_
    obtain rfl := some_inj h
    exact run_end cfg_ok (rs := [([], [], [(1, .val (.pl (.int .i64 (a1.length : Int))))])]) (ps := []) (tds := []) (m := []) (keep := [2]) (r := (.ret, (f11n0E a1 (.ret (decide (100 < (a1.length : Int))))).2)) (by kernel_rfl) (ap (len_cv (xs := a1) (c := Op_.cells)) an) rfl
  | ret =>
    obtain rfl := some_inj h
    exact T.oneX' (by kernel_rfl) (f11n1_ok a1 h47) (tds := []) (m := []) (keep := [2]) (st2 := (f11n0E a1 (.ret true)).2) (by kernel_rfl) an rfl rfl
noncomputable def f11 (a1 : List Op_) : Option Bool := (f11n0 a1).bind fun o => match o with
  | .ret v48 => some v48
theorem f11_ok (a1 : List Op_) {r : Bool} (h : (f11 a1) = some r) : CallS Try.prog false 11 [(.pl (.sl .any 8 (a1.map Op_.cells)))] [] (.pl (.bool r)) [] := by
  unfold f11 at h
  obtain ⟨o, ho, h⟩ := bind_cases h
  cases o with
  | ret v48 =>
    obtain rfl := some_inj h
    exact CallS.plain cfg_ok (f := Try.f11) (c := c11) (by kernel_rfl) (by kernel_rfl) (by kernel_rfl) (by kernel_rfl) ((f11n0_ok a1 ho).mono fun r e => by subst e; exact ⟨.inl rfl, (.pl (.bool v48)), (.pl (.bool v48)), by kernel_rfl, by kernel_rfl, ((Wk.refl _) : Wk (.pl (.bool v48)) (.pl (.bool v48)))⟩)







end Go.Proofs.Ytelblamgfbkhbaa
namespace Go.Proofs.Ytelblamgfbkhbaa
set_option linter.unusedVariables false
set_option linter.unusedSimpArgs false
set_option maxRecDepth 100000
open Go.RowKit





end Go.Proofs.Ytelblamgfbkhbaa
namespace Go.Proofs.Ytelblamgfbkhbaa
set_option linter.unusedVariables false
set_option linter.unusedSimpArgs false
set_option maxRecDepth 100000
open Go.RowKit
noncomputable def c3 : Code := Try.f3.body.getD .skip




end Go.Proofs.Ytelblamgfbkhbaa
namespace Go.Proofs.Ytelblamgfbkhbaa
set_option linter.unusedVariables false
set_option linter.unusedSimpArgs false
set_option maxRecDepth 100000
open Go.RowKit



noncomputable def c6 : Code := Try.f6.body.getD .skip

noncomputable def c24 : Code := Try.f24.body.getD .skip
inductive f24n2O where
  | exit0 (v62 : Int)
  | ret
def f24n2E (bb1 : ByteArray) (bh2 : List VariationPrice) (ba3 : Variation) : f24n2O → Ex × Tr × Hp
  | .exit0 v62 => ((.exit 0), mkS [(9, (.pl (.int .i64 v62)))], [])
  | .ret => (.ret, mkS [(6, (.pl (.int .i64 0))), (7, (.pl (.int .i64 30)))], [])
def f24n2S (bb1 : ByteArray) (bh2 : List VariationPrice) (ba3 : Variation) (v46 : Int) (v47 : Int) : Tr × Hp := (mkS [(1, (.pl (.str bb1))), (2, (.pl (.sl .any 2 (bh2.map VariationPrice.cells)))), (9, (.pl (.int .i64 v46))), (23, (.pl (.sl .any 4 (ba3.Positions.map VariationPosition.cells)))), (24, (.pl (.int .i64 (ba3.Positions.length : Int)))), (25, (.pl (.int .i64 v47)))], [])
noncomputable def f24n2 : Nat → ByteArray → List VariationPrice → Variation → Int → Int → Option f24n2O
  | 0, _, _, _, _, _ => none
  | f + 1, bb1, bh2, ba3, v46, v47 =>
    bif (decide (v47 < (ba3.Positions.length : Int))) then
      (at? ba3.Positions v47).bind fun x56 =>
      bif (seq x56.Member bb1) then
        (f36 x56 bh2).bind fun x59 =>
        bif x59.2 then
          (f24n2 f bb1 bh2 ba3 (wr64 (v46 + x59.1)) (wr64 (v47 + 1)))
        else
          some .ret
      else
        (f24n2 f bb1 bh2 ba3 v46 (wr64 (v47 + 1)))
    else
      some (.exit0 v46)
theorem f24n2_ok : ∀ (f : Nat) (bb1 : ByteArray) (bh2 : List VariationPrice) (ba3 : Variation) (v46 : Int) (v47 : Int) {o : f24n2O}, (f24n2 f bb1 bh2 ba3 v46 v47) = some o → TL Try.prog Try.f24.ntmps 0 f (cL (cL (dropC 1 (cL (dropC 4 c24))))) (f24n2S bb1 bh2 ba3 v46 v47) (fun r => r = f24n2E bb1 bh2 ba3 o)
  | 0, _, _, _, _, _, o, h => by rw [f24n2] at h; cases h
  | f + 1, bb1, bh2, ba3, v46, v47, o, h => by
    rw [f24n2] at h
    refine TL.body (K := fun s => ∃ v46 : Int, ∃ v47 : Int, s = (f24n2S bb1 bh2 ba3 v46 v47) ∧ (f24n2 f bb1 bh2 ba3 v46 v47) = some o) ?_ (by rintro _ ⟨v46, v47, rfl, hk⟩; exact f24n2_ok f _ _ _ _ _ hk)
    rcases cond_cases h with ⟨h49, h⟩ | ⟨h49, h⟩
    · obtain ⟨x56, h57, h⟩ := bind_cases h
      rcases cond_cases h with ⟨h58, h⟩ | ⟨h58, h⟩
      · obtain ⟨x59, h60, h⟩ := bind_cases h
        rcases cond_cases h with ⟨h61, h⟩ | ⟨h61, h⟩
        · exact run_end cfg_ok (rs := [([], [], []), ([], [(0, .idx (Int.toNat v47) (VariationPosition.cells x56))], []), ([], [], []), ([], [(2, .call (.tup [(.pl (.int .i64 x59.1)), (.pl (.bool x59.2))]) [])], []), ([], [], []), ([], [], []), ([], [], [])]) (ps := [some true, some false, some false]) (tds := []) (m := []) (keep := [1, 2, 9, 23, 24, 25]) (r := (.norm, (f24n2S bb1 bh2 ba3 (wr64 (v46 + x59.1)) (wr64 (v47 + 1))))) (by kernel_rfl) (ap h49 (ap (at_some h57).1 (ap (at_map VariationPosition.cells (at_some h57).2) (ap (not_t h58) (ap (f36_ok x56 bh2 h60) (ap (not_t h61) an)))))) (LoopQ.norm ⟨(wr64 (v46 + x59.1)), (wr64 (v47 + 1)), rfl, h⟩)
        · obtain rfl := some_inj h
          exact runK_end cfg_ok (k := 3) (rs := [([], [], []), ([], [(0, .idx (Int.toNat v47) (VariationPosition.cells x56))], []), ([], [], []), ([], [(2, .call (.tup [(.pl (.int .i64 x59.1)), (.pl (.bool x59.2))]) [])], []), ([], [], []), ([], [], [])]) (ps := [some true, some false, some true]) (tds := []) (m := []) (keep := [6, 7]) (ex := .ret) (st' := (f24n2E bb1 bh2 ba3 .ret).2) (by kernel_rfl) (ap h49 (ap (at_some h57).1 (ap (at_map VariationPosition.cells (at_some h57).2) (ap (not_t h58) (ap (f36_ok x56 bh2 h60) (ap (not_f h61) an)))))) (fun h => nomatch h) (LoopQ.out rfl rfl)
      · exact run_end cfg_ok (rs := [([], [], []), ([], [(0, .idx (Int.toNat v47) (VariationPosition.cells x56))], []), ([], [], []), ([], [], [])]) (ps := [some true, some true]) (tds := []) (m := []) (keep := [1, 2, 9, 23, 24, 25]) (r := (.norm, (f24n2S bb1 bh2 ba3 v46 (wr64 (v47 + 1))))) (by kernel_rfl) (ap h49 (ap (at_some h57).1 (ap (at_map VariationPosition.cells (at_some h57).2) (ap (not_f h58) an)))) (LoopQ.norm ⟨v46, (wr64 (v47 + 1)), rfl, h⟩)
    · obtain rfl := some_inj h
      exact runK_end cfg_ok (k := 2) (rs := [([], [], [])]) (ps := [some false]) (tds := []) (m := []) (keep := [9]) (ex := (.exit 0)) (st' := (f24n2E bb1 bh2 ba3 (.exit0 v46)).2) (by kernel_rfl) (ap h49 an) (fun h => nomatch h) (LoopQ.out rfl rfl)
noncomputable def f24n2L (bb1 : ByteArray) (bh2 : List VariationPrice) (ba3 : Variation) : List VariationPosition → Int → Int → Option f24n2O
  | [], v46, v47 =>
    some (.exit0 v46)
  | x0 :: rest, v46, v47 =>
    bif (seq x0.Member bb1) then
      (f36 x0 bh2).bind fun x59 =>
      bif x59.2 then
        (f24n2L bb1 bh2 ba3 rest (wr64 (v46 + x59.1)) (v47 + 1))
      else
        some .ret
    else
      (f24n2L bb1 bh2 ba3 rest v46 (v47 + 1))
theorem f24n2L_eq (bb1 : ByteArray) (bh2 : List VariationPrice) (ba3 : Variation) : ∀ (rest : List VariationPosition) (f k : Nat) (v46 : Int), ba3.Positions.drop k = rest → ba3.Positions.length ≤ maxLen → rest.length < f → f24n2 f bb1 bh2 ba3 v46 (k : Int) = f24n2L bb1 bh2 ba3 rest v46 (k : Int)
  | _, 0, _, _, _, _, hf => absurd hf (Nat.not_lt_zero _)
  | [], f + 1, k, v46, hd, hm, hf => by
    have hk : ¬ ((k : Int) < (ba3.Positions.length : Int)) := by have := drop_nil hd; omega
    rw [f24n2, f24n2L]
    simp only [decide_eq_false hk, cond_false]
  | x0 :: rest, f + 1, k, v46, hd, hm, hf => by
    obtain ⟨hx, hlt, hd'⟩ := drop_cons hd
    have hk : (k : Int) < (ba3.Positions.length : Int) := by omega
    have hw : wr64 ((k : Int) + 1) = (k : Int) + 1 := wr64_of (by omega) (by unfold maxLen at hm; omega)
    have ih : ∀ (v46 : Int), f24n2 f bb1 bh2 ba3 v46 ((k : Int) + 1) = f24n2L bb1 bh2 ba3 rest v46 ((k : Int) + 1) := fun v46 => f24n2L_eq bb1 bh2 ba3 rest f (k + 1) v46 hd' hm (by simpa using hf)
    rw [f24n2, f24n2L]
    simp only [decide_eq_true hk, cond_true, at_nat, hx, Option.bind_some, hw, ih]
theorem f24n2_run (bb1 : ByteArray) (bh2 : List VariationPrice) (ba3 : Variation) (v46 : Int) (hm : ba3.Positions.length ≤ maxLen) : f24n2 FUEL bb1 bh2 ba3 v46 0 = f24n2L bb1 bh2 ba3 ba3.Positions v46 0 := f24n2L_eq bb1 bh2 ba3 ba3.Positions FUEL 0 v46 List.drop_zero hm (lt_FUEL hm)
inductive f24n1O where
  | norm (v66 : Int)
  | ret
def f24n1E (bb1 : ByteArray) (bh2 : List VariationPrice) (ba3 : Variation) : f24n1O → Ex × Tr × Hp
  | .norm v66 => (.norm, mkS [(9, (.pl (.int .i64 v66)))], [])
  | .ret => (.ret, mkS [(6, (.pl (.int .i64 0))), (7, (.pl (.int .i64 30)))], [])
def f24n1S (bb1 : ByteArray) (bh2 : List VariationPrice) (ba3 : Variation) : Tr × Hp := (mkS [(1, (.pl (.str bb1))), (2, (.pl (.sl .any 2 (bh2.map VariationPrice.cells)))), (3, (.bp 0 0)), (9, (.pl (.int .i64 0)))], [some (.box ((Variation.cells ba3).map .pl))])
noncomputable def f24n1 (bb1 : ByteArray) (bh2 : List VariationPrice) (ba3 : Variation) : Option f24n1O :=
  (f24n2 FUEL bb1 bh2 ba3 0 0).bind fun o63 => match o63 with
  | .exit0 v65 => some (.norm v65)
  | .ret => some .ret
theorem f24n1_ok (bb1 : ByteArray) (bh2 : List VariationPrice) (ba3 : Variation) {o : f24n1O} (h : (f24n1 bb1 bh2 ba3) = some o) : T Try.prog Try.f24.ntmps 0 (cL (dropC 4 c24)) (f24n1S bb1 bh2 ba3) (fun r => r = f24n1E bb1 bh2 ba3 o) := by
  unfold f24n1 at h
  refine runK_norm cfg_ok (k := 1) (rs := [([], [], [(2, .val (.pl (.int .i64 (ba3.Positions.length : Int))))])]) (ps := []) (tds := []) (m := []) (keep := [1, 2, 9, 23, 24, 25]) (st' := (f24n2S bb1 bh2 ba3 0 0)) (by kernel_rfl) (ap (len_cv (xs := ba3.Positions) (c := VariationPosition.cells)) an) ?_
  obtain ⟨o63, h64, h⟩ := bind_cases h
  cases o63 with
  | exit0 v65 =>
    obtain rfl := some_inj h
    exact T.last' (T.bl (i := 0) (by kernel_rfl) (by kernel_rfl) (f24n2_ok FUEL bb1 bh2 ba3 0 0 h64)) (tds := []) (m := []) (keep := [9]) (st2 := (f24n1E bb1 bh2 ba3 (.norm v65)).2) (by kernel_rfl) an rfl
  | ret =>
    obtain rfl := some_inj h
    exact T.last' (T.bl (i := 0) (by kernel_rfl) (by kernel_rfl) (f24n2_ok FUEL bb1 bh2 ba3 0 0 h64)) (tds := []) (m := []) (keep := [6, 7]) (st2 := (f24n1E bb1 bh2 ba3 .ret).2) (by kernel_rfl) an rfl
inductive f24n0O where
  | ret (v76 : Int) (v77 : Int)
def f24n0E (a1 : Variation) (a2 : ByteArray) (a3 : List VariationPrice) : f24n0O → Ex × Tr × Hp
  | .ret v76 v77 => (.ret, mkS [(6, (.pl (.int .i64 v76))), (7, (.pl (.int .i64 v77)))], [])
def f24n0S (a1 : Variation) (a2 : ByteArray) (a3 : List VariationPrice) : Tr × Hp := (initS [(.pl (.agg (Variation.cells a1))), (.pl (.str a2)), (.pl (.sl .any 2 (a3.map VariationPrice.cells)))] 0 .leaf, [])
noncomputable def f24n0 (a1 : Variation) (a2 : ByteArray) (a3 : List VariationPrice) : Option f24n0O :=
  (f26 a1).bind fun x7 =>
  bif (decide (x7 = 0)) then
    (f35 a3).bind fun x13 =>
    bif x13 then
      (f24n1 a2 a3 a1).bind fun o67 => match o67 with
      | .norm v69 => (f37 v69 1125899906842624).bind fun x73 =>
        bif x73 then
          some (.ret v69 0)
        else
          some (.ret 0 14)
      | .ret => some (.ret 0 30)
    else
      some (.ret 0 2)
  else
    some (.ret 0 x7)
theorem f24n0_ok (a1 : Variation) (a2 : ByteArray) (a3 : List VariationPrice) {o : f24n0O} (h : (f24n0 a1 a2 a3) = some o) : T Try.prog Try.f24.ntmps 0 c24 (f24n0S a1 a2 a3) (fun r => r = f24n0E a1 a2 a3 o) := by
  unfold f24n0 at h
  obtain ⟨x7, h8, h⟩ := bind_cases h
  rcases cond_cases h with ⟨h9, h⟩ | ⟨h9, h⟩
  · obtain ⟨x13, h14, h⟩ := bind_cases h
    rcases cond_cases h with ⟨h15, h⟩ | ⟨h15, h⟩
    · refine runK_norm cfg_ok (k := 4) (rs := [([], [], []), ([], [(1, .call (.pl (.int .i64 x7)) [])], []), ([], [], []), ([], [(1, .call (.pl (.bool x13)) [])], []), ([], [], [])]) (ps := [some false, some false]) (tds := []) (m := [0]) (keep := [1, 2, 3, 9]) (st' := (f24n1S a2 a3 a1)) (by kernel_rfl) (ap (f26_ok a1 h8) (ap (not_t h9) (ap (f35_ok a3 h14) (ap (not_t h15) an)))) ?_
      obtain ⟨o67, h68, h⟩ := bind_cases h
      cases o67 with
      | norm v69 =>
        refine T.oneN (by kernel_rfl) (f24n1_ok a2 a3 a1 h68) (st2 := (f24n1E a2 a3 a1 (.norm v69)).2) rfl ?_
        obtain ⟨x73, h74, h⟩ := bind_cases h
        rcases cond_cases h with ⟨h75, h⟩ | ⟨h75, h⟩
        · obtain rfl := some_inj h
          exact run_end cfg_ok (rs := [([], [(1, .call (.pl (.bool x73)) [])], []), ([], [], [])]) (ps := [some false]) (tds := []) (m := []) (keep := [6, 7]) (r := (.ret, (f24n0E a1 a2 a3 (.ret v69 0)).2)) (by kernel_rfl) (ap (f37_ok v69 1125899906842624 h74) (ap (not_t h75) an)) rfl
        · obtain rfl := some_inj h
          exact runK_end cfg_ok (k := 1) (rs := [([], [(1, .call (.pl (.bool x73)) [])], []), ([], [], [])]) (ps := [some true]) (tds := []) (m := []) (keep := [6, 7]) (ex := .ret) (st' := (f24n0E a1 a2 a3 (.ret 0 14)).2) (by kernel_rfl) (ap (f37_ok v69 1125899906842624 h74) (ap (not_f h75) an)) (fun h => nomatch h) rfl
      | ret =>
        obtain rfl := some_inj h
        exact T.oneX' (by kernel_rfl) (f24n1_ok a2 a3 a1 h68) (tds := []) (m := []) (keep := [6, 7]) (st2 := (f24n0E a1 a2 a3 (.ret 0 30)).2) (by kernel_rfl) an rfl rfl
    · obtain rfl := some_inj h
      exact runK_end cfg_ok (k := 3) (rs := [([], [], []), ([], [(1, .call (.pl (.int .i64 x7)) [])], []), ([], [], []), ([], [(1, .call (.pl (.bool x13)) [])], []), ([], [], [])]) (ps := [some false, some true]) (tds := []) (m := []) (keep := [6, 7]) (ex := .ret) (st' := (f24n0E a1 a2 a3 (.ret 0 2)).2) (by kernel_rfl) (ap (f26_ok a1 h8) (ap (not_t h9) (ap (f35_ok a3 h14) (ap (not_f h15) an)))) (fun h => nomatch h) rfl
  · obtain rfl := some_inj h
    exact runK_end cfg_ok (k := 2) (rs := [([], [], []), ([], [(1, .call (.pl (.int .i64 x7)) [])], []), ([], [], []), ([], [], [])]) (ps := [some true]) (tds := []) (m := []) (keep := [6, 7]) (ex := .ret) (st' := (f24n0E a1 a2 a3 (.ret 0 x7)).2) (by kernel_rfl) (ap (f26_ok a1 h8) (ap (not_f h9) an)) (fun h => nomatch h) rfl
noncomputable def f24 (a1 : Variation) (a2 : ByteArray) (a3 : List VariationPrice) : Option (Int × Int) := (f24n0 a1 a2 a3).bind fun o => match o with
  | .ret v76 v77 => some (v76, v77)
theorem f24_ok (a1 : Variation) (a2 : ByteArray) (a3 : List VariationPrice) {r : Int × Int} (h : (f24 a1 a2 a3) = some r) : CallS Try.prog false 24 [(.pl (.agg (Variation.cells a1))), (.pl (.str a2)), (.pl (.sl .any 2 (a3.map VariationPrice.cells)))] [] (.tup [(.pl (.int .i64 r.1)), (.pl (.int .i64 r.2))]) [] := by
  unfold f24 at h
  obtain ⟨o, ho, h⟩ := bind_cases h
  cases o with
  | ret v76 v77 =>
    obtain rfl := some_inj h
    exact CallS.plain cfg_ok (f := Try.f24) (c := c24) (by kernel_rfl) (by kernel_rfl) (by kernel_rfl) (by kernel_rfl) ((f24n0_ok a1 a2 a3 ho).mono fun r e => by subst e; exact ⟨.inl rfl, (.tup [(.pl (.int .i64 v76)), (.pl (.int .i64 v77))]), (.tup [(.pl (.int .i64 v76)), (.pl (.int .i64 v77))]), by kernel_rfl, by kernel_rfl, ((Wk.refl _) : Wk (.tup [(.pl (.int .i64 v76)), (.pl (.int .i64 v77))]) (.tup [(.pl (.int .i64 v76)), (.pl (.int .i64 v77))]))⟩)

noncomputable def c7 : Code := Try.f7.body.getD .skip

noncomputable def c27 : Code := Try.f27.body.getD .skip
inductive f27n2O where
  | exit0 (v46 : Int)
  | ret (v47 : Int)
def f27n2E (bj1 : List VariationPayment) : f27n2O → Ex × Tr × Hp
  | .exit0 v46 => ((.exit 0), mkS [(4, (.pl (.int .i64 v46)))], [])
  | .ret v47 => (.ret, mkS [(2, (.pl (.int .i64 v47))), (3, (.pl (.bool false)))], [])
def f27n2S (bj1 : List VariationPayment) (v28 : Int) (v29 : Int) : Tr × Hp := (mkS [(0, (.pl (.sl .any 2 (bj1.map VariationPayment.cells)))), (4, (.pl (.int .i64 v28))), (5, (.pl (.int .i64 v29)))], [])
noncomputable def f27n2 : Nat → List VariationPayment → Int → Int → Option f27n2O
  | 0, _, _, _ => none
  | f + 1, bj1, v28, v29 =>
    bif (decide (v29 < (bj1.length : Int))) then
      (at? bj1 v29).bind fun x39 =>
      bif (decide (x39.Amount = 0)) then
        some (.ret v28)
      else
        bif (decide (0 < v29)) then
          (at? bj1 (wr64 (v29 - 1))).bind fun x43 =>
          bif (slt x43.Member x39.Member) then
            (f27n2 f bj1 (wr64 (v28 + x39.Amount)) (wr64 (v29 + 1)))
          else
            some (.ret v28)
        else
          (f27n2 f bj1 (wr64 (v28 + x39.Amount)) (wr64 (v29 + 1)))
    else
      some (.exit0 v28)
theorem f27n2_ok : ∀ (f : Nat) (bj1 : List VariationPayment) (v28 : Int) (v29 : Int) {o : f27n2O}, (f27n2 f bj1 v28 v29) = some o → TL Try.prog Try.f27.ntmps 0 f (cL (cL (dropC 1 (cL (dropC 2 c27))))) (f27n2S bj1 v28 v29) (fun r => r = f27n2E bj1 o)
  | 0, _, _, _, o, h => by rw [f27n2] at h; cases h
  | f + 1, bj1, v28, v29, o, h => by
    rw [f27n2] at h
    refine TL.body (K := fun s => ∃ v28 : Int, ∃ v29 : Int, s = (f27n2S bj1 v28 v29) ∧ (f27n2 f bj1 v28 v29) = some o) ?_ (by rintro _ ⟨v28, v29, rfl, hk⟩; exact f27n2_ok f _ _ _ hk)
    rcases cond_cases h with ⟨h31, h⟩ | ⟨h31, h⟩
    · obtain ⟨x39, h40, h⟩ := bind_cases h
      rcases cond_cases h with ⟨h41, h⟩ | ⟨h41, h⟩
      · obtain rfl := some_inj h
        exact runK_end cfg_ok (k := 2) (rs := [([], [], [(2, .val (.pl (.int .i64 (bj1.length : Int))))]), ([(7, true), (8, true), (9, true), (22, true)], [(2, .idx (Int.toNat v29) (VariationPayment.cells x39)), (23, .bool true)], []), ([], [], [])]) (ps := [some true, none]) (tds := []) (m := []) (keep := [2, 3]) (ex := .ret) (st' := (f27n2E bj1 (.ret v28)).2) (by kernel_rfl) (ap (len_cv (xs := bj1) (c := VariationPayment.cells)) (ap h31 (ap (at_some h40).1 (ap (at_map VariationPayment.cells (at_some h40).2) (ap h41 (ap h41 (ap h41 (ap h41 (ap h41 an))))))))) (fun h => nomatch h) (LoopQ.out rfl rfl)
      · rcases cond_cases h with ⟨h42, h⟩ | ⟨h42, h⟩
        · obtain ⟨x43, h44, h⟩ := bind_cases h
          rcases cond_cases h with ⟨h45, h⟩ | ⟨h45, h⟩
          · exact run_end cfg_ok (rs := [([], [], [(2, .val (.pl (.int .i64 (bj1.length : Int))))]), ([(7, false), (8, false), (9, false), (10, true), (11, true), (12, true), (13, true), (14, true), (15, true), (16, true), (17, true), (18, true), (19, true), (20, true), (21, true), (22, false)], [(2, .idx (Int.toNat v29) (VariationPayment.cells x39)), (13, .idx (Int.toNat (wr64 (v29 - 1))) (VariationPayment.cells x43)), (18, .idx (Int.toNat v29) (VariationPayment.cells x39)), (22, .bool true), (23, .bool false)], []), ([], [(3, .idx (Int.toNat v29) (VariationPayment.cells x39))], []), ([], [], [])]) (ps := [some true, some false]) (tds := []) (m := []) (keep := [0, 4, 5]) (r := (.norm, (f27n2S bj1 (wr64 (v28 + x39.Amount)) (wr64 (v29 + 1))))) (by kernel_rfl) (ap (len_cv (xs := bj1) (c := VariationPayment.cells)) (ap h31 (ap (at_some h40).1 (ap (at_map VariationPayment.cells (at_some h40).2) (ap h41 (ap h41 (ap h41 (ap h42 (ap h42 (ap h42 (ap h42 (ap (at_some h44).1 (ap (at_map VariationPayment.cells (at_some h44).2) (ap h42 (ap h42 (ap h42 (ap h42 (ap h42 (ap (at_some h40).1 (ap (at_map VariationPayment.cells (at_some h40).2) (ap h42 (ap h42 (ap h42 (ap h41 (ap h42 (ap h41 (ap (not_t h45) (ap (at_some h40).1 (ap (at_map VariationPayment.cells (at_some h40).2) an))))))))))))))))))))))))))))) (LoopQ.norm ⟨(wr64 (v28 + x39.Amount)), (wr64 (v29 + 1)), rfl, h⟩)
          · obtain rfl := some_inj h
            exact runK_end cfg_ok (k := 2) (rs := [([], [], [(2, .val (.pl (.int .i64 (bj1.length : Int))))]), ([(7, false), (8, false), (9, false), (10, true), (11, true), (12, true), (13, true), (14, true), (15, true), (16, true), (17, true), (18, true), (19, true), (20, true), (21, true), (22, false)], [(2, .idx (Int.toNat v29) (VariationPayment.cells x39)), (13, .idx (Int.toNat (wr64 (v29 - 1))) (VariationPayment.cells x43)), (18, .idx (Int.toNat v29) (VariationPayment.cells x39)), (22, .bool true), (23, .bool false)], []), ([], [], [])]) (ps := [some true, some true]) (tds := []) (m := []) (keep := [2, 3]) (ex := .ret) (st' := (f27n2E bj1 (.ret v28)).2) (by kernel_rfl) (ap (len_cv (xs := bj1) (c := VariationPayment.cells)) (ap h31 (ap (at_some h40).1 (ap (at_map VariationPayment.cells (at_some h40).2) (ap h41 (ap h41 (ap h41 (ap h42 (ap h42 (ap h42 (ap h42 (ap (at_some h44).1 (ap (at_map VariationPayment.cells (at_some h44).2) (ap h42 (ap h42 (ap h42 (ap h42 (ap h42 (ap (at_some h40).1 (ap (at_map VariationPayment.cells (at_some h40).2) (ap h42 (ap h42 (ap h42 (ap h41 (ap h42 (ap h41 (ap (not_f h45) an))))))))))))))))))))))))))) (fun h => nomatch h) (LoopQ.out rfl rfl)
        · exact run_end cfg_ok (rs := [([], [], [(2, .val (.pl (.int .i64 (bj1.length : Int))))]), ([(7, false), (8, false), (9, false), (10, false), (11, false), (12, false), (13, false), (14, false), (15, false), (16, false), (17, false), (18, false), (19, false), (20, false), (21, false), (22, false)], [(2, .idx (Int.toNat v29) (VariationPayment.cells x39)), (22, .bool false), (23, .bool false)], []), ([], [(3, .idx (Int.toNat v29) (VariationPayment.cells x39))], []), ([], [], [])]) (ps := [some true, none]) (tds := []) (m := []) (keep := [0, 4, 5]) (r := (.norm, (f27n2S bj1 (wr64 (v28 + x39.Amount)) (wr64 (v29 + 1))))) (by kernel_rfl) (ap (len_cv (xs := bj1) (c := VariationPayment.cells)) (ap h31 (ap (at_some h40).1 (ap (at_map VariationPayment.cells (at_some h40).2) (ap h41 (ap h41 (ap h41 (ap h42 (ap h42 (ap h42 (ap h42 (ap h42 (ap h42 (ap h42 (ap h42 (ap h42 (ap h42 (ap h42 (ap h42 (ap h41 (ap h42 (ap h41 (ap (at_some h40).1 (ap (at_map VariationPayment.cells (at_some h40).2) an)))))))))))))))))))))))) (LoopQ.norm ⟨(wr64 (v28 + x39.Amount)), (wr64 (v29 + 1)), rfl, h⟩)
    · obtain rfl := some_inj h
      exact runK_end cfg_ok (k := 1) (rs := [([], [], [(2, .val (.pl (.int .i64 (bj1.length : Int))))])]) (ps := [some false]) (tds := []) (m := []) (keep := [4]) (ex := (.exit 0)) (st' := (f27n2E bj1 (.exit0 v28)).2) (by kernel_rfl) (ap (len_cv (xs := bj1) (c := VariationPayment.cells)) (ap h31 an)) (fun h => nomatch h) (LoopQ.out rfl rfl)
noncomputable def f27n2L (bj1 : List VariationPayment) : List VariationPayment → Int → Int → Option f27n2O
  | [], v28, v29 =>
    some (.exit0 v28)
  | x0 :: rest, v28, v29 =>
    bif (decide (x0.Amount = 0)) then
      some (.ret v28)
    else
      bif (decide (0 < v29)) then
        (at? bj1 (wr64 (v29 - 1))).bind fun x43 =>
        bif (slt x43.Member x0.Member) then
          (f27n2L bj1 rest (wr64 (v28 + x0.Amount)) (v29 + 1))
        else
          some (.ret v28)
      else
        (f27n2L bj1 rest (wr64 (v28 + x0.Amount)) (v29 + 1))
theorem f27n2L_eq (bj1 : List VariationPayment) : ∀ (rest : List VariationPayment) (f k : Nat) (v28 : Int), bj1.drop k = rest → bj1.length ≤ maxLen → rest.length < f → f27n2 f bj1 v28 (k : Int) = f27n2L bj1 rest v28 (k : Int)
  | _, 0, _, _, _, _, hf => absurd hf (Nat.not_lt_zero _)
  | [], f + 1, k, v28, hd, hm, hf => by
    have hk : ¬ ((k : Int) < (bj1.length : Int)) := by have := drop_nil hd; omega
    rw [f27n2, f27n2L]
    simp only [decide_eq_false hk, cond_false]
  | x0 :: rest, f + 1, k, v28, hd, hm, hf => by
    obtain ⟨hx, hlt, hd'⟩ := drop_cons hd
    have hk : (k : Int) < (bj1.length : Int) := by omega
    have hw : wr64 ((k : Int) + 1) = (k : Int) + 1 := wr64_of (by omega) (by unfold maxLen at hm; omega)
    have ih : ∀ (v28 : Int), f27n2 f bj1 v28 ((k : Int) + 1) = f27n2L bj1 rest v28 ((k : Int) + 1) := fun v28 => f27n2L_eq bj1 rest f (k + 1) v28 hd' hm (by simpa using hf)
    rw [f27n2, f27n2L]
    simp only [decide_eq_true hk, cond_true, at_nat, hx, Option.bind_some, hw, ih]
theorem f27n2_run (bj1 : List VariationPayment) (v28 : Int) (hm : bj1.length ≤ maxLen) : f27n2 FUEL bj1 v28 0 = f27n2L bj1 bj1 v28 0 := f27n2L_eq bj1 bj1 FUEL 0 v28 List.drop_zero hm (lt_FUEL hm)
inductive f27n1O where
  | norm (v52 : Int)
  | ret (v53 : Int)
def f27n1E (bj1 : List VariationPayment) : f27n1O → Ex × Tr × Hp
  | .norm v52 => (.norm, mkS [(4, (.pl (.int .i64 v52)))], [])
  | .ret v53 => (.ret, mkS [(2, (.pl (.int .i64 v53))), (3, (.pl (.bool false)))], [])
def f27n1S (bj1 : List VariationPayment) : Tr × Hp := (mkS [(0, (.pl (.sl .any 2 (bj1.map VariationPayment.cells)))), (4, (.pl (.int .i64 0)))], [])
noncomputable def f27n1 (bj1 : List VariationPayment) : Option f27n1O :=
  (f27n2 FUEL bj1 0 0).bind fun o48 => match o48 with
  | .exit0 v50 => some (.norm v50)
  | .ret v51 => some (.ret v51)
theorem f27n1_ok (bj1 : List VariationPayment) {o : f27n1O} (h : (f27n1 bj1) = some o) : T Try.prog Try.f27.ntmps 0 (cL (dropC 2 c27)) (f27n1S bj1) (fun r => r = f27n1E bj1 o) := by
  unfold f27n1 at h
  refine runK_norm cfg_ok (k := 1) (rs := [([], [], [])]) (ps := []) (tds := []) (m := []) (keep := [0, 4, 5]) (st' := (f27n2S bj1 0 0)) (by kernel_rfl) an ?_
  obtain ⟨o48, h49, h⟩ := bind_cases h
  cases o48 with
  | exit0 v50 =>
    obtain rfl := some_inj h
    exact T.last' (T.bl (i := 0) (by kernel_rfl) (by kernel_rfl) (f27n2_ok FUEL bj1 0 0 h49)) (tds := []) (m := []) (keep := [4]) (st2 := (f27n1E bj1 (.norm v50)).2) (by kernel_rfl) an rfl
  | ret v51 =>
    obtain rfl := some_inj h
    exact T.last' (T.bl (i := 0) (by kernel_rfl) (by kernel_rfl) (f27n2_ok FUEL bj1 0 0 h49)) (tds := []) (m := []) (keep := [2, 3]) (st2 := (f27n1E bj1 (.ret v51)).2) (by kernel_rfl) an rfl
inductive f27n0O where
  | ret (v58 : Int) (v59 : Bool)
def f27n0E (a1 : List VariationPayment) : f27n0O → Ex × Tr × Hp
  | .ret v58 v59 => (.ret, mkS [(2, (.pl (.int .i64 v58))), (3, (.pl (.bool v59)))], [])
def f27n0S (a1 : List VariationPayment) : Tr × Hp := (initS [(.pl (.sl .any 2 (a1.map VariationPayment.cells)))] 0 .leaf, [])
noncomputable def f27n0 (a1 : List VariationPayment) : Option f27n0O :=
  (f27n1 a1).bind fun o54 => match o54 with
  | .norm v56 => some (.ret v56 true)
  | .ret v57 => some (.ret v57 false)
theorem f27n0_ok (a1 : List VariationPayment) {o : f27n0O} (h : (f27n0 a1) = some o) : T Try.prog Try.f27.ntmps 0 c27 (f27n0S a1) (fun r => r = f27n0E a1 o) := by
  unfold f27n0 at h
  refine runK_norm cfg_ok (k := 2) (rs := [([], [], []), ([], [], [])]) (ps := []) (tds := []) (m := []) (keep := [0, 4]) (st' := (f27n1S a1)) (by kernel_rfl) an ?_
  obtain ⟨o54, h55, h⟩ := bind_cases h
  cases o54 with
  | norm v56 =>
    refine T.oneN (by kernel_rfl) (f27n1_ok a1 h55) (st2 := (f27n1E a1 (.norm v56)).2) rfl ?_
    obtain rfl := some_inj h
    exact run_end cfg_ok (rs := [([], [], [])]) (ps := []) (tds := []) (m := []) (keep := [2, 3]) (r := (.ret, (f27n0E a1 (.ret v56 true)).2)) (by kernel_rfl) an rfl
  | ret v57 =>
    obtain rfl := some_inj h
    exact T.oneX' (by kernel_rfl) (f27n1_ok a1 h55) (tds := []) (m := []) (keep := [2, 3]) (st2 := (f27n0E a1 (.ret v57 false)).2) (by kernel_rfl) an rfl rfl
noncomputable def f27 (a1 : List VariationPayment) : Option (Int × Bool) := (f27n0 a1).bind fun o => match o with
  | .ret v58 v59 => some (v58, v59)
theorem f27_ok (a1 : List VariationPayment) {r : Int × Bool} (h : (f27 a1) = some r) : CallS Try.prog false 27 [(.pl (.sl .any 2 (a1.map VariationPayment.cells)))] [] (.tup [(.pl (.int .i64 r.1)), (.pl (.bool r.2))]) [] := by
  unfold f27 at h
  obtain ⟨o, ho, h⟩ := bind_cases h
  cases o with
  | ret v58 v59 =>
    obtain rfl := some_inj h
    exact CallS.plain cfg_ok (f := Try.f27) (c := c27) (by kernel_rfl) (by kernel_rfl) (by kernel_rfl) (by kernel_rfl) ((f27n0_ok a1 ho).mono fun r e => by subst e; exact ⟨.inl rfl, (.tup [(.pl (.int .i64 v58)), (.pl (.bool v59))]), (.tup [(.pl (.int .i64 v58)), (.pl (.bool v59))]), by kernel_rfl, by kernel_rfl, ((Wk.refl _) : Wk (.tup [(.pl (.int .i64 v58)), (.pl (.bool v59))]) (.tup [(.pl (.int .i64 v58)), (.pl (.bool v59))]))⟩)
end Go.Proofs.Ytelblamgfbkhbaa
namespace Go.Proofs.Ytelblamgfbkhbaa
set_option linter.unusedVariables false
set_option linter.unusedSimpArgs false
set_option maxRecDepth 100000
open Go.RowKit
noncomputable def c28 : Code := Try.f28.body.getD .skip
inductive f28n2O where
  | exit0 (v37 : Int)
def f28n2E (bb1 : ByteArray) (ba2 : Variation) : f28n2O → Ex × Tr × Hp
  | .exit0 v37 => ((.exit 0), mkS [(7, (.pl (.int .i64 v37)))], [])
def f28n2S (bb1 : ByteArray) (ba2 : Variation) (v27 : Int) (v28 : Int) : Tr × Hp := (mkS [(1, (.pl (.str bb1))), (7, (.pl (.int .i64 v27))), (16, (.pl (.sl .any 4 (ba2.Positions.map VariationPosition.cells)))), (17, (.pl (.int .i64 (ba2.Positions.length : Int)))), (18, (.pl (.int .i64 v28)))], [])
noncomputable def f28n2 : Nat → ByteArray → Variation → Int → Int → Option f28n2O
  | 0, _, _, _, _ => none
  | f + 1, bb1, ba2, v27, v28 =>
    bif (decide (v28 < (ba2.Positions.length : Int))) then
      (at? ba2.Positions v28).bind fun x34 =>
      bif (seq x34.Member bb1) then
        (f28n2 f bb1 ba2 (wr64 (v27 + x34.Basis)) (wr64 (v28 + 1)))
      else
        (f28n2 f bb1 ba2 v27 (wr64 (v28 + 1)))
    else
      some (.exit0 v27)
theorem f28n2_ok : ∀ (f : Nat) (bb1 : ByteArray) (ba2 : Variation) (v27 : Int) (v28 : Int) {o : f28n2O}, (f28n2 f bb1 ba2 v27 v28) = some o → TL Try.prog Try.f28.ntmps 0 f (cL (cL (dropC 1 (cL (dropC 3 c28))))) (f28n2S bb1 ba2 v27 v28) (fun r => r = f28n2E bb1 ba2 o)
  | 0, _, _, _, _, o, h => by rw [f28n2] at h; cases h
  | f + 1, bb1, ba2, v27, v28, o, h => by
    rw [f28n2] at h
    refine TL.body (K := fun s => ∃ v27 : Int, ∃ v28 : Int, s = (f28n2S bb1 ba2 v27 v28) ∧ (f28n2 f bb1 ba2 v27 v28) = some o) ?_ (by rintro _ ⟨v27, v28, rfl, hk⟩; exact f28n2_ok f _ _ _ _ hk)
    rcases cond_cases h with ⟨h30, h⟩ | ⟨h30, h⟩
    · obtain ⟨x34, h35, h⟩ := bind_cases h
      rcases cond_cases h with ⟨h36, h⟩ | ⟨h36, h⟩
      · exact run_end cfg_ok (rs := [([], [], []), ([], [(0, .idx (Int.toNat v28) (VariationPosition.cells x34))], []), ([], [], []), ([], [], []), ([], [], [])]) (ps := [some true, some true]) (tds := []) (m := []) (keep := [1, 7, 16, 17, 18]) (r := (.norm, (f28n2S bb1 ba2 (wr64 (v27 + x34.Basis)) (wr64 (v28 + 1))))) (by kernel_rfl) (ap h30 (ap (at_some h35).1 (ap (at_map VariationPosition.cells (at_some h35).2) (ap h36 an)))) (LoopQ.norm ⟨(wr64 (v27 + x34.Basis)), (wr64 (v28 + 1)), rfl, h⟩)
      · exact run_end cfg_ok (rs := [([], [], []), ([], [(0, .idx (Int.toNat v28) (VariationPosition.cells x34))], []), ([], [], []), ([], [], [])]) (ps := [some true, some false]) (tds := []) (m := []) (keep := [1, 7, 16, 17, 18]) (r := (.norm, (f28n2S bb1 ba2 v27 (wr64 (v28 + 1))))) (by kernel_rfl) (ap h30 (ap (at_some h35).1 (ap (at_map VariationPosition.cells (at_some h35).2) (ap h36 an)))) (LoopQ.norm ⟨v27, (wr64 (v28 + 1)), rfl, h⟩)
    · obtain rfl := some_inj h
      exact runK_end cfg_ok (k := 2) (rs := [([], [], [])]) (ps := [some false]) (tds := []) (m := []) (keep := [7]) (ex := (.exit 0)) (st' := (f28n2E bb1 ba2 (.exit0 v27)).2) (by kernel_rfl) (ap h30 an) (fun h => nomatch h) (LoopQ.out rfl rfl)
noncomputable def f28n2L (bb1 : ByteArray) (ba2 : Variation) : List VariationPosition → Int → Int → Option f28n2O
  | [], v27, v28 =>
    some (.exit0 v27)
  | x0 :: rest, v27, v28 =>
    bif (seq x0.Member bb1) then
      (f28n2L bb1 ba2 rest (wr64 (v27 + x0.Basis)) (v28 + 1))
    else
      (f28n2L bb1 ba2 rest v27 (v28 + 1))
theorem f28n2L_eq (bb1 : ByteArray) (ba2 : Variation) : ∀ (rest : List VariationPosition) (f k : Nat) (v27 : Int), ba2.Positions.drop k = rest → ba2.Positions.length ≤ maxLen → rest.length < f → f28n2 f bb1 ba2 v27 (k : Int) = f28n2L bb1 ba2 rest v27 (k : Int)
  | _, 0, _, _, _, _, hf => absurd hf (Nat.not_lt_zero _)
  | [], f + 1, k, v27, hd, hm, hf => by
    have hk : ¬ ((k : Int) < (ba2.Positions.length : Int)) := by have := drop_nil hd; omega
    rw [f28n2, f28n2L]
    simp only [decide_eq_false hk, cond_false]
  | x0 :: rest, f + 1, k, v27, hd, hm, hf => by
    obtain ⟨hx, hlt, hd'⟩ := drop_cons hd
    have hk : (k : Int) < (ba2.Positions.length : Int) := by omega
    have hw : wr64 ((k : Int) + 1) = (k : Int) + 1 := wr64_of (by omega) (by unfold maxLen at hm; omega)
    have ih : ∀ (v27 : Int), f28n2 f bb1 ba2 v27 ((k : Int) + 1) = f28n2L bb1 ba2 rest v27 ((k : Int) + 1) := fun v27 => f28n2L_eq bb1 ba2 rest f (k + 1) v27 hd' hm (by simpa using hf)
    rw [f28n2, f28n2L]
    simp only [decide_eq_true hk, cond_true, at_nat, hx, Option.bind_some, hw, ih]
theorem f28n2_run (bb1 : ByteArray) (ba2 : Variation) (v27 : Int) (hm : ba2.Positions.length ≤ maxLen) : f28n2 FUEL bb1 ba2 v27 0 = f28n2L bb1 ba2 ba2.Positions v27 0 := f28n2L_eq bb1 ba2 ba2.Positions FUEL 0 v27 List.drop_zero hm (lt_FUEL hm)
inductive f28n1O where
  | norm (v41 : Int)
def f28n1E (bb1 : ByteArray) (ba2 : Variation) : f28n1O → Ex × Tr × Hp
  | .norm v41 => (.norm, mkS [(7, (.pl (.int .i64 v41)))], [])
def f28n1S (bb1 : ByteArray) (ba2 : Variation) : Tr × Hp := (mkS [(1, (.pl (.str bb1))), (2, (.bp 0 0)), (7, (.pl (.int .i64 0)))], [some (.box ((Variation.cells ba2).map .pl))])
noncomputable def f28n1 (bb1 : ByteArray) (ba2 : Variation) : Option f28n1O :=
  (f28n2 FUEL bb1 ba2 0 0).bind fun o38 => match o38 with
  | .exit0 v40 => some (.norm v40)
theorem f28n1_ok (bb1 : ByteArray) (ba2 : Variation) {o : f28n1O} (h : (f28n1 bb1 ba2) = some o) : T Try.prog Try.f28.ntmps 0 (cL (dropC 3 c28)) (f28n1S bb1 ba2) (fun r => r = f28n1E bb1 ba2 o) := by
  unfold f28n1 at h
  refine runK_norm cfg_ok (k := 1) (rs := [([], [], [(2, .val (.pl (.int .i64 (ba2.Positions.length : Int))))])]) (ps := []) (tds := []) (m := []) (keep := [1, 7, 16, 17, 18]) (st' := (f28n2S bb1 ba2 0 0)) (by kernel_rfl) (ap (len_cv (xs := ba2.Positions) (c := VariationPosition.cells)) an) ?_
  obtain ⟨o38, h39, h⟩ := bind_cases h
  cases o38 with
  | exit0 v40 =>
    obtain rfl := some_inj h
    exact T.last' (T.bl (i := 0) (by kernel_rfl) (by kernel_rfl) (f28n2_ok FUEL bb1 ba2 0 0 h39)) (tds := []) (m := []) (keep := [7]) (st2 := (f28n1E bb1 ba2 (.norm v40)).2) (by kernel_rfl) an rfl
inductive f28n0O where
  | ret (v51 : Int) (v52 : Int)
def f28n0E (a1 : Variation) (a2 : ByteArray) : f28n0O → Ex × Tr × Hp
  | .ret v51 v52 => (.ret, mkS [(4, (.pl (.int .i64 v51))), (5, (.pl (.int .i64 v52)))], [])
def f28n0S (a1 : Variation) (a2 : ByteArray) : Tr × Hp := (initS [(.pl (.agg (Variation.cells a1))), (.pl (.str a2))] 0 .leaf, [])
noncomputable def f28n0 (a1 : Variation) (a2 : ByteArray) : Option f28n0O :=
  (f26 a1).bind fun x6 =>
  bif (decide (x6 = 0)) then
    (f28n1 a2 a1).bind fun o42 => match o42 with
    | .norm v44 => (f37 v44 1125899906842624).bind fun x48 =>
      bif x48 then
        some (.ret v44 0)
      else
        some (.ret 0 14)
  else
    some (.ret 0 x6)
theorem f28n0_ok (a1 : Variation) (a2 : ByteArray) {o : f28n0O} (h : (f28n0 a1 a2) = some o) : T Try.prog Try.f28.ntmps 0 c28 (f28n0S a1 a2) (fun r => r = f28n0E a1 a2 o) := by
  unfold f28n0 at h
  obtain ⟨x6, h7, h⟩ := bind_cases h
  rcases cond_cases h with ⟨h8, h⟩ | ⟨h8, h⟩
  · refine runK_norm cfg_ok (k := 3) (rs := [([], [], []), ([], [(1, .call (.pl (.int .i64 x6)) [])], []), ([], [], []), ([], [], [])]) (ps := [some false]) (tds := []) (m := [0]) (keep := [1, 2, 7]) (st' := (f28n1S a2 a1)) (by kernel_rfl) (ap (f26_ok a1 h7) (ap (not_t h8) an)) ?_
    obtain ⟨o42, h43, h⟩ := bind_cases h
    cases o42 with
    | norm v44 =>
      refine T.oneN (by kernel_rfl) (f28n1_ok a2 a1 h43) (st2 := (f28n1E a2 a1 (.norm v44)).2) rfl ?_
      obtain ⟨x48, h49, h⟩ := bind_cases h
      rcases cond_cases h with ⟨h50, h⟩ | ⟨h50, h⟩
      · obtain rfl := some_inj h
        exact run_end cfg_ok (rs := [([], [(1, .call (.pl (.bool x48)) [])], []), ([], [], [])]) (ps := [some false]) (tds := []) (m := []) (keep := [4, 5]) (r := (.ret, (f28n0E a1 a2 (.ret v44 0)).2)) (by kernel_rfl) (ap (f37_ok v44 1125899906842624 h49) (ap (not_t h50) an)) rfl
      · obtain rfl := some_inj h
        exact runK_end cfg_ok (k := 1) (rs := [([], [(1, .call (.pl (.bool x48)) [])], []), ([], [], [])]) (ps := [some true]) (tds := []) (m := []) (keep := [4, 5]) (ex := .ret) (st' := (f28n0E a1 a2 (.ret 0 14)).2) (by kernel_rfl) (ap (f37_ok v44 1125899906842624 h49) (ap (not_f h50) an)) (fun h => nomatch h) rfl
  · obtain rfl := some_inj h
    exact runK_end cfg_ok (k := 2) (rs := [([], [], []), ([], [(1, .call (.pl (.int .i64 x6)) [])], []), ([], [], []), ([], [], [])]) (ps := [some true]) (tds := []) (m := []) (keep := [4, 5]) (ex := .ret) (st' := (f28n0E a1 a2 (.ret 0 x6)).2) (by kernel_rfl) (ap (f26_ok a1 h7) (ap (not_f h8) an)) (fun h => nomatch h) rfl
noncomputable def f28 (a1 : Variation) (a2 : ByteArray) : Option (Int × Int) := (f28n0 a1 a2).bind fun o => match o with
  | .ret v51 v52 => some (v51, v52)
theorem f28_ok (a1 : Variation) (a2 : ByteArray) {r : Int × Int} (h : (f28 a1 a2) = some r) : CallS Try.prog false 28 [(.pl (.agg (Variation.cells a1))), (.pl (.str a2))] [] (.tup [(.pl (.int .i64 r.1)), (.pl (.int .i64 r.2))]) [] := by
  unfold f28 at h
  obtain ⟨o, ho, h⟩ := bind_cases h
  cases o with
  | ret v51 v52 =>
    obtain rfl := some_inj h
    exact CallS.plain cfg_ok (f := Try.f28) (c := c28) (by kernel_rfl) (by kernel_rfl) (by kernel_rfl) (by kernel_rfl) ((f28n0_ok a1 a2 ho).mono fun r e => by subst e; exact ⟨.inl rfl, (.tup [(.pl (.int .i64 v51)), (.pl (.int .i64 v52))]), (.tup [(.pl (.int .i64 v51)), (.pl (.int .i64 v52))]), by kernel_rfl, by kernel_rfl, ((Wk.refl _) : Wk (.tup [(.pl (.int .i64 v51)), (.pl (.int .i64 v52))]) (.tup [(.pl (.int .i64 v51)), (.pl (.int .i64 v52))]))⟩)

noncomputable def c8 : Code := Try.f8.body.getD .skip
inductive f8n6O where
  | exit2 (v320 : Int)
def f8n6E (bk1 : List Op_) (bb2 : ByteArray) (bl3 : Bool) (be5 : Int) (bq6 : Variation × (List VariationPayment) × Int) (br7 : Op_) : f8n6O → Ex × Tr × Hp
  | .exit2 v320 => ((.exit 2), mkS [(0, (.pl (.sl .any 8 (bk1.map Op_.cells)))), (1, (.pl (.str bb2))), (5, (.pl (.bool bl3))), (6, (.bp 0 0)), (8, (.pl (.int .i64 v320))), (9, (.pl (.int .i64 be5))), (10, (.bp 1 0))], [some (.box ((Variation.cells bq6.1).map .pl)), some (.box ((Op_.cells br7).map .pl))])
def f8n6S (bk1 : List Op_) (bb2 : ByteArray) (bl3 : Bool) (be5 : Int) (bq6 : Variation × (List VariationPayment) × Int) (br7 : Op_) (v310 : Int) (v311 : Int) : Tr × Hp := (mkS [(0, (.pl (.sl .any 8 (bk1.map Op_.cells)))), (1, (.pl (.str bb2))), (5, (.pl (.bool bl3))), (6, (.bp 0 0)), (8, (.pl (.int .i64 v310))), (9, (.pl (.int .i64 be5))), (10, (.bp 1 0)), (14, (.pl (.sl .any 2 (bq6.2.1.map VariationPayment.cells)))), (18, (.pl (.int .i64 v311)))], [some (.box ((Variation.cells bq6.1).map .pl)), some (.box ((Op_.cells br7).map .pl))])
noncomputable def f8n6 : Nat → List Op_ → ByteArray → Bool → Int → Variation × (List VariationPayment) × Int → Op_ → Int → Int → Option f8n6O
  | 0, _, _, _, _, _, _, _, _ => none
  | f + 1, bk1, bb2, bl3, be5, bq6, br7, v310, v311 =>
    bif (decide (v311 < (bq6.2.1.length : Int))) then
      (at? bq6.2.1 v311).bind fun x317 =>
      bif (seq x317.Member bb2) then
        (f8n6 f bk1 bb2 bl3 be5 bq6 br7 (wr64 (v310 + x317.Amount)) (wr64 (v311 + 1)))
      else
        (f8n6 f bk1 bb2 bl3 be5 bq6 br7 v310 (wr64 (v311 + 1)))
    else
      some (.exit2 v310)
theorem f8n6_ok : ∀ (f : Nat) (bk1 : List Op_) (bb2 : ByteArray) (bl3 : Bool) (be5 : Int) (bq6 : Variation × (List VariationPayment) × Int) (br7 : Op_) (v310 : Int) (v311 : Int) {o : f8n6O}, (f8n6 f bk1 bb2 bl3 be5 bq6 br7 v310 v311) = some o → TL Try.prog Try.f8.ntmps 0 f (cL (cL (dropC 1 (cL (dropC 5 (cR (dropC 1 (cL (dropC 1 (cL (cL (dropC 1 (cL (cL (dropC 1 (cL (dropC 6 c8))))))))))))))))) (f8n6S bk1 bb2 bl3 be5 bq6 br7 v310 v311) (fun r => r = f8n6E bk1 bb2 bl3 be5 bq6 br7 o)
  | 0, _, _, _, _, _, _, _, _, o, h => by rw [f8n6] at h; cases h
  | f + 1, bk1, bb2, bl3, be5, bq6, br7, v310, v311, o, h => by
    rw [f8n6] at h
    refine TL.body (K := fun s => ∃ v310 : Int, ∃ v311 : Int, s = (f8n6S bk1 bb2 bl3 be5 bq6 br7 v310 v311) ∧ (f8n6 f bk1 bb2 bl3 be5 bq6 br7 v310 v311) = some o) ?_ (by rintro _ ⟨v310, v311, rfl, hk⟩; exact f8n6_ok f _ _ _ _ _ _ _ _ hk)
    rcases cond_cases h with ⟨h313, h⟩ | ⟨h313, h⟩
    · obtain ⟨x317, h318, h⟩ := bind_cases h
      rcases cond_cases h with ⟨h319, h⟩ | ⟨h319, h⟩
      · exact run_end cfg_ok (rs := [([], [], [(2, .val (.pl (.int .i64 (bq6.2.1.length : Int))))]), ([], [(2, .idx (Int.toNat v311) (VariationPayment.cells x317))], []), ([], [(3, .idx (Int.toNat v311) (VariationPayment.cells x317))], []), ([], [], [])]) (ps := [some true, some true]) (tds := []) (m := [0, 1]) (keep := [0, 1, 5, 6, 8, 9, 10, 14, 18]) (r := (.norm, (f8n6S bk1 bb2 bl3 be5 bq6 br7 (wr64 (v310 + x317.Amount)) (wr64 (v311 + 1))))) (by kernel_rfl) (ap (len_cv (xs := bq6.2.1) (c := VariationPayment.cells)) (ap h313 (ap (at_some h318).1 (ap (at_map VariationPayment.cells (at_some h318).2) (ap h319 (ap (at_some h318).1 (ap (at_map VariationPayment.cells (at_some h318).2) an))))))) (LoopQ.norm ⟨(wr64 (v310 + x317.Amount)), (wr64 (v311 + 1)), rfl, h⟩)
      · exact run_end cfg_ok (rs := [([], [], [(2, .val (.pl (.int .i64 (bq6.2.1.length : Int))))]), ([], [(2, .idx (Int.toNat v311) (VariationPayment.cells x317))], []), ([], [], [])]) (ps := [some true, some false]) (tds := []) (m := [0, 1]) (keep := [0, 1, 5, 6, 8, 9, 10, 14, 18]) (r := (.norm, (f8n6S bk1 bb2 bl3 be5 bq6 br7 v310 (wr64 (v311 + 1))))) (by kernel_rfl) (ap (len_cv (xs := bq6.2.1) (c := VariationPayment.cells)) (ap h313 (ap (at_some h318).1 (ap (at_map VariationPayment.cells (at_some h318).2) (ap h319 an))))) (LoopQ.norm ⟨v310, (wr64 (v311 + 1)), rfl, h⟩)
    · obtain rfl := some_inj h
      exact runK_end cfg_ok (k := 1) (rs := [([], [], [(2, .val (.pl (.int .i64 (bq6.2.1.length : Int))))])]) (ps := [some false]) (tds := []) (m := [0, 1]) (keep := [0, 1, 5, 6, 8, 9, 10]) (ex := (.exit 2)) (st' := (f8n6E bk1 bb2 bl3 be5 bq6 br7 (.exit2 v310)).2) (by kernel_rfl) (ap (len_cv (xs := bq6.2.1) (c := VariationPayment.cells)) (ap h313 an)) (fun h => nomatch h) (LoopQ.out rfl rfl)
noncomputable def f8n6L (bk1 : List Op_) (bb2 : ByteArray) (bl3 : Bool) (be5 : Int) (bq6 : Variation × (List VariationPayment) × Int) (br7 : Op_) : List VariationPayment → Int → Int → Option f8n6O
  | [], v310, v311 =>
    some (.exit2 v310)
  | x0 :: rest, v310, v311 =>
    bif (seq x0.Member bb2) then
      (f8n6L bk1 bb2 bl3 be5 bq6 br7 rest (wr64 (v310 + x0.Amount)) (v311 + 1))
    else
      (f8n6L bk1 bb2 bl3 be5 bq6 br7 rest v310 (v311 + 1))
theorem f8n6L_eq (bk1 : List Op_) (bb2 : ByteArray) (bl3 : Bool) (be5 : Int) (bq6 : Variation × (List VariationPayment) × Int) (br7 : Op_) : ∀ (rest : List VariationPayment) (f k : Nat) (v310 : Int), bq6.2.1.drop k = rest → bq6.2.1.length ≤ maxLen → rest.length < f → f8n6 f bk1 bb2 bl3 be5 bq6 br7 v310 (k : Int) = f8n6L bk1 bb2 bl3 be5 bq6 br7 rest v310 (k : Int)
  | _, 0, _, _, _, _, hf => absurd hf (Nat.not_lt_zero _)
  | [], f + 1, k, v310, hd, hm, hf => by
    have hk : ¬ ((k : Int) < (bq6.2.1.length : Int)) := by have := drop_nil hd; omega
    rw [f8n6, f8n6L]
    simp only [decide_eq_false hk, cond_false]
  | x0 :: rest, f + 1, k, v310, hd, hm, hf => by
    obtain ⟨hx, hlt, hd'⟩ := drop_cons hd
    have hk : (k : Int) < (bq6.2.1.length : Int) := by omega
    have hw : wr64 ((k : Int) + 1) = (k : Int) + 1 := wr64_of (by omega) (by unfold maxLen at hm; omega)
    have ih : ∀ (v310 : Int), f8n6 f bk1 bb2 bl3 be5 bq6 br7 v310 ((k : Int) + 1) = f8n6L bk1 bb2 bl3 be5 bq6 br7 rest v310 ((k : Int) + 1) := fun v310 => f8n6L_eq bk1 bb2 bl3 be5 bq6 br7 rest f (k + 1) v310 hd' hm (by simpa using hf)
    rw [f8n6, f8n6L]
    simp only [decide_eq_true hk, cond_true, at_nat, hx, Option.bind_some, hw, ih]
theorem f8n6_run (bk1 : List Op_) (bb2 : ByteArray) (bl3 : Bool) (be5 : Int) (bq6 : Variation × (List VariationPayment) × Int) (br7 : Op_) (v310 : Int) (hm : bq6.2.1.length ≤ maxLen) : f8n6 FUEL bk1 bb2 bl3 be5 bq6 br7 v310 0 = f8n6L bk1 bb2 bl3 be5 bq6 br7 bq6.2.1 v310 0 := f8n6L_eq bk1 bb2 bl3 be5 bq6 br7 bq6.2.1 FUEL 0 v310 List.drop_zero hm (lt_FUEL hm)
inductive f8n5O where
  | norm (v324 : Int)
def f8n5E (bk1 : List Op_) (bb2 : ByteArray) (bl3 : Bool) (be4 : Int) (be5 : Int) (bq6 : Variation × (List VariationPayment) × Int) (br7 : Op_) : f8n5O → Ex × Tr × Hp
  | .norm v324 => (.norm, mkS [(0, (.pl (.sl .any 8 (bk1.map Op_.cells)))), (1, (.pl (.str bb2))), (5, (.pl (.bool bl3))), (6, (.bp 0 0)), (8, (.pl (.int .i64 v324))), (9, (.pl (.int .i64 be5))), (10, (.bp 1 0))], [some (.box ((Variation.cells bq6.1).map .pl)), some (.box ((Op_.cells br7).map .pl))])
def f8n5S (bk1 : List Op_) (bb2 : ByteArray) (bl3 : Bool) (be4 : Int) (be5 : Int) (bq6 : Variation × (List VariationPayment) × Int) (br7 : Op_) : Tr × Hp := (mkS [(0, (.pl (.sl .any 8 (bk1.map Op_.cells)))), (1, (.pl (.str bb2))), (5, (.pl (.bool bl3))), (6, (.bp 0 0)), (8, (.pl (.int .i64 be4))), (9, (.pl (.int .i64 be5))), (10, (.bp 1 0)), (14, (.pl (.sl .any 2 (bq6.2.1.map VariationPayment.cells))))], [some (.box ((Variation.cells bq6.1).map .pl)), some (.box ((Op_.cells br7).map .pl))])
noncomputable def f8n5 (bk1 : List Op_) (bb2 : ByteArray) (bl3 : Bool) (be4 : Int) (be5 : Int) (bq6 : Variation × (List VariationPayment) × Int) (br7 : Op_) : Option f8n5O :=
  (f8n6 FUEL bk1 bb2 bl3 be5 bq6 br7 be4 0).bind fun o321 => match o321 with
  | .exit2 v323 => some (.norm v323)
theorem f8n5_ok (bk1 : List Op_) (bb2 : ByteArray) (bl3 : Bool) (be4 : Int) (be5 : Int) (bq6 : Variation × (List VariationPayment) × Int) (br7 : Op_) {o : f8n5O} (h : (f8n5 bk1 bb2 bl3 be4 be5 bq6 br7) = some o) : T Try.prog Try.f8.ntmps 0 (cL (dropC 5 (cR (dropC 1 (cL (dropC 1 (cL (cL (dropC 1 (cL (cL (dropC 1 (cL (dropC 6 c8)))))))))))))) (f8n5S bk1 bb2 bl3 be4 be5 bq6 br7) (fun r => r = f8n5E bk1 bb2 bl3 be4 be5 bq6 br7 o) := by
  unfold f8n5 at h
  refine runK_norm cfg_ok (k := 1) (rs := [([], [], [])]) (ps := []) (tds := []) (m := [0, 1]) (keep := [0, 1, 5, 6, 8, 9, 10, 14, 18]) (st' := (f8n6S bk1 bb2 bl3 be5 bq6 br7 be4 0)) (by kernel_rfl) an ?_
  obtain ⟨o321, h322, h⟩ := bind_cases h
  cases o321 with
  | exit2 v323 =>
    obtain rfl := some_inj h
    exact T.last' (T.bl (i := 2) (by kernel_rfl) (by kernel_rfl) (f8n6_ok FUEL bk1 bb2 bl3 be5 bq6 br7 be4 0 h322)) (tds := []) (m := [0, 1]) (keep := [0, 1, 5, 6, 8, 9, 10]) (st2 := (f8n5E bk1 bb2 bl3 be4 be5 bq6 br7 (.norm v323)).2) (by kernel_rfl) an rfl
inductive f8n7O where
  | norm (v338 : Bool)
def f8n7E (bk1 : List Op_) (bb2 : ByteArray) (bl3 : Bool) (be4 : Int) (be5 : Int) (bs6 : Int × Int) (bq7 : Variation × (List VariationPayment) × Int) : f8n7O → Ex × Tr × Hp
  | .norm v338 => (.norm, mkS [(0, (.pl (.sl .any 8 (bk1.map Op_.cells)))), (1, (.pl (.str bb2))), (5, (.pl (.bool bl3))), (6, (.bp 0 0)), (8, (.pl (.int .i64 be4))), (9, (.pl (.int .i64 be5))), (159, (.pl (.bool v338)))], [some (.box ((Variation.cells bq7.1).map .pl))])
def f8n7S (bk1 : List Op_) (bb2 : ByteArray) (bl3 : Bool) (be4 : Int) (be5 : Int) (bs6 : Int × Int) (bq7 : Variation × (List VariationPayment) × Int) : Tr × Hp := (mkS [(0, (.pl (.sl .any 8 (bk1.map Op_.cells)))), (1, (.pl (.str bb2))), (5, (.pl (.bool bl3))), (6, (.bp 0 0)), (8, (.pl (.int .i64 be4))), (9, (.pl (.int .i64 be5))), (19, (.pl (.int .i64 bs6.1))), (20, (.pl (.int .i64 bs6.2)))], [some (.box ((Variation.cells bq7.1).map .pl))])
noncomputable def f8n7 (bk1 : List Op_) (bb2 : ByteArray) (bl3 : Bool) (be4 : Int) (be5 : Int) (bs6 : Int × Int) (bq7 : Variation × (List VariationPayment) × Int) : Option f8n7O :=
  bif (decide (bs6.2 = 0)) then
    bif (decide (bs6.1 = be4)) then
      some (.norm false)
    else
      some (.norm true)
  else
    some (.norm (!(decide (bs6.2 = 14))))
theorem f8n7_ok (bk1 : List Op_) (bb2 : ByteArray) (bl3 : Bool) (be4 : Int) (be5 : Int) (bs6 : Int × Int) (bq7 : Variation × (List VariationPayment) × Int) {o : f8n7O} (h : (f8n7 bk1 bb2 bl3 be4 be5 bs6 bq7) = some o) : T Try.prog Try.f8.ntmps 0 (cL (dropC 1 (dropC 1 (dropC 5 (cR (dropC 1 (cL (dropC 1 (cL (cL (dropC 1 (cL (cL (dropC 1 (cL (dropC 6 c8)))))))))))))))) (f8n7S bk1 bb2 bl3 be4 be5 bs6 bq7) (fun r => r = f8n7E bk1 bb2 bl3 be4 be5 bs6 bq7 o) := by
  unfold f8n7 at h
  rcases cond_cases h with ⟨h336, h⟩ | ⟨h336, h⟩
  · rcases cond_cases h with ⟨h337, h⟩ | ⟨h337, h⟩
    · obtain rfl := some_inj h
      exact run_end cfg_ok (rs := [([(3, true), (4, true), (5, true), (8, false), (9, false), (10, false), (11, false), (12, false), (13, false)], [(6, .bool true), (13, .bool false), (14, .bool false)], [])]) (ps := []) (tds := []) (m := [0]) (keep := [0, 1, 5, 6, 8, 9, 159]) (r := (.norm, (f8n7E bk1 bb2 bl3 be4 be5 bs6 bq7 (.norm false)).2)) (by kernel_rfl) (ap h336 (ap h336 (ap h336 (ap h336 (ap (not_t h337) (ap (not_t h337) (ap (not_t h337) (ap (not_t h336) (ap (not_t h336) (ap (not_t h337) (ap (not_t h336) (ap (not_t h337) an)))))))))))) rfl
    · obtain rfl := some_inj h
      exact run_end cfg_ok (rs := [([(3, true), (4, true), (5, true), (8, true), (9, true), (10, true), (13, true)], [(6, .bool true), (14, .bool true)], [])]) (ps := []) (tds := []) (m := [0]) (keep := [0, 1, 5, 6, 8, 9, 159]) (r := (.norm, (f8n7E bk1 bb2 bl3 be4 be5 bs6 bq7 (.norm true)).2)) (by kernel_rfl) (ap h336 (ap h336 (ap h336 (ap h336 (ap (not_f h337) (ap (not_f h337) (ap (not_f h337) (ap (not_f h337) (ap (not_f h337) an))))))))) rfl
  · obtain rfl := some_inj h
    exact run_end cfg_ok (rs := [([(3, false), (4, false), (5, false), (11, true), (12, true)], [(6, .bool false), (13, .bool true)], [])]) (ps := []) (tds := []) (m := [0]) (keep := [0, 1, 5, 6, 8, 9, 159]) (r := (.norm, (f8n7E bk1 bb2 bl3 be4 be5 bs6 bq7 (.norm (!(decide (bs6.2 = 14))))).2)) (by kernel_rfl) (ap h336 (ap h336 (ap h336 (ap h336 (ap (not_f h336) (ap (not_f h336) (ap (not_f h336) an))))))) rfl
inductive f8n8O where
  | norm (v353 : Int)
def f8n8E (bk1 : List Op_) (bb2 : ByteArray) (bl3 : Bool) (be4 : Int) (be5 : Int) (bm6 : Variation × Int) (br7 : Op_) : f8n8O → Ex × Tr × Hp
  | .norm v353 => (.norm, mkS [(0, (.pl (.sl .any 8 (bk1.map Op_.cells)))), (1, (.pl (.str bb2))), (5, (.pl (.bool bl3))), (6, (.bp 0 0)), (8, (.pl (.int .i64 v353))), (9, (.pl (.int .i64 be5))), (10, (.bp 1 0))], [some (.box ((Variation.cells bm6.1).map .pl)), some (.box ((Op_.cells br7).map .pl))])
def f8n8S (bk1 : List Op_) (bb2 : ByteArray) (bl3 : Bool) (be4 : Int) (be5 : Int) (bm6 : Variation × Int) (br7 : Op_) : Tr × Hp := (mkS [(0, (.pl (.sl .any 8 (bk1.map Op_.cells)))), (1, (.pl (.str bb2))), (5, (.pl (.bool bl3))), (6, (.bp 0 0)), (8, (.pl (.int .i64 be4))), (9, (.pl (.int .i64 be5))), (10, (.bp 1 0))], [some (.box ((Variation.cells bm6.1).map .pl)), some (.box ((Op_.cells br7).map .pl))])
noncomputable def f8n8 (bk1 : List Op_) (bb2 : ByteArray) (bl3 : Bool) (be4 : Int) (be5 : Int) (bm6 : Variation × Int) (br7 : Op_) : Option f8n8O :=
  bif (seq br7.Buyer bb2) then
    some (.norm (wr64 (be4 + (wr64 (br7.Quantity * br7.Price)))))
  else
    some (.norm be4)
theorem f8n8_ok (bk1 : List Op_) (bb2 : ByteArray) (bl3 : Bool) (be4 : Int) (be5 : Int) (bm6 : Variation × Int) (br7 : Op_) {o : f8n8O} (h : (f8n8 bk1 bb2 bl3 be4 be5 bm6 br7) = some o) : T Try.prog Try.f8.ntmps 0 (cL (dropC 3 (cL (dropC 1 (cL (dropC 1 (cL (cL (dropC 1 (cL (cL (dropC 1 (cL (dropC 6 c8)))))))))))))) (f8n8S bk1 bb2 bl3 be4 be5 bm6 br7) (fun r => r = f8n8E bk1 bb2 bl3 be4 be5 bm6 br7 o) := by
  unfold f8n8 at h
  rcases cond_cases h with ⟨h352, h⟩ | ⟨h352, h⟩
  · obtain rfl := some_inj h
    exact run_end cfg_ok (rs := [([], [], []), ([], [], [])]) (ps := [some true]) (tds := []) (m := [0, 1]) (keep := [0, 1, 5, 6, 8, 9, 10]) (r := (.norm, (f8n8E bk1 bb2 bl3 be4 be5 bm6 br7 (.norm (wr64 (be4 + (wr64 (br7.Quantity * br7.Price)))))).2)) (by kernel_rfl) (ap h352 an) rfl
  · obtain rfl := some_inj h
    exact run_end cfg_ok (rs := [([], [], [])]) (ps := [some false]) (tds := []) (m := [0, 1]) (keep := [0, 1, 5, 6, 8, 9, 10]) (r := (.norm, (f8n8E bk1 bb2 bl3 be4 be5 bm6 br7 (.norm be4)).2)) (by kernel_rfl) (ap h352 an) rfl
inductive f8n4O where
  | exit1
  | norm (v359 : Int) (v360 : Variation)
  | ret
def f8n4E (bk1 : List Op_) (bb2 : ByteArray) (bl3 : Bool) (be4 : Int) (be5 : Int) (br6 : Op_) (ba7 : Variation) : f8n4O → Ex × Tr × Hp
  | .exit1 => ((.exit 1), mkS [(0, (.pl (.sl .any 8 (bk1.map Op_.cells)))), (1, (.pl (.str bb2))), (5, (.pl (.bool bl3))), (6, (.bp 0 0)), (8, (.pl (.int .i64 be4))), (9, (.pl (.int .i64 be5)))], [some (.box ((Variation.cells ba7).map .pl))])
  | .norm v359 v360 => (.norm, mkS [(0, (.pl (.sl .any 8 (bk1.map Op_.cells)))), (1, (.pl (.str bb2))), (5, (.pl (.bool bl3))), (6, (.bp 0 0)), (8, (.pl (.int .i64 v359))), (9, (.pl (.int .i64 be5)))], [some (.box ((Variation.cells v360).map .pl))])
  | .ret => (.ret, mkS [(4, (.pl (.bool false)))], [])
def f8n4S (bk1 : List Op_) (bb2 : ByteArray) (bl3 : Bool) (be4 : Int) (be5 : Int) (br6 : Op_) (ba7 : Variation) : Tr × Hp := (mkS [(0, (.pl (.sl .any 8 (bk1.map Op_.cells)))), (1, (.pl (.str bb2))), (5, (.pl (.bool bl3))), (6, (.bp 0 0)), (8, (.pl (.int .i64 be4))), (9, (.pl (.int .i64 be5))), (10, (.bp 1 0)), (49, (.pl (.bool (!(decide (br6.Kind = 0))))))], [some (.box ((Variation.cells ba7).map .pl)), some (.box ((Op_.cells br6).map .pl))])
noncomputable def f8n4 (bk1 : List Op_) (bb2 : ByteArray) (bl3 : Bool) (be4 : Int) (be5 : Int) (br6 : Op_) (ba7 : Variation) : Option f8n4O :=
  bif (decide (br6.Kind = 0)) then
    (f14 ba7 (wr64 (ba7.Day + br6.Day)) br6.Prices).bind fun x280 =>
    bif (decide (x280.2.2 = 0)) then
      (f27 x280.2.1).bind fun x286 =>
      bif x286.2 then
        bif (decide (x286.1 = 0)) then
          (f8n5 bk1 bb2 bl3 be4 be5 x280 br6).bind fun o325 => match o325 with
          | .norm v327 => (f24 x280.1 bb2 br6.Prices).bind fun x330 =>
            (f8n7 bk1 bb2 bl3 v327 be5 x330 x280).bind fun o339 => match o339 with
            | .norm v341 => bif v341 then
                some .ret
              else
                some (.norm v327 x280.1)
        else
          some .ret
      else
        some .ret
    else
      some .exit1
  else
    (f16 ba7 br6.Buyer br6.Seller br6.Product br6.Quantity br6.Price).bind fun x346 =>
    bif (decide (x346.2 = 0)) then
      (f8n8 bk1 bb2 bl3 be4 be5 x346 br6).bind fun o354 => match o354 with
      | .norm v356 => bif (seq br6.Seller bb2) then
          some (.norm (wr64 (v356 - (wr64 (br6.Quantity * br6.Price)))) x346.1)
        else
          some (.norm v356 x346.1)
    else
      some .exit1
theorem f8n4_ok (bk1 : List Op_) (bb2 : ByteArray) (bl3 : Bool) (be4 : Int) (be5 : Int) (br6 : Op_) (ba7 : Variation) {o : f8n4O} (h : (f8n4 bk1 bb2 bl3 be4 be5 br6 ba7) = some o) : T Try.prog Try.f8.ntmps 0 (dropC 1 (cL (dropC 1 (cL (cL (dropC 1 (cL (cL (dropC 1 (cL (dropC 6 c8))))))))))) (f8n4S bk1 bb2 bl3 be4 be5 br6 ba7) (fun r => r = f8n4E bk1 bb2 bl3 be4 be5 br6 ba7 o) := by
  unfold f8n4 at h
  rcases cond_cases h with ⟨h277, h⟩ | ⟨h277, h⟩
  · refine T.condF (o := .tmp 49) (b := (!(decide (br6.Kind = 0)))) (by kernel_rfl) (by kernel_rfl) (not_t h277) ?_
    obtain ⟨x280, h281, h⟩ := bind_cases h
    rcases cond_cases h with ⟨h283, h⟩ | ⟨h283, h⟩
    · obtain ⟨x286, h287, h⟩ := bind_cases h
      rcases cond_cases h with ⟨h290, h⟩ | ⟨h290, h⟩
      · rcases cond_cases h with ⟨h291, h⟩ | ⟨h291, h⟩
        · refine runK_norm cfg_ok (k := 5) (rs := [([], [(8, .call (.tup [(.pl (.agg (Variation.cells x280.1))), (.pl (.sl .any 2 (x280.2.1.map VariationPayment.cells))), (.pl (.int .i64 x280.2.2))]) [])], []), ([], [], []), ([], [], []), ([], [(1, .call (.tup [(.pl (.int .i64 x286.1)), (.pl (.bool x286.2))]) [])], []), ([(3, false), (4, false)], [(5, .bool false)], [])]) (ps := [some false, some false]) (tds := []) (m := [0, 1]) (keep := [0, 1, 5, 6, 8, 9, 10, 14]) (st' := (f8n5S bk1 bb2 bl3 be4 be5 x280 br6)) (by kernel_rfl) (ap (f14_ok ba7 (wr64 (ba7.Day + br6.Day)) br6.Prices h281) (ap (not_t h283) (ap (f27_ok x280.2.1 h287) (ap (not_t h290) (ap (not_t h290) (ap (not_t h290) (ap (not_t h291) an))))))) ?_
          obtain ⟨o325, h326, h⟩ := bind_cases h
          cases o325 with
          | norm v327 =>
            refine T.oneN (by kernel_rfl) (f8n5_ok bk1 bb2 bl3 be4 be5 x280 br6 h326) (st2 := (f8n5E bk1 bb2 bl3 be4 be5 x280 br6 (.norm v327)).2) rfl ?_
            obtain ⟨x330, h331, h⟩ := bind_cases h
            refine runK_norm cfg_ok (k := 1) (rs := [([], [(4, .call (.tup [(.pl (.int .i64 x330.1)), (.pl (.int .i64 x330.2))]) [])], [])]) (ps := []) (tds := []) (m := [0]) (keep := [0, 1, 5, 6, 8, 9, 19, 20]) (st' := (f8n7S bk1 bb2 bl3 v327 be5 x330 x280)) (by kernel_rfl) (ap (f24_ok x280.1 bb2 br6.Prices h331) an) ?_
            obtain ⟨o339, h340, h⟩ := bind_cases h
            cases o339 with
            | norm v341 =>
              refine T.oneN (by kernel_rfl) (f8n7_ok bk1 bb2 bl3 v327 be5 x330 x280 h340) (st2 := (f8n7E bk1 bb2 bl3 v327 be5 x330 x280 (.norm v341)).2) rfl ?_
              rcases cond_cases h with ⟨h343, h⟩ | ⟨h343, h⟩
              · obtain rfl := some_inj h
                exact run_end cfg_ok (rs := [([], [], [])]) (ps := [some true]) (tds := []) (m := []) (keep := [4]) (r := (.ret, (f8n4E bk1 bb2 bl3 be4 be5 br6 ba7 .ret).2)) (by kernel_rfl) (ap h343 an) rfl
              · obtain rfl := some_inj h
                exact run_end cfg_ok (rs := []) (ps := [some false]) (tds := []) (m := [0]) (keep := [0, 1, 5, 6, 8, 9]) (r := (.norm, (f8n4E bk1 bb2 bl3 be4 be5 br6 ba7 (.norm v327 x280.1)).2)) (by kernel_rfl) (ap h343 an) rfl
        · obtain rfl := some_inj h
          exact runK_end cfg_ok (k := 5) (rs := [([], [(8, .call (.tup [(.pl (.agg (Variation.cells x280.1))), (.pl (.sl .any 2 (x280.2.1.map VariationPayment.cells))), (.pl (.int .i64 x280.2.2))]) [])], []), ([], [], []), ([], [], []), ([], [(1, .call (.tup [(.pl (.int .i64 x286.1)), (.pl (.bool x286.2))]) [])], []), ([(3, false), (4, false)], [(5, .bool false)], []), ([], [], [])]) (ps := [some false, some true]) (tds := []) (m := []) (keep := [4]) (ex := .ret) (st' := (f8n4E bk1 bb2 bl3 be4 be5 br6 ba7 .ret).2) (by kernel_rfl) (ap (f14_ok ba7 (wr64 (ba7.Day + br6.Day)) br6.Prices h281) (ap (not_t h283) (ap (f27_ok x280.2.1 h287) (ap (not_t h290) (ap (not_t h290) (ap (not_t h290) (ap (not_f h291) an))))))) (fun h => nomatch h) rfl
      · obtain rfl := some_inj h
        exact runK_end cfg_ok (k := 5) (rs := [([], [(8, .call (.tup [(.pl (.agg (Variation.cells x280.1))), (.pl (.sl .any 2 (x280.2.1.map VariationPayment.cells))), (.pl (.int .i64 x280.2.2))]) [])], []), ([], [], []), ([], [], []), ([], [(1, .call (.tup [(.pl (.int .i64 x286.1)), (.pl (.bool x286.2))]) [])], []), ([(3, true), (4, true)], [(5, .bool true)], []), ([], [], [])]) (ps := [some false, none]) (tds := []) (m := []) (keep := [4]) (ex := .ret) (st' := (f8n4E bk1 bb2 bl3 be4 be5 br6 ba7 .ret).2) (by kernel_rfl) (ap (f14_ok ba7 (wr64 (ba7.Day + br6.Day)) br6.Prices h281) (ap (not_t h283) (ap (f27_ok x280.2.1 h287) (ap (not_f h290) (ap (not_f h290) (ap (not_f h290) an)))))) (fun h => nomatch h) rfl
    · obtain rfl := some_inj h
      exact runK_end cfg_ok (k := 2) (rs := [([], [(8, .call (.tup [(.pl (.agg (Variation.cells x280.1))), (.pl (.sl .any 2 (x280.2.1.map VariationPayment.cells))), (.pl (.int .i64 x280.2.2))]) [])], []), ([], [], [])]) (ps := [some true]) (tds := []) (m := [0]) (keep := [0, 1, 5, 6, 8, 9]) (ex := (.exit 1)) (st' := (f8n4E bk1 bb2 bl3 be4 be5 br6 ba7 .exit1).2) (by kernel_rfl) (ap (f14_ok ba7 (wr64 (ba7.Day + br6.Day)) br6.Prices h281) (ap (not_f h283) an)) (fun h => nomatch h) rfl
  · refine T.condT (o := .tmp 49) (b := (!(decide (br6.Kind = 0)))) (by kernel_rfl) (by kernel_rfl) (not_f h277) ?_
    obtain ⟨x346, h347, h⟩ := bind_cases h
    rcases cond_cases h with ⟨h349, h⟩ | ⟨h349, h⟩
    · refine runK_norm cfg_ok (k := 3) (rs := [([], [(11, .call (.tup [(.pl (.agg (Variation.cells x346.1))), (.pl (.int .i64 x346.2))]) [])], []), ([], [], []), ([], [], [])]) (ps := [some false]) (tds := []) (m := [0, 1]) (keep := [0, 1, 5, 6, 8, 9, 10]) (st' := (f8n8S bk1 bb2 bl3 be4 be5 x346 br6)) (by kernel_rfl) (ap (f16_ok ba7 br6.Buyer br6.Seller br6.Product br6.Quantity br6.Price h347) (ap (not_t h349) an)) ?_
      obtain ⟨o354, h355, h⟩ := bind_cases h
      cases o354 with
      | norm v356 =>
        refine T.oneN (by kernel_rfl) (f8n8_ok bk1 bb2 bl3 be4 be5 x346 br6 h355) (st2 := (f8n8E bk1 bb2 bl3 be4 be5 x346 br6 (.norm v356)).2) rfl ?_
        rcases cond_cases h with ⟨h358, h⟩ | ⟨h358, h⟩
        · obtain rfl := some_inj h
          exact run_end cfg_ok (rs := [([], [], []), ([], [], [])]) (ps := [some true]) (tds := []) (m := [0]) (keep := [0, 1, 5, 6, 8, 9]) (r := (.norm, (f8n4E bk1 bb2 bl3 be4 be5 br6 ba7 (.norm (wr64 (v356 - (wr64 (br6.Quantity * br6.Price)))) x346.1)).2)) (by kernel_rfl) (ap h358 an) rfl
        · obtain rfl := some_inj h
          exact run_end cfg_ok (rs := [([], [], [])]) (ps := [some false]) (tds := []) (m := [0]) (keep := [0, 1, 5, 6, 8, 9]) (r := (.norm, (f8n4E bk1 bb2 bl3 be4 be5 br6 ba7 (.norm v356 x346.1)).2)) (by kernel_rfl) (ap h358 an) rfl
    · obtain rfl := some_inj h
      exact runK_end cfg_ok (k := 2) (rs := [([], [(11, .call (.tup [(.pl (.agg (Variation.cells x346.1))), (.pl (.int .i64 x346.2))]) [])], []), ([], [], [])]) (ps := [some true]) (tds := []) (m := [0]) (keep := [0, 1, 5, 6, 8, 9]) (ex := (.exit 1)) (st' := (f8n4E bk1 bb2 bl3 be4 be5 br6 ba7 .exit1).2) (by kernel_rfl) (ap (f16_ok ba7 br6.Buyer br6.Seller br6.Product br6.Quantity br6.Price h347) (ap (not_f h349) an)) (fun h => nomatch h) rfl
inductive f8n3O where
  | exit1
  | norm (v365 : Int) (v366 : Variation)
  | ret
def f8n3E (bk1 : List Op_) (bb2 : ByteArray) (bl3 : Bool) (be4 : Int) (be5 : Int) (ba6 : Variation) (br7 : Op_) : f8n3O → Ex × Tr × Hp
  | .exit1 => ((.exit 1), mkS [(0, (.pl (.sl .any 8 (bk1.map Op_.cells)))), (1, (.pl (.str bb2))), (5, (.pl (.bool bl3))), (6, (.bp 0 0)), (8, (.pl (.int .i64 be4))), (9, (.pl (.int .i64 be5)))], [some (.box ((Variation.cells ba6).map .pl))])
  | .norm v365 v366 => (.norm, mkS [(0, (.pl (.sl .any 8 (bk1.map Op_.cells)))), (1, (.pl (.str bb2))), (5, (.pl (.bool bl3))), (6, (.bp 0 0)), (8, (.pl (.int .i64 v365))), (9, (.pl (.int .i64 be5)))], [some (.box ((Variation.cells v366).map .pl))])
  | .ret => (.ret, mkS [(4, (.pl (.bool false)))], [])
def f8n3S (bk1 : List Op_) (bb2 : ByteArray) (bl3 : Bool) (be4 : Int) (be5 : Int) (ba6 : Variation) (br7 : Op_) : Tr × Hp := (mkS [(0, (.pl (.sl .any 8 (bk1.map Op_.cells)))), (1, (.pl (.str bb2))), (5, (.pl (.bool bl3))), (6, (.bp 0 0)), (8, (.pl (.int .i64 be4))), (9, (.pl (.int .i64 be5))), (10, (.bp 1 0))], [some (.box ((Variation.cells ba6).map .pl)), some (.box ((Op_.cells br7).map .pl))])
noncomputable def f8n3 (bk1 : List Op_) (bb2 : ByteArray) (bl3 : Bool) (be4 : Int) (be5 : Int) (ba6 : Variation) (br7 : Op_) : Option f8n3O :=
  (f8n4 bk1 bb2 bl3 be4 be5 br7 ba6).bind fun o361 => match o361 with
  | .exit1 => some .exit1
  | .norm v363 v364 => some (.norm v363 v364)
  | .ret => some .ret
theorem f8n3_ok (bk1 : List Op_) (bb2 : ByteArray) (bl3 : Bool) (be4 : Int) (be5 : Int) (ba6 : Variation) (br7 : Op_) {o : f8n3O} (h : (f8n3 bk1 bb2 bl3 be4 be5 ba6 br7) = some o) : T Try.prog Try.f8.ntmps 0 (cL (dropC 1 (cL (cL (dropC 1 (cL (cL (dropC 1 (cL (dropC 6 c8)))))))))) (f8n3S bk1 bb2 bl3 be4 be5 ba6 br7) (fun r => r = f8n3E bk1 bb2 bl3 be4 be5 ba6 br7 o) := by
  unfold f8n3 at h
  refine runK_norm cfg_ok (k := 1) (rs := [([], [], [])]) (ps := []) (tds := []) (m := [0, 1]) (keep := [0, 1, 5, 6, 8, 9, 10, 49]) (st' := (f8n4S bk1 bb2 bl3 be4 be5 br7 ba6)) (by kernel_rfl) an ?_
  obtain ⟨o361, h362, h⟩ := bind_cases h
  cases o361 with
  | exit1 =>
    obtain rfl := some_inj h
    exact T.last' (f8n4_ok bk1 bb2 bl3 be4 be5 br7 ba6 h362) (tds := []) (m := [0]) (keep := [0, 1, 5, 6, 8, 9]) (st2 := (f8n3E bk1 bb2 bl3 be4 be5 ba6 br7 .exit1).2) (by kernel_rfl) an rfl
  | norm v363 v364 =>
    obtain rfl := some_inj h
    exact T.last' (f8n4_ok bk1 bb2 bl3 be4 be5 br7 ba6 h362) (tds := []) (m := [0]) (keep := [0, 1, 5, 6, 8, 9]) (st2 := (f8n3E bk1 bb2 bl3 be4 be5 ba6 br7 (.norm v363 v364)).2) (by kernel_rfl) an rfl
  | ret =>
    obtain rfl := some_inj h
    exact T.last' (f8n4_ok bk1 bb2 bl3 be4 be5 br7 ba6 h362) (tds := []) (m := []) (keep := [4]) (st2 := (f8n3E bk1 bb2 bl3 be4 be5 ba6 br7 .ret).2) (by kernel_rfl) an rfl
inductive f8n9O where
  | norm (v381 : Bool)
def f8n9E (bk1 : List Op_) (bb2 : ByteArray) (bl3 : Bool) (be4 : Int) (be5 : Int) (bs6 : Int × Int) (ba7 : Variation) : f8n9O → Ex × Tr × Hp
  | .norm v381 => (.norm, mkS [(0, (.pl (.sl .any 8 (bk1.map Op_.cells)))), (1, (.pl (.str bb2))), (5, (.pl (.bool bl3))), (6, (.bp 0 0)), (8, (.pl (.int .i64 be4))), (9, (.pl (.int .i64 be5))), (180, (.pl (.bool v381)))], [some (.box ((Variation.cells ba7).map .pl))])
def f8n9S (bk1 : List Op_) (bb2 : ByteArray) (bl3 : Bool) (be4 : Int) (be5 : Int) (bs6 : Int × Int) (ba7 : Variation) : Tr × Hp := (mkS [(0, (.pl (.sl .any 8 (bk1.map Op_.cells)))), (1, (.pl (.str bb2))), (5, (.pl (.bool bl3))), (6, (.bp 0 0)), (8, (.pl (.int .i64 be4))), (9, (.pl (.int .i64 be5))), (21, (.pl (.int .i64 bs6.1))), (22, (.pl (.int .i64 bs6.2)))], [some (.box ((Variation.cells ba7).map .pl))])
noncomputable def f8n9 (bk1 : List Op_) (bb2 : ByteArray) (bl3 : Bool) (be4 : Int) (be5 : Int) (bs6 : Int × Int) (ba7 : Variation) : Option f8n9O :=
  bif (decide (bs6.2 = 0)) then
    bif (decide (bs6.1 = be4)) then
      some (.norm false)
    else
      some (.norm true)
  else
    some (.norm (!(decide (bs6.2 = 14))))
theorem f8n9_ok (bk1 : List Op_) (bb2 : ByteArray) (bl3 : Bool) (be4 : Int) (be5 : Int) (bs6 : Int × Int) (ba7 : Variation) {o : f8n9O} (h : (f8n9 bk1 bb2 bl3 be4 be5 bs6 ba7) = some o) : T Try.prog Try.f8.ntmps 0 (cL (dropC 1 (dropC 1 (dropC 1 (cL (cL (dropC 1 (cL (cL (dropC 1 (cL (dropC 6 c8)))))))))))) (f8n9S bk1 bb2 bl3 be4 be5 bs6 ba7) (fun r => r = f8n9E bk1 bb2 bl3 be4 be5 bs6 ba7 o) := by
  unfold f8n9 at h
  rcases cond_cases h with ⟨h379, h⟩ | ⟨h379, h⟩
  · rcases cond_cases h with ⟨h380, h⟩ | ⟨h380, h⟩
    · obtain rfl := some_inj h
      exact run_end cfg_ok (rs := [([(3, true), (4, true), (5, true), (8, false), (9, false), (10, false), (11, false), (12, false), (13, false)], [(6, .bool true), (13, .bool false), (14, .bool false)], [])]) (ps := []) (tds := []) (m := [0]) (keep := [0, 1, 5, 6, 8, 9, 180]) (r := (.norm, (f8n9E bk1 bb2 bl3 be4 be5 bs6 ba7 (.norm false)).2)) (by kernel_rfl) (ap h379 (ap h379 (ap h379 (ap h379 (ap (not_t h380) (ap (not_t h380) (ap (not_t h380) (ap (not_t h379) (ap (not_t h379) (ap (not_t h380) (ap (not_t h379) (ap (not_t h380) an)))))))))))) rfl
    · obtain rfl := some_inj h
      exact run_end cfg_ok (rs := [([(3, true), (4, true), (5, true), (8, true), (9, true), (10, true), (13, true)], [(6, .bool true), (14, .bool true)], [])]) (ps := []) (tds := []) (m := [0]) (keep := [0, 1, 5, 6, 8, 9, 180]) (r := (.norm, (f8n9E bk1 bb2 bl3 be4 be5 bs6 ba7 (.norm true)).2)) (by kernel_rfl) (ap h379 (ap h379 (ap h379 (ap h379 (ap (not_f h380) (ap (not_f h380) (ap (not_f h380) (ap (not_f h380) (ap (not_f h380) an))))))))) rfl
  · obtain rfl := some_inj h
    exact run_end cfg_ok (rs := [([(3, false), (4, false), (5, false), (11, true), (12, true)], [(6, .bool false), (13, .bool true)], [])]) (ps := []) (tds := []) (m := [0]) (keep := [0, 1, 5, 6, 8, 9, 180]) (r := (.norm, (f8n9E bk1 bb2 bl3 be4 be5 bs6 ba7 (.norm (!(decide (bs6.2 = 14))))).2)) (by kernel_rfl) (ap h379 (ap h379 (ap h379 (ap h379 (ap (not_f h379) (ap (not_f h379) (ap (not_f h379) an))))))) rfl
inductive f8n2O where
  | norm (v387 : Int) (v388 : Variation)
  | ret
def f8n2E (bk1 : List Op_) (bb2 : ByteArray) (bl3 : Bool) (be4 : Int) (be5 : Int) (ba6 : Variation) : f8n2O → Ex × Tr × Hp
  | .norm v387 v388 => (.norm, mkS [(0, (.pl (.sl .any 8 (bk1.map Op_.cells)))), (1, (.pl (.str bb2))), (5, (.pl (.bool bl3))), (6, (.bp 0 0)), (8, (.pl (.int .i64 v387))), (9, (.pl (.int .i64 be5)))], [some (.box ((Variation.cells v388).map .pl))])
  | .ret => (.ret, mkS [(4, (.pl (.bool false)))], [])
def f8n2S (bk1 : List Op_) (bb2 : ByteArray) (bl3 : Bool) (be4 : Int) (be5 : Int) (ba6 : Variation) : Tr × Hp := (mkS [(0, (.pl (.sl .any 8 (bk1.map Op_.cells)))), (1, (.pl (.str bb2))), (5, (.pl (.bool bl3))), (6, (.bp 0 0)), (8, (.pl (.int .i64 be4))), (9, (.pl (.int .i64 be5)))], [some (.box ((Variation.cells ba6).map .pl))])
noncomputable def f8n2 (bk1 : List Op_) (bb2 : ByteArray) (bl3 : Bool) (be4 : Int) (be5 : Int) (ba6 : Variation) : Option f8n2O :=
  (at? bk1 be5).bind fun x275 =>
  (f8n3 bk1 bb2 bl3 be4 be5 ba6 x275).bind fun o367 => match o367 with
  | .exit1 => some (.norm be4 ba6)
  | .norm v369 v370 => (f28 v370 bb2).bind fun x373 =>
    (f8n9 bk1 bb2 bl3 v369 be5 x373 v370).bind fun o382 => match o382 with
    | .norm v384 => bif v384 then
        some .ret
      else
        some (.norm v369 v370)
  | .ret => some .ret
theorem f8n2_ok (bk1 : List Op_) (bb2 : ByteArray) (bl3 : Bool) (be4 : Int) (be5 : Int) (ba6 : Variation) {o : f8n2O} (h : (f8n2 bk1 bb2 bl3 be4 be5 ba6) = some o) : T Try.prog Try.f8.ntmps 0 (cL (dropC 1 (cL (cL (dropC 1 (cL (dropC 6 c8))))))) (f8n2S bk1 bb2 bl3 be4 be5 ba6) (fun r => r = f8n2E bk1 bb2 bl3 be4 be5 ba6 o) := by
  unfold f8n2 at h
  refine T.block' (i := 1) (by kernel_rfl) ?_
  obtain ⟨x275, h276, h⟩ := bind_cases h
  refine runK_norm cfg_ok (k := 1) (rs := [([], [(2, .idx (Int.toNat be5) (Op_.cells x275))], [])]) (ps := []) (tds := []) (m := [0, 1]) (keep := [0, 1, 5, 6, 8, 9, 10]) (st' := (f8n3S bk1 bb2 bl3 be4 be5 ba6 x275)) (by kernel_rfl) (ap (at_some h276).1 (ap (at_map Op_.cells (at_some h276).2) an)) ?_
  obtain ⟨o367, h368, h⟩ := bind_cases h
  cases o367 with
  | exit1 =>
    obtain rfl := some_inj h
    exact T.oneX' (by kernel_rfl) (f8n3_ok bk1 bb2 bl3 be4 be5 ba6 x275 h368) (tds := []) (m := [0]) (keep := [0, 1, 5, 6, 8, 9]) (st2 := (f8n2E bk1 bb2 bl3 be4 be5 ba6 (.norm be4 ba6)).2) (by kernel_rfl) an rfl rfl
  | norm v369 v370 =>
    refine T.oneN (by kernel_rfl) (f8n3_ok bk1 bb2 bl3 be4 be5 ba6 x275 h368) (st2 := (f8n3E bk1 bb2 bl3 be4 be5 ba6 x275 (.norm v369 v370)).2) rfl ?_
    obtain ⟨x373, h374, h⟩ := bind_cases h
    refine runK_norm cfg_ok (k := 1) (rs := [([], [(2, .call (.tup [(.pl (.int .i64 x373.1)), (.pl (.int .i64 x373.2))]) [])], [])]) (ps := []) (tds := []) (m := [0]) (keep := [0, 1, 5, 6, 8, 9, 21, 22]) (st' := (f8n9S bk1 bb2 bl3 v369 be5 x373 v370)) (by kernel_rfl) (ap (f28_ok v370 bb2 h374) an) ?_
    obtain ⟨o382, h383, h⟩ := bind_cases h
    cases o382 with
    | norm v384 =>
      refine T.oneN (by kernel_rfl) (f8n9_ok bk1 bb2 bl3 v369 be5 x373 v370 h383) (st2 := (f8n9E bk1 bb2 bl3 v369 be5 x373 v370 (.norm v384)).2) rfl ?_
      rcases cond_cases h with ⟨h386, h⟩ | ⟨h386, h⟩
      · obtain rfl := some_inj h
        exact run_end cfg_ok (rs := [([], [], [])]) (ps := [some true]) (tds := []) (m := []) (keep := [4]) (r := (.ret, (f8n2E bk1 bb2 bl3 be4 be5 ba6 .ret).2)) (by kernel_rfl) (ap h386 an) rfl
      · obtain rfl := some_inj h
        exact run_end cfg_ok (rs := []) (ps := [some false]) (tds := []) (m := [0]) (keep := [0, 1, 5, 6, 8, 9]) (r := (.norm, (f8n2E bk1 bb2 bl3 be4 be5 ba6 (.norm v369 v370)).2)) (by kernel_rfl) (ap h386 an) rfl
  | ret =>
    obtain rfl := some_inj h
    exact T.oneX' (by kernel_rfl) (f8n3_ok bk1 bb2 bl3 be4 be5 ba6 x275 h368) (tds := []) (m := []) (keep := [4]) (st2 := (f8n2E bk1 bb2 bl3 be4 be5 ba6 .ret).2) (by kernel_rfl) an rfl rfl
inductive f8n10O where
  | exit0 (v393 : Variation)
  | ret
def f8n10E (bk1 : List Op_) (bb2 : ByteArray) (bl3 : Bool) : f8n10O → Ex × Tr × Hp
  | .exit0 v393 => ((.exit 0), mkS [(5, (.pl (.bool bl3))), (6, (.bp 0 0))], [some (.box ((Variation.cells v393).map .pl))])
  | .ret => (.ret, mkS [(4, (.pl (.bool false)))], [])
def f8n10S (bk1 : List Op_) (bb2 : ByteArray) (bl3 : Bool) (v268 : Int) (v269 : Int) (v270 : Variation) : Tr × Hp := (mkS [(0, (.pl (.sl .any 8 (bk1.map Op_.cells)))), (1, (.pl (.str bb2))), (5, (.pl (.bool bl3))), (6, (.bp 0 0)), (8, (.pl (.int .i64 v268))), (9, (.pl (.int .i64 v269)))], [some (.box ((Variation.cells v270).map .pl))])
noncomputable def f8n10 : Nat → List Op_ → ByteArray → Bool → Int → Int → Variation → Option f8n10O
  | 0, _, _, _, _, _, _ => none
  | f + 1, bk1, bb2, bl3, v268, v269, v270 =>
    bif (decide (v269 < (bk1.length : Int))) then
      (f8n2 bk1 bb2 bl3 v268 v269 v270).bind fun o389 => match o389 with
      | .norm v391 v392 => (f8n10 f bk1 bb2 bl3 v391 (wr64 (v269 + 1)) v392)
      | .ret => some .ret
    else
      some (.exit0 v270)
theorem f8n10_ok : ∀ (f : Nat) (bk1 : List Op_) (bb2 : ByteArray) (bl3 : Bool) (v268 : Int) (v269 : Int) (v270 : Variation) {o : f8n10O}, (f8n10 f bk1 bb2 bl3 v268 v269 v270) = some o → TL Try.prog Try.f8.ntmps 0 f (cL (cL (dropC 1 (cL (dropC 6 c8))))) (f8n10S bk1 bb2 bl3 v268 v269 v270) (fun r => r = f8n10E bk1 bb2 bl3 o)
  | 0, _, _, _, _, _, _, o, h => by rw [f8n10] at h; cases h
  | f + 1, bk1, bb2, bl3, v268, v269, v270, o, h => by
    rw [f8n10] at h
    refine TL.body (K := fun s => ∃ v268 : Int, ∃ v269 : Int, ∃ v270 : Variation, s = (f8n10S bk1 bb2 bl3 v268 v269 v270) ∧ (f8n10 f bk1 bb2 bl3 v268 v269 v270) = some o) ?_ (by rintro _ ⟨v268, v269, v270, rfl, hk⟩; exact f8n10_ok f _ _ _ _ _ _ hk)
    rcases cond_cases h with ⟨h272, h⟩ | ⟨h272, h⟩
    · refine runK_norm cfg_ok (k := 1) (rs := [([], [], [(2, .val (.pl (.int .i64 (bk1.length : Int))))])]) (ps := [some true]) (tds := []) (m := [0]) (keep := [0, 1, 5, 6, 8, 9]) (st' := (f8n2S bk1 bb2 bl3 v268 v269 v270)) (by kernel_rfl) (ap (len_cv (xs := bk1) (c := Op_.cells)) (ap h272 an)) ?_
      obtain ⟨o389, h390, h⟩ := bind_cases h
      cases o389 with
      | norm v391 v392 =>
        refine T.oneN (by kernel_rfl) (f8n2_ok bk1 bb2 bl3 v268 v269 v270 h390) (st2 := (f8n2E bk1 bb2 bl3 v268 v269 v270 (.norm v391 v392)).2) rfl ?_
        exact run_end cfg_ok (rs := [([], [], [])]) (ps := []) (tds := []) (m := [0]) (keep := [0, 1, 5, 6, 8, 9]) (r := (.norm, (f8n10S bk1 bb2 bl3 v391 (wr64 (v269 + 1)) v392))) (by kernel_rfl) an (LoopQ.norm ⟨v391, (wr64 (v269 + 1)), v392, rfl, h⟩)
      | ret =>
        obtain rfl := some_inj h
        exact T.oneX' (by kernel_rfl) (f8n2_ok bk1 bb2 bl3 v268 v269 v270 h390) (tds := []) (m := []) (keep := [4]) (st2 := (f8n10E bk1 bb2 bl3 .ret).2) (by kernel_rfl) an rfl (LoopQ.out rfl rfl)
    · obtain rfl := some_inj h
      exact runK_end cfg_ok (k := 1) (rs := [([], [], [(2, .val (.pl (.int .i64 (bk1.length : Int))))])]) (ps := [some false]) (tds := []) (m := [0]) (keep := [5, 6]) (ex := (.exit 0)) (st' := (f8n10E bk1 bb2 bl3 (.exit0 v270)).2) (by kernel_rfl) (ap (len_cv (xs := bk1) (c := Op_.cells)) (ap h272 an)) (fun h => nomatch h) (LoopQ.out rfl rfl)
inductive f8n1O where
  | norm (v397 : Variation)
  | ret
def f8n1E (bk1 : List Op_) (bb2 : ByteArray) (bl3 : Bool) (bm4 : Variation × Int) : f8n1O → Ex × Tr × Hp
  | .norm v397 => (.norm, mkS [(5, (.pl (.bool bl3))), (6, (.bp 0 0))], [some (.box ((Variation.cells v397).map .pl))])
  | .ret => (.ret, mkS [(4, (.pl (.bool false)))], [])
def f8n1S (bk1 : List Op_) (bb2 : ByteArray) (bl3 : Bool) (bm4 : Variation × Int) : Tr × Hp := (mkS [(0, (.pl (.sl .any 8 (bk1.map Op_.cells)))), (1, (.pl (.str bb2))), (5, (.pl (.bool bl3))), (6, (.bp 0 0)), (8, (.pl (.int .i64 0)))], [some (.box ((Variation.cells bm4.1).map .pl))])
noncomputable def f8n1 (bk1 : List Op_) (bb2 : ByteArray) (bl3 : Bool) (bm4 : Variation × Int) : Option f8n1O :=
  (f8n10 FUEL bk1 bb2 bl3 0 0 bm4.1).bind fun o394 => match o394 with
  | .exit0 v396 => some (.norm v396)
  | .ret => some .ret
theorem f8n1_ok (bk1 : List Op_) (bb2 : ByteArray) (bl3 : Bool) (bm4 : Variation × Int) {o : f8n1O} (h : (f8n1 bk1 bb2 bl3 bm4) = some o) : T Try.prog Try.f8.ntmps 0 (cL (dropC 6 c8)) (f8n1S bk1 bb2 bl3 bm4) (fun r => r = f8n1E bk1 bb2 bl3 bm4 o) := by
  unfold f8n1 at h
  refine runK_norm cfg_ok (k := 1) (rs := [([], [], [])]) (ps := []) (tds := []) (m := [0]) (keep := [0, 1, 5, 6, 8, 9]) (st' := (f8n10S bk1 bb2 bl3 0 0 bm4.1)) (by kernel_rfl) an ?_
  obtain ⟨o394, h395, h⟩ := bind_cases h
  cases o394 with
  | exit0 v396 =>
    obtain rfl := some_inj h
    exact T.last' (T.bl (i := 0) (by kernel_rfl) (by kernel_rfl) (f8n10_ok FUEL bk1 bb2 bl3 0 0 bm4.1 h395)) (tds := []) (m := [0]) (keep := [5, 6]) (st2 := (f8n1E bk1 bb2 bl3 bm4 (.norm v396)).2) (by kernel_rfl) an rfl
  | ret =>
    obtain rfl := some_inj h
    exact T.last' (T.bl (i := 0) (by kernel_rfl) (by kernel_rfl) (f8n10_ok FUEL bk1 bb2 bl3 0 0 bm4.1 h395)) (tds := []) (m := []) (keep := [4]) (st2 := (f8n1E bk1 bb2 bl3 bm4 .ret).2) (by kernel_rfl) an rfl
inductive f8n0O where
  | ret (v405 : Bool)
def f8n0E (a1 : List Op_) (a2 : ByteArray) : f8n0O → Ex × Tr × Hp
  | .ret v405 => (.ret, mkS [(4, (.pl (.bool v405)))], [])
def f8n0S (a1 : List Op_) (a2 : ByteArray) : Tr × Hp := (initS [(.pl (.sl .any 8 (a1.map Op_.cells))), (.pl (.str a2))] 0 .leaf, [])
noncomputable def f8n0 (a1 : List Op_) (a2 : ByteArray) : Option f8n0O :=
  f10.bind fun x5 =>
  (f11 a1).bind fun x11 =>
  bif x11 then
    some (.ret x5)
  else
    bif x5 then
      (f12 0).bind fun x17 =>
      bif (decide (x17.2 = 0)) then
        (f8n1 a1 a2 x5 x17).bind fun o398 => match o398 with
        | .norm v400 => (f26 v400).bind fun x403 =>
          some (.ret (decide (x403 = 0)))
        | .ret => some (.ret false)
      else
        some (.ret false)
    else
      some (.ret x5)
theorem f8n0_ok (a1 : List Op_) (a2 : ByteArray) {o : f8n0O} (h : (f8n0 a1 a2) = some o) : T Try.prog Try.f8.ntmps 0 c8 (f8n0S a1 a2) (fun r => r = f8n0E a1 a2 o) := by
  unfold f8n0 at h
  obtain ⟨x5, h6, h⟩ := bind_cases h
  obtain ⟨x11, h12, h⟩ := bind_cases h
  rcases cond_cases h with ⟨h13, h⟩ | ⟨h13, h⟩
  · obtain rfl := some_inj h
    exact runK_end cfg_ok (k := 3) (rs := [([], [], []), ([], [(0, .call (.pl (.bool x5)) [])], []), ([(3, true), (4, true)], [(1, .call (.pl (.bool x11)) []), (5, .bool true)], []), ([], [], [])]) (ps := [none]) (tds := []) (m := []) (keep := [4]) (ex := .ret) (st' := (f8n0E a1 a2 (.ret x5)).2) (by kernel_rfl) (ap (f10_ok h6) (ap h13 (ap h13 (ap h13 (ap (f11_ok a1 h12) an))))) (fun h => nomatch h) rfl
  · rcases cond_cases h with ⟨h14, h⟩ | ⟨h14, h⟩
    · obtain ⟨x17, h18, h⟩ := bind_cases h
      rcases cond_cases h with ⟨h20, h⟩ | ⟨h20, h⟩
      · refine runK_norm cfg_ok (k := 6) (rs := [([], [], []), ([], [(0, .call (.pl (.bool x5)) [])], []), ([(3, false), (4, false)], [(1, .call (.pl (.bool x11)) []), (5, .bool false)], []), ([], [(0, .call (.tup [(.pl (.agg (Variation.cells x17.1))), (.pl (.int .i64 x17.2))]) [])], []), ([], [], []), ([], [], [])]) (ps := [some false, some false]) (tds := []) (m := [0]) (keep := [0, 1, 5, 6, 8]) (st' := (f8n1S a1 a2 x5 x17)) (by kernel_rfl) (ap (f10_ok h6) (ap h13 (ap h13 (ap h13 (ap (f11_ok a1 h12) (ap (not_t h14) (ap (f12_ok 0 h18) (ap (not_t h20) an)))))))) ?_
        obtain ⟨o398, h399, h⟩ := bind_cases h
        cases o398 with
        | norm v400 =>
          refine T.oneN (by kernel_rfl) (f8n1_ok a1 a2 x5 x17 h399) (st2 := (f8n1E a1 a2 x5 x17 (.norm v400)).2) rfl ?_
          obtain ⟨x403, h404, h⟩ := bind_cases h
          obtain rfl := some_inj h
          exact run_end cfg_ok (rs := [([(2, true), (3, true), (4, true)], [(3, .call (.pl (.int .i64 x403)) []), (5, .bool true)], [])]) (ps := []) (tds := []) (m := []) (keep := [4]) (r := (.ret, (f8n0E a1 a2 (.ret (decide (x403 = 0)))).2)) (by kernel_rfl) (ap h14 (ap h14 (ap h14 (ap h14 (ap (f26_ok v400 h404) an))))) rfl
        | ret =>
          obtain rfl := some_inj h
          exact T.oneX' (by kernel_rfl) (f8n1_ok a1 a2 x5 x17 h399) (tds := []) (m := []) (keep := [4]) (st2 := (f8n0E a1 a2 (.ret false)).2) (by kernel_rfl) an rfl rfl
      · obtain rfl := some_inj h
        exact runK_end cfg_ok (k := 5) (rs := [([], [], []), ([], [(0, .call (.pl (.bool x5)) [])], []), ([(3, false), (4, false)], [(1, .call (.pl (.bool x11)) []), (5, .bool false)], []), ([], [(0, .call (.tup [(.pl (.agg (Variation.cells x17.1))), (.pl (.int .i64 x17.2))]) [])], []), ([], [], []), ([], [], [])]) (ps := [some false, some true]) (tds := []) (m := []) (keep := [4]) (ex := .ret) (st' := (f8n0E a1 a2 (.ret false)).2) (by kernel_rfl) (ap (f10_ok h6) (ap h13 (ap h13 (ap h13 (ap (f11_ok a1 h12) (ap (not_t h14) (ap (f12_ok 0 h18) (ap (not_f h20) an)))))))) (fun h => nomatch h) rfl
    · obtain rfl := some_inj h
      exact runK_end cfg_ok (k := 3) (rs := [([], [], []), ([], [(0, .call (.pl (.bool x5)) [])], []), ([(3, false), (4, false)], [(1, .call (.pl (.bool x11)) []), (5, .bool false)], []), ([], [], [])]) (ps := [some true]) (tds := []) (m := []) (keep := [4]) (ex := .ret) (st' := (f8n0E a1 a2 (.ret x5)).2) (by kernel_rfl) (ap (f10_ok h6) (ap h13 (ap h13 (ap h13 (ap (f11_ok a1 h12) (ap (not_f h14) an)))))) (fun h => nomatch h) rfl
noncomputable def f8 (a1 : List Op_) (a2 : ByteArray) : Option Bool := (f8n0 a1 a2).bind fun o => match o with
  | .ret v405 => some v405
theorem f8_ok (a1 : List Op_) (a2 : ByteArray) {r : Bool} (h : (f8 a1 a2) = some r) : CallS Try.prog false 8 [(.pl (.sl .any 8 (a1.map Op_.cells))), (.pl (.str a2))] [] (.pl (.bool r)) [] := by
  unfold f8 at h
  obtain ⟨o, ho, h⟩ := bind_cases h
  cases o with
  | ret v405 =>
    obtain rfl := some_inj h
    exact CallS.plain cfg_ok (f := Try.f8) (c := c8) (by kernel_rfl) (by kernel_rfl) (by kernel_rfl) (by kernel_rfl) ((f8n0_ok a1 a2 ho).mono fun r e => by subst e; exact ⟨.inl rfl, (.pl (.bool v405)), (.pl (.bool v405)), by kernel_rfl, by kernel_rfl, ((Wk.refl _) : Wk (.pl (.bool v405)) (.pl (.bool v405)))⟩)
end Go.Proofs.Ytelblamgfbkhbaa
namespace Go.Proofs.Ytelblamgfbkhbaa
set_option linter.unusedVariables false
theorem perm_two {α : Type} {a b : α} {p : List α} (h : p.Perm [a, b]) : p = [a, b] ∨ p = [b, a] := by
  match p, h with
  | [], h => exact absurd h.length_eq (by simp)
  | [_], h => exact absurd h.length_eq (by simp)
  | _ :: _ :: _ :: _, h => exact absurd h.length_eq (by simp)
  | [x, y], h =>
    rcases List.mem_cons.1 (h.mem_iff.1 (List.mem_cons_self)) with rfl | hx
    · left
      have := List.Perm.cons_inv h
      rw [List.perm_singleton.1 this]
    · right
      obtain rfl := List.mem_singleton.1 hx
      have h2 : [x, y].Perm [x, a] := h.trans (List.Perm.swap _ _ _)
      have := List.Perm.cons_inv h2
      rw [List.perm_singleton.1 this]
theorem f14_two {s : Variation} {d : Int} {ps : List VariationPrice} {a b : ByteArray × Int} {out : List VariationPosition} {o : f14n0O} (h1 : f26 s = some 0) (h2 : f14n1 d ps 0 s = some (.norm 0)) (h3 : f14n2 ps s d = some (.norm [a, b] out))
    (h4 : ((f14n4 d [a, b] out [a, b]).bind fun o143 => match o143 with
        | .norm v145 => (so38_39 v145).bind fun x148 => some (.ret 0 d x148 out)
        | .ret => some (.ret 14 0 [] [])) = some o)
    (h5 : ((f14n4 d [a, b] out [b, a]).bind fun o143 => match o143 with
        | .norm v145 => (so38_39 v145).bind fun x148 => some (.ret 0 d x148 out)
        | .ret => some (.ret 14 0 [] [])) = some o) : f14n0 s d ps = some o := by
  unfold f14n0
  rw [h1]
  simp only [Option.bind_some]
  rw [h2]
  simp only [Option.bind_some, decide_true, cond_true]
  rw [h3]
  simp only [Option.bind_some]
  refine anyOrder_of fun p hp => ?_
  rcases perm_two hp with rfl | rfl
  · exact h4
  · exact h5
theorem f14_of {s : Variation} {d : Int} {ps : List VariationPrice} {v150 v151 : Int} {v152 : List VariationPayment} {v153 : List VariationPosition} (h : f14n0 s d ps = some (.ret v150 v151 v152 v153)) : f14 s d ps = some ((Variation.mk v151 v153), v152, v150) := by
  unfold f14; rw [h]; rfl
def exS : Variation := ⟨0, [⟨str_a, str_p, -3, -30⟩, ⟨str_b, str_p, 3, 30⟩]⟩
def exT : Variation := ⟨1, [⟨str_a, str_p, -3, -36⟩, ⟨str_b, str_p, 3, 36⟩]⟩
theorem ex1 : f16 (Variation.mk 0 []) str_b str_a str_p 3 10 = some (exS, 0) := by kernel_rfl
theorem ex2 : f14 exS 1 [(VariationPrice.mk str_p 12)] = some (exT, [⟨str_a, -6⟩, ⟨str_b, 6⟩], 0) :=
  f14_of (f14_two (a := (str_a, -6)) (b := (str_b, 6)) (out := exT.Positions) (by kernel_rfl) (by kernel_rfl) (by kernel_rfl) (by kernel_rfl) (by kernel_rfl))
theorem ex3 : f14 exT 2 [(VariationPrice.mk str_p 11)] = some (⟨2, [⟨str_a, str_p, -3, -33⟩, ⟨str_b, str_p, 3, 33⟩]⟩, [⟨str_a, 3⟩, ⟨str_b, -3⟩], 0) :=
  f14_of (f14_two (a := (str_a, 3)) (b := (str_b, -3)) (out := [⟨str_a, str_p, -3, -33⟩, ⟨str_b, str_p, 3, 33⟩]) (by kernel_rfl) (by kernel_rfl) (by kernel_rfl) (by kernel_rfl) (by kernel_rfl))
theorem ex4 : f14 exS 2 [(VariationPrice.mk str_p 11)] = some (⟨2, [⟨str_a, str_p, -3, -33⟩, ⟨str_b, str_p, 3, 33⟩]⟩, [⟨str_a, -3⟩, ⟨str_b, 3⟩], 0) :=
  f14_of (f14_two (a := (str_a, -3)) (b := (str_b, 3)) (out := [⟨str_a, str_p, -3, -33⟩, ⟨str_b, str_p, 3, 33⟩]) (by kernel_rfl) (by kernel_rfl) (by kernel_rfl) (by kernel_rfl) (by kernel_rfl))
theorem ex0 : f12 0 = some (Variation.mk 0 [], 0) := by kernel_rfl
theorem alive_t : f10 = some true := by
  have k1 : f25 6 = some [⟨str_a, -6⟩, ⟨str_b, 6⟩] := by kernel_rfl
  have k2 : f25 (-3) = some [⟨str_a, 3⟩, ⟨str_b, -3⟩] := by kernel_rfl
  have k3 : f25 3 = some [⟨str_a, -3⟩, ⟨str_b, 3⟩] := by kernel_rfl
  have m1 : f19 [⟨str_a, -6⟩, ⟨str_b, 6⟩] [⟨str_a, -6⟩, ⟨str_b, 6⟩] = some true := by kernel_rfl
  have m2 : f19 [⟨str_a, 3⟩, ⟨str_b, -3⟩] [⟨str_a, 3⟩, ⟨str_b, -3⟩] = some true := by kernel_rfl
  have m3 : f19 [⟨str_a, -3⟩, ⟨str_b, 3⟩] [⟨str_a, -3⟩, ⟨str_b, 3⟩] = some true := by kernel_rfl
  have r1 : f23r1 12 = some () := rfl
  have r2 : f23r1 11 = some () := rfl
  unfold f10 f10n0
  simp only [ex0, ex1, ex2, ex3, ex4, k1, k2, k3, m1, m2, m3, r1, r2, Option.bind_some, decide_true, cond_true]
end Go.Proofs.Ytelblamgfbkhbaa
namespace Go.Proofs.Ytelblamgfbkhbaa
set_option linter.unusedVariables false
set_option linter.unusedSimpArgs false
open Go.RowKit
abbrev VP := VariationPosition
theorem fit_small {n b : Nat} (h : n ≤ 1000000) (hb : b ≤ 1000000) : fit n b = true := by
  unfold fit
  have : n * b ≤ 1000000 * 1000000 := Nat.mul_le_mul h hb
  simp only [Bool.and_eq_true, Nat.ble_eq]
  omega
theorem lt_not (a b : Int) : decide (a < b) = !decide (b ≤ a) := by
  by_cases h : a < b
  · rw [decide_eq_true h, decide_eq_false (by omega)]; rfl
  · rw [decide_eq_false h, decide_eq_true (by omega)]; rfl
theorem dec_nat (a b : Nat) : decide ((a : Int) ≤ (b : Int)) = decide (a ≤ b) := by congr 1; apply propext; omega
theorem wr_in {n : Int} (h1 : -9223372036854775808 ≤ n) (h2 : n ≤ 9223372036854775807) : wr64 n = n := w64 rfl h1 h2

def letterI (c : Int) : Bool := (decide (97 ≤ c) && decide (c ≤ 122)) || (decide (65 ≤ c) && decide (c ≤ 90))
def otherI (c : Int) : Bool := (decide (48 ≤ c) && decide (c ≤ 57)) || (decide (c = 95) || decide (c = 45))
theorem f62_eq (c : Int) : f62 c = some (letterI c) := by
  unfold f62 f62n0 letterI
  cases decide (97 ≤ c) <;> cases decide (c ≤ 122) <;> cases decide (65 ≤ c) <;> cases decide (c ≤ 90) <;> rfl
def charB (b : UInt8) : Bool := letterI b.toNat || otherI b.toNat
def isName (l : List UInt8) : Bool := match l with
  | [] => false
  | b :: r => decide (l.length ≤ 40) && (letterI b.toNat && r.all charB)
theorem f45n2L_at (bc : ByteArray) : ∀ (l : List UInt8) (v : Int), f45n2L bc l v = some (bif l.all charB then .exit0 else .ret)
  | [], v => rfl
  | b :: r, v => by
    rw [f45n2L, f62_eq]
    simp only [Option.bind_some, f45n2L_at bc r, lt_not, List.all_cons, charB, otherI]
    cases letterI b.toNat <;> cases decide ((48 : Int) ≤ (b.toNat : Int)) <;> cases decide ((b.toNat : Int) ≤ 57) <;> cases decide ((b.toNat : Int) = 95) <;> cases decide ((b.toNat : Int) = 45) <;> rfl
theorem size_list' (s : ByteArray) : s.size = s.data.toList.length := rfl
theorem f45_eq (s : ByteArray) : f45 s = some (isName s.data.toList) := by
  unfold f45 f45n0 f45n1
  rw [size_list']
  by_cases hs : s.data.toList.length ≤ 40
  · have hm : s.data.toList.length ≤ maxLen := Nat.le_trans hs (by unfold maxLen; decide)
    rw [f45n2_run s hm, f45n2L_at]
    generalize s.data.toList = l at hs hm
    cases l with
    | nil => rfl
    | cons b r =>
      have h1 : ¬ (((b :: r).length : Nat) : Int) < 1 := by simp; omega
      have h2 : ¬ (40 : Int) < (((b :: r).length : Nat) : Int) := by omega
      rw [decide_eq_false h1, decide_eq_false h2]
      have h0 : at? (b :: r) 0 = some b := rfl
      simp only [cond_false, h0, Option.bind_some, f62_eq, isName, List.all_cons, charB, decide_eq_true hs]
      cases letterI b.toNat <;> cases r.all charB <;> cases otherI b.toNat <;> rfl
  · have h1 : ¬ ((s.data.toList.length : Nat) : Int) < 1 := by omega
    have h2 : (40 : Int) < ((s.data.toList.length : Nat) : Int) := by omega
    rw [decide_eq_false h1, decide_eq_true h2]
    have : isName s.data.toList = false := by
      generalize s.data.toList = l at hs
      cases l with
      | nil => rfl
      | cons b r => simp only [isName, decide_eq_false hs, Bool.false_and]
    rw [this]; rfl
def nameB (s : ByteArray) : Bool := isName s.data.toList
def partyB (s : ByteArray) : Bool := !(seq s str_house) && nameB s
theorem f44_eq (s : ByteArray) : f44 s = some (partyB s) := by
  unfold f44 f44n0 partyB nameB
  rw [f45_eq]
  cases seq s str_house <;> rfl

def inR (n lim : Int) : Bool := decide (-lim ≤ n) && decide (n ≤ lim)
theorem f37_eq (n : Int) {lim : Int} (h0 : 0 ≤ lim) (h : lim ≤ 9223372036854775807) : f37 n lim = some (inR n lim) := by
  unfold f37 f37n0 inR
  rw [show wr64 (0 - lim) = -lim from w64 (by omega) (by omega) (by omega)]
  cases decide (-lim ≤ n) <;> rfl
theorem f37_q (n : Int) : f37 n 1048576 = some (inR n 1048576) := f37_eq n (by decide) (by decide)
theorem f37_b (n : Int) : f37 n 1125899906842624 = some (inR n 1125899906842624) := f37_eq n (by decide) (by decide)
theorem f37_p (n : Int) : f37 n 536870912 = some (inR n 536870912) := f37_eq n (by decide) (by decide)
theorem inR_iff {n lim : Int} : inR n lim = true ↔ -lim ≤ n ∧ n ≤ lim := by simp [inR]
def zeroP (x : VP) : Bool := decide (x.Quantity = 0) && decide (x.Basis = 0)
theorem eqb_zero (x : VP) : VariationPosition.eqb x (VariationPosition.mk x.Member x.Product 0 0) = zeroP x := by
  unfold VariationPosition.eqb zeroP
  rw [seq_refl, seq_refl]; rfl
def keyLt (a b : VP) : Bool := slt a.Member b.Member || (seq a.Member b.Member && slt a.Product b.Product)
def cmpK (a b : VP) : Int := bif decide (cmpB a.Member b.Member = 0) then cmpB a.Product b.Product else cmpB a.Member b.Member
theorem f66_two (x y : Int) : f66 [x, y] = some (bif decide (x = 0) then y else x) := by
  unfold f66 f66n0 f66n1
  rw [f66n2_run [x, y] (by show (2 : Nat) ≤ maxLen; unfold maxLen; decide)]
  by_cases hx : x = 0
  · by_cases hy : y = 0
    · subst hx; subst hy; rfl
    · simp only [f66n2L, decide_eq_true hx, decide_eq_false hy, cond_true, cond_false, Option.bind_some]
  · simp only [f66n2L, decide_eq_false hx, cond_false, Option.bind_some]
theorem f53_eq (a b : VP) : f53 a b = some (cmpK a b) := by
  unfold f53 f53n0
  rw [f40_val, f40_val]
  simp only [Option.bind_some]
  rw [f66_two]
  rfl
theorem cmpK_neg (a b : VP) : decide (cmpK a b < 0) = keyLt a b := by
  unfold cmpK keyLt
  cases h : slt a.Member b.Member with
  | true =>
    have h1 := cmpB_neg.2 h
    rw [decide_eq_false (by omega : ¬ cmpB a.Member b.Member = 0)]
    simp [h1]
  | false =>
    cases k : seq a.Member b.Member with
    | true =>
      rw [decide_eq_true (cmpB_zero.2 (seq_iff.1 k))]
      simp only [cond_true, Bool.false_or, Bool.true_and]
      cases h2 : slt a.Product b.Product with
      | true => exact decide_eq_true (cmpB_neg.2 h2)
      | false => exact decide_eq_false fun h3 => by rw [cmpB_neg.1 h3] at h2; cases h2
    | false =>
      have h1 : ¬ cmpB a.Member b.Member = 0 := fun e => by rw [seq_iff.2 (cmpB_zero.1 e)] at k; cases k
      have h2 : ¬ cmpB a.Member b.Member < 0 := fun e => by rw [cmpB_neg.1 e] at h; cases h
      rw [decide_eq_false h1]
      simp only [cond_false, decide_eq_false h2, Bool.false_and, Bool.or_self]
theorem cmpK_zero {a b : VP} : cmpK a b = 0 ↔ a.Member = b.Member ∧ a.Product = b.Product := by
  unfold cmpK
  by_cases h : cmpB a.Member b.Member = 0
  · rw [decide_eq_true h]; simp only [cond_true, cmpB_zero]; exact ⟨fun k => ⟨cmpB_zero.1 h, k⟩, fun k => k.2⟩
  · rw [decide_eq_false h]; simp only [cond_false]; exact ⟨fun k => absurd k h, fun k => absurd (cmpB_zero.2 k.1) h⟩

def goodP (x : VP) : Bool := inR x.Quantity 1048576 && (inR x.Basis 1125899906842624 && (!zeroP x && (partyB x.Member && nameB x.Product)))
def ordAt : Option VP → VP → Bool
  | none, _ => true
  | some y, x => keyLt y x
def okL : Option VP → List VP → Bool
  | _, [] => true
  | p, x :: r => ordAt p x && (goodP x && okL (some x) r)
def accL : List VP → List (ByteArray × Sums_) → List (ByteArray × Sums_)
  | [], m => m
  | x :: r, m => accL r (mPut seq x.Product (Sums_.mk (wr64 ((mGet seq (Sums_.mk 0 0) x.Product m).quantity + x.Quantity)) (wr64 ((mGet seq (Sums_.mk 0 0) x.Product m).basis + x.Basis))) m)
theorem f26n2L_at (s : Variation) : ∀ (l pre : List VP) (m : List (ByteArray × Sums_)), s.Positions = pre ++ l → s.Positions.length ≤ 1000 → f26n2L s l ((pre.length : Nat) : Int) m = some (bif okL pre.getLast? l then .exit0 (accL l m) else .ret)
  | [], pre, m, _, _ => rfl
  | x :: r, pre, m, h, hb => by
    have ih := f26n2L_at s r (pre ++ [x]) (mPut seq x.Product (Sums_.mk (wr64 ((mGet seq (Sums_.mk 0 0) x.Product m).quantity + x.Quantity)) (wr64 ((mGet seq (Sums_.mk 0 0) x.Product m).basis + x.Basis))) m) (by rw [h]; simp) hb
    rw [List.length_append, List.getLast?_concat, show (((pre.length + [x].length : Nat)) : Int) = (pre.length : Int) + 1 from by simp] at ih
    have e45 : f45 x.Product = some (nameB x.Product) := f45_eq _
    rw [f26n2L]
    simp only [f37_q, f37_b, Option.bind_some, eqb_zero, f44_eq, e45, ih, okL, goodP]
    rcases List.eq_nil_or_concat pre with rfl | ⟨q, y, rfl⟩
    · simp only [List.length_nil, Int.natCast_zero, decide_true, cond_true, List.getLast?_nil, ordAt, Bool.true_and]
      cases inR x.Quantity 1048576 <;> cases inR x.Basis 1125899906842624 <;> cases zeroP x <;> cases partyB x.Member <;> cases nameB x.Product <;> cases okL (some x) r <;> rfl
    · rw [List.concat_eq_append] at h ⊢
      have hne : ¬ (((q ++ [y]).length : Nat) : Int) = 0 := by simp; omega
      have hlen : q.length + 1 ≤ 1000 := by rw [h] at hb; simp at hb; omega
      have hw : wr64 ((((q ++ [y]).length : Nat) : Int) - 1) = ((q.length : Nat) : Int) := w64 (by simp) (by omega) (by omega)
      have hat : at? s.Positions ((q.length : Nat) : Int) = some y := by rw [at_nat, h]; simp
      rw [decide_eq_false hne, hw, hat, List.getLast?_concat]
      simp only [cond_false, Option.bind_some, f53_eq, cmpK_neg, ordAt]
      cases inR x.Quantity 1048576 <;> cases inR x.Basis 1125899906842624 <;> cases zeroP x <;> cases partyB x.Member <;> cases nameB x.Product <;> cases okL (some x) r <;> cases keyLt y x <;> rfl
def zeroM (m : List (ByteArray × Sums_)) : Bool := m.all fun x => Sums_.eqb x.2 (Sums_.mk 0 0)
theorem f26n4_eq (bd : List (ByteArray × Sums_)) : ∀ l : List (ByteArray × Sums_), f26n4 bd l = some (bif zeroM l then .exit2 else .ret)
  | [] => rfl
  | x :: r => by
    rw [f26n4, f26n4_eq bd r, zeroM, zeroM, List.all_cons]
    cases Sums_.eqb x.2 (Sums_.mk 0 0) <;> rfl
theorem f26n3_eq (bd : List (ByteArray × Sums_)) : f26n3 bd = some (bif zeroM bd then .norm else .ret) := by
  unfold f26n3
  have hp : ∀ p, p.Perm bd → f26n4 bd p = some (bif zeroM bd then .exit2 else .ret) := fun p hp => by
    rw [f26n4_eq, zeroM, hp.all_eq]; rfl
  rw [anyOrder_of hp]
  cases zeroM bd <;> rfl
def checkB (s : Variation) : Bool := decide (0 ≤ s.Day) && (decide (s.Day ≤ 99999) && (decide (s.Positions.length ≤ 200) && (okL none s.Positions && zeroM (accL s.Positions []))))
theorem f26_eq (s : Variation) : f26 s = some (bif checkB s then 0 else 8) := by
  unfold f26 f26n0 f26n1 checkB
  rw [lt_not, lt_not, lt_not, show decide ((s.Positions.length : Int) ≤ 200) = decide (s.Positions.length ≤ 200) from dec_nat _ 200]
  by_cases hl : s.Positions.length ≤ 200
  · have hm : s.Positions.length ≤ maxLen := Nat.le_trans hl (by unfold maxLen; decide)
    rw [f26n2_run s [] hm]
    have := f26n2L_at s s.Positions [] [] rfl (by omega)
    rw [show (((([] : List VP).length : Nat)) : Int) = 0 from rfl, List.getLast?_nil] at this
    rw [this, decide_eq_true hl]
    cases decide (0 ≤ s.Day) with
    | false => rfl
    | true => cases decide (s.Day ≤ 99999) with
      | false => rfl
      | true => cases okL none s.Positions with
        | false => rfl
        | true =>
          simp only [Bool.not_true, cond_false, cond_true, Option.bind_some, f26n3_eq, Bool.true_and]
          cases zeroM (accL s.Positions []) <;> rfl
  · rw [decide_eq_false hl]
    cases decide (0 ≤ s.Day) <;> cases decide (s.Day ≤ 99999) <;> rfl
end Go.Proofs.Ytelblamgfbkhbaa
namespace Go.Proofs.Ytelblamgfbkhbaa
set_option linter.unusedVariables false
set_option linter.unusedSimpArgs false
open Go.RowKit
theorem wr_l (a b : Int) : wr64 (wr64 a + b) = wr64 (a + b) := by
  show IntKind.i64.wrap (IntKind.i64.wrap a + b) = IntKind.i64.wrap (a + b)
  simp only [IntKind.wrap_i64]; omega

theorem keyLt_iff {a b : VP} : keyLt a b = true ↔ slt a.Member b.Member = true ∨ (a.Member = b.Member ∧ slt a.Product b.Product = true) := by
  unfold keyLt
  rw [Bool.or_eq_true, Bool.and_eq_true, seq_iff]
theorem keyLt_trans {a b c : VP} (h : keyLt a b = true) (k : keyLt b c = true) : keyLt a c = true := by
  rw [keyLt_iff] at *
  rcases h with h | ⟨h, h'⟩ <;> rcases k with k | ⟨k, k'⟩
  · exact .inl (slt_trans h k)
  · exact .inl (by rw [← k]; exact h)
  · exact .inl (by rw [h]; exact k)
  · exact .inr ⟨h.trans k, slt_trans h' k'⟩
def sameK (a b : VP) : Bool := seq a.Member b.Member && seq a.Product b.Product
theorem sameK_iff {a b : VP} : sameK a b = true ↔ a.Member = b.Member ∧ a.Product = b.Product := by
  unfold sameK
  rw [Bool.and_eq_true, seq_iff, seq_iff]
theorem cmpK_same (a b : VP) : decide (cmpK a b = 0) = sameK a b := by
  cases h : sameK a b with
  | true => exact decide_eq_true (cmpK_zero.2 (sameK_iff.1 h))
  | false => exact decide_eq_false fun e => by rw [sameK_iff.2 (cmpK_zero.1 e)] at h; cases h
theorem keyLt_total {a b : VP} (h : keyLt a b = false) (k : sameK a b = false) : keyLt b a = true := by
  rw [keyLt_iff]
  unfold keyLt sameK at *
  rw [Bool.or_eq_false_iff] at h
  cases m : slt b.Member a.Member with
  | true => exact .inl rfl
  | false =>
    have e := slt_total h.1 m
    rw [e, seq_refl, Bool.true_and] at k h
    have h2 : slt a.Product b.Product = false := h.2
    cases n : slt b.Product a.Product with
    | true => exact .inr ⟨e.symm, rfl⟩
    | false => rw [slt_total h2 n, seq_refl] at k; cases k
theorem keyLt_r {a b c : VP} (h : sameK a b = true) : keyLt c a = keyLt c b := by
  obtain ⟨h1, h2⟩ := sameK_iff.1 h
  unfold keyLt; rw [h1, h2]
abbrev Srt (l : List VP) : Prop := l.Pairwise fun a b => keyLt a b = true
theorem okL_some : ∀ {l : List VP} {p : VP}, okL (some p) l = true ↔ (p :: l).Pairwise (fun a b => keyLt a b = true) ∧ ∀ x ∈ l, goodP x = true
  | [], p => by simp [okL]
  | y :: r, p => by
    rw [okL, ordAt, Bool.and_eq_true, Bool.and_eq_true, okL_some (l := r)]
    constructor
    · rintro ⟨h1, h2, h3, h4⟩
      refine ⟨List.pairwise_cons.2 ⟨fun z hz => ?_, h3⟩, fun z hz => ?_⟩
      · rcases List.mem_cons.1 hz with rfl | hz
        · exact h1
        · exact keyLt_trans h1 ((List.pairwise_cons.1 h3).1 z hz)
      · rcases List.mem_cons.1 hz with rfl | hz
        · exact h2
        · exact h4 z hz
    · rintro ⟨h1, h2⟩
      have h3 := List.pairwise_cons.1 h1
      exact ⟨h3.1 y List.mem_cons_self, h2 y List.mem_cons_self, h3.2, fun z hz => h2 z (List.mem_cons_of_mem _ hz)⟩
theorem okL_none {l : List VP} : okL none l = true ↔ Srt l ∧ ∀ x ∈ l, goodP x = true := by
  cases l with
  | nil => simp [okL]
  | cons y r =>
    rw [okL, ordAt, Bool.and_eq_true, Bool.and_eq_true, okL_some]
    constructor
    · rintro ⟨_, h2, h3, h4⟩
      refine ⟨h3, fun z hz => ?_⟩
      rcases List.mem_cons.1 hz with rfl | hz
      · exact h2
      · exact h4 z hz
    · rintro ⟨h1, h2⟩
      exact ⟨rfl, h2 y List.mem_cons_self, h1, fun z hz => h2 z (List.mem_cons_of_mem _ hz)⟩
section
variable {V : Type}
theorem get_put (z v : V) (k q : ByteArray) : ∀ m : List (ByteArray × V), mGet seq z q (mPut seq k v m) = bif seq q k then v else mGet seq z q m
  | [] => by simp [mPut, mGet]
  | (a, w) :: r => by
    simp only [mPut, mGet]
    cases hk : seq k a with
    | true =>
      have := seq_iff.1 hk; subst this
      simp only [cond_true, mGet]
      cases seq q k <;> rfl
    | false =>
      simp only [cond_false, mGet]
      cases hq : seq q a with
      | true =>
        have := seq_iff.1 hq; subst this
        simp only [cond_true]
        cases h : seq q k with
        | true => have := seq_iff.1 h; subst this; rw [seq_refl] at hk; cases hk
        | false => rfl
      | false => simp only [cond_false]; exact get_put z v k q r
abbrev ndM (m : List (ByteArray × V)) : Prop := m.Pairwise fun a b => a.1 ≠ b.1
theorem put_mem {k : ByteArray} {v : V} {x : ByteArray × V} : ∀ {m : List (ByteArray × V)}, x ∈ mPut seq k v m → x = (k, v) ∨ x ∈ m
  | [], h => by left; simpa [mPut] using h
  | (a, w) :: r, h => by
    rw [mPut] at h
    cases hk : seq k a with
    | true =>
      rw [hk, cond_true] at h
      have := seq_iff.1 hk; subst this
      rcases List.mem_cons.1 h with h | h
      · exact .inl h
      · exact .inr (List.mem_cons_of_mem _ h)
    | false =>
      rw [hk, cond_false] at h
      rcases List.mem_cons.1 h with h | h
      · exact .inr (by rw [h]; exact List.mem_cons_self)
      · rcases put_mem h with h | h
        · exact .inl h
        · exact .inr (List.mem_cons_of_mem _ h)
theorem put_nd {k : ByteArray} {v : V} : ∀ {m : List (ByteArray × V)}, ndM m → ndM (mPut seq k v m)
  | [], _ => by simp [mPut, ndM]
  | (a, w) :: r, h => by
    have h' := List.pairwise_cons.1 h
    rw [mPut]
    cases hk : seq k a with
    | true => exact List.pairwise_cons.2 ⟨fun y hy => h'.1 y hy, h'.2⟩
    | false =>
      refine List.pairwise_cons.2 ⟨fun y hy => ?_, put_nd h'.2⟩
      rcases put_mem hy with rfl | hy
      · intro e
        have e' : a = k := e
        rw [e', seq_refl] at hk; cases hk
      · exact h'.1 y hy
theorem get_mem {z : V} {k : ByteArray} {v : V} : ∀ {m : List (ByteArray × V)}, ndM m → (k, v) ∈ m → mGet seq z k m = v
  | (a, w) :: r, h, hm => by
    have h' := List.pairwise_cons.1 h
    rw [mGet]
    rcases List.mem_cons.1 hm with e | hm
    · have e1 : k = a := congrArg Prod.fst e
      have e2 : v = w := congrArg Prod.snd e
      rw [e1, e2, seq_refl]; rfl
    · cases hk : seq k a with
      | true => exact absurd (seq_iff.1 hk).symm (h'.1 _ hm)
      | false => exact get_mem h'.2 hm
end
def sm (w : VP → Int) : List VP → Int
  | [] => 0
  | x :: r => w x + sm w r
theorem sm_app (w : VP → Int) : ∀ l r : List VP, sm w (l ++ r) = sm w l + sm w r
  | [], r => by simp [sm]
  | x :: l, r => by simp only [List.cons_append, sm, sm_app w l r]; omega
theorem sm_bound (w : VP → Int) (b : Int) : ∀ l : List VP, (∀ x ∈ l, -b ≤ w x ∧ w x ≤ b) → -(b * l.length) ≤ sm w l ∧ sm w l ≤ b * l.length
  | [], _ => by simp [sm]
  | x :: r, h => by
    have h1 := h x List.mem_cons_self
    have h2 := sm_bound w b r fun y hy => h y (List.mem_cons_of_mem _ hy)
    simp only [sm, List.length_cons, Int.natCast_add, Int.mul_add]
    simp only [Int.natCast_one, Int.mul_one]
    omega
def wq (p : ByteArray) (x : VP) : Int := bif seq x.Product p then x.Quantity else 0
def wb (p : ByteArray) (x : VP) : Int := bif seq x.Product p then x.Basis else 0
theorem acc_get (p : ByteArray) : ∀ (l : List VP) (m : List (ByteArray × Sums_)) (a b : Int), mGet seq (Sums_.mk 0 0) p m = ⟨wr64 a, wr64 b⟩ → mGet seq (Sums_.mk 0 0) p (accL l m) = ⟨wr64 (a + sm (wq p) l), wr64 (b + sm (wb p) l)⟩
  | [], m, a, b, h => by simpa [accL, sm] using h
  | x :: r, m, a, b, h => by
    rw [accL, acc_get p r _ (a + wq p x) (b + wb p x)]
    · simp only [sm, Int.add_assoc]
    · rw [get_put]
      cases hk : seq p x.Product with
      | true =>
        have := seq_iff.1 hk; subst this
        simp only [cond_true, h, wr_l, wq, wb, seq_refl]
      | false =>
        have : seq x.Product p = false := by
          cases k : seq x.Product p with
          | false => rfl
          | true => rw [seq_iff.1 k, seq_refl] at hk; cases hk
        simp only [cond_false, h, wq, wb, this, Int.add_zero]
theorem acc_nd : ∀ (l : List VP) {m : List (ByteArray × Sums_)}, ndM m → ndM (accL l m)
  | [], m, h => h
  | x :: r, m, h => acc_nd r (put_nd h)
theorem acc_nil (p : ByteArray) (l : List VP) : mGet seq (Sums_.mk 0 0) p (accL l []) = ⟨wr64 (sm (wq p) l), wr64 (sm (wb p) l)⟩ := by
  have := acc_get p l [] 0 0 rfl
  simpa using this
theorem zget {m : List (ByteArray × Sums_)} (h : zeroM m = true) (p : ByteArray) : mGet seq (Sums_.mk 0 0) p m = ⟨0, 0⟩ := by
  induction m with
  | nil => rfl
  | cons x r ih =>
    obtain ⟨k, ⟨a, b⟩⟩ := x
    unfold zeroM at h
    rw [List.all_cons, Bool.and_eq_true] at h
    have h1 := h.1
    simp only [Sums_.eqb, Bool.and_eq_true, decide_eq_true_eq] at h1
    rw [mGet, ih h.2, h1.1, h1.2]
    cases seq p k <;> rfl
def Flat (l : List VP) : Prop := ∀ p, sm (wq p) l = 0 ∧ sm (wb p) l = 0
theorem good_q {x : VP} (h : goodP x = true) : -1048576 ≤ x.Quantity ∧ x.Quantity ≤ 1048576 := by
  unfold goodP at h; rw [Bool.and_eq_true] at h; exact inR_iff.1 h.1
theorem good_b {x : VP} (h : goodP x = true) : -1125899906842624 ≤ x.Basis ∧ x.Basis ≤ 1125899906842624 := by
  unfold goodP at h; rw [Bool.and_eq_true, Bool.and_eq_true] at h; exact inR_iff.1 h.2.1
theorem wq_bound {l : List VP} (h : ∀ x ∈ l, goodP x = true) (hl : l.length ≤ 200) (p : ByteArray) : -209715200 ≤ sm (wq p) l ∧ sm (wq p) l ≤ 209715200 := by
  have := sm_bound (wq p) 1048576 l fun x hx => by
    have := good_q (h x hx)
    unfold wq
    cases seq x.Product p <;> simp only [cond_true, cond_false] <;> omega
  omega
theorem wb_bound {l : List VP} (h : ∀ x ∈ l, goodP x = true) (hl : l.length ≤ 200) (p : ByteArray) : -225179981368524800 ≤ sm (wb p) l ∧ sm (wb p) l ≤ 225179981368524800 := by
  have := sm_bound (wb p) 1125899906842624 l fun x hx => by
    have := good_b (h x hx)
    unfold wb
    cases seq x.Product p <;> simp only [cond_true, cond_false] <;> omega
  omega
theorem zeroM_iff {l : List VP} (h : ∀ x ∈ l, goodP x = true) (hl : l.length ≤ 200) : zeroM (accL l []) = true ↔ Flat l := by
  constructor
  · intro hz p
    have h1 := acc_nil p l
    rw [zget hz p, Sums_.mk.injEq] at h1
    have h2 := wq_bound h hl p
    have h3 := wb_bound h hl p
    rw [wr_in (by omega) (by omega), wr_in (by omega) (by omega)] at h1
    exact ⟨h1.1.symm, h1.2.symm⟩
  · intro hf
    unfold zeroM
    rw [List.all_eq_true]
    rintro ⟨k, v⟩ hx
    have h1 := get_mem (z := Sums_.mk 0 0) (acc_nd l (m := []) List.Pairwise.nil) hx
    rw [acc_nil, (hf k).1, (hf k).2] at h1
    rw [← h1]; rfl
structure Ok (s : Variation) : Prop where
  d0 : 0 ≤ s.Day
  d1 : s.Day ≤ 99999
  len : s.Positions.length ≤ 200
  srt : Srt s.Positions
  good : ∀ x ∈ s.Positions, goodP x = true
  flat : Flat s.Positions
theorem check_iff {s : Variation} : checkB s = true ↔ Ok s := by
  unfold checkB
  simp only [Bool.and_eq_true, decide_eq_true_eq, okL_none]
  constructor
  · rintro ⟨h1, h2, h3, ⟨h4, h5⟩, h6⟩
    exact ⟨h1, h2, h3, h4, h5, (zeroM_iff h5 h3).1 h6⟩
  · rintro ⟨h1, h2, h3, h4, h5, h6⟩
    exact ⟨h1, h2, h3, ⟨h4, h5⟩, (zeroM_iff h5 h3).2 h6⟩

abbrev midI (lo hi : Int) : Int := wr64 (shrK .u64 (wru64 (wr64 (lo + hi))) 1)
theorem mid_eq {lo hi : Nat} (h : lo + hi ≤ 1000000) : midI lo hi = (((lo + hi) / 2 : Nat) : Int) := by
  have h1 : wr64 ((lo : Int) + (hi : Int)) = ((lo + hi : Nat) : Int) := by rw [wr_in (by omega) (by omega)]; omega
  have h2 : wru64 ((lo + hi : Nat) : Int) = ((lo + hi : Nat) : Int) := by
    show IntKind.u64.wrap _ = _
    rw [IntKind.wrap_u64]; omega
  unfold midI
  rw [h1, h2]
  have h3 : shrK .u64 ((lo + hi : Nat) : Int) 1 = (((lo + hi) / 2 : Nat) : Int) := by
    show Int.fdiv _ (2 ^ (min (1 : Int).toNat IntKind.u64.bits)) = _
    have : (2 : Int) ^ (min (1 : Int).toNat IntKind.u64.bits) = 2 := by decide
    rw [this, Int.fdiv_eq_ediv_of_nonneg _ (by omega)]
    omega
  rw [h3, wr_in (by omega) (by omega)]
def bsr {α : Type} (c : α → Int) (l : List α) : Nat → Int → Int → Option Int
  | 0, _, _ => none
  | f + 1, lo, hi => bif decide (lo < hi) then (at? l (midI lo hi)).bind fun x => bif decide (c x < 0) then bsr c l f (wr64 (midI lo hi + 1)) hi else bsr c l f lo (midI lo hi) else some lo
theorem bsr_ok {α : Type} (c : α → Int) (l : List α) (hl : l.length ≤ 400000) (mono : ∀ (i j : Nat) (x y : α), i ≤ j → l[i]? = some x → l[j]? = some y → c y < 0 → c x < 0) :
    ∀ (f lo hi : Nat), lo ≤ hi → hi ≤ l.length → hi - lo < f → (∀ (j : Nat) (x : α), j < lo → l[j]? = some x → c x < 0) → (∀ (j : Nat) (x : α), hi ≤ j → l[j]? = some x → ¬ c x < 0) →
      ∃ i : Nat, bsr c l f lo hi = some (i : Int) ∧ i ≤ l.length ∧ (∀ (j : Nat) (x : α), j < i → l[j]? = some x → c x < 0) ∧ (∀ (j : Nat) (x : α), i ≤ j → l[j]? = some x → ¬ c x < 0)
  | 0, lo, hi, _, _, h, _, _ => by omega
  | f + 1, lo, hi, h1, h2, h3, h4, h5 => by
    rw [bsr]
    by_cases h : lo < hi
    · have hm : (lo + hi) / 2 < l.length := by omega
      obtain ⟨x, hx⟩ : ∃ x, l[(lo + hi) / 2]? = some x := ⟨l[(lo + hi) / 2], List.getElem?_eq_getElem hm⟩
      rw [decide_eq_true (by omega : (lo : Int) < (hi : Int)), mid_eq (by omega), at_nat, hx]
      simp only [cond_true, Option.bind_some]
      by_cases hc : c x < 0
      · rw [decide_eq_true hc, cond_true, wr_in (by omega) (by omega)]
        have := bsr_ok c l hl mono f ((lo + hi) / 2 + 1) hi (by omega) h2 (by omega) (fun j y hj hy => mono j _ y x (by omega) hy hx hc) h5
        simpa using this
      · rw [decide_eq_false hc, cond_false]
        exact bsr_ok c l hl mono f lo ((lo + hi) / 2) (by omega) (by omega) (by omega) h4 fun j y hj hy e => hc (mono _ j x y hj hx hy e)
    · rw [decide_eq_false (by omega : ¬ (lo : Int) < (hi : Int)), cond_false]
      have : lo = hi := by omega
      subst this
      exact ⟨lo, rfl, h2, h4, h5⟩
theorem bsr_split {α : Type} (c : α → Int) (l : List α) (hl : l.length ≤ 400000) (mono : ∀ (i j : Nat) (x y : α), i ≤ j → l[i]? = some x → l[j]? = some y → c y < 0 → c x < 0) :
    ∃ pre post : List α, l = pre ++ post ∧ bsr c l FUEL 0 l.length = some (pre.length : Int) ∧ (∀ x ∈ pre, c x < 0) ∧ (∀ x ∈ post, ¬ c x < 0) := by
  obtain ⟨i, h1, h2, h3, h4⟩ := bsr_ok c l hl mono FUEL 0 l.length (by omega) (by omega) (by unfold FUEL; omega) (fun j x hj => by omega) (fun j x hj hx => by have := lt_of_at hx; omega)
  refine ⟨l.take i, l.drop i, (List.take_append_drop i l).symm, ?_, fun x hx => ?_, fun x hx => ?_⟩
  · rw [List.length_take, Nat.min_eq_left h2]; exact h1
  · obtain ⟨j, hj⟩ := List.mem_iff_getElem?.1 hx
    have := lt_of_at hj
    rw [List.length_take] at this
    rw [List.getElem?_take_of_lt (by omega)] at hj
    exact h3 j x (by omega) hj
  · obtain ⟨j, hj⟩ := List.mem_iff_getElem?.1 hx
    rw [List.getElem?_drop] at hj
    exact h4 (i + j) x (by omega) hj
theorem f63_53n1_eq (l : List VP) (k : VP) : ∀ (f : Nat) (lo hi : Int), f63_53n1 f l k lo hi = (bsr (fun x => cmpK x k) l f lo hi).map .exit0
  | 0, lo, hi => rfl
  | f + 1, lo, hi => by
    rw [f63_53n1, bsr]
    cases decide (lo < hi) with
    | false => rfl
    | true =>
      simp only [cond_true]
      cases at? l (midI lo hi) with
      | none => rfl
      | some x =>
        simp only [Option.bind_some, f53_eq, f63_53n1_eq l k f]
        cases decide (cmpK x k < 0) <;> rfl
def headB (g : VP → Bool) : List VP → Bool
  | [] => false
  | x :: _ => g x
theorem f63_53_eq {l : List VP} (hs : Srt l) (hl : l.length ≤ 400000) (k : VP) : ∃ pre post : List VP, l = pre ++ post ∧ f63_53 l k = some ((pre.length : Int), headB (fun x => sameK x k) post) ∧ (∀ x ∈ pre, keyLt x k = true) ∧ (∀ x ∈ post, keyLt x k = false) := by
  obtain ⟨pre, post, h1, h2, h3, h4⟩ := bsr_split (fun x => cmpK x k) l hl fun i j x y hij hx hy hc => by
    rcases Nat.lt_or_ge i j with h | h
    · have h1 := List.pairwise_iff_getElem.1 hs i j (lt_of_at hx) (lt_of_at hy) h
      rw [(List.getElem?_eq_some_iff.1 hx).2, (List.getElem?_eq_some_iff.1 hy).2] at h1
      have h2 : keyLt y k = true := by rw [← cmpK_neg]; exact decide_eq_true hc
      have := keyLt_trans h1 h2
      rw [← cmpK_neg] at this
      exact of_decide_eq_true this
    · have : i = j := by omega
      subst this
      rw [hx] at hy; obtain rfl := Option.some.inj hy; exact hc
  refine ⟨pre, post, h1, ?_, fun x hx => by rw [← cmpK_neg]; exact decide_eq_true (h3 x hx), fun x hx => by rw [← cmpK_neg]; exact decide_eq_false (h4 x hx)⟩
  unfold f63_53 f63_53n0
  rw [f63_53n1_eq, h2]
  simp only [Option.map_some, Option.bind_some]
  cases post with
  | nil =>
    rw [h1, decide_eq_false (by simp)]; rfl
  | cons x r =>
    have hx : l[pre.length]? = some x := by rw [h1]; simp
    rw [decide_eq_true (by have := lt_of_at hx; omega), at_nat, hx]
    simp only [cond_true, Option.bind_some, f53_eq, cmpK_same]
    rfl
end Go.Proofs.Ytelblamgfbkhbaa
namespace Go.Proofs.Ytelblamgfbkhbaa
set_option linter.unusedVariables false
set_option linter.unusedSimpArgs false
open Go.RowKit
def nz (x : VP) : List VP := bif zeroP x then [] else [x]
def upd (x : VP) (q b : Int) : VP := ⟨x.Member, x.Product, wr64 (x.Quantity + q), wr64 (x.Basis + b)⟩
def putL (k : VP) (q b : Int) : List VP → List VP
  | [] => nz (upd k q b)
  | x :: r => bif keyLt x k then x :: putL k q b r else bif sameK x k then nz (upd x q b) ++ r else nz (upd k q b) ++ x :: r
def putP (k : VP) (q b : Int) : List VP → VP
  | [] => upd k q b
  | x :: r => bif keyLt x k then putP k q b r else bif sameK x k then upd x q b else upd k q b
theorem putL_pre {k : VP} {q b : Int} : ∀ {pre post : List VP}, (∀ x ∈ pre, keyLt x k = true) → putL k q b (pre ++ post) = pre ++ putL k q b post ∧ putP k q b (pre ++ post) = putP k q b post
  | [], post, _ => ⟨rfl, rfl⟩
  | x :: pre, post, h => by
    have h1 := h x List.mem_cons_self
    have h2 := putL_pre (q := q) (b := b) (pre := pre) (post := post) fun y hy => h y (List.mem_cons_of_mem _ hy)
    simp only [List.cons_append, putL, putP, h1, cond_true, h2]
    exact ⟨trivial, trivial⟩
theorem f46r1_at {l pre r : List VP} {x : VP} {m p : ByteArray} {q b : Int} {f : Bool} (hl : pre.length ≤ 100000) (h1 : f63_53 l ⟨m, p, 0, 0⟩ = some ((pre.length : Int), f)) (h2 : f46r1n1 q b ((pre.length : Int), f) l m p = some (.norm (pre ++ x :: r))) (hm : x.Member = m) (hp : x.Product = p) :
    f46r1 m p q b l = some (pre ++ (nz (upd x q b) ++ r), upd x q b) := by
  subst hm hp
  have hat : at? (pre ++ x :: r) ((pre.length : Nat) : Int) = some x := by rw [at_nat]; simp
  have e := eqb_zero (upd x q b)
  simp only [upd] at e
  unfold f46r1 f46r1n0
  rw [h1]
  simp only [Option.bind_some]
  rw [h2]
  simp only [Option.bind_some]
  rw [hat]
  simp only [Option.bind_some, e, Int.toNat_natCast]
  unfold nz upd
  cases zeroP ⟨x.Member, x.Product, wr64 (x.Quantity + q), wr64 (x.Basis + b)⟩ with
  | false => simp
  | true =>
    have hw : wr64 ((pre.length : Int) + 1) = (pre.length : Int) + 1 := wr_in (by omega) (by omega)
    unfold de65
    rw [hw, decide_eq_true (by omega : (0 : Int) ≤ (pre.length : Int)), decide_eq_true (rfl : (pre.length : Int) + 1 = (pre.length : Int) + 1), decide_eq_true (by simp; omega : (pre.length : Int) < _)]
    simp
theorem fits52 {n : Nat} (h : n ≤ 1000000) : fitsB n te52 = true := by
  have : fit n 48 = true := fit_small h (by omega)
  exact fit_of this rfl
theorem f46r1_eq {l : List VP} (hs : Srt l) (hl : l.length ≤ 100000) (m p : ByteArray) (q b : Int) : f46r1 m p q b l = some (putL ⟨m, p, 0, 0⟩ q b l, putP ⟨m, p, 0, 0⟩ q b l) := by
  obtain ⟨pre, post, rfl, h2, h3, h4⟩ := f63_53_eq hs (by omega) ⟨m, p, 0, 0⟩
  obtain ⟨e1, e2⟩ := putL_pre (k := ⟨m, p, 0, 0⟩) (q := q) (b := b) (post := post) h3
  rw [List.length_append] at hl
  rw [e1, e2]
  have ins : f46r1n1 q b ((pre.length : Int), false) (pre ++ post) m p = some (.norm (pre ++ ⟨m, p, 0, 0⟩ :: post)) := by
    unfold f46r1n1 in64
    rw [cond_false]
    rw [fits52 (by rw [List.length_append]; omega), decide_eq_true (by omega : (0 : Int) ≤ (pre.length : Int)), decide_eq_true (by rw [List.length_append]; omega : (pre.length : Int) ≤ _)]
    simp
  cases post with
  | nil =>
    have := f46r1_at (by omega) h2 ins rfl rfl
    rw [List.append_nil (nz _)] at this
    exact this
  | cons x r =>
    have hx := h4 x List.mem_cons_self
    rw [putL, putP, hx, cond_false, cond_false]
    cases hk : sameK x ⟨m, p, 0, 0⟩ with
    | true =>
      rw [headB, hk] at h2
      exact f46r1_at (by omega) h2 rfl (sameK_iff.1 hk).1 (sameK_iff.1 hk).2
    | false =>
      rw [headB, hk] at h2
      exact f46r1_at (by omega) h2 ins rfl rfl

theorem nz_mem {x y : VP} : y ∈ nz x ↔ y = x ∧ zeroP x = false := by
  unfold nz
  cases zeroP x <;> simp
theorem putP_key (k : VP) (q b : Int) : ∀ l : List VP, sameK (putP k q b l) k = true
  | [] => by simp [putP, upd, sameK, seq_refl]
  | x :: r => by
    rw [putP]
    cases keyLt x k with
    | true => exact putP_key k q b r
    | false =>
      cases h : sameK x k with
      | true => exact h
      | false => simp [upd, sameK, seq_refl]
theorem put_mem' {k : VP} {q b : Int} {y : VP} : ∀ {l : List VP}, y ∈ putL k q b l → y ∈ l ∨ (y = putP k q b l ∧ zeroP y = false)
  | [], h => .inr (by have := nz_mem.1 h; exact ⟨this.1, by rw [this.1]; exact this.2⟩)
  | x :: r, h => by
    rw [putL] at h
    rw [putP]
    cases h1 : keyLt x k with
    | true =>
      rw [h1, cond_true] at h
      rcases List.mem_cons.1 h with h | h
      · exact .inl (by rw [h]; exact List.mem_cons_self)
      · rcases put_mem' h with h | h
        · exact .inl (List.mem_cons_of_mem _ h)
        · exact .inr h
    | false =>
      rw [h1, cond_false] at h
      cases h2 : sameK x k with
      | true =>
        rw [h2, cond_true] at h
        rcases List.mem_append.1 h with h | h
        · have := nz_mem.1 h; exact .inr ⟨this.1, by rw [this.1]; exact this.2⟩
        · exact .inl (List.mem_cons_of_mem _ h)
      | false =>
        rw [h2, cond_false] at h
        rcases List.mem_append.1 h with h | h
        · have := nz_mem.1 h; exact .inr ⟨this.1, by rw [this.1]; exact this.2⟩
        · exact .inl h
theorem put_len (k : VP) (q b : Int) : ∀ l : List VP, (putL k q b l).length ≤ l.length + 1
  | [] => by unfold putL nz; cases zeroP (upd k q b) <;> simp
  | x :: r => by
    have := put_len k q b r
    rw [putL]
    cases keyLt x k with
    | true => simp only [cond_true, List.length_cons]; omega
    | false => cases sameK x k with
      | true => unfold nz; cases zeroP (upd x q b) <;> simp <;> omega
      | false => unfold nz; cases zeroP (upd k q b) <;> simp
theorem put_srt {k : VP} {q b : Int} : ∀ {l : List VP}, Srt l → Srt (putL k q b l)
  | [], _ => by unfold putL nz; cases zeroP (upd k q b) <;> simp [Srt]
  | x :: r, h => by
    have h' := List.pairwise_cons.1 h
    rw [putL]
    cases h1 : keyLt x k with
    | true =>
      refine List.pairwise_cons.2 ⟨fun y hy => ?_, put_srt h'.2⟩
      rcases put_mem' hy with hy | ⟨rfl, _⟩
      · exact h'.1 y hy
      · rw [keyLt_r (putP_key k q b r)]; exact h1
    | false =>
      cases h2 : sameK x k with
      | true =>
        rw [cond_false, cond_true]
        unfold nz
        cases zeroP (upd x q b) with
        | true => exact h'.2
        | false => exact List.pairwise_cons.2 ⟨fun y hy => h'.1 y hy, h'.2⟩
      | false =>
        rw [cond_false, cond_false]
        unfold nz
        cases zeroP (upd k q b) with
        | true => exact h
        | false =>
          have h3 := keyLt_total h1 h2
          refine List.pairwise_cons.2 ⟨fun y hy => ?_, h⟩
          rcases List.mem_cons.1 hy with rfl | hy
          · exact h3
          · exact keyLt_trans h3 (h'.1 y hy)
theorem sm_nz {w : VP → Int} (h0 : ∀ x, zeroP x = true → w x = 0) (x : VP) : sm w (nz x) = w x := by
  unfold nz
  cases h : zeroP x with
  | true => simp [sm, h0 x h]
  | false => simp [sm]
theorem sm_put {w : VP → Int} {k : VP} {q b d : Int} (h0 : ∀ x, zeroP x = true → w x = 0) (hk : w (upd k q b) = d) : ∀ {l : List VP}, (∀ x ∈ l, sameK x k = true → w (upd x q b) = w x + d) → sm w (putL k q b l) = sm w l + d
  | [], _ => by rw [putL, sm_nz h0, hk]; simp [sm]
  | x :: r, h => by
    have ih := sm_put h0 hk (l := r) fun y hy => h y (List.mem_cons_of_mem _ hy)
    rw [putL]
    cases keyLt x k with
    | true => simp only [cond_true, sm, ih]; omega
    | false =>
      cases h2 : sameK x k with
      | true => simp only [cond_true, cond_false, sm_app, sm_nz h0, h x List.mem_cons_self h2, sm]; omega
      | false => simp only [cond_false, sm_app, sm_nz h0, hk, sm]; omega

def vl (k : VP) : List VP → Int × Int
  | [] => (0, 0)
  | x :: r => bif sameK x k then (x.Quantity, x.Basis) else vl k r
end Go.Proofs.Ytelblamgfbkhbaa
namespace Go.Proofs.Ytelblamgfbkhbaa
set_option linter.unusedVariables false
set_option linter.unusedSimpArgs false
open Go.RowKit
theorem mul_bd {a b : Int} {x y : Nat} (h : a.natAbs ≤ x) (k : b.natAbs ≤ y) : (a * b).natAbs ≤ x * y := by
  rw [Int.natAbs_mul]; exact Nat.mul_le_mul h k
theorem f47r1_eq {l : List VP} (h : l.length ≤ 1000000) : f47r1 l = some l := by
  unfold f47r1 f47r1n0
  cases l with
  | nil => rfl
  | cons x r => rw [req, fit_small h (by omega)]; rfl
abbrev kOf (m p : ByteArray) : VP := ⟨m, p, 0, 0⟩
def tA (s : Variation) (bu pr : ByteArray) (q p : Int) : VP := putP (kOf bu pr) q (q * p) s.Positions
def tL1 (s : Variation) (bu pr : ByteArray) (q p : Int) : List VP := putL (kOf bu pr) q (q * p) s.Positions
def tB (s : Variation) (bu se pr : ByteArray) (q p : Int) : VP := putP (kOf se pr) (-q) (-(q * p)) (tL1 s bu pr q p)
def tL2 (s : Variation) (bu se pr : ByteArray) (q p : Int) : List VP := putL (kOf se pr) (-q) (-(q * p)) (tL1 s bu pr q p)
def askB (bu se pr : ByteArray) (q p : Int) : Bool := partyB bu && (partyB se && (!(seq bu se) && (nameB pr && (decide (1 ≤ q) && (decide (q ≤ 1048576) && inR p 536870912)))))
def noV : Variation := ⟨0, []⟩
def tradeS (s : Variation) (bu se pr : ByteArray) (q p : Int) : Variation × Int :=
  bif checkB s then
    bif askB bu se pr q p then
      bif inR (tB s bu se pr q p).Quantity 1048576 && inR (tA s bu pr q p).Quantity 1048576 then
        bif inR (tB s bu se pr q p).Basis 1125899906842624 && inR (tA s bu pr q p).Basis 1125899906842624 then
          bif decide ((tL2 s bu se pr q p).length ≤ 200) then (⟨s.Day, tL2 s bu se pr q p⟩, 0) else (noV, 22)
        else (noV, 14)
      else (noV, 52)
    else (noV, 2)
  else (noV, 8)
structure Ask (bu se pr : ByteArray) (q p : Int) : Prop where
  bp : partyB bu = true
  sp : partyB se = true
  ne : seq bu se = false
  np : nameB pr = true
  q0 : 1 ≤ q
  q1 : q ≤ 1048576
  p0 : -536870912 ≤ p
  p1 : p ≤ 536870912
theorem ask_iff {bu se pr : ByteArray} {q p : Int} : askB bu se pr q p = true ↔ Ask bu se pr q p := by
  unfold askB
  simp only [Bool.and_eq_true, decide_eq_true_eq, Bool.not_eq_true', inR_iff]
  exact ⟨fun ⟨a, b, c, d, e, f, g, h⟩ => ⟨a, b, c, d, e, f, g, h⟩, fun ⟨a, b, c, d, e, f, g, h⟩ => ⟨a, b, c, d, e, f, g, h⟩⟩
theorem Ask.m {bu se pr : ByteArray} {q p : Int} (h : Ask bu se pr q p) : -562949953421312 ≤ q * p ∧ q * p ≤ 562949953421312 := by
  have := mul_bd (a := q) (b := p) (x := 1048576) (y := 536870912) (by have := h.q0; have := h.q1; omega) (by have := h.p0; have := h.p1; omega)
  omega
theorem f16_eq (s : Variation) (bu se pr : ByteArray) (q p : Int) : f16 s bu se pr q p = some (tradeS s bu se pr q p) := by
  have e45 : f45 pr = some (nameB pr) := f45_eq _
  unfold f16 f16n0 tradeS
  rw [f26_eq]
  cases hc : checkB s with
  | false => rfl
  | true =>
    have ok := check_iff.1 hc
    rw [lt_not, lt_not]
    simp only [cond_true, Option.bind_some, f44_eq, e45, f37_p, decide_true]
    cases ha : askB bu se pr q p with
    | false =>
      simp only [cond_false]
      unfold askB at ha
      revert ha
      cases partyB bu with
      | false => intro _; rfl
      | true => cases partyB se with
        | false => intro _; rfl
        | true => cases seq bu se with
          | true => intro _; rfl
          | false => cases nameB pr with
            | false => intro _; rfl
            | true => cases decide (1 ≤ q) with
              | false => intro _; rfl
              | true => cases decide (q ≤ 1048576) with
                | false => intro _; rfl
                | true => cases inR p 536870912 with
                  | false => intro _; rfl
                  | true => intro h; cases h
    | true =>
      have a := ask_iff.1 ha
      have hm := a.m
      have hq0 := a.q0
      have hq1 := a.q1
      have e1 : wr64 (q * p) = q * p := wr_in (by omega) (by omega)
      have e2 : wr64 (0 - q) = -q := w64 (by omega) (by omega) (by omega)
      have e3 : wr64 (-q * p) = -(q * p) := w64 (by rw [Int.neg_mul]) (by omega) (by omega)
      have e4 : f47r1 s.Positions = some s.Positions := f47r1_eq (by have := ok.len; omega)
      have e5 : f46r1 bu pr q (q * p) s.Positions = some (tL1 s bu pr q p, tA s bu pr q p) := f46r1_eq ok.srt (by have := ok.len; omega) _ _ _ _
      have e6 : f46r1 se pr (-q) (-(q * p)) (tL1 s bu pr q p) = some (tL2 s bu se pr q p, tB s bu se pr q p) := f46r1_eq (put_srt ok.srt) (by have := ok.len; have := put_len (kOf bu pr) q (q * p) s.Positions; omega) _ _ _ _
      have hp : inR p 536870912 = true := inR_iff.2 ⟨a.p0, a.p1⟩
      have hl : decide ((200 : Int) < ((tL2 s bu se pr q p).length : Int)) = !decide ((tL2 s bu se pr q p).length ≤ 200) := by rw [lt_not]; congr 1; exact dec_nat _ 200
      simp only [a.bp, a.sp, a.ne, a.np, decide_eq_true hq0, decide_eq_true hq1, hp, Bool.not_true, cond_true, cond_false, e1, e2, e3, e4, e5, e6, Option.bind_some, f37_q, f37_b, hl]
      cases inR (tB s bu se pr q p).Quantity 1048576 with
      | false => rfl
      | true => cases inR (tA s bu pr q p).Quantity 1048576 with
        | false => rfl
        | true => cases inR (tB s bu se pr q p).Basis 1125899906842624 with
          | false => rfl
          | true => cases inR (tA s bu pr q p).Basis 1125899906842624 with
            | false => rfl
            | true => cases decide ((tL2 s bu se pr q p).length ≤ 200) <;> rfl

abbrev Bd (l : List VP) : Prop := ∀ x ∈ l, (-1048576 ≤ x.Quantity ∧ x.Quantity ≤ 1048576) ∧ (-1125899906842624 ≤ x.Basis ∧ x.Basis ≤ 1125899906842624)
theorem zero_wq (p : ByteArray) (x : VP) (h : zeroP x = true) : wq p x = 0 := by
  unfold zeroP at h
  rw [Bool.and_eq_true, decide_eq_true_eq, decide_eq_true_eq] at h
  unfold wq; rw [h.1]; cases seq x.Product p <;> rfl
theorem zero_wb (p : ByteArray) (x : VP) (h : zeroP x = true) : wb p x = 0 := by
  unfold zeroP at h
  rw [Bool.and_eq_true, decide_eq_true_eq, decide_eq_true_eq] at h
  unfold wb; rw [h.2]; cases seq x.Product p <;> rfl
def wm (m : ByteArray) (x : VP) : Int := bif seq x.Member m then x.Basis else 0
theorem zero_wm (m : ByteArray) (x : VP) (h : zeroP x = true) : wm m x = 0 := by
  unfold zeroP at h
  rw [Bool.and_eq_true, decide_eq_true_eq, decide_eq_true_eq] at h
  unfold wm; rw [h.2]; cases seq x.Member m <;> rfl
section
variable {m p : ByteArray} {q b : Int} {l : List VP} (hb : Bd l) (hq : -1048576 ≤ q ∧ q ≤ 1048576) (hm : -1125899906842624 ≤ b ∧ b ≤ 1125899906842624)
include hb hq
theorem put_wq (g : ByteArray) : sm (wq g) (putL (kOf m p) q b l) = sm (wq g) l + bif seq p g then q else 0 := by
  refine sm_put (zero_wq g) ?_ fun x hx hk => ?_
  · simp only [wq, upd, kOf, Int.zero_add]
    rw [wr_in (n := q) (by omega) (by omega)]
  · have := (hb x hx).1
    have e : x.Product = p := (sameK_iff.1 hk).2
    simp only [wq, upd, e]
    rw [wr_in (n := x.Quantity + q) (by omega) (by omega)]
    cases seq p g <;> simp
omit hq
include hm
theorem put_wb (g : ByteArray) : sm (wb g) (putL (kOf m p) q b l) = sm (wb g) l + bif seq p g then b else 0 := by
  refine sm_put (zero_wb g) ?_ fun x hx hk => ?_
  · simp only [wb, upd, kOf, Int.zero_add]
    rw [wr_in (n := b) (by omega) (by omega)]
  · have := (hb x hx).2
    have e : x.Product = p := (sameK_iff.1 hk).2
    simp only [wb, upd, e]
    rw [wr_in (n := x.Basis + b) (by omega) (by omega)]
    cases seq p g <;> simp
theorem put_wm (g : ByteArray) : sm (wm g) (putL (kOf m p) q b l) = sm (wm g) l + bif seq m g then b else 0 := by
  refine sm_put (zero_wm g) ?_ fun x hx hk => ?_
  · simp only [wm, upd, kOf, Int.zero_add]
    rw [wr_in (n := b) (by omega) (by omega)]
  · have := (hb x hx).2
    have e : x.Member = m := (sameK_iff.1 hk).1
    simp only [wm, upd, e]
    rw [wr_in (n := x.Basis + b) (by omega) (by omega)]
    cases seq m g <;> simp
end
theorem good_bd {l : List VP} (h : ∀ x ∈ l, goodP x = true) : Bd l := fun x hx => ⟨good_q (h x hx), good_b (h x hx)⟩
theorem good_of {x : VP} (h1 : inR x.Quantity 1048576 = true) (h2 : inR x.Basis 1125899906842624 = true) (h3 : zeroP x = false) (h4 : partyB x.Member = true) (h5 : nameB x.Product = true) : goodP x = true := by
  unfold goodP; rw [h1, h2, h3, h4, h5]; rfl
theorem good_m {x : VP} (h : goodP x = true) : partyB x.Member = true := by
  unfold goodP at h
  simp only [Bool.and_eq_true, Bool.not_eq_true'] at h
  exact h.2.2.2.1
theorem good_p {x : VP} (h : goodP x = true) : nameB x.Product = true := by
  unfold goodP at h
  simp only [Bool.and_eq_true, Bool.not_eq_true'] at h
  exact h.2.2.2.2
structure Took (s : Variation) (bu se pr : ByteArray) (q p : Int) : Prop where
  ok : Ok s
  ask : Ask bu se pr q p
  qb : inR (tB s bu se pr q p).Quantity 1048576 = true
  qa : inR (tA s bu pr q p).Quantity 1048576 = true
  bb : inR (tB s bu se pr q p).Basis 1125899906842624 = true
  ba : inR (tA s bu pr q p).Basis 1125899906842624 = true
  len : (tL2 s bu se pr q p).length ≤ 200
theorem trade_took {s : Variation} {bu se pr : ByteArray} {q p : Int} (h : (tradeS s bu se pr q p).2 = 0) : Took s bu se pr q p ∧ tradeS s bu se pr q p = (⟨s.Day, tL2 s bu se pr q p⟩, 0) := by
  unfold tradeS at h ⊢
  cases h1 : checkB s with
  | false => rw [h1] at h; cases h
  | true =>
    cases h2 : askB bu se pr q p with
    | false => rw [h1, h2] at h; cases h
    | true =>
      cases h3 : inR (tB s bu se pr q p).Quantity 1048576 && inR (tA s bu pr q p).Quantity 1048576 with
      | false => rw [h1, h2, h3] at h; cases h
      | true =>
        cases h4 : inR (tB s bu se pr q p).Basis 1125899906842624 && inR (tA s bu pr q p).Basis 1125899906842624 with
        | false => rw [h1, h2, h3, h4] at h; cases h
        | true =>
          cases h5 : decide ((tL2 s bu se pr q p).length ≤ 200) with
          | false => rw [h1, h2, h3, h4, h5] at h; cases h
          | true =>
            rw [Bool.and_eq_true] at h3 h4
            exact ⟨⟨check_iff.1 h1, ask_iff.1 h2, h3.1, h3.2, h4.1, h4.2, of_decide_eq_true h5⟩, rfl⟩
section
variable {s : Variation} {bu se pr : ByteArray} {q p : Int} (h : Took s bu se pr q p)
include h
theorem Took.good1 : ∀ x ∈ tL1 s bu pr q p, goodP x = true := fun x hx => by
  rcases put_mem' hx with hx | ⟨rfl, hz⟩
  · exact h.ok.good x hx
  · have k := sameK_iff.1 (putP_key (kOf bu pr) q (q * p) s.Positions)
    exact good_of h.qa h.ba hz (by rw [k.1]; exact h.ask.bp) (by rw [k.2]; exact h.ask.np)
theorem Took.srt1 : Srt (tL1 s bu pr q p) := put_srt h.ok.srt
theorem Took.good2 : ∀ x ∈ tL2 s bu se pr q p, goodP x = true := fun x hx => by
  rcases put_mem' hx with hx | ⟨rfl, hz⟩
  · exact h.good1 x hx
  · have k := sameK_iff.1 (putP_key (kOf se pr) (-q) (-(q * p)) (tL1 s bu pr q p))
    exact good_of h.qb h.bb hz (by rw [k.1]; exact h.ask.sp) (by rw [k.2]; exact h.ask.np)
theorem Took.out : Ok ⟨s.Day, tL2 s bu se pr q p⟩ where
  d0 := h.ok.d0
  d1 := h.ok.d1
  len := h.len
  srt := put_srt h.srt1
  good := h.good2
  flat := fun g => by
    have m := h.ask.m
    have q0 := h.ask.q0
    have q1 := h.ask.q1
    have f := h.ok.flat g
    have a1 := put_wq (m := bu) (p := pr) (q := q) (b := q * p) (good_bd h.ok.good) (by omega) g
    have a2 := put_wq (m := se) (p := pr) (q := -q) (b := -(q * p)) (good_bd h.good1) (by omega) g
    have b1 := put_wb (m := bu) (p := pr) (q := q) (b := q * p) (good_bd h.ok.good) (by omega) g
    have b2 := put_wb (m := se) (p := pr) (q := -q) (b := -(q * p)) (good_bd h.good1) (by omega) g
    show sm (wq g) (putL _ _ _ (tL1 s bu pr q p)) = 0 ∧ sm (wb g) (putL _ _ _ (tL1 s bu pr q p)) = 0
    rw [a2, b2]
    unfold tL1
    rw [a1, b1, f.1, f.2]
    cases seq pr g <;> simp only [cond_true, cond_false] <;> omega
theorem Took.wms (g : ByteArray) : sm (wm g) (tL2 s bu se pr q p) = sm (wm g) s.Positions + (bif seq bu g then q * p else 0) - (bif seq se g then q * p else 0) := by
  have m := h.ask.m
  have b1 := put_wm (m := bu) (p := pr) (q := q) (b := q * p) (good_bd h.ok.good) (by omega) g
  have b2 := put_wm (m := se) (p := pr) (q := -q) (b := -(q * p)) (good_bd h.good1) (by omega) g
  show sm _ (putL _ _ _ (tL1 s bu pr q p)) = _
  rw [b2]
  unfold tL1
  rw [b1]
  cases seq bu g <;> cases seq se g <;> simp only [cond_true, cond_false] <;> omega
end
end Go.Proofs.Ytelblamgfbkhbaa
namespace Go.Proofs.Ytelblamgfbkhbaa
set_option linter.unusedVariables false
set_option linter.unusedSimpArgs false
open Go.RowKit
abbrev PR_ := VariationPrice
def pAt : Option PR_ → PR_ → Bool
  | none, _ => true
  | some y, x => slt y.Product x.Product
def pOk : Option PR_ → List PR_ → Bool
  | _, [] => true
  | p, x :: r => pAt p x && (nameB x.Product && (inR x.Price 536870912 && pOk (some x) r))
theorem f35n2L_at (s : List PR_) : ∀ (l pre : List PR_), s = pre ++ l → s.length ≤ 1000 → f35n2L s l ((pre.length : Nat) : Int) = some (bif pOk pre.getLast? l then .exit0 else .ret)
  | [], pre, _, _ => rfl
  | x :: r, pre, h, hb => by
    have ih := f35n2L_at s r (pre ++ [x]) (by rw [h]; simp) hb
    rw [List.length_append, List.getLast?_concat, show (((pre.length + [x].length : Nat)) : Int) = (pre.length : Int) + 1 from by simp] at ih
    have e45 : f45 x.Product = some (nameB x.Product) := f45_eq _
    rw [f35n2L]
    simp only [f37_p, Option.bind_some, e45, ih, pOk]
    rcases List.eq_nil_or_concat pre with rfl | ⟨q, y, rfl⟩
    · simp only [List.length_nil, Int.natCast_zero, List.getLast?_nil, pAt, Bool.true_and]
      rw [decide_eq_false (by omega : ¬ (0 : Int) < 0)]
      cases nameB x.Product <;> cases inR x.Price 536870912 <;> cases pOk (some x) r <;> rfl
    · rw [List.concat_eq_append] at h ⊢
      have hne : (0 : Int) < (((q ++ [y]).length : Nat) : Int) := by simp
      have hlen : q.length + 1 ≤ 1000 := by rw [h] at hb; simp at hb; omega
      have hw : wr64 ((((q ++ [y]).length : Nat) : Int) - 1) = ((q.length : Nat) : Int) := w64 (by simp) (by omega) (by omega)
      have hat : at? s ((q.length : Nat) : Int) = some y := by rw [at_nat, h]; simp
      rw [decide_eq_true hne, hw, hat, List.getLast?_concat]
      simp only [cond_true, Option.bind_some, pAt]
      cases slt y.Product x.Product <;> cases nameB x.Product <;> cases inR x.Price 536870912 <;> cases pOk (some x) r <;> rfl
def pricesB (ps : List PR_) : Bool := pOk none ps && decide (ps.length ≤ 200)
theorem f35_eq {ps : List PR_} (h : ps.length ≤ 1000) : f35 ps = some (pricesB ps) := by
  have := f35n2L_at ps ps [] rfl h
  rw [show (((([] : List PR_).length : Nat)) : Int) = 0 from rfl, List.getLast?_nil] at this
  unfold f35 f35n0 f35n1 pricesB
  rw [f35n2_run ps (Nat.le_trans h (by unfold maxLen; decide)), this, show decide ((ps.length : Int) ≤ 200) = decide (ps.length ≤ 200) from dec_nat _ 200]
  cases pOk none ps <;> rfl
abbrev PSrt (l : List PR_) : Prop := l.Pairwise fun a b => slt a.Product b.Product = true
theorem pOk_some : ∀ {l : List PR_} {p : PR_}, pOk (some p) l = true → (p :: l).Pairwise (fun a b => slt a.Product b.Product = true) ∧ ∀ x ∈ l, inR x.Price 536870912 = true
  | [], p, _ => by simp
  | y :: r, p, h => by
    rw [pOk, pAt, Bool.and_eq_true, Bool.and_eq_true, Bool.and_eq_true] at h
    obtain ⟨h1, _, h2, h3⟩ := h
    obtain ⟨h4, h5⟩ := pOk_some h3
    refine ⟨List.pairwise_cons.2 ⟨fun z hz => ?_, h4⟩, fun z hz => ?_⟩
    · rcases List.mem_cons.1 hz with rfl | hz
      · exact h1
      · exact slt_trans h1 ((List.pairwise_cons.1 h4).1 z hz)
    · rcases List.mem_cons.1 hz with rfl | hz
      · exact h2
      · exact h5 z hz
theorem prices_ok {ps : List PR_} (h : pricesB ps = true) : PSrt ps ∧ (∀ x ∈ ps, inR x.Price 536870912 = true) ∧ ps.length ≤ 200 := by
  unfold pricesB at h
  rw [Bool.and_eq_true, decide_eq_true_eq] at h
  refine ⟨?_, ?_, h.2⟩
  · cases ps with
    | nil => exact List.Pairwise.nil
    | cons y r =>
      have := h.1
      rw [pOk, Bool.and_eq_true, Bool.and_eq_true, Bool.and_eq_true] at this
      exact (pOk_some this.2.2.2).1
  · cases ps with
    | nil => simp
    | cons y r =>
      have := h.1
      rw [pOk, Bool.and_eq_true, Bool.and_eq_true, Bool.and_eq_true] at this
      intro z hz
      rcases List.mem_cons.1 hz with rfl | hz
      · exact this.2.2.1
      · exact (pOk_some this.2.2.2).2 z hz
theorem f57_58n1_eq (l : List PR_) (k : ByteArray) : ∀ (f : Nat) (lo hi : Int), f57_58n1 f l k lo hi = (bsr (fun x => cmpB x.Product k) l f lo hi).map .exit0
  | 0, lo, hi => rfl
  | f + 1, lo, hi => by
    rw [f57_58n1, bsr]
    cases decide (lo < hi) with
    | false => rfl
    | true =>
      simp only [cond_true]
      cases at? l (midI lo hi) with
      | none => rfl
      | some x =>
        have : f58 x k = some (cmpB x.Product k) := by unfold f58 f58n0; rw [f40_val]; rfl
        simp only [Option.bind_some, this, f57_58n1_eq l k f]
        cases decide (cmpB x.Product k < 0) <;> rfl
def lk (p : ByteArray) : List PR_ → Option Int
  | [] => none
  | x :: r => bif seq x.Product p then some x.Price else lk p r
theorem seq_f {a b : ByteArray} (h : a ≠ b) : seq a b = false := by
  cases k : seq a b with
  | false => rfl
  | true => exact absurd (seq_iff.1 k) h
theorem lk_none {p : ByteArray} : ∀ {l : List PR_}, (∀ x ∈ l, x.Product ≠ p) → lk p l = none
  | [], _ => rfl
  | x :: r, h => by rw [lk, seq_f (h x List.mem_cons_self), cond_false, lk_none fun y hy => h y (List.mem_cons_of_mem _ hy)]
theorem lk_app {p : ByteArray} : ∀ {pre post : List PR_}, (∀ x ∈ pre, x.Product ≠ p) → lk p (pre ++ post) = lk p post
  | [], _, _ => rfl
  | x :: r, post, h => by rw [List.cons_append, lk, seq_f (h x List.mem_cons_self), cond_false, lk_app fun y hy => h y (List.mem_cons_of_mem _ hy)]
theorem lk_in {p : ByteArray} {v : Int} : ∀ {l : List PR_}, lk p l = some v → ∃ x ∈ l, x.Price = v
  | x :: r, h => by
    rw [lk] at h
    cases k : seq x.Product p with
    | true => rw [k] at h; exact ⟨x, List.mem_cons_self, Option.some.inj h⟩
    | false =>
      rw [k] at h
      obtain ⟨y, hy, e⟩ := lk_in h
      exact ⟨y, List.mem_cons_of_mem _ hy, e⟩
theorem slt_ne {a b : ByteArray} (h : slt a b = true) : a ≠ b := fun e => by rw [e, slt_irrefl] at h; cases h
theorem f57_58_eq {ps : List PR_} (hs : PSrt ps) (hl : ps.length ≤ 1000) (k : ByteArray) :
    (lk k ps = none ∧ ∃ i, f57_58 ps k = some (i, false)) ∨ ∃ i x, f57_58 ps k = some (i, true) ∧ at? ps i = some x ∧ lk k ps = some x.Price := by
  obtain ⟨pre, post, h1, h2, h3, h4⟩ := bsr_split (fun x : PR_ => cmpB x.Product k) ps (by omega) fun i j x y hij hx hy hc => by
    rcases Nat.lt_or_ge i j with h | h
    · have h1 := List.pairwise_iff_getElem.1 hs i j (lt_of_at hx) (lt_of_at hy) h
      rw [(List.getElem?_eq_some_iff.1 hx).2, (List.getElem?_eq_some_iff.1 hy).2] at h1
      exact cmpB_neg.2 (slt_trans h1 (cmpB_neg.1 hc))
    · have : i = j := by omega
      subst this
      rw [hx] at hy; obtain rfl := Option.some.inj hy; exact hc
  have hpre : ∀ x ∈ pre, x.Product ≠ k := fun x hx => slt_ne (cmpB_neg.1 (h3 x hx))
  have hr : f57_58n1 FUEL ps k 0 (ps.length : Int) = some (.exit0 (pre.length : Int)) := by rw [f57_58n1_eq, h2]; rfl
  cases post with
  | nil =>
    left
    refine ⟨by rw [h1, lk_app hpre]; rfl, (pre.length : Int), ?_⟩
    unfold f57_58 f57_58n0
    rw [hr]
    simp only [Option.bind_some]
    rw [h1, decide_eq_false (by simp)]; rfl
  | cons x r =>
    have hx : ps[pre.length]? = some x := by rw [h1]; simp
    have h58 : f58 x k = some (cmpB x.Product k) := by unfold f58 f58n0; rw [f40_val]; rfl
    have hf : f57_58 ps k = some ((pre.length : Int), decide (cmpB x.Product k = 0)) := by
      unfold f57_58 f57_58n0
      rw [hr]
      simp only [Option.bind_some]
      rw [decide_eq_true (by have := lt_of_at hx; omega), at_nat, hx]
      simp only [cond_true, Option.bind_some, h58]
    by_cases hk : cmpB x.Product k = 0
    · right
      refine ⟨_, x, by rw [hf, decide_eq_true hk], by rw [at_nat]; exact hx, ?_⟩
      rw [h1, lk_app hpre, lk, seq_iff.2 (cmpB_zero.1 hk)]; rfl
    · left
      refine ⟨?_, _, by rw [hf, decide_eq_false hk]⟩
      rw [h1, lk_app hpre]
      have hs' : PSrt (x :: r) := by
        rw [h1] at hs
        exact (List.pairwise_append.1 hs).2.1
      have h5 : slt k x.Product = true := cmpB_pos.1 (by have := h4 x List.mem_cons_self; omega)
      refine lk_none fun y hy e => ?_
      rcases List.mem_cons.1 hy with rfl | hy
      · exact slt_ne h5 e.symm
      · exact slt_ne (slt_trans h5 ((List.pairwise_cons.1 hs').1 y hy)) e.symm

def hasV (ps : List PR_) (x : VP) : Bool := decide (x.Quantity = 0) || (lk x.Product ps).isSome
def prc (ps : List PR_) (p : ByteArray) : Int := (lk p ps).getD 0
def vOf (ps : List PR_) (x : VP) : Int := x.Quantity * prc ps x.Product
theorem prc_bd {ps : List PR_} (h : pricesB ps = true) (p : ByteArray) : -536870912 ≤ prc ps p ∧ prc ps p ≤ 536870912 := by
  unfold prc
  cases k : lk p ps with
  | none => simp
  | some v =>
    obtain ⟨x, hx, rfl⟩ := lk_in k
    exact inR_iff.1 ((prices_ok h).2.1 x hx)
theorem vOf_bd {ps : List PR_} (h : pricesB ps = true) {x : VP} (hx : goodP x = true) : -562949953421312 ≤ vOf ps x ∧ vOf ps x ≤ 562949953421312 := by
  have h1 := prc_bd h x.Product
  have h2 := good_q hx
  have := mul_bd (a := x.Quantity) (b := prc ps x.Product) (x := 1048576) (y := 536870912) (by omega) (by omega)
  unfold vOf
  omega
theorem f36_eq {ps : List PR_} (h : pricesB ps = true) {x : VP} (hx : goodP x = true) : ∃ v, f36 x ps = some (v, hasV ps x) ∧ (hasV ps x = true → v = vOf ps x) := by
  have hp := prices_ok h
  have hb := vOf_bd h hx
  unfold f36 f36n0 hasV
  by_cases h0 : x.Quantity = 0
  · rw [decide_eq_true h0]
    exact ⟨0, rfl, fun _ => by unfold vOf; rw [h0]; simp⟩
  · rw [decide_eq_false h0]
    simp only [cond_false, Bool.false_or]
    rcases f57_58_eq hp.1 (by omega) x.Product with ⟨h1, i, h2⟩ | ⟨i, y, h2, h3, h4⟩
    · rw [h1, h2]
      exact ⟨0, rfl, fun h => by cases h⟩
    · rw [h2, h4]
      simp only [Option.bind_some, cond_true]
      rw [h3]
      refine ⟨_, rfl, fun _ => ?_⟩
      unfold vOf prc at hb ⊢
      rw [h4] at hb ⊢
      exact wr_in (n := x.Quantity * y.Price) (by simp at hb; omega) (by simp at hb; omega)

def accM (ps : List PR_) : List VP → List (ByteArray × Int) → List (ByteArray × Int)
  | [], m => m
  | x :: r, m => accM ps r (mPut seq x.Member (wr64 (mGet seq 0 x.Member m + wr64 (vOf ps x - x.Basis))) m)
def setP (ps : List PR_) (x : VP) : VP := ⟨x.Member, x.Product, x.Quantity, vOf ps x⟩
def setO (ps : List PR_) : List VP → List VP
  | [] => []
  | x :: r => bif decide (x.Quantity = 0) then setO ps r else setP ps x :: setO ps r
theorem f14n3L_at {ps : List PR_} (h : pricesB ps = true) (s : Variation) (d : Int) : ∀ (l : List VP) (k : Int) (m : List (ByteArray × Int)) (o : List VP), (∀ x ∈ l, goodP x = true) → o.length + l.length ≤ 1000 →
    f14n3L ps s d l k m o = some (bif l.all (hasV ps) then .exit1 (accM ps l m) (o ++ setO ps l) else .ret)
  | [], k, m, o, _, _ => by simp [f14n3L, accM, setO]
  | x :: r, k, m, o, hg, hl => by
    simp only [List.length_cons] at hl
    obtain ⟨v, h1, h2⟩ := f36_eq h (hg x List.mem_cons_self)
    rw [f14n3L, h1]
    simp only [Option.bind_some, List.all_cons]
    cases hv : hasV ps x with
    | false => rfl
    | true =>
      rw [h2 hv, accM, setO]
      have hr : ∀ y ∈ r, goodP y = true := fun y hy => hg y (List.mem_cons_of_mem _ hy)
      simp only [cond_true, Bool.true_and]
      cases decide (x.Quantity = 0) with
      | true => rw [cond_true, cond_true, f14n3L_at h s d r _ _ _ hr (by omega)]
      | false =>
        rw [cond_false, cond_false, req, fit_small (by omega) (by omega), cond_true, f14n3L_at h s d r _ _ _ hr (by simp; omega)]
        simp [setP]
theorem put_mlen {V : Type} (k : ByteArray) (v : V) : ∀ m : List (ByteArray × V), (mPut seq k v m).length ≤ m.length + 1
  | [] => by simp [mPut]
  | (a, w) :: r => by
    have := put_mlen k v r
    rw [mPut]
    cases seq k a <;> simp <;> omega
theorem accM_len (ps : List PR_) : ∀ (l : List VP) (m : List (ByteArray × Int)), (accM ps l m).length ≤ m.length + l.length
  | [], m => by simp [accM]
  | x :: r, m => by
    have h1 := accM_len ps r (mPut seq x.Member (wr64 (mGet seq 0 x.Member m + wr64 (vOf ps x - x.Basis))) m)
    have h2 := put_mlen x.Member (wr64 (mGet seq 0 x.Member m + wr64 (vOf ps x - x.Basis))) m
    rw [accM, List.length_cons]; omega
theorem accM_nd (ps : List PR_) : ∀ (l : List VP) {m : List (ByteArray × Int)}, ndM m → ndM (accM ps l m)
  | [], m, h => h
  | x :: r, m, h => accM_nd ps r (put_nd h)
def payL (m : List (ByteArray × Int)) : List VariationPayment := (m.filter fun x => !decide (x.2 = 0)).map fun x => ⟨x.1, x.2⟩
theorem f14n5_eq (d : Int) (o2 : List VP) (m : List (ByteArray × Int)) : ∀ (l : List (ByteArray × Int)) (o : List VariationPayment), o.length + l.length ≤ 1000 → f14n5 d o2 m l o = some (bif l.all (fun x => inR x.2 1125899906842624) then .exit3 (o ++ payL l) else .ret)
  | [], o, _ => by simp [f14n5, payL]
  | x :: r, o, hl => by
    simp only [List.length_cons] at hl
    rw [f14n5, f37_b]
    simp only [Option.bind_some, List.all_cons]
    cases inR x.2 1125899906842624 with
    | false => rfl
    | true =>
      simp only [cond_true, Bool.true_and]
      cases h0 : decide (x.2 = 0) with
      | true =>
        rw [cond_true, f14n5_eq d o2 m r o (by omega)]
        simp only [payL, List.filter_cons, h0, Bool.not_true]
        rfl
      | false =>
        rw [cond_false, req, fit_small (by omega) (by omega), cond_true, f14n5_eq d o2 m r _ (by simp; omega)]
        simp only [payL, List.filter_cons, h0, Bool.not_false]
        simp
theorem pay_perm {p m : List (ByteArray × Int)} (h : p.Perm m) : (payL p).Perm (payL m) := (h.filter _).map _
theorem pay_nd {m : List (ByteArray × Int)} (h : ndM m) : (payL m).Pairwise fun a b => a.Member ≠ b.Member := by
  unfold payL
  rw [List.pairwise_map]
  exact h.sublist List.filter_sublist
def isortP (l : List VariationPayment) : List VariationPayment := isort (fun x => x.Member) l
theorem sort_eq {p m : List (ByteArray × Int)} (hp : p.Perm m) (h : ndM m) (hl : m.length ≤ 1000) : so38_39 (payL p) = some (isortP (payL m)) := by
  have hq := pay_perm hp
  have nd : (payL p).Pairwise fun a b => a.Member ≠ b.Member := (hq.symm.pairwise_iff (fun {a b} hab => Ne.symm hab)).1 (pay_nd h)
  have hlen : (payL p).length ≤ 1000 := by
    rw [hq.length_eq]; unfold payL; rw [List.length_map]
    exact Nat.le_trans (List.length_filter_le _ _) hl
  unfold so38_39
  rw [decide_eq_true (by omega), nodupK_of _ nd]
  simp only [Bool.and_self, cond_true]
  congr 1
  unfold isortP
  refine sorted_uniq _ ?_ (isort_sorted _ _) (isort_sorted _ _) ?_
  · exact ((isort_perm _ _).trans hq).trans (isort_perm _ _).symm
  · exact ((isort_perm _ _).pairwise_iff (fun {a b} hab => Ne.symm hab)).2 nd

def asksB (d : Int) (ps : List PR_) : Bool := decide (0 ≤ d) && (decide (d ≤ 99999) && pricesB ps)
def settleS (s : Variation) (d : Int) (ps : List PR_) : Variation × (List VariationPayment × Int) :=
  bif checkB s then
    bif asksB d ps then
      bif decide (s.Day < d) then
        bif s.Positions.all (hasV ps) then
          bif (accM ps s.Positions []).all (fun x => inR x.2 1125899906842624) then
            (⟨d, setO ps s.Positions⟩, isortP (payL (accM ps s.Positions [])), 0)
          else (noV, [], 14)
        else (noV, [], 30)
      else (noV, [], 21)
    else (noV, [], 2)
  else (noV, [], 8)
theorem f14_eq (s : Variation) (d : Int) {ps : List PR_} (hl : ps.length ≤ 1000) : f14 s d ps = some (settleS s d ps) := by
  unfold f14 settleS
  cases hc : checkB s with
  | false =>
    have : f14n0 s d ps = some (.ret 8 0 [] []) := by
      unfold f14n0 f14n1
      rw [f26_eq, hc]; rfl
    rw [this]; rfl
  | true =>
    have ok := check_iff.1 hc
    cases ha : asksB d ps with
    | false =>
      have : f14n0 s d ps = some (.ret 2 0 [] []) := by
        unfold f14n0 f14n1
        rw [f26_eq, hc, f35_eq hl, lt_not, lt_not]
        unfold asksB at ha
        revert ha
        cases decide (0 ≤ d) with
        | false => intro _; rfl
        | true => cases decide (d ≤ 99999) with
          | false => intro _; rfl
          | true => cases pricesB ps with
            | false => intro _; rfl
            | true => intro h; cases h
      rw [this]; rfl
    | true =>
      have ha' := ha
      unfold asksB at ha'
      simp only [Bool.and_eq_true] at ha'
      obtain ⟨h0, h1, h2⟩ := ha'
      by_cases hd : s.Day < d
      · have e1 : f14n1 d ps 0 s = some (.norm 0) := by
          unfold f14n1
          rw [f35_eq hl, lt_not, lt_not, h0, h1, h2, decide_eq_false (by omega : ¬ d ≤ s.Day)]; rfl
        have e2 : f14n2 ps s d = some (bif s.Positions.all (hasV ps) then .norm (accM ps s.Positions []) (setO ps s.Positions) else .ret) := by
          unfold f14n2
          rw [f14n3_run ps s d [] [] (Nat.le_trans ok.len (by unfold maxLen; decide)), f14n3L_at h2 s d s.Positions 0 [] [] ok.good (by have := ok.len; simp; omega)]
          cases s.Positions.all (hasV ps) <;> rfl
        rw [decide_eq_true hd]
        simp only [cond_true]
        cases hv : s.Positions.all (hasV ps) with
        | false =>
          have : f14n0 s d ps = some (.ret 30 0 [] []) := by
            unfold f14n0
            rw [f26_eq, hc]
            simp only [cond_true, Option.bind_some, e1, e2, hv, decide_true, cond_false]
          rw [this]; rfl
        | true =>
          have hlen : (accM ps s.Positions []).length ≤ 1000 := by
            have := accM_len ps s.Positions []
            have := ok.len
            simp at *; omega
          have e4 : ∀ p, p.Perm (accM ps s.Positions []) → f14n4 d (accM ps s.Positions []) (setO ps s.Positions) p = some (bif (accM ps s.Positions []).all (fun x => inR x.2 1125899906842624) then .norm (payL p) else .ret) := fun p hp => by
            unfold f14n4
            rw [f14n5_eq _ _ _ p [] (by rw [hp.length_eq]; simpa using hlen), hp.all_eq]
            cases (accM ps s.Positions []).all (fun x => inR x.2 1125899906842624) <;> rfl
          cases hr : (accM ps s.Positions []).all (fun x => inR x.2 1125899906842624) with
          | false =>
            have : f14n0 s d ps = some (.ret 14 0 [] []) := by
              unfold f14n0
              rw [f26_eq, hc]
              simp only [cond_true, Option.bind_some, e1, e2, hv, decide_true]
              refine anyOrder_of fun p hp => ?_
              rw [e4 p hp, hr]; rfl
            rw [this]; rfl
          | true =>
            have : f14n0 s d ps = some (.ret 0 d (isortP (payL (accM ps s.Positions []))) (setO ps s.Positions)) := by
              unfold f14n0
              rw [f26_eq, hc]
              simp only [cond_true, Option.bind_some, e1, e2, hv, decide_true]
              refine anyOrder_of fun p hp => ?_
              rw [e4 p hp, hr]
              simp only [cond_true, Option.bind_some]
              rw [sort_eq hp (accM_nd ps s.Positions List.Pairwise.nil) hlen]; rfl
            rw [this]; rfl
      · have : f14n0 s d ps = some (.ret 21 0 [] []) := by
          have e1 : f14n1 d ps 0 s = some (.norm 21) := by
            unfold f14n1
            rw [f35_eq hl, lt_not, lt_not, h0, h1, h2, decide_eq_true (by omega : d ≤ s.Day)]; rfl
          unfold f14n0
          rw [f26_eq, hc]
          simp only [cond_true, Option.bind_some, e1]
          rfl
        rw [this, decide_eq_false hd]; rfl
structure Done (s : Variation) (d : Int) (ps : List PR_) : Prop where
  ok : Ok s
  d0 : 0 ≤ d
  d1 : d ≤ 99999
  pr : pricesB ps = true
  dd : s.Day < d
  hv : ∀ x ∈ s.Positions, hasV ps x = true
  rng : ∀ x ∈ accM ps s.Positions [], inR x.2 1125899906842624 = true
theorem settle_done {s : Variation} {d : Int} {ps : List PR_} (h : (settleS s d ps).2.2 = 0) : Done s d ps ∧ settleS s d ps = (⟨d, setO ps s.Positions⟩, isortP (payL (accM ps s.Positions [])), 0) := by
  unfold settleS at h ⊢
  cases h1 : checkB s with
  | false => rw [h1] at h; cases h
  | true =>
    cases h2 : asksB d ps with
    | false => rw [h1, h2] at h; cases h
    | true =>
      cases h3 : decide (s.Day < d) with
      | false => rw [h1, h2, h3] at h; cases h
      | true =>
        cases h4 : s.Positions.all (hasV ps) with
        | false => rw [h1, h2, h3, h4] at h; cases h
        | true =>
          cases h5 : (accM ps s.Positions []).all (fun x => inR x.2 1125899906842624) with
          | false => rw [h1, h2, h3, h4, h5] at h; cases h
          | true =>
            unfold asksB at h2
            simp only [Bool.and_eq_true, decide_eq_true_eq] at h2
            exact ⟨⟨check_iff.1 h1, h2.1, h2.2.1, h2.2.2, of_decide_eq_true h3, List.all_eq_true.1 h4, List.all_eq_true.1 h5⟩, rfl⟩
theorem setO_mem {ps : List PR_} {y : VP} : ∀ {l : List VP}, y ∈ setO ps l → ∃ x ∈ l, ¬ x.Quantity = 0 ∧ y = setP ps x
  | x :: r, h => by
    rw [setO] at h
    by_cases h0 : x.Quantity = 0
    · rw [decide_eq_true h0, cond_true] at h
      obtain ⟨z, h1, h2⟩ := setO_mem h
      exact ⟨z, List.mem_cons_of_mem _ h1, h2⟩
    · rw [decide_eq_false h0, cond_false] at h
      rcases List.mem_cons.1 h with h | h
      · exact ⟨x, List.mem_cons_self, h0, h⟩
      · obtain ⟨z, h1, h2⟩ := setO_mem h
        exact ⟨z, List.mem_cons_of_mem _ h1, h2⟩
theorem setO_srt {ps : List PR_} : ∀ {l : List VP}, Srt l → Srt (setO ps l)
  | [], _ => List.Pairwise.nil
  | x :: r, h => by
    have h' := List.pairwise_cons.1 h
    rw [setO]
    cases decide (x.Quantity = 0) with
    | true => exact setO_srt h'.2
    | false =>
      refine List.pairwise_cons.2 ⟨fun y hy => ?_, setO_srt h'.2⟩
      obtain ⟨z, h1, _, rfl⟩ := setO_mem hy
      exact h'.1 z h1
theorem setO_len (ps : List PR_) : ∀ l : List VP, (setO ps l).length ≤ l.length
  | [] => Nat.le_refl _
  | x :: r => by
    have := setO_len ps r
    rw [setO]
    cases decide (x.Quantity = 0) <;> simp <;> omega
theorem setO_good {ps : List PR_} (hp : pricesB ps = true) {l : List VP} (h : ∀ x ∈ l, goodP x = true) : ∀ y ∈ setO ps l, goodP y = true := fun y hy => by
  obtain ⟨x, h1, h2, rfl⟩ := setO_mem hy
  have hx := h x h1
  have hb := vOf_bd hp hx
  refine good_of (x := setP ps x) (inR_iff.2 (show -1048576 ≤ x.Quantity ∧ x.Quantity ≤ 1048576 from good_q hx)) (inR_iff.2 (by show _ ≤ vOf ps x ∧ vOf ps x ≤ _; omega)) ?_ (show partyB x.Member = true from good_m hx) (show nameB x.Product = true from good_p hx)
  show (decide (x.Quantity = 0) && _) = false
  rw [decide_eq_false h2]; rfl
theorem setO_wq (ps : List PR_) (g : ByteArray) : ∀ l : List VP, sm (wq g) (setO ps l) = sm (wq g) l
  | [] => rfl
  | x :: r => by
    rw [setO]
    by_cases h0 : x.Quantity = 0
    · rw [decide_eq_true h0, cond_true, setO_wq ps g r, sm]
      unfold wq; rw [h0]
      cases seq x.Product g <;> simp
    · rw [decide_eq_false h0, cond_false, sm, sm, setO_wq ps g r]; rfl
theorem setO_wb (ps : List PR_) (g : ByteArray) : ∀ l : List VP, sm (wb g) (setO ps l) = prc ps g * sm (wq g) l
  | [] => by simp [setO, sm]
  | x :: r => by
    have e : (bif seq x.Product g then vOf ps x else 0) = prc ps g * wq g x := by
      unfold vOf wq
      cases h : seq x.Product g with
      | true => rw [seq_iff.1 h]; simp only [cond_true]; rw [Int.mul_comm]
      | false => simp
    rw [setO, sm, Int.mul_add, ← e]
    by_cases h0 : x.Quantity = 0
    · rw [decide_eq_true h0, cond_true, setO_wb ps g r]
      have : vOf ps x = 0 := by unfold vOf; rw [h0]; simp
      rw [this]
      cases seq x.Product g <;> simp
    · rw [decide_eq_false h0, cond_false, sm, setO_wb ps g r]; rfl
theorem Done.out {s : Variation} {d : Int} {ps : List PR_} (h : Done s d ps) : Ok ⟨d, setO ps s.Positions⟩ where
  d0 := h.d0
  d1 := h.d1
  len := Nat.le_trans (setO_len ps s.Positions) h.ok.len
  srt := setO_srt h.ok.srt
  good := setO_good h.pr h.ok.good
  flat := fun g => by
    show sm (wq g) (setO ps s.Positions) = 0 ∧ sm (wb g) (setO ps s.Positions) = 0
    rw [setO_wq, setO_wb, (h.ok.flat g).1]
    simp
end Go.Proofs.Ytelblamgfbkhbaa
namespace Go.Proofs.Ytelblamgfbkhbaa
set_option linter.unusedVariables false
set_option linter.unusedSimpArgs false
open Go.RowKit
theorem new_ok : Ok ⟨0, []⟩ := ⟨by decide, by decide, by simp, List.Pairwise.nil, by simp, fun p => ⟨rfl, rfl⟩⟩
def greatL : List Op_ → Int → Bool
  | [], _ => false
  | x :: r, v => bif decide (v ≤ 100) then (decide (220 < (x.Prices.length : Int)) || (decide (x.Day < -1) || (decide (100000 < x.Day) || greatL r (v + 1)))) else false
theorem f11n2L_eq' (bk : List Op_) : ∀ (l : List Op_) (v : Int), f11n2L bk l v = some (bif greatL l v then .ret else .exit0)
  | [], v => rfl
  | x :: r, v => by
    rw [f11n2L, greatL, f11n2L_eq' bk r]
    cases decide (v ≤ 100) <;> cases decide (220 < (x.Prices.length : Int)) <;> cases decide (x.Day < -1) <;> cases decide (100000 < x.Day) <;> cases greatL r (v + 1) <;> rfl
def greatB (l : List Op_) : Bool := greatL l 0 || decide (100 < (l.length : Int))
theorem f11_eq {l : List Op_} (h : l.length ≤ maxLen) : f11 l = some (greatB l) := by
  unfold f11 f11n0 f11n1 greatB
  rw [f11n2_run l h, f11n2L_eq']
  cases greatL l 0 <;> rfl
theorem greatL_small : ∀ {l : List Op_} {v : Int}, greatL l v = false → v + l.length ≤ 101 → ∀ x ∈ l, x.Prices.length ≤ 220 ∧ -1 ≤ x.Day ∧ x.Day ≤ 100000
  | [], _, _, _, x, hx => by cases hx
  | y :: r, v, h, hv, x, hx => by
    simp only [List.length_cons] at hv
    rw [greatL, decide_eq_true (by omega : v ≤ 100), cond_true] at h
    simp only [Bool.or_eq_false_iff, decide_eq_false_iff_not] at h
    rcases List.mem_cons.1 hx with rfl | hx
    · omega
    · exact greatL_small h.2.2.2 (by omega) x hx
theorem great_small {l : List Op_} (h : greatB l = false) : l.length ≤ 100 ∧ ∀ x ∈ l, x.Prices.length ≤ 220 ∧ -1 ≤ x.Day ∧ x.Day ≤ 100000 := by
  unfold greatB at h
  simp only [Bool.or_eq_false_iff, decide_eq_false_iff_not] at h
  have hl : l.length ≤ 100 := by omega
  exact ⟨hl, greatL_small h.1 (by omega)⟩
theorem drop_at {α : Type} {l : List α} {k : Nat} {x : α} {r : List α} (h : l.drop k = x :: r) : at? l (k : Int) = some x ∧ k < l.length ∧ l.drop (k + 1) = r := by
  obtain ⟨h1, h2, h3⟩ := drop_cons h
  exact ⟨by rw [at_nat]; exact h1, h2, h3⟩
theorem wr_succ {k : Nat} (h : k ≤ 1000000) : wr64 ((k : Int) + 1) = ((k + 1 : Nat) : Int) := by rw [wr_in (by omega) (by omega)]; omega
end Go.Proofs.Ytelblamgfbkhbaa
namespace Go.Proofs.Ytelblamgfbkhbaa
set_option linter.unusedVariables false
set_option linter.unusedSimpArgs false
open Go.RowKit
def tot : List (ByteArray × Int) → Int
  | [] => 0
  | x :: r => x.2 + tot r
theorem tot_put (k : ByteArray) (v : Int) : ∀ m : List (ByteArray × Int), tot (mPut seq k v m) = tot m - mGet seq 0 k m + v
  | [] => by simp [mPut, mGet, tot]
  | (a, w) :: r => by
    rw [mPut, mGet]
    cases h : seq k a with
    | true => simp only [cond_true, tot]; omega
    | false => simp only [cond_false, tot, tot_put k v r]; omega
def wd (ps : List PR_) (g : ByteArray) (x : VP) : Int := bif seq x.Member g then vOf ps x - x.Basis else 0
def wa (ps : List PR_) (x : VP) : Int := vOf ps x - x.Basis
theorem wd_bd {ps : List PR_} (hp : pricesB ps = true) {x : VP} (hx : goodP x = true) : -2251799813685248 ≤ vOf ps x - x.Basis ∧ vOf ps x - x.Basis ≤ 2251799813685248 := by
  have h1 := vOf_bd hp hx
  have h2 := good_b hx
  omega
theorem accM_at {ps : List PR_} (hp : pricesB ps = true) : ∀ (l : List VP) (m : List (ByteArray × Int)) (n : Nat), (∀ x ∈ l, goodP x = true) → n + l.length ≤ 1000 → (∀ g, -(2251799813685248 * (n : Int)) ≤ mGet seq 0 g m ∧ mGet seq 0 g m ≤ 2251799813685248 * (n : Int)) →
    (∀ g, mGet seq 0 g (accM ps l m) = mGet seq 0 g m + sm (wd ps g) l) ∧ tot (accM ps l m) = tot m + sm (wa ps) l
  | [], m, n, _, _, _ => by simp [accM, sm]
  | x :: r, m, n, hg, hl, hb => by
    simp only [List.length_cons] at hl
    have hx := wd_bd hp (hg x List.mem_cons_self)
    have hm := hb x.Member
    have e1 : wr64 (vOf ps x - x.Basis) = vOf ps x - x.Basis := wr_in (by omega) (by omega)
    have e2 : wr64 (mGet seq 0 x.Member m + (vOf ps x - x.Basis)) = mGet seq 0 x.Member m + (vOf ps x - x.Basis) := wr_in (by omega) (by omega)
    have hget : ∀ g, mGet seq 0 g (mPut seq x.Member (mGet seq 0 x.Member m + (vOf ps x - x.Basis)) m) = mGet seq 0 g m + wd ps g x := fun g => by
      rw [get_put]
      cases h : seq g x.Member with
      | true =>
        have := seq_iff.1 h; subst this
        simp only [cond_true, wd, seq_refl]
      | false =>
        have : seq x.Member g = false := seq_f fun e => by rw [e, seq_refl] at h; cases h
        simp only [cond_false, wd, this]; omega
    obtain ⟨i1, i2⟩ := accM_at hp r (mPut seq x.Member (mGet seq 0 x.Member m + (vOf ps x - x.Basis)) m) (n + 1) (fun y hy => hg y (List.mem_cons_of_mem _ hy)) (by omega) fun g => by
      rw [hget g]
      have := hb g
      have hw : -2251799813685248 ≤ wd ps g x ∧ wd ps g x ≤ 2251799813685248 := by
        unfold wd
        cases seq x.Member g <;> simp only [cond_true, cond_false] <;> omega
      push_cast
      omega
    rw [accM, e1, e2]
    refine ⟨fun g => ?_, ?_⟩
    · rw [i1 g, hget g, sm]; omega
    · rw [i2, tot_put, sm, wa]; omega
theorem acc_get0 {ps : List PR_} (hp : pricesB ps = true) {l : List VP} (hg : ∀ x ∈ l, goodP x = true) (hl : l.length ≤ 200) (g : ByteArray) : mGet seq 0 g (accM ps l []) = sm (wd ps g) l := by
  have := (accM_at hp l [] 0 hg (by omega) fun g => by simp [mGet]).1 g
  rw [this]; simp [mGet]
theorem acc_tot0 {ps : List PR_} (hp : pricesB ps = true) {l : List VP} (hg : ∀ x ∈ l, goodP x = true) (hl : l.length ≤ 200) : tot (accM ps l []) = sm (wa ps) l := by
  have := (accM_at hp l [] 0 hg (by omega) fun g => by simp [mGet]).2
  rw [this]; simp [tot]

def sp (f : VariationPayment → Int) : List VariationPayment → Int
  | [] => 0
  | x :: r => f x + sp f r
theorem sp_perm {f : VariationPayment → Int} {a b : List VariationPayment} (h : a.Perm b) : sp f a = sp f b := by
  induction h with
  | nil => rfl
  | cons x _ ih => rw [sp, sp, ih]
  | swap x y l => simp only [sp]; omega
  | trans _ _ i1 i2 => exact i1.trans i2
theorem sp_app (f : VariationPayment → Int) : ∀ a b : List VariationPayment, sp f (a ++ b) = sp f a + sp f b
  | [], b => by simp [sp]
  | x :: a, b => by rw [List.cons_append, sp, sp, sp_app f a b]; omega
def am (x : VariationPayment) : Int := x.Amount
def ag (g : ByteArray) (x : VariationPayment) : Int := bif seq x.Member g then x.Amount else 0
theorem payL_cons (x : ByteArray × Int) (r : List (ByteArray × Int)) : payL (x :: r) = (bif decide (x.2 = 0) then [] else [⟨x.1, x.2⟩]) ++ payL r := by
  unfold payL
  rw [List.filter_cons]
  cases decide (x.2 = 0) <;> simp
theorem pay_tot : ∀ m : List (ByteArray × Int), sp am (payL m) = tot m
  | [] => rfl
  | x :: r => by
    rw [payL_cons, sp_app, pay_tot r, tot]
    by_cases h : x.2 = 0
    · rw [decide_eq_true h, cond_true]; simp only [sp]; omega
    · rw [decide_eq_false h, cond_false]; simp only [sp, am]; omega
theorem pay_get (g : ByteArray) : ∀ {m : List (ByteArray × Int)}, ndM m → sp (ag g) (payL m) = mGet seq 0 g m
  | [], _ => rfl
  | (a, w) :: r, h => by
    have h' := List.pairwise_cons.1 h
    rw [payL_cons, sp_app, pay_get g h'.2, mGet]
    cases hg : seq g a with
    | true =>
      have := seq_iff.1 hg; subst this
      have h0 : mGet seq 0 g r = 0 := by
        have : ∀ {r : List (ByteArray × Int)}, (∀ y ∈ r, g ≠ y.1) → mGet seq 0 g r = 0 := fun {r} hr => by
          induction r with
          | nil => rfl
          | cons y t ih =>
            obtain ⟨b, u⟩ := y
            rw [mGet, seq_f (hr _ List.mem_cons_self), cond_false, ih fun z hz => hr z (List.mem_cons_of_mem _ hz)]
        exact this h'.1
      by_cases hw : w = 0
      · subst hw; simp [sp, h0]
      · rw [show decide ((g, w).2 = 0) = false from decide_eq_false hw, cond_false, h0]
        simp [sp, ag, seq_refl]
    | false =>
      have : seq a g = false := seq_f fun e => by rw [e, seq_refl] at hg; cases hg
      by_cases hw : w = 0
      · subst hw; simp [sp]
      · rw [show decide ((a, w).2 = 0) = false from decide_eq_false hw, cond_false, cond_false]
        simp [sp, ag, this]

theorem sm_split (w : VP → Int) (c : VP → Bool) : ∀ l : List VP, sm w l = sm w (l.filter c) + sm w (l.filter fun x => !c x)
  | [] => rfl
  | x :: r => by
    rw [List.filter_cons, List.filter_cons, sm, sm_split w c r]
    cases c x <;> simp [sm] <;> omega
theorem sm_ext {w v : VP → Int} : ∀ {l : List VP}, (∀ x ∈ l, w x = v x) → sm w l = sm v l
  | [], _ => rfl
  | x :: r, h => by rw [sm, sm, h x List.mem_cons_self, sm_ext fun y hy => h y (List.mem_cons_of_mem _ hy)]
theorem sm_mul (c : Int) (w : VP → Int) : ∀ l : List VP, sm (fun x => c * w x) l = c * sm w l
  | [] => by simp [sm]
  | x :: r => by rw [sm, sm, sm_mul c w r, Int.mul_add]
theorem sm_filt (w : VP → Int) (c : VP → Bool) : ∀ l : List VP, sm w (l.filter c) = sm (fun x => bif c x then w x else 0) l
  | [] => rfl
  | x :: r => by
    rw [List.filter_cons, sm, ← sm_filt w c r]
    cases c x <;> simp [sm]
theorem flat_sum (u : VP → Int) (φ : ByteArray → Int) : ∀ (n : Nat) (l : List VP), l.length ≤ n → (∀ p, sm (fun x => bif seq x.Product p then u x else 0) l = 0) → sm (fun x => φ x.Product * u x) l = 0
  | _, [], _, _ => rfl
  | 0, _ :: _, h, _ => absurd h (by simp)
  | n + 1, x :: r, h, hf => by
    have h1 : sm (fun y => φ y.Product * u y) ((x :: r).filter fun y => seq y.Product x.Product) = 0 := by
      rw [sm_ext (v := fun y => φ x.Product * u y) fun y hy => by rw [seq_iff.1 (List.mem_filter.1 hy).2], sm_mul, sm_filt, hf x.Product]
      simp
    have h2 := flat_sum u φ n ((x :: r).filter fun y => !(seq y.Product x.Product)) (by
      rw [List.filter_cons, seq_refl]
      have := List.length_filter_le (fun y : VP => !(seq y.Product x.Product)) r
      simp only [List.length_cons] at h
      simp; omega) fun p => by
      rw [sm_filt]
      by_cases hp : p = x.Product
      · subst hp
        rw [sm_ext (v := fun _ => 0 * 0) fun y _ => by cases seq y.Product x.Product <;> rfl]
        exact (sm_mul 0 (fun _ => 0) _).trans (by simp)
      · have h0 := hf p
        rw [sm_ext (v := fun y => bif seq y.Product p then u y else 0) fun y _ => by
          cases hy : seq y.Product p with
          | true =>
            rw [seq_iff.1 hy, seq_f hp]; rfl
          | false => cases seq y.Product x.Product <;> rfl]
        exact h0
    rw [sm_split _ (fun y => seq y.Product x.Product) (x :: r), h1, h2]; rfl
theorem sm_sub (a b : VP → Int) : ∀ l : List VP, sm (fun x => a x - b x) l = sm a l - sm b l
  | [] => rfl
  | x :: r => by rw [sm, sm, sm, sm_sub a b r]; omega
theorem flat_all {ps : List PR_} {l : List VP} (h : Flat l) : sm (wa ps) l = 0 := by
  have h1 := flat_sum (fun x => x.Quantity) (prc ps) l.length l (Nat.le_refl _) fun p => (h p).1
  have h2 := flat_sum (fun x => x.Basis) (fun _ => 1) l.length l (Nat.le_refl _) fun p => (h p).2
  have e : sm (wa ps) l = sm (fun x => prc ps x.Product * x.Quantity - 1 * x.Basis) l := sm_ext fun x _ => by
    unfold wa vOf; rw [Int.mul_comm, Int.one_mul]
  rw [e, sm_sub, h1, h2]; rfl

abbrev payS (s : Variation) (ps : List PR_) : List VariationPayment := isort (fun x => x.Member) (payL (accM ps s.Positions []))
theorem payS_nd (s : Variation) (ps : List PR_) : (payS s ps).Pairwise fun a b => a.Member ≠ b.Member :=
  ((isort_perm _ _).pairwise_iff (fun {a b} hab => Ne.symm hab)).2 (pay_nd (accM_nd ps s.Positions List.Pairwise.nil))
theorem payS_srt (s : Variation) (ps : List PR_) : (payS s ps).Pairwise fun a b => slt a.Member b.Member = true := by
  have h1 := isort_sorted (fun x : VariationPayment => x.Member) (payL (accM ps s.Positions []))
  have h2 := payS_nd s ps
  refine (h1.and h2).imp fun {a b} ⟨h3, h4⟩ => ?_
  cases k : slt a.Member b.Member with
  | true => rfl
  | false => exact absurd (slt_total k h3) h4
section
variable {s : Variation} {d : Int} {ps : List PR_} (h : Done s d ps)
include h
theorem Done.pay_all : sp am (payS s ps) = 0 := by
  unfold payS
  rw [sp_perm (isort_perm _ _), pay_tot, acc_tot0 h.pr h.ok.good h.ok.len, flat_all h.ok.flat]
theorem Done.pay_one (g : ByteArray) : sp (ag g) (payS s ps) = sm (wd ps g) s.Positions := by
  unfold payS
  rw [sp_perm (isort_perm _ _), pay_get g (accM_nd ps s.Positions List.Pairwise.nil), acc_get0 h.pr h.ok.good h.ok.len]
theorem Done.pay_mem {x : VariationPayment} (hx : x ∈ payS s ps) : x.Amount ≠ 0 ∧ -1125899906842624 ≤ x.Amount ∧ x.Amount ≤ 1125899906842624 := by
  have h1 := (isort_perm _ _).mem_iff.1 hx
  unfold payL at h1
  obtain ⟨y, h2, rfl⟩ := List.mem_map.1 h1
  obtain ⟨h3, h4⟩ := List.mem_filter.1 h2
  have h5 := inR_iff.1 (h.rng y h3)
  simp only [Bool.not_eq_true', decide_eq_false_iff_not] at h4
  exact ⟨h4, h5⟩
theorem Done.pay_len : (payS s ps).length ≤ 200 := by
  unfold payS
  rw [(isort_perm _ _).length_eq]
  unfold payL
  rw [List.length_map]
  have h1 := List.length_filter_le (fun x : ByteArray × Int => !decide (x.2 = 0)) (accM ps s.Positions [])
  have h2 := accM_len ps s.Positions []
  have := h.ok.len
  simp only [List.length_nil] at h2
  omega
end
theorem wm_bound {l : List VP} (h : ∀ x ∈ l, goodP x = true) (hl : l.length ≤ 200) (g : ByteArray) : -225179981368524800 ≤ sm (wm g) l ∧ sm (wm g) l ≤ 225179981368524800 := by
  have := sm_bound (wm g) 1125899906842624 l fun x hx => by
    have := good_b (h x hx)
    unfold wm
    cases seq x.Member g <;> simp only [cond_true, cond_false] <;> omega
  omega
theorem f28n2L_eq' (g : ByteArray) (s : Variation) : ∀ (l : List VP) (b v : Int), f28n2L g s l (wr64 b) v = some (.exit0 (wr64 (b + sm (wm g) l)))
  | [], b, v => by simp [f28n2L, sm]
  | x :: r, b, v => by
    rw [f28n2L]
    cases h : seq x.Member g with
    | true => rw [cond_true, wr_l, f28n2L_eq' g s r]; simp only [sm, wm, h, cond_true, Int.add_assoc]
    | false => rw [cond_false, f28n2L_eq' g s r]; simp only [sm, wm, h, cond_false, Int.zero_add]
def withinS (n : Int) : Int × Int := bif inR n 1125899906842624 then (n, 0) else (0, 14)
theorem f28_eq {s : Variation} (ok : Ok s) (g : ByteArray) : f28 s g = some (withinS (sm (wm g) s.Positions)) := by
  have hb := wm_bound ok.good ok.len g
  have h1 : f28n1 g s = some (.norm (sm (wm g) s.Positions)) := by
    have := f28n2L_eq' g s s.Positions 0 0
    rw [Int.zero_add, wr_in (n := sm (wm g) s.Positions) (by omega) (by omega)] at this
    have this' : f28n2L g s s.Positions 0 0 = _ := this
    unfold f28n1
    rw [f28n2_run g s 0 (Nat.le_trans ok.len (by unfold maxLen; decide)), this']; rfl
  unfold f28 f28n0 withinS
  rw [f26_eq, check_iff.2 ok]
  simp only [cond_true, Option.bind_some, decide_true, h1, f37_b]
  cases inR (sm (wm g) s.Positions) 1125899906842624 <;> rfl
def wv (ps : List PR_) (g : ByteArray) (x : VP) : Int := bif seq x.Member g then vOf ps x else 0
theorem f24n2L_eq' {ps : List PR_} (hp : pricesB ps = true) (g : ByteArray) (s : Variation) : ∀ (l : List VP) (b v : Int), (∀ x ∈ l, goodP x = true) → f24n2L g ps s l (wr64 b) v = some (bif l.all (fun x => !(seq x.Member g) || hasV ps x) then .exit0 (wr64 (b + sm (wv ps g) l)) else .ret)
  | [], b, v, _ => by simp [f24n2L, sm]
  | x :: r, b, v, hg => by
    obtain ⟨n, h1, h2⟩ := f36_eq hp (hg x List.mem_cons_self)
    have hr : ∀ y ∈ r, goodP y = true := fun y hy => hg y (List.mem_cons_of_mem _ hy)
    rw [f24n2L, List.all_cons]
    cases h : seq x.Member g with
    | true =>
      rw [cond_true, h1]
      simp only [Option.bind_some, Bool.not_true, Bool.false_or]
      cases hv : hasV ps x with
      | false => rfl
      | true =>
        rw [h2 hv, cond_true, wr_l, f24n2L_eq' hp g s r _ _ hr]
        simp only [sm, wv, h, cond_true, Int.add_assoc, Bool.true_and]
    | false =>
      rw [cond_false, f24n2L_eq' hp g s r _ _ hr]
      simp only [sm, wv, h, cond_false, Int.zero_add, Bool.not_false, Bool.true_or, Bool.true_and]
theorem wv_bound {ps : List PR_} (hp : pricesB ps = true) {l : List VP} (h : ∀ x ∈ l, goodP x = true) (hl : l.length ≤ 200) (g : ByteArray) : -225179981368524800 ≤ sm (wv ps g) l ∧ sm (wv ps g) l ≤ 225179981368524800 := by
  have := sm_bound (wv ps g) 1125899906842624 l fun x hx => by
    have := vOf_bd hp (h x hx)
    unfold wv
    cases seq x.Member g <;> simp only [cond_true, cond_false] <;> omega
  omega
def valueS (s : Variation) (g : ByteArray) (ps : List PR_) : Int × Int :=
  bif checkB s then bif pricesB ps then bif s.Positions.all (fun x => !(seq x.Member g) || hasV ps x) then withinS (sm (wv ps g) s.Positions) else (0, 30) else (0, 2) else (0, 8)
theorem f24_eq (s : Variation) (g : ByteArray) {ps : List PR_} (hl : ps.length ≤ 1000) : f24 s g ps = some (valueS s g ps) := by
  unfold f24 f24n0 valueS
  rw [f26_eq, f35_eq hl]
  cases hc : checkB s with
  | false => rfl
  | true =>
    have ok := check_iff.1 hc
    simp only [cond_true, Option.bind_some, decide_true]
    cases hp : pricesB ps with
    | false => rfl
    | true =>
      have hb := wv_bound hp ok.good ok.len g
      have h1 : f24n1 g ps s = some (bif s.Positions.all (fun x => !(seq x.Member g) || hasV ps x) then .norm (sm (wv ps g) s.Positions) else .ret) := by
        have := f24n2L_eq' hp g s s.Positions 0 0 ok.good
        rw [Int.zero_add, wr_in (n := sm (wv ps g) s.Positions) (by omega) (by omega)] at this
        have this' : f24n2L g ps s s.Positions 0 0 = _ := this
        unfold f24n1
        rw [f24n2_run g ps s 0 (Nat.le_trans ok.len (by unfold maxLen; decide)), this']
        cases s.Positions.all (fun x => !(seq x.Member g) || hasV ps x) <;> rfl
      simp only [cond_true, h1]
      cases s.Positions.all (fun x => !(seq x.Member g) || hasV ps x) with
      | false => rfl
      | true =>
        simp only [cond_true, Option.bind_some, f37_b, withinS]
        cases inR (sm (wv ps g) s.Positions) 1125899906842624 <;> rfl

theorem setO_wm (ps : List PR_) (g : ByteArray) : ∀ l : List VP, sm (wm g) (setO ps l) = sm (wv ps g) l
  | [] => rfl
  | x :: r => by
    rw [setO]
    by_cases h0 : x.Quantity = 0
    · rw [decide_eq_true h0, cond_true, setO_wm ps g r, sm]
      unfold wv vOf; rw [h0]
      cases seq x.Member g <;> simp
    · rw [decide_eq_false h0, cond_false, sm, sm, setO_wm ps g r]; rfl
theorem wd_split (ps : List PR_) (g : ByteArray) (l : List VP) : sm (wd ps g) l = sm (wv ps g) l - sm (wm g) l := by
  rw [← sm_sub]
  exact sm_ext fun x _ => by unfold wd wv wm; cases seq x.Member g <;> simp
theorem setO_wv (ps ps' : List PR_) (g : ByteArray) : ∀ l : List VP, sm (wv ps g) (setO ps' l) = sm (wv ps g) l
  | [] => rfl
  | x :: r => by
    rw [setO]
    by_cases h0 : x.Quantity = 0
    · rw [decide_eq_true h0, cond_true, setO_wv ps ps' g r, sm]
      unfold wv vOf; rw [h0]
      cases seq x.Member g <;> simp
    · rw [decide_eq_false h0, cond_false, sm, sm, setO_wv ps ps' g r]; rfl
theorem setO_all (ps ps' : List PR_) {l : List VP} (h : ∀ x ∈ l, hasV ps x = true) : ∀ y ∈ setO ps' l, hasV ps y = true := fun y hy => by
  obtain ⟨x, h1, h2, rfl⟩ := setO_mem hy
  exact h x h1
end Go.Proofs.Ytelblamgfbkhbaa
namespace Go.Proofs.Ytelblamgfbkhbaa
set_option linter.unusedVariables false
set_option linter.unusedSimpArgs false
open Go.RowKit
theorem f27n2L_at (s : List VariationPayment) (hz : ∀ x ∈ s, x.Amount ≠ 0) (ho : s.Pairwise fun a b => slt a.Member b.Member = true) (hl : s.length ≤ 1000) : ∀ (l pre : List VariationPayment) (n : Int), s = pre ++ l → f27n2L s l (wr64 n) ((pre.length : Nat) : Int) = some (.exit0 (wr64 (n + sp am l)))
  | [], pre, n, _ => by simp [f27n2L, sp]
  | x :: r, pre, n, h => by
    have ih := f27n2L_at s hz ho hl r (pre ++ [x]) (n + x.Amount) (by rw [h]; simp)
    rw [List.length_append, show (((pre.length + [x].length : Nat)) : Int) = (pre.length : Int) + 1 from by simp] at ih
    have hx : x ∈ s := by rw [h]; simp
    rw [f27n2L, decide_eq_false (hz x hx), cond_false, wr_l]
    have e : n + x.Amount + sp am r = n + sp am (x :: r) := by simp only [sp, am]; omega
    rw [e] at ih
    rcases List.eq_nil_or_concat pre with rfl | ⟨q, y, rfl⟩
    · rw [show (decide ((0 : Int) < ((([] : List VariationPayment).length : Nat) : Int))) = false from rfl, cond_false]
      exact ih
    · rw [List.concat_eq_append] at h ih ⊢
      have hne : (0 : Int) < (((q ++ [y]).length : Nat) : Int) := by simp
      have hlen : q.length + 1 ≤ 1000 := by rw [h] at hl; simp at hl; omega
      have hw : wr64 ((((q ++ [y]).length : Nat) : Int) - 1) = ((q.length : Nat) : Int) := w64 (by simp) (by omega) (by omega)
      have hat : at? s ((q.length : Nat) : Int) = some y := by rw [at_nat, h]; simp
      have hlt : slt y.Member x.Member = true := by
        rw [h] at ho
        exact (List.pairwise_append.1 ho).2.2 y (by simp) x (by simp)
      rw [decide_eq_true hne, cond_true, hw, hat]
      simp only [Option.bind_some, hlt, cond_true]
      exact ih
theorem f27_eq {s : List VariationPayment} (hz : ∀ x ∈ s, x.Amount ≠ 0) (ho : s.Pairwise fun a b => slt a.Member b.Member = true) (hl : s.length ≤ 1000) : f27 s = some (wr64 (sp am s), true) := by
  have h := f27n2L_at s hz ho hl s [] 0 rfl
  rw [Int.zero_add] at h
  have h' : f27n2L s s 0 0 = some (.exit0 (wr64 (sp am s))) := h
  unfold f27 f27n0 f27n1
  rw [f27n2_run s 0 (Nat.le_trans hl (by unfold maxLen; decide)), h']
  rfl
theorem f8n6L_eq' (bk : List Op_) (g : ByteArray) (bl : Bool) (b5 : Int) (q : Variation × (List VariationPayment) × Int) (o : Op_) : ∀ (l : List VariationPayment) (n v : Int), f8n6L bk g bl b5 q o l (wr64 n) v = some (.exit2 (wr64 (n + sp (ag g) l)))
  | [], n, v => by simp [f8n6L, sp]
  | x :: r, n, v => by
    rw [f8n6L]
    cases h : seq x.Member g with
    | true => rw [cond_true, wr_l, f8n6L_eq' bk g bl b5 q o r]; simp only [sp, ag, h, cond_true, Int.add_assoc]
    | false => rw [cond_false, f8n6L_eq' bk g bl b5 q o r]; simp only [sp, ag, h, cond_false, Int.zero_add]
theorem f8n7_eq (bk : List Op_) (g : ByteArray) (bl : Bool) {n m : Int} (b5 : Int) (q : Variation × (List VariationPayment) × Int) (h : m = n) : f8n7 bk g bl n b5 (withinS m) q = some (.norm false) := by
  subst h
  unfold f8n7 withinS
  cases inR m 1125899906842624 <;> simp
theorem f8n9_eq (bk : List Op_) (g : ByteArray) (bl : Bool) {n m : Int} (b5 : Int) (s : Variation) (h : m = n) : f8n9 bk g bl n b5 (withinS m) s = some (.norm false) := by
  subst h
  unfold f8n9 withinS
  cases inR m 1125899906842624 <;> simp
theorem wm_w64 {s : Variation} (ok : Ok s) (g : ByteArray) : wr64 (sm (wm g) s.Positions) = sm (wm g) s.Positions := by
  have := wm_bound ok.good ok.len g
  exact wr_in (by omega) (by omega)
theorem f8n4_eq {bk : List Op_} (g : ByteArray) (bl : Bool) {k : Int} {x : Op_} {s : Variation} (ok : Ok s) (hp : x.Prices.length ≤ 220) :
    f8n4 bk g bl (sm (wm g) s.Positions) k x s = some .exit1 ∨ ∃ t, Ok t ∧ f8n4 bk g bl (sm (wm g) s.Positions) k x s = some (.norm (sm (wm g) t.Positions) t) := by
  cases hk : decide (x.Kind = 0) with
  | true =>
    unfold f8n4
    rw [hk, cond_true, f14_eq _ _ (by omega)]
    by_cases he : (settleS s (wr64 (s.Day + x.Day)) x.Prices).2.2 = 0
    · obtain ⟨hd, h2⟩ := settle_done he
      right
      rw [h2]
      refine ⟨⟨wr64 (s.Day + x.Day), setO x.Prices s.Positions⟩, hd.out, ?_⟩
      have hl := hd.pay_len
      have h27 : f27 (payS s x.Prices) = some (0, true) := by
        rw [f27_eq (fun y hy => (hd.pay_mem hy).1) (payS_srt _ _) (by omega), hd.pay_all]; rfl
      have hsum : sm (wm g) s.Positions + sp (ag g) (payS s x.Prices) = sm (wm g) (setO x.Prices s.Positions) := by
        rw [hd.pay_one, wd_split, setO_wm]; omega
      have h5 : f8n5 bk g bl (sm (wm g) s.Positions) k (⟨wr64 (s.Day + x.Day), setO x.Prices s.Positions⟩, payS s x.Prices, 0) x = some (.norm (sm (wm g) (setO x.Prices s.Positions))) := by
        unfold f8n5
        rw [f8n6_run bk g bl k (⟨wr64 (s.Day + x.Day), setO x.Prices s.Positions⟩, payS s x.Prices, 0) x (sm (wm g) s.Positions) (Nat.le_trans hl (by unfold maxLen; decide))]
        have := f8n6L_eq' bk g bl k (⟨wr64 (s.Day + x.Day), setO x.Prices s.Positions⟩, payS s x.Prices, 0) x (payS s x.Prices) (sm (wm g) s.Positions) 0
        rw [hsum, wm_w64 ok, wm_w64 hd.out] at this
        rw [this]; rfl
      have h24 : f24 ⟨wr64 (s.Day + x.Day), setO x.Prices s.Positions⟩ g x.Prices = some (withinS (sm (wm g) (setO x.Prices s.Positions))) := by
        rw [f24_eq _ _ (by omega)]
        unfold valueS
        rw [check_iff.2 hd.out, hd.pr]
        have : (setO x.Prices s.Positions).all (fun y => !(seq y.Member g) || hasV x.Prices y) = true := by
          rw [List.all_eq_true]
          intro y hy
          rw [setO_all x.Prices x.Prices hd.hv y hy]; simp
        simp only [cond_true]
        rw [this, setO_wv, setO_wm]; rfl
      have e : isortP (payL (accM x.Prices s.Positions [])) = payS s x.Prices := rfl
      simp only [e, Option.bind_some, decide_true, cond_true, h27, h5, h24, f8n7_eq bk g bl k _ rfl, cond_false]
    · left
      simp only [Option.bind_some, decide_eq_false he, cond_false]
  | false =>
    unfold f8n4
    rw [hk, cond_false, f16_eq]
    by_cases he : (tradeS s x.Buyer x.Seller x.Product x.Quantity x.Price).2 = 0
    · obtain ⟨hd, h2⟩ := trade_took he
      right
      rw [h2]
      refine ⟨⟨s.Day, tL2 s x.Buyer x.Seller x.Product x.Quantity x.Price⟩, hd.out, ?_⟩
      have hw := hd.wms g
      have hm := hd.ask.m
      have e1 : wr64 (x.Quantity * x.Price) = x.Quantity * x.Price := wr_in (by omega) (by omega)
      have b0 := wm_bound ok.good ok.len g
      have b1 := wm_bound hd.out.good hd.len g
      have hne := hd.ask.ne
      have b1' : -225179981368524800 ≤ sm (wm g) (tL2 s x.Buyer x.Seller x.Product x.Quantity x.Price) ∧ sm (wm g) (tL2 s x.Buyer x.Seller x.Product x.Quantity x.Price) ≤ 225179981368524800 := b1
      simp only [Option.bind_some, decide_true, cond_true, f8n8, e1]
      rw [hw]
      cases hb : seq x.Buyer g with
      | true =>
        simp only [cond_true, Option.bind_some]
        rw [wr_in (n := sm (wm g) s.Positions + x.Quantity * x.Price) (by omega) (by omega)]
        cases hs : seq x.Seller g with
        | true => rw [seq_iff.1 hb, seq_iff.1 hs, seq_refl] at hne; cases hne
        | false => simp only [cond_false]; rw [Int.sub_zero]
      | false =>
        simp only [cond_false, Option.bind_some]
        cases hs : seq x.Seller g with
        | true => simp only [cond_true]; rw [wr_in (n := sm (wm g) s.Positions - x.Quantity * x.Price) (by omega) (by omega), Int.add_zero]
        | false => simp only [cond_false]; rw [Int.sub_zero, Int.add_zero]
    · left
      simp only [Option.bind_some, decide_eq_false he, cond_false]
theorem f8n2_eq {bk : List Op_} (g : ByteArray) (bl : Bool) {k : Nat} {x : Op_} {s : Variation} (ok : Ok s) (hx : at? bk (k : Int) = some x) (hp : x.Prices.length ≤ 220) : ∃ t, f8n2 bk g bl (sm (wm g) s.Positions) (k : Int) s = some (.norm (sm (wm g) t.Positions) t) ∧ Ok t := by
  unfold f8n2
  rw [hx]
  simp only [Option.bind_some]
  unfold f8n3
  rcases f8n4_eq (bk := bk) g bl (k := k) ok hp with h | ⟨t, h1, h2⟩
  · rw [h]
    exact ⟨s, rfl, ok⟩
  · rw [h2]
    simp only [Option.bind_some, f28_eq h1, f8n9_eq bk g bl k t rfl, cond_false]
    exact ⟨t, rfl, h1⟩
theorem f8n10_at {bk : List Op_} (g : ByteArray) (bl : Bool) (hl : bk.length ≤ 100) (hp : ∀ x ∈ bk, x.Prices.length ≤ 220) : ∀ (r : List Op_) (f k : Nat) {s : Variation}, Ok s → bk.drop k = r → r.length < f → ∃ t, f8n10 f bk g bl (sm (wm g) s.Positions) (k : Int) s = some (.exit0 t) ∧ Ok t
  | _, 0, _, _, _, _, h => absurd h (Nat.not_lt_zero _)
  | [], f + 1, k, s, ok, hd, _ => by
    have := drop_nil hd
    rw [f8n10, decide_eq_false (by omega), cond_false]
    exact ⟨s, rfl, ok⟩
  | x :: r, f + 1, k, s, ok, hd, hf => by
    obtain ⟨h1, h2, h3⟩ := drop_at hd
    have hm : x ∈ bk := List.mem_of_getElem? (by rw [← at_nat]; exact h1)
    obtain ⟨t, h4, h5⟩ := f8n2_eq g bl ok h1 (hp x hm)
    rw [f8n10, decide_eq_true (by omega), cond_true, h4]
    simp only [Option.bind_some]
    rw [wr_succ (by omega)]
    exact f8n10_at g bl hl hp r f (k + 1) h5 h3 (by simpa using hf)
theorem lawSums (a1 : List Op_) (g : ByteArray) (h : a1.length ≤ maxLen ∧ ∀ x ∈ a1, Op_.ok x) (_ : g.size ≤ maxLen) : f8 a1 g = some true := by
  unfold f8 f8n0
  rw [alive_t, f11_eq h.1]
  simp only [Option.bind_some]
  cases hg : greatB a1 with
  | true => rfl
  | false =>
    obtain ⟨h1, h2⟩ := great_small hg
    obtain ⟨t, h3, h4⟩ := f8n10_at g true h1 (fun x hx => (h2 x hx).1) a1 FUEL 0 new_ok List.drop_zero (lt_FUEL h.1)
    have h3' : f8n10 FUEL a1 g true 0 0 ⟨0, []⟩ = some (.exit0 t) := h3
    have h5 : f8n1 a1 g true (⟨0, []⟩, 0) = some (.norm t) := by unfold f8n1; rw [h3']; rfl
    simp only [cond_false, cond_true, ex0, Option.bind_some, decide_true, h5, f26_eq, check_iff.2 h4]
end Go.Proofs.Ytelblamgfbkhbaa
