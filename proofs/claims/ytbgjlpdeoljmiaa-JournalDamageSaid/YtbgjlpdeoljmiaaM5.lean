/- Functions of the program, plainly, and that the machine computes them. No condition. -/
import Derived.Test.YtbgjlpdeoljmiaaM4
namespace Go.Proofs.Ytbgjlpdeoljmiaa
set_option linter.unusedVariables false
set_option linter.unusedSimpArgs false
set_option maxRecDepth 100000
open Go.RowKit
noncomputable def c6 : Code := Try.f6.body.getD .skip
inductive f6n1O where
  | exit0 (v52 : Int) (v53 : Int)
def f6n1E (a2 : Int) (x24 : Bool × (List Int) × (List Int)) (a3 : Int) (x6 : Bool) (x20 : Journal) : f6n1O → Ex × Tr × Hp
  | .exit0 v52 v53 => ((.exit 0), mkS [(1, (.pl (.int .i64 (Int.tmod a2 (x24.2.1.length : Int))))), (2, (.pl (.int .u8 a3))), (7, (.pl (.bool x6))), (8, (.bp 0 0)), (9, (.own 1)), (12, (.pl (.int .i64 v52))), (13, (.pl (.int .i64 v53)))], [some (.box ((Journal.cells x20).map .pl)), some (.row false 1 (x24.2.1.map (cInt .u8)))])
def f6n1S (a2 : Int) (x24 : Bool × (List Int) × (List Int)) (a3 : Int) (x6 : Bool) (x20 : Journal) (v44 : Int) (v45 : Int) : Tr × Hp := (mkS [(1, (.pl (.int .i64 (Int.tmod a2 (x24.2.1.length : Int))))), (2, (.pl (.int .u8 a3))), (7, (.pl (.bool x6))), (8, (.bp 0 0)), (9, (.own 1)), (10, (.own 2)), (12, (.pl (.int .i64 v44))), (13, (.pl (.int .i64 v45)))], [some (.box ((Journal.cells x20).map .pl)), some (.row false 1 (x24.2.1.map (cInt .u8))), some (.row false 1 (x24.2.2.map (cInt .i64)))])
noncomputable def f6n1 : Nat → Int → Bool × (List Int) × (List Int) → Int → Bool → Journal → Int → Int → Option f6n1O
  | 0, _, _, _, _, _, _, _ => none
  | f + 1, a2, x24, a3, x6, x20, v44, v45 =>
    (at? x24.2.2 v44).bind fun x49 =>
    bif (decide (x49 ≤ (Int.tmod a2 (x24.2.1.length : Int)))) then
      (f6n1 f a2 x24 a3 x6 x20 (wr64 (v44 + 1)) x49)
    else
      some (.exit0 v44 v45)
theorem f6n1_ok : ∀ (f : Nat) (a2 : Int) (x24 : Bool × (List Int) × (List Int)) (a3 : Int) (x6 : Bool) (x20 : Journal) (v44 : Int) (v45 : Int) {o : f6n1O}, (f6n1 f a2 x24 a3 x6 x20 v44 v45) = some o → TL Try.prog Try.f6.ntmps 0 f (cL (cL (cL (dropC 8 c6)))) (f6n1S a2 x24 a3 x6 x20 v44 v45) (fun r => r = f6n1E a2 x24 a3 x6 x20 o)
  | 0, _, _, _, _, _, _, _, o, h => by rw [f6n1] at h; cases h
  | f + 1, a2, x24, a3, x6, x20, v44, v45, o, h => by
    rw [f6n1] at h
    refine TL.body (K := fun s => ∃ v44 : Int, ∃ v45 : Int, s = (f6n1S a2 x24 a3 x6 x20 v44 v45) ∧ (f6n1 f a2 x24 a3 x6 x20 v44 v45) = some o) ?_ (by rintro _ ⟨v44, v45, rfl, hk⟩; exact f6n1_ok f _ _ _ _ _ _ _ hk)
    obtain ⟨x49, h50, h⟩ := bind_cases h
    rcases cond_cases h with ⟨h51, h⟩ | ⟨h51, h⟩
    · exact run_end cfg_ok (rs := [([], [(2, .at_ (Int.toNat v44)), (3, .idx 0 ((cInt .i64) x49))], []), ([], [(2, .at_ (Int.toNat v44)), (3, .idx 0 ((cInt .i64) x49))], []), ([], [], [])]) (ps := [some true]) (tds := []) (m := [0, 1, 2]) (keep := [1, 2, 7, 8, 9, 10, 12, 13]) (r := (.norm, (f6n1S a2 x24 a3 x6 x20 (wr64 (v44 + 1)) x49))) (by kernel_rfl) (ap (at_some h50).1 (ap (lt_map (cInt .i64) (at_some h50).2) (ap (at_map (cInt .i64) (at_some h50).2) (ap h51 (ap (at_some h50).1 (ap (lt_map (cInt .i64) (at_some h50).2) (ap (at_map (cInt .i64) (at_some h50).2) an))))))) (LoopQ.norm ⟨(wr64 (v44 + 1)), x49, rfl, h⟩)
    · obtain rfl := some_inj h
      exact runK_end cfg_ok (k := 1) (rs := [([], [(2, .at_ (Int.toNat v44)), (3, .idx 0 ((cInt .i64) x49))], [])]) (ps := [some false]) (tds := []) (m := [0, 1]) (keep := [1, 2, 7, 8, 9, 12, 13]) (ex := (.exit 0)) (st' := (f6n1E a2 x24 a3 x6 x20 (.exit0 v44 v45)).2) (by kernel_rfl) (ap (at_some h50).1 (ap (lt_map (cInt .i64) (at_some h50).2) (ap (at_map (cInt .i64) (at_some h50).2) (ap h51 an)))) (fun h => nomatch h) (LoopQ.out rfl rfl)
inductive f6n0O where
  | ret (v78 : Bool)
def f6n0E (a1 : List Entry) (a2 : Int) (a3 : Int) : f6n0O → Ex × Tr × Hp
  | .ret v78 => (.ret, mkS [(6, (.pl (.bool v78)))], [])
def f6n0S (a1 : List Entry) (a2 : Int) (a3 : Int) : Tr × Hp := (initS [(.pl (.sl .any 3 (a1.map Entry.cells))), (.pl (.int .i64 a2)), (.pl (.int .u8 a3))] 0 .leaf, [])
noncomputable def f6n0 (a1 : List Entry) (a2 : Int) (a3 : Int) : Option f6n0O :=
  f11.bind fun x6 =>
  (f23 a1).bind fun x13 =>
  bif x13 then
    some (.ret x6)
  else
    bif (decide (a2 < 0)) then
      some (.ret x6)
    else
      bif x6 then
        (f24r1 a1).bind fun x20 =>
        (f26r1 x20).bind fun x24 =>
        bif x24.1 then
          bif (decide ((x24.2.1.length : Int) = 0)) then
            some (.ret x24.1)
          else
            (f6n1 FUEL a2 x24 a3 x6 x20 0 0).bind fun o54 => match o54 with
            | .exit0 v56 v57 => bif (decide (a3 = 0)) then
                some (.ret x6)
              else
                bif (decide ((Int.tmod a2 (x24.2.1.length : Int)) < (wr64 (v57 + 4)))) then
                  some (.ret x6)
                else
                  (at? x24.2.1 (Int.tmod a2 (x24.2.1.length : Int))).bind fun x64 =>
                  (f16 (x24.2.1.set (Int.toNat (Int.tmod a2 (x24.2.1.length : Int))) (IntKind.u8.wrap (BitVec.ofInt IntKind.u8.bits x64 ^^^ BitVec.ofInt IntKind.u8.bits a3).toNat))).bind fun x68 =>
                  bif (decide (x68.2 = v57)) then
                    req (cutB 0 v56 x20.Records.length) <|
                    (f19 x68.1 (Journal.mk ((x20.Records.take (Int.toNat v56)).drop 0))).bind fun x76 =>
                    some (.ret x76)
                  else
                    some (.ret false)
        else
          some (.ret x24.1)
      else
        some (.ret x6)
theorem f6n0_ok (a1 : List Entry) (a2 : Int) (a3 : Int) {o : f6n0O} (h : (f6n0 a1 a2 a3) = some o) : T Try.prog Try.f6.ntmps 0 c6 (f6n0S a1 a2 a3) (fun r => r = f6n0E a1 a2 a3 o) := by
  unfold f6n0 at h
  obtain ⟨x6, h7, h⟩ := bind_cases h
  obtain ⟨x13, h14, h⟩ := bind_cases h
  rcases cond_cases h with ⟨h15, h⟩ | ⟨h15, h⟩
  · obtain rfl := some_inj h
    exact runK_end cfg_ok (k := 3) (rs := [([], [], []), ([], [(0, .call (.pl (.bool x6)) [])], []), ([(3, true), (4, true)], [(1, .call (.pl (.bool x13)) []), (5, .bool true)], []), ([], [], [])]) (ps := [none]) (tds := []) (m := []) (keep := [6]) (ex := .ret) (st' := (f6n0E a1 a2 a3 (.ret x6)).2) (by kernel_rfl) (ap (f11_ok h7) (ap h15 (ap h15 (ap h15 (ap (f23_ok a1 h14) an))))) (fun h => nomatch h) rfl
  · rcases cond_cases h with ⟨h16, h⟩ | ⟨h16, h⟩
    · obtain rfl := some_inj h
      exact runK_end cfg_ok (k := 3) (rs := [([], [], []), ([], [(0, .call (.pl (.bool x6)) [])], []), ([(3, false), (4, false), (7, true), (8, true)], [(1, .call (.pl (.bool x13)) []), (5, .bool false), (9, .bool true)], []), ([], [], [])]) (ps := [none]) (tds := []) (m := []) (keep := [6]) (ex := .ret) (st' := (f6n0E a1 a2 a3 (.ret x6)).2) (by kernel_rfl) (ap (f11_ok h7) (ap h15 (ap h15 (ap h15 (ap h16 (ap h16 (ap h16 (ap (f23_ok a1 h14) an)))))))) (fun h => nomatch h) rfl
    · rcases cond_cases h with ⟨h17, h⟩ | ⟨h17, h⟩
      · obtain ⟨x20, h21, h⟩ := bind_cases h
        obtain ⟨x24, h25, h⟩ := bind_cases h
        rcases cond_cases h with ⟨h28, h⟩ | ⟨h28, h⟩
        · rcases cond_cases h with ⟨h29, h⟩ | ⟨h29, h⟩
          · obtain rfl := some_inj h
            exact runK_end cfg_ok (k := 6) (rs := [([], [], []), ([], [(0, .call (.pl (.bool x6)) [])], []), ([(3, false), (4, false), (7, false), (8, false)], [(1, .call (.pl (.bool x13)) []), (5, .bool false), (9, .bool false)], []), ([], [(1, .call (.pl (.agg (Journal.cells x20))) [some (.box ((Journal.cells x20).map .pl))])], []), ([], [(1, .call (.tup [(.own 2), (.own 3), (.pl (.bool x24.1))]) [none, none, some (.row false 1 (x24.2.1.map (cInt .u8))), some (.row false 1 (x24.2.2.map (cInt .i64)))])], []), ([(3, false), (4, false), (5, false)], [(6, .bool false)], [(4, .val (.pl (.int .i64 (x24.2.1.length : Int))))]), ([(2, true)], [(3, .bool true)], [])]) (ps := [some false, some true]) (tds := []) (m := []) (keep := [6]) (ex := .ret) (st' := (f6n0E a1 a2 a3 (.ret x24.1)).2) (by kernel_rfl) (ap (f11_ok h7) (ap h15 (ap h15 (ap h15 (ap h16 (ap h16 (ap h16 (ap (f23_ok a1 h14) (ap (not_t h17) (ap (f24r1_ok a1 h21) (ap (CallS.ren (args' := [(.pl (.agg (Journal.cells x20)))]) (v' := (.tup [(.own 2), (.own 3), (.pl (.bool x24.1))])) (B := [none, none]) (B' := [none, none, some (.row false 1 (x24.2.1.map (cInt .u8))), some (.row false 1 (x24.2.2.map (cInt .i64)))]) 2 [] (f26r1_ok x20 h25) (by kernel_rfl) (by kernel_rfl) (by kernel_rfl) (by kernel_rfl) (by kernel_rfl) (by kernel_rfl)) (ap (not_t h28) (ap (not_t h28) (ap (len_cv (xs := x24.2.1) (c := (cInt .u8))) (ap (not_t h28) (ap (not_t h28) (ap h29 (ap h17 (ap h17 an))))))))))))))))))) (fun h => nomatch h) rfl
          · refine runK_norm cfg_ok (k := 8) (rs := [([], [], []), ([], [(0, .call (.pl (.bool x6)) [])], []), ([(3, false), (4, false), (7, false), (8, false)], [(1, .call (.pl (.bool x13)) []), (5, .bool false), (9, .bool false)], []), ([], [(1, .call (.pl (.agg (Journal.cells x20))) [some (.box ((Journal.cells x20).map .pl))])], []), ([], [(1, .call (.tup [(.own 2), (.own 3), (.pl (.bool x24.1))]) [none, none, some (.row false 1 (x24.2.1.map (cInt .u8))), some (.row false 1 (x24.2.2.map (cInt .i64)))])], []), ([(3, false), (4, false), (5, false)], [(6, .bool false)], [(4, .val (.pl (.int .i64 (x24.2.1.length : Int))))]), ([], [(3, .nz)], [(2, .val (.pl (.int .i64 (x24.2.1.length : Int))))]), ([], [], [])]) (ps := [some false, some false]) (tds := []) (m := [1, 2, 3]) (keep := [1, 2, 7, 8, 9, 10, 12, 13]) (st' := (f6n1S a2 x24 a3 x6 x20 0 0)) (by kernel_rfl) (ap (f11_ok h7) (ap h15 (ap h15 (ap h15 (ap h16 (ap h16 (ap h16 (ap (f23_ok a1 h14) (ap (not_t h17) (ap (f24r1_ok a1 h21) (ap (CallS.ren (args' := [(.pl (.agg (Journal.cells x20)))]) (v' := (.tup [(.own 2), (.own 3), (.pl (.bool x24.1))])) (B := [none, none]) (B' := [none, none, some (.row false 1 (x24.2.1.map (cInt .u8))), some (.row false 1 (x24.2.2.map (cInt .i64)))]) 2 [] (f26r1_ok x20 h25) (by kernel_rfl) (by kernel_rfl) (by kernel_rfl) (by kernel_rfl) (by kernel_rfl) (by kernel_rfl)) (ap (not_t h28) (ap (not_t h28) (ap (len_cv (xs := x24.2.1) (c := (cInt .u8))) (ap (not_t h28) (ap (not_t h28) (ap h29 (ap (len_cv (xs := x24.2.1) (c := (cInt .u8))) (ap (ne_of (not_f h29)) an))))))))))))))))))) ?_
            obtain ⟨o54, h55, h⟩ := bind_cases h
            cases o54 with
            | exit0 v56 v57 =>
              refine T.oneN (by kernel_rfl) (T.bl (i := 0) (by kernel_rfl) (by kernel_rfl) (f6n1_ok FUEL a2 x24 a3 x6 x20 0 0 h55)) (st2 := (f6n1E a2 x24 a3 x6 x20 (.exit0 v56 v57)).2) rfl ?_
              rcases cond_cases h with ⟨h60, h⟩ | ⟨h60, h⟩
              · obtain rfl := some_inj h
                exact runK_end cfg_ok (k := 1) (rs := [([(3, true), (4, true), (5, true), (6, true)], [(7, .bool true)], []), ([], [], [])]) (ps := [none]) (tds := []) (m := []) (keep := [6]) (ex := .ret) (st' := (f6n0E a1 a2 a3 (.ret x6)).2) (by kernel_rfl) (ap h60 (ap h60 (ap h60 (ap h60 (ap h60 an))))) (fun h => nomatch h) rfl
              · rcases cond_cases h with ⟨h61, h⟩ | ⟨h61, h⟩
                · obtain rfl := some_inj h
                  exact runK_end cfg_ok (k := 1) (rs := [([(3, false), (4, false), (5, false), (6, false)], [(7, .bool false)], []), ([], [], [])]) (ps := [some true]) (tds := []) (m := []) (keep := [6]) (ex := .ret) (st' := (f6n0E a1 a2 a3 (.ret x6)).2) (by kernel_rfl) (ap h60 (ap h60 (ap h60 (ap h60 (ap h60 (ap h61 an)))))) (fun h => nomatch h) rfl
                · obtain ⟨x64, h65, h⟩ := bind_cases h
                  obtain ⟨x68, h69, h⟩ := bind_cases h
                  rcases cond_cases h with ⟨h74, h⟩ | ⟨h74, h⟩
                  · obtain ⟨h75, h⟩ := req_cases h
                    obtain ⟨x76, h77, h⟩ := bind_cases h
                    obtain rfl := some_inj h
                    exact run_end cfg_ok (rs := [([(3, false), (4, false), (5, false), (6, false)], [(7, .bool false)], []), ([], [(4, .at_ (Int.toNat (Int.tmod a2 (x24.2.1.length : Int)))), (5, .idx 0 ((cInt .u8) x64)), (8, .at_ (Int.toNat (Int.tmod a2 (x24.2.1.length : Int)))), (9, .idx 0 ((cInt .u8) x64))], [(9, .row 1 ((x24.2.1.set (Int.toNat (Int.tmod a2 (x24.2.1.length : Int))) (IntKind.u8.wrap (BitVec.ofInt IntKind.u8.bits x64 ^^^ BitVec.ofInt IntKind.u8.bits a3).toNat)).map (cInt .u8)))]), ([], [(1, .call (.tup [(.pl (.agg (Journal.cells x68.1))), (.pl (.int .i64 x68.2))]) [])], []), ([(2, true), (3, true), (4, true), (7, true), (8, true), (9, true), (10, true), (11, true), (12, true), (13, true)], [(5, .bool true), (11, .cut 0 (Int.toNat v56)), (13, .call (.pl (.bool x76)) []), (14, .bool true)], [(11, .val (.pl (.sl .any 3 (((x20.Records.take (Int.toNat v56)).drop 0).map JournalRecord.cells))))])]) (ps := [some false]) (tds := []) (m := []) (keep := [6]) (r := (.ret, (f6n0E a1 a2 a3 (.ret x76)).2)) (by kernel_rfl) (ap h60 (ap h60 (ap h60 (ap h60 (ap h60 (ap h61 (ap (at_some h65).1 (ap (lt_map (cInt .u8) (at_some h65).2) (ap (at_map (cInt .u8) (at_some h65).2) (ap (at_some h65).1 (ap (lt_map (cInt .u8) (at_some h65).2) (ap (at_map (cInt .u8) (at_some h65).2) (ap (set_cv (xs := x24.2.1) (c := (cInt .u8)) (k := (Int.toNat (Int.tmod a2 (x24.2.1.length : Int)))) (x := (IntKind.u8.wrap (BitVec.ofInt IntKind.u8.bits x64 ^^^ BitVec.ofInt IntKind.u8.bits a3).toNat))) (ap (f16_ok (x24.2.1.set (Int.toNat (Int.tmod a2 (x24.2.1.length : Int))) (IntKind.u8.wrap (BitVec.ofInt IntKind.u8.bits x64 ^^^ BitVec.ofInt IntKind.u8.bits a3).toNat)) h69) (ap h17 (ap h17 (ap h17 (ap h17 (ap h74 (ap h74 (ap h74 (ap h74 (ap h74 (ap (cut_hn_1_map (c := JournalRecord.cells) h75) (ap (cut_hn_2 h75) (ap (cut_hn_3 h75) (ap (cut_hn_4_map (c := JournalRecord.cells) h75) (ap (congrArg (fun l => AV.pl (.sl .any 3 l)) (cut_cv (xs := x20.Records) (c := JournalRecord.cells) (n := (Int.toNat v56)) (m := 0))) (ap h74 (ap h74 (ap h74 (ap (f19_ok x68.1 (Journal.mk ((x20.Records.take (Int.toNat v56)).drop 0)) h77) an)))))))))))))))))))))))))))))))) rfl
                  · obtain rfl := some_inj h
                    exact run_end cfg_ok (rs := [([(3, false), (4, false), (5, false), (6, false)], [(7, .bool false)], []), ([], [(4, .at_ (Int.toNat (Int.tmod a2 (x24.2.1.length : Int)))), (5, .idx 0 ((cInt .u8) x64)), (8, .at_ (Int.toNat (Int.tmod a2 (x24.2.1.length : Int)))), (9, .idx 0 ((cInt .u8) x64))], [(9, .row 1 ((x24.2.1.set (Int.toNat (Int.tmod a2 (x24.2.1.length : Int))) (IntKind.u8.wrap (BitVec.ofInt IntKind.u8.bits x64 ^^^ BitVec.ofInt IntKind.u8.bits a3).toNat)).map (cInt .u8)))]), ([], [(1, .call (.tup [(.pl (.agg (Journal.cells x68.1))), (.pl (.int .i64 x68.2))]) [])], []), ([(2, true), (3, true), (4, true), (7, false), (8, false), (9, false), (10, false), (11, false), (12, false), (13, false)], [(5, .bool true), (14, .bool false)], [])]) (ps := [some false]) (tds := []) (m := []) (keep := [6]) (r := (.ret, (f6n0E a1 a2 a3 (.ret false)).2)) (by kernel_rfl) (ap h60 (ap h60 (ap h60 (ap h60 (ap h60 (ap h61 (ap (at_some h65).1 (ap (lt_map (cInt .u8) (at_some h65).2) (ap (at_map (cInt .u8) (at_some h65).2) (ap (at_some h65).1 (ap (lt_map (cInt .u8) (at_some h65).2) (ap (at_map (cInt .u8) (at_some h65).2) (ap (set_cv (xs := x24.2.1) (c := (cInt .u8)) (k := (Int.toNat (Int.tmod a2 (x24.2.1.length : Int)))) (x := (IntKind.u8.wrap (BitVec.ofInt IntKind.u8.bits x64 ^^^ BitVec.ofInt IntKind.u8.bits a3).toNat))) (ap (f16_ok (x24.2.1.set (Int.toNat (Int.tmod a2 (x24.2.1.length : Int))) (IntKind.u8.wrap (BitVec.ofInt IntKind.u8.bits x64 ^^^ BitVec.ofInt IntKind.u8.bits a3).toNat)) h69) (ap h17 (ap h17 (ap h17 (ap h17 (ap h74 (ap h74 (ap h74 (ap h74 (ap h74 (ap h74 (ap h74 (ap h74 an)))))))))))))))))))))))))) rfl
        · obtain rfl := some_inj h
          exact runK_end cfg_ok (k := 6) (rs := [([], [], []), ([], [(0, .call (.pl (.bool x6)) [])], []), ([(3, false), (4, false), (7, false), (8, false)], [(1, .call (.pl (.bool x13)) []), (5, .bool false), (9, .bool false)], []), ([], [(1, .call (.pl (.agg (Journal.cells x20))) [some (.box ((Journal.cells x20).map .pl))])], []), ([], [(1, .call (.tup [(.own 2), (.own 3), (.pl (.bool x24.1))]) [none, none, some (.row false 1 (x24.2.1.map (cInt .u8))), some (.row false 1 (x24.2.2.map (cInt .i64)))])], []), ([(3, true), (4, true), (5, true)], [(6, .bool true)], []), ([(2, true)], [(3, .bool true)], [])]) (ps := [some false, none]) (tds := []) (m := []) (keep := [6]) (ex := .ret) (st' := (f6n0E a1 a2 a3 (.ret x24.1)).2) (by kernel_rfl) (ap (f11_ok h7) (ap h15 (ap h15 (ap h15 (ap h16 (ap h16 (ap h16 (ap (f23_ok a1 h14) (ap (not_t h17) (ap (f24r1_ok a1 h21) (ap (CallS.ren (args' := [(.pl (.agg (Journal.cells x20)))]) (v' := (.tup [(.own 2), (.own 3), (.pl (.bool x24.1))])) (B := [none, none]) (B' := [none, none, some (.row false 1 (x24.2.1.map (cInt .u8))), some (.row false 1 (x24.2.2.map (cInt .i64)))]) 2 [] (f26r1_ok x20 h25) (by kernel_rfl) (by kernel_rfl) (by kernel_rfl) (by kernel_rfl) (by kernel_rfl) (by kernel_rfl)) (ap (not_f h28) (ap (not_f h28) (ap (not_f h28) (ap (not_f h28) (ap h17 (ap h17 an))))))))))))))))) (fun h => nomatch h) rfl
      · obtain rfl := some_inj h
        exact runK_end cfg_ok (k := 3) (rs := [([], [], []), ([], [(0, .call (.pl (.bool x6)) [])], []), ([(3, false), (4, false), (7, false), (8, false)], [(1, .call (.pl (.bool x13)) []), (5, .bool false), (9, .bool false)], []), ([], [], [])]) (ps := [some true]) (tds := []) (m := []) (keep := [6]) (ex := .ret) (st' := (f6n0E a1 a2 a3 (.ret x6)).2) (by kernel_rfl) (ap (f11_ok h7) (ap h15 (ap h15 (ap h15 (ap h16 (ap h16 (ap h16 (ap (f23_ok a1 h14) (ap (not_f h17) an))))))))) (fun h => nomatch h) rfl
noncomputable def f6 (a1 : List Entry) (a2 : Int) (a3 : Int) : Option Bool := (f6n0 a1 a2 a3).bind fun o => match o with
  | .ret v78 => some v78
theorem f6_ok (a1 : List Entry) (a2 : Int) (a3 : Int) {r : Bool} (h : (f6 a1 a2 a3) = some r) : CallS Try.prog false 6 [(.pl (.sl .any 3 (a1.map Entry.cells))), (.pl (.int .i64 a2)), (.pl (.int .u8 a3))] [] (.pl (.bool r)) [] := by
  unfold f6 at h
  obtain ⟨o, ho, h⟩ := bind_cases h
  cases o with
  | ret v78 =>
    obtain rfl := some_inj h
    exact CallS.plain cfg_ok (f := Try.f6) (c := c6) (by kernel_rfl) (by kernel_rfl) (by kernel_rfl) (by kernel_rfl) ((f6n0_ok a1 a2 a3 ho).mono fun r e => by subst e; exact ⟨.inl rfl, (.pl (.bool v78)), (.pl (.bool v78)), by kernel_rfl, by kernel_rfl, ((Wk.refl _) : Wk (.pl (.bool v78)) (.pl (.bool v78)))⟩)
end Go.Proofs.Ytbgjlpdeoljmiaa
