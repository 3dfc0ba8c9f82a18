/- Functions of the program, plainly, and that the machine computes them. No condition. -/
import Derived.Test.YtelblamgfbkhbaaNt
namespace Go.Proofs.Ytelblamgfbkhbaa
set_option linter.unusedVariables false
set_option linter.unusedSimpArgs false
set_option maxRecDepth 100000
open Go.RowKit
/-! ### novation/variation.New -/
noncomputable def c12 : Code := Try.f12.body.getD .skip
inductive f12n0O where
  | ret (v6 : Int) (v7 : Int)
def f12n0E (a1 : Int) : f12n0O → Ex × Tr × Hp
  | .ret v6 v7 => (.ret, mkS [(2, (.bp 0 0)), (3, (.pl (.int .i64 v6)))], [some (.box [(.pl (.int .i64 v7)), (.pl (.sl .nil 0 []))])])
def f12n0S (a1 : Int) : Tr × Hp := (initS [(.pl (.int .i64 a1))] 0 .leaf, [])
noncomputable def f12n0 (a1 : Int) : Option f12n0O :=
  bif (decide (a1 < 0)) then
    some (.ret 2 0)
  else
    bif (decide (99999 < a1)) then
      some (.ret 2 0)
    else
      some (.ret 0 a1)
theorem f12n0_ok (a1 : Int) {o : f12n0O} (h : (f12n0 a1) = some o) : T Try.prog Try.f12.ntmps 0 c12 (f12n0S a1) (fun r => r = f12n0E a1 o) := by
  unfold f12n0 at h
  rcases cond_cases h with ⟨h4, h⟩ | ⟨h4, h⟩
  · obtain rfl := some_inj h
    exact runK_end cfg_ok (k := 2) (rs := [([], [], []), ([(3, true), (4, true)], [(5, .bool true)], []), ([], [], [])]) (ps := [none]) (tds := []) (m := [0]) (keep := [2, 3]) (ex := .ret) (st' := (f12n0E a1 (.ret 2 0)).2) (by kernel_rfl) (ap h4 (ap h4 (ap h4 an))) (fun h => nomatch h) rfl
  · rcases cond_cases h with ⟨h5, h⟩ | ⟨h5, h⟩
    · obtain rfl := some_inj h
      exact runK_end cfg_ok (k := 2) (rs := [([], [], []), ([(3, false), (4, false)], [(5, .bool false)], []), ([], [], [])]) (ps := [some true]) (tds := []) (m := [0]) (keep := [2, 3]) (ex := .ret) (st' := (f12n0E a1 (.ret 2 0)).2) (by kernel_rfl) (ap h4 (ap h4 (ap h4 (ap h5 an)))) (fun h => nomatch h) rfl
    · obtain rfl := some_inj h
      exact run_end cfg_ok (rs := [([], [], []), ([(3, false), (4, false)], [(5, .bool false)], []), ([], [], [])]) (ps := [some false]) (tds := []) (m := [0]) (keep := [2, 3]) (r := (.ret, (f12n0E a1 (.ret 0 a1)).2)) (by kernel_rfl) (ap h4 (ap h4 (ap h4 (ap h5 an)))) rfl
noncomputable def f12 (a1 : Int) : Option (Variation × Int) := (f12n0 a1).bind fun o => match o with
  | .ret v6 v7 => some ((Variation.mk v7 []), v6)
theorem f12_ok (a1 : Int) {r : Variation × Int} (h : (f12 a1) = some r) : CallS Try.prog false 12 [(.pl (.int .i64 a1))] [] (.tup [(.pl (.agg (Variation.cells r.1))), (.pl (.int .i64 r.2))]) [] := by
  unfold f12 at h
  obtain ⟨o, ho, h⟩ := bind_cases h
  cases o with
  | ret v6 v7 =>
    obtain rfl := some_inj h
    exact CallS.plain cfg_ok (f := Try.f12) (c := c12) (by kernel_rfl) (by kernel_rfl) (by kernel_rfl) (by kernel_rfl) ((f12n0_ok a1 ho).mono fun r e => by subst e; exact ⟨.inl rfl, (.tup [(.pl (.agg [(.int .i64 v7), (.sl .nil 0 [])])), (.pl (.int .i64 v6))]), (.tup [(.pl (.agg [(.int .i64 v7), (.sl .nil 0 [])])), (.pl (.int .i64 v6))]), by kernel_rfl, by kernel_rfl, ((Wk.tup (wlc (Wk.pl (WkP.agg (wpc (WkP.refl _) (wpc (WkP.nil (f := .nil) (sz := 0) (sz' := 4)) wpn)))) (wlc (Wk.refl _) wln))) : Wk (.tup [(.pl (.agg [(.int .i64 v7), (.sl .nil 0 [])])), (.pl (.int .i64 v6))]) (.tup [(.pl (.agg (Variation.cells (Variation.mk v7 [])))), (.pl (.int .i64 v6))]))⟩)
/-! ### novation/variation.within -/
noncomputable def c37 : Code := Try.f37.body.getD .skip
inductive f37n0O where
  | ret (v5 : Bool)
def f37n0E (a1 : Int) (a2 : Int) : f37n0O → Ex × Tr × Hp
  | .ret v5 => (.ret, mkS [(4, (.pl (.bool v5)))], [])
def f37n0S (a1 : Int) (a2 : Int) : Tr × Hp := (initS [(.pl (.int .i64 a1)), (.pl (.int .i64 a2))] 0 .leaf, [])
noncomputable def f37n0 (a1 : Int) (a2 : Int) : Option f37n0O :=
  bif (decide ((wr64 (0 - a2)) ≤ a1)) then
    some (.ret (decide (a1 ≤ a2)))
  else
    some (.ret false)
theorem f37n0_ok (a1 : Int) (a2 : Int) {o : f37n0O} (h : (f37n0 a1 a2) = some o) : T Try.prog Try.f37.ntmps 0 c37 (f37n0S a1 a2) (fun r => r = f37n0E a1 a2 o) := by
  unfold f37n0 at h
  rcases cond_cases h with ⟨h4, h⟩ | ⟨h4, h⟩
  · obtain rfl := some_inj h
    exact run_end cfg_ok (rs := [([], [], []), ([(5, true), (6, true), (7, true)], [(8, .bool true)], [])]) (ps := []) (tds := []) (m := []) (keep := [4]) (r := (.ret, (f37n0E a1 a2 (.ret (decide (a1 ≤ a2)))).2)) (by kernel_rfl) (ap h4 (ap h4 (ap h4 (ap h4 an)))) rfl
  · obtain rfl := some_inj h
    exact run_end cfg_ok (rs := [([], [], []), ([(5, false), (6, false), (7, false)], [(8, .bool false)], [])]) (ps := []) (tds := []) (m := []) (keep := [4]) (r := (.ret, (f37n0E a1 a2 (.ret false)).2)) (by kernel_rfl) (ap h4 (ap h4 (ap h4 (ap h4 an)))) rfl
noncomputable def f37 (a1 : Int) (a2 : Int) : Option Bool := (f37n0 a1 a2).bind fun o => match o with
  | .ret v5 => some v5
theorem f37_ok (a1 : Int) (a2 : Int) {r : Bool} (h : (f37 a1 a2) = some r) : CallS Try.prog false 37 [(.pl (.int .i64 a1)), (.pl (.int .i64 a2))] [] (.pl (.bool r)) [] := by
  unfold f37 at h
  obtain ⟨o, ho, h⟩ := bind_cases h
  cases o with
  | ret v5 =>
    obtain rfl := some_inj h
    exact CallS.plain cfg_ok (f := Try.f37) (c := c37) (by kernel_rfl) (by kernel_rfl) (by kernel_rfl) (by kernel_rfl) ((f37n0_ok a1 a2 ho).mono fun r e => by subst e; exact ⟨.inl rfl, (.pl (.bool v5)), (.pl (.bool v5)), by kernel_rfl, by kernel_rfl, ((Wk.refl _) : Wk (.pl (.bool v5)) (.pl (.bool v5)))⟩)
/-! ### novation/observable.letter -/
noncomputable def c62 : Code := Try.f62.body.getD .skip
inductive f62n0O where
  | ret (v10 : Bool)
def f62n0E (a1 : Int) : f62n0O → Ex × Tr × Hp
  | .ret v10 => (.ret, mkS [(2, (.pl (.bool v10)))], [])
def f62n0S (a1 : Int) : Tr × Hp := (initS [(.pl (.int .u8 a1))] 0 .leaf, [])
noncomputable def f62n0 (a1 : Int) : Option f62n0O :=
  bif (decide (97 ≤ a1)) then
    bif (decide (a1 ≤ 122)) then
      some (.ret true)
    else
      bif (decide (65 ≤ a1)) then
        some (.ret (decide (a1 ≤ 90)))
      else
        some (.ret false)
  else
    bif (decide (65 ≤ a1)) then
      some (.ret (decide (a1 ≤ 90)))
    else
      some (.ret false)
theorem f62n0_ok (a1 : Int) {o : f62n0O} (h : (f62n0 a1) = some o) : T Try.prog Try.f62.ntmps 0 c62 (f62n0S a1) (fun r => r = f62n0E a1 o) := by
  unfold f62n0 at h
  rcases cond_cases h with ⟨h6, h⟩ | ⟨h6, h⟩
  · rcases cond_cases h with ⟨h7, h⟩ | ⟨h7, h⟩
    · obtain rfl := some_inj h
      exact run_end cfg_ok (rs := [([], [], []), ([(3, true), (4, true), (7, true), (8, true), (9, true), (12, true)], [(5, .bool true), (13, .bool true)], [])]) (ps := []) (tds := []) (m := []) (keep := [2]) (r := (.ret, (f62n0E a1 (.ret true)).2)) (by kernel_rfl) (ap h6 (ap h6 (ap h6 (ap h7 (ap h7 (ap h7 (ap h7 (ap h7 an)))))))) rfl
    · rcases cond_cases h with ⟨h8, h⟩ | ⟨h8, h⟩
      · obtain rfl := some_inj h
        exact run_end cfg_ok (rs := [([], [], []), ([(3, true), (4, true), (7, false), (8, false), (9, false), (10, true), (11, true), (12, false)], [(5, .bool true), (12, .bool true), (13, .bool false)], [])]) (ps := []) (tds := []) (m := []) (keep := [2]) (r := (.ret, (f62n0E a1 (.ret (decide (a1 ≤ 90)))).2)) (by kernel_rfl) (ap h6 (ap h6 (ap h6 (ap h7 (ap h7 (ap h7 (ap h8 (ap h8 (ap h7 (ap h8 (ap h7 an))))))))))) rfl
      · obtain rfl := some_inj h
        exact run_end cfg_ok (rs := [([], [], []), ([(3, true), (4, true), (7, false), (8, false), (9, false), (10, false), (11, false), (12, false)], [(5, .bool true), (12, .bool false), (13, .bool false)], [])]) (ps := []) (tds := []) (m := []) (keep := [2]) (r := (.ret, (f62n0E a1 (.ret false)).2)) (by kernel_rfl) (ap h6 (ap h6 (ap h6 (ap h7 (ap h7 (ap h7 (ap h8 (ap h8 (ap h7 (ap h8 (ap h7 an))))))))))) rfl
  · rcases cond_cases h with ⟨h9, h⟩ | ⟨h9, h⟩
    · obtain rfl := some_inj h
      exact run_end cfg_ok (rs := [([], [], []), ([(3, false), (4, false), (10, true), (11, true)], [(5, .bool false), (12, .bool true)], [])]) (ps := []) (tds := []) (m := []) (keep := [2]) (r := (.ret, (f62n0E a1 (.ret (decide (a1 ≤ 90)))).2)) (by kernel_rfl) (ap h6 (ap h6 (ap h6 (ap h9 (ap h9 (ap h9 an)))))) rfl
    · obtain rfl := some_inj h
      exact run_end cfg_ok (rs := [([], [], []), ([(3, false), (4, false), (10, false), (11, false)], [(5, .bool false), (12, .bool false)], [])]) (ps := []) (tds := []) (m := []) (keep := [2]) (r := (.ret, (f62n0E a1 (.ret false)).2)) (by kernel_rfl) (ap h6 (ap h6 (ap h6 (ap h9 (ap h9 (ap h9 an)))))) rfl
noncomputable def f62 (a1 : Int) : Option Bool := (f62n0 a1).bind fun o => match o with
  | .ret v10 => some v10
theorem f62_ok (a1 : Int) {r : Bool} (h : (f62 a1) = some r) : CallS Try.prog false 62 [(.pl (.int .u8 a1))] [] (.pl (.bool r)) [] := by
  unfold f62 at h
  obtain ⟨o, ho, h⟩ := bind_cases h
  cases o with
  | ret v10 =>
    obtain rfl := some_inj h
    exact CallS.plain cfg_ok (f := Try.f62) (c := c62) (by kernel_rfl) (by kernel_rfl) (by kernel_rfl) (by kernel_rfl) ((f62n0_ok a1 ho).mono fun r e => by subst e; exact ⟨.inl rfl, (.pl (.bool v10)), (.pl (.bool v10)), by kernel_rfl, by kernel_rfl, ((Wk.refl _) : Wk (.pl (.bool v10)) (.pl (.bool v10)))⟩)
/-! ### novation/observable.Name -/
noncomputable def c45 : Code := Try.f45.body.getD .skip
inductive f45n2O where
  | exit0
  | ret
def f45n2E (bb1 : ByteArray) : f45n2O → Ex × Tr × Hp
  | .exit0 => ((.exit 0), mkS [], [])
  | .ret => (.ret, mkS [(2, (.pl (.bool false)))], [])
def f45n2S (bb1 : ByteArray) (v65 : Int) : Tr × Hp := (mkS [(0, (.pl (.str bb1))), (20, (.pl (.int .i64 (bb1.size : Int)))), (21, (.pl (.int .i64 v65)))], [])
noncomputable def f45n2 : Nat → ByteArray → Int → Option f45n2O
  | 0, _, _ => none
  | f + 1, bb1, v65 =>
    bif (decide (v65 < (bb1.size : Int))) then
      (at? bb1.data.toList v65).bind fun x79 =>
      (f62 (x79.toNat : Int)).bind fun x81 =>
      bif x81 then
        (f45n2 f bb1 (wr64 (v65 + 1)))
      else
        bif (decide ((x79.toNat : Int) < 48)) then
          bif (decide ((x79.toNat : Int) = 95)) then
            (f45n2 f bb1 (wr64 (v65 + 1)))
          else
            bif (decide ((x79.toNat : Int) = 45)) then
              (f45n2 f bb1 (wr64 (v65 + 1)))
            else
              some .ret
        else
          bif (decide (57 < (x79.toNat : Int))) then
            bif (decide ((x79.toNat : Int) = 95)) then
              (f45n2 f bb1 (wr64 (v65 + 1)))
            else
              bif (decide ((x79.toNat : Int) = 45)) then
                (f45n2 f bb1 (wr64 (v65 + 1)))
              else
                some .ret
          else
            (f45n2 f bb1 (wr64 (v65 + 1)))
    else
      some .exit0
theorem f45n2_ok : ∀ (f : Nat) (bb1 : ByteArray) (v65 : Int) {o : f45n2O}, (f45n2 f bb1 v65) = some o → TL Try.prog Try.f45.ntmps 0 f (cL (cL (dropC 1 (cL (dropC 2 c45))))) (f45n2S bb1 v65) (fun r => r = f45n2E bb1 o)
  | 0, _, _, o, h => by rw [f45n2] at h; cases h
  | f + 1, bb1, v65, o, h => by
    rw [f45n2] at h
    refine TL.body (K := fun s => ∃ v65 : Int, s = (f45n2S bb1 v65) ∧ (f45n2 f bb1 v65) = some o) ?_ (by rintro _ ⟨v65, rfl, hk⟩; exact f45n2_ok f _ _ hk)
    rcases cond_cases h with ⟨h67, h⟩ | ⟨h67, h⟩
    · obtain ⟨x79, h80, h⟩ := bind_cases h
      obtain ⟨x81, h82, h⟩ := bind_cases h
      rcases cond_cases h with ⟨h83, h⟩ | ⟨h83, h⟩
      · exact run_end cfg_ok (rs := [([], [], []), ([], [], []), ([], [(2, .byte (Int.toNat v65) x79)], []), ([(4, false), (5, false), (6, false), (9, false)], [(1, .call (.pl (.bool x81)) []), (10, .bool false)], []), ([], [], [])]) (ps := [some true, none]) (tds := []) (m := []) (keep := [0, 20, 21]) (r := (.norm, (f45n2S bb1 (wr64 (v65 + 1))))) (by kernel_rfl) (ap h67 (ap (at_some h80).1 (ap (at_some h80).2 (ap (not_t h83) (ap (not_t h83) (ap (not_t h83) (ap (not_t h83) (ap (not_t h83) (ap (f62_ok (x79.toNat : Int) h82) an))))))))) (LoopQ.norm ⟨(wr64 (v65 + 1)), rfl, h⟩)
      · rcases cond_cases h with ⟨h84, h⟩ | ⟨h84, h⟩
        · rcases cond_cases h with ⟨h85, h⟩ | ⟨h85, h⟩
          · exact run_end cfg_ok (rs := [([], [], []), ([], [], []), ([], [(2, .byte (Int.toNat v65) x79)], []), ([(4, true), (5, true), (6, true), (7, true), (8, true), (9, true), (16, false), (17, false)], [(1, .call (.pl (.bool x81)) []), (9, .bool true), (10, .bool true), (18, .bool false)], []), ([], [], [])]) (ps := [some true, none]) (tds := []) (m := []) (keep := [0, 20, 21]) (r := (.norm, (f45n2S bb1 (wr64 (v65 + 1))))) (by kernel_rfl) (ap h67 (ap (at_some h80).1 (ap (at_some h80).2 (ap (not_f h83) (ap (not_f h83) (ap (not_f h83) (ap h84 (ap h84 (ap (not_f h83) (ap h84 (ap (not_f h83) (ap (not_t h85) (ap (not_t h85) (ap (not_t h85) (ap (f62_ok (x79.toNat : Int) h82) an))))))))))))))) (LoopQ.norm ⟨(wr64 (v65 + 1)), rfl, h⟩)
          · rcases cond_cases h with ⟨h86, h⟩ | ⟨h86, h⟩
            · exact run_end cfg_ok (rs := [([], [], []), ([], [], []), ([], [(2, .byte (Int.toNat v65) x79)], []), ([(4, true), (5, true), (6, true), (7, true), (8, true), (9, true), (16, true), (17, true)], [(1, .call (.pl (.bool x81)) []), (9, .bool true), (10, .bool true), (18, .bool true)], []), ([], [], [])]) (ps := [some true, some false]) (tds := []) (m := []) (keep := [0, 20, 21]) (r := (.norm, (f45n2S bb1 (wr64 (v65 + 1))))) (by kernel_rfl) (ap h67 (ap (at_some h80).1 (ap (at_some h80).2 (ap (not_f h83) (ap (not_f h83) (ap (not_f h83) (ap h84 (ap h84 (ap (not_f h83) (ap h84 (ap (not_f h83) (ap (not_f h85) (ap (not_f h85) (ap (not_f h85) (ap (f62_ok (x79.toNat : Int) h82) (ap (not_t h86) an)))))))))))))))) (LoopQ.norm ⟨(wr64 (v65 + 1)), rfl, h⟩)
            · obtain rfl := some_inj h
              exact runK_end cfg_ok (k := 3) (rs := [([], [], []), ([], [], []), ([], [(2, .byte (Int.toNat v65) x79)], []), ([(4, true), (5, true), (6, true), (7, true), (8, true), (9, true), (16, true), (17, true)], [(1, .call (.pl (.bool x81)) []), (9, .bool true), (10, .bool true), (18, .bool true)], []), ([], [], [])]) (ps := [some true, some true]) (tds := []) (m := []) (keep := [2]) (ex := .ret) (st' := (f45n2E bb1 .ret).2) (by kernel_rfl) (ap h67 (ap (at_some h80).1 (ap (at_some h80).2 (ap (not_f h83) (ap (not_f h83) (ap (not_f h83) (ap h84 (ap h84 (ap (not_f h83) (ap h84 (ap (not_f h83) (ap (not_f h85) (ap (not_f h85) (ap (not_f h85) (ap (f62_ok (x79.toNat : Int) h82) (ap (not_f h86) an)))))))))))))))) (fun h => nomatch h) (LoopQ.out rfl rfl)
        · rcases cond_cases h with ⟨h87, h⟩ | ⟨h87, h⟩
          · rcases cond_cases h with ⟨h88, h⟩ | ⟨h88, h⟩
            · exact run_end cfg_ok (rs := [([], [], []), ([], [], []), ([], [(2, .byte (Int.toNat v65) x79)], []), ([(4, true), (5, true), (6, true), (7, false), (8, false), (9, true), (12, true), (13, true), (16, false), (17, false)], [(1, .call (.pl (.bool x81)) []), (9, .bool false), (10, .bool true), (14, .bool true), (18, .bool false)], []), ([], [], [])]) (ps := [some true, none]) (tds := []) (m := []) (keep := [0, 20, 21]) (r := (.norm, (f45n2S bb1 (wr64 (v65 + 1))))) (by kernel_rfl) (ap h67 (ap (at_some h80).1 (ap (at_some h80).2 (ap (not_f h83) (ap (not_f h83) (ap (not_f h83) (ap h84 (ap h84 (ap (not_f h83) (ap h84 (ap (not_f h83) (ap h87 (ap h87 (ap h87 (ap (not_t h88) (ap (not_t h88) (ap (not_t h88) (ap (f62_ok (x79.toNat : Int) h82) an)))))))))))))))))) (LoopQ.norm ⟨(wr64 (v65 + 1)), rfl, h⟩)
            · rcases cond_cases h with ⟨h89, h⟩ | ⟨h89, h⟩
              · exact run_end cfg_ok (rs := [([], [], []), ([], [], []), ([], [(2, .byte (Int.toNat v65) x79)], []), ([(4, true), (5, true), (6, true), (7, false), (8, false), (9, true), (12, true), (13, true), (16, true), (17, true)], [(1, .call (.pl (.bool x81)) []), (9, .bool false), (10, .bool true), (14, .bool true), (18, .bool true)], []), ([], [], [])]) (ps := [some true, some false]) (tds := []) (m := []) (keep := [0, 20, 21]) (r := (.norm, (f45n2S bb1 (wr64 (v65 + 1))))) (by kernel_rfl) (ap h67 (ap (at_some h80).1 (ap (at_some h80).2 (ap (not_f h83) (ap (not_f h83) (ap (not_f h83) (ap h84 (ap h84 (ap (not_f h83) (ap h84 (ap (not_f h83) (ap h87 (ap h87 (ap h87 (ap (not_f h88) (ap (not_f h88) (ap (not_f h88) (ap (f62_ok (x79.toNat : Int) h82) (ap (not_t h89) an))))))))))))))))))) (LoopQ.norm ⟨(wr64 (v65 + 1)), rfl, h⟩)
              · obtain rfl := some_inj h
                exact runK_end cfg_ok (k := 3) (rs := [([], [], []), ([], [], []), ([], [(2, .byte (Int.toNat v65) x79)], []), ([(4, true), (5, true), (6, true), (7, false), (8, false), (9, true), (12, true), (13, true), (16, true), (17, true)], [(1, .call (.pl (.bool x81)) []), (9, .bool false), (10, .bool true), (14, .bool true), (18, .bool true)], []), ([], [], [])]) (ps := [some true, some true]) (tds := []) (m := []) (keep := [2]) (ex := .ret) (st' := (f45n2E bb1 .ret).2) (by kernel_rfl) (ap h67 (ap (at_some h80).1 (ap (at_some h80).2 (ap (not_f h83) (ap (not_f h83) (ap (not_f h83) (ap h84 (ap h84 (ap (not_f h83) (ap h84 (ap (not_f h83) (ap h87 (ap h87 (ap h87 (ap (not_f h88) (ap (not_f h88) (ap (not_f h88) (ap (f62_ok (x79.toNat : Int) h82) (ap (not_f h89) an))))))))))))))))))) (fun h => nomatch h) (LoopQ.out rfl rfl)
          · exact run_end cfg_ok (rs := [([], [], []), ([], [], []), ([], [(2, .byte (Int.toNat v65) x79)], []), ([(4, true), (5, true), (6, true), (7, false), (8, false), (9, true), (12, false), (13, false)], [(1, .call (.pl (.bool x81)) []), (9, .bool false), (10, .bool true), (14, .bool false)], []), ([], [], [])]) (ps := [some true, none]) (tds := []) (m := []) (keep := [0, 20, 21]) (r := (.norm, (f45n2S bb1 (wr64 (v65 + 1))))) (by kernel_rfl) (ap h67 (ap (at_some h80).1 (ap (at_some h80).2 (ap (not_f h83) (ap (not_f h83) (ap (not_f h83) (ap h84 (ap h84 (ap (not_f h83) (ap h84 (ap (not_f h83) (ap h87 (ap h87 (ap h87 (ap (f62_ok (x79.toNat : Int) h82) an))))))))))))))) (LoopQ.norm ⟨(wr64 (v65 + 1)), rfl, h⟩)
    · obtain rfl := some_inj h
      exact runK_end cfg_ok (k := 2) (rs := [([], [], [])]) (ps := [some false]) (tds := []) (m := []) (keep := []) (ex := (.exit 0)) (st' := (f45n2E bb1 .exit0).2) (by kernel_rfl) (ap h67 an) (fun h => nomatch h) (LoopQ.out rfl rfl)
noncomputable def f45n2L (bb1 : ByteArray) : List UInt8 → Int → Option f45n2O
  | [], v65 =>
    some .exit0
  | x0 :: rest, v65 =>
    (f62 (x0.toNat : Int)).bind fun x81 =>
    bif x81 then
      (f45n2L bb1 rest (v65 + 1))
    else
      bif (decide ((x0.toNat : Int) < 48)) then
        bif (decide ((x0.toNat : Int) = 95)) then
          (f45n2L bb1 rest (v65 + 1))
        else
          bif (decide ((x0.toNat : Int) = 45)) then
            (f45n2L bb1 rest (v65 + 1))
          else
            some .ret
      else
        bif (decide (57 < (x0.toNat : Int))) then
          bif (decide ((x0.toNat : Int) = 95)) then
            (f45n2L bb1 rest (v65 + 1))
          else
            bif (decide ((x0.toNat : Int) = 45)) then
              (f45n2L bb1 rest (v65 + 1))
            else
              some .ret
        else
          (f45n2L bb1 rest (v65 + 1))
theorem f45n2L_eq (bb1 : ByteArray) : ∀ (rest : List UInt8) (f k : Nat), bb1.data.toList.drop k = rest → bb1.data.toList.length ≤ maxLen → rest.length < f → f45n2 f bb1 (k : Int) = f45n2L bb1 rest (k : Int)
  | _, 0, _, _, _, hf => absurd hf (Nat.not_lt_zero _)
  | [], f + 1, k, hd, hm, hf => by
    have hk : ¬ ((k : Int) < (bb1.data.toList.length : Int)) := by have := drop_nil hd; omega
    rw [f45n2, f45n2L]
    simp only [size_list, decide_eq_false hk, cond_false]
  | x0 :: rest, f + 1, k, hd, hm, hf => by
    obtain ⟨hx, hlt, hd'⟩ := drop_cons hd
    have hk : (k : Int) < (bb1.data.toList.length : Int) := by omega
    have hw : wr64 ((k : Int) + 1) = (k : Int) + 1 := wr64_of (by omega) (by unfold maxLen at hm; omega)
    have ih : f45n2 f bb1 ((k : Int) + 1) = f45n2L bb1 rest ((k : Int) + 1) := f45n2L_eq bb1 rest f (k + 1) hd' hm (by simpa using hf)
    rw [f45n2, f45n2L]
    simp only [size_list, decide_eq_true hk, cond_true, at_nat, hx, Option.bind_some, hw, ih]
theorem f45n2_run (bb1 : ByteArray) (hm : bb1.data.toList.length ≤ maxLen) : f45n2 FUEL bb1 0 = f45n2L bb1 bb1.data.toList 0 := f45n2L_eq bb1 bb1.data.toList FUEL 0 List.drop_zero hm (lt_FUEL hm)
inductive f45n1O where
  | norm
  | ret
def f45n1E (bb1 : ByteArray) : f45n1O → Ex × Tr × Hp
  | .norm => (.norm, mkS [], [])
  | .ret => (.ret, mkS [(2, (.pl (.bool false)))], [])
def f45n1S (bb1 : ByteArray) : Tr × Hp := (mkS [(0, (.pl (.str bb1)))], [])
noncomputable def f45n1 (bb1 : ByteArray) : Option f45n1O :=
  (f45n2 FUEL bb1 0).bind fun o90 => match o90 with
  | .exit0 => some .norm
  | .ret => some .ret
theorem f45n1_ok (bb1 : ByteArray) {o : f45n1O} (h : (f45n1 bb1) = some o) : T Try.prog Try.f45.ntmps 0 (cL (dropC 2 c45)) (f45n1S bb1) (fun r => r = f45n1E bb1 o) := by
  unfold f45n1 at h
  refine runK_norm cfg_ok (k := 1) (rs := [([], [], [])]) (ps := []) (tds := []) (m := []) (keep := [0, 20, 21]) (st' := (f45n2S bb1 0)) (by kernel_rfl) an ?_
  obtain ⟨o90, h91, h⟩ := bind_cases h
  cases o90 with
  | exit0 =>
    obtain rfl := some_inj h
    exact T.last' (T.bl (i := 0) (by kernel_rfl) (by kernel_rfl) (f45n2_ok FUEL bb1 0 h91)) (tds := []) (m := []) (keep := []) (st2 := (f45n1E bb1 .norm).2) (by kernel_rfl) an rfl
  | ret =>
    obtain rfl := some_inj h
    exact T.last' (T.bl (i := 0) (by kernel_rfl) (by kernel_rfl) (f45n2_ok FUEL bb1 0 h91)) (tds := []) (m := []) (keep := [2]) (st2 := (f45n1E bb1 .ret).2) (by kernel_rfl) an rfl
inductive f45n0O where
  | ret (v94 : Bool)
def f45n0E (a1 : ByteArray) : f45n0O → Ex × Tr × Hp
  | .ret v94 => (.ret, mkS [(2, (.pl (.bool v94)))], [])
def f45n0S (a1 : ByteArray) : Tr × Hp := (initS [(.pl (.str a1))] 0 .leaf, [])
noncomputable def f45n0 (a1 : ByteArray) : Option f45n0O :=
  bif (decide ((a1.size : Int) < 1)) then
    some (.ret false)
  else
    bif (decide (40 < (a1.size : Int))) then
      some (.ret false)
    else
      (at? a1.data.toList 0).bind fun x11 =>
      (f62 (x11.toNat : Int)).bind fun x13 =>
      bif x13 then
        (f45n1 a1).bind fun o92 => match o92 with
        | .norm => some (.ret true)
        | .ret => some (.ret false)
      else
        some (.ret false)
theorem f45n0_ok (a1 : ByteArray) {o : f45n0O} (h : (f45n0 a1) = some o) : T Try.prog Try.f45.ntmps 0 c45 (f45n0S a1) (fun r => r = f45n0E a1 o) := by
  unfold f45n0 at h
  rcases cond_cases h with ⟨h9, h⟩ | ⟨h9, h⟩
  · obtain rfl := some_inj h
    exact runK_end cfg_ok (k := 2) (rs := [([], [], []), ([(4, true), (5, true), (6, true)], [(7, .bool true)], []), ([], [], [])]) (ps := [none]) (tds := []) (m := []) (keep := [2]) (ex := .ret) (st' := (f45n0E a1 (.ret false)).2) (by kernel_rfl) (ap h9 (ap h9 (ap h9 (ap h9 an)))) (fun h => nomatch h) rfl
  · rcases cond_cases h with ⟨h10, h⟩ | ⟨h10, h⟩
    · obtain rfl := some_inj h
      exact runK_end cfg_ok (k := 2) (rs := [([], [], []), ([(4, false), (5, false), (6, false), (9, true), (10, true), (11, true), (12, true)], [(7, .bool false), (13, .bool true)], []), ([], [], [])]) (ps := [none]) (tds := []) (m := []) (keep := [2]) (ex := .ret) (st' := (f45n0E a1 (.ret false)).2) (by kernel_rfl) (ap h9 (ap h9 (ap h9 (ap h9 (ap h10 (ap h10 (ap h10 (ap h10 (ap h10 an))))))))) (fun h => nomatch h) rfl
    · obtain ⟨x11, h12, h⟩ := bind_cases h
      obtain ⟨x13, h14, h⟩ := bind_cases h
      rcases cond_cases h with ⟨h15, h⟩ | ⟨h15, h⟩
      · refine runK_norm cfg_ok (k := 2) (rs := [([], [], []), ([(4, false), (5, false), (6, false), (9, false), (10, false), (11, false), (12, false)], [(7, .bool false), (10, .byte (Int.toNat 0) x11), (11, .call (.pl (.bool x13)) []), (13, .bool false)], [])]) (ps := [some false]) (tds := []) (m := []) (keep := [0]) (st' := (f45n1S a1)) (by kernel_rfl) (ap h9 (ap h9 (ap h9 (ap h9 (ap h10 (ap h10 (ap (at_some h12).1 (ap (at_some h12).2 (ap h10 (ap h10 (ap h10 (ap (f62_ok (x11.toNat : Int) h14) (ap (not_t h15) an))))))))))))) ?_
        obtain ⟨o92, h93, h⟩ := bind_cases h
        cases o92 with
        | norm =>
          refine T.oneN (by kernel_rfl) (f45n1_ok a1 h93) (st2 := (f45n1E a1 .norm).2) rfl ?_
          obtain rfl := some_inj h
          exact run_end cfg_ok (rs := [([], [], [])]) (ps := []) (tds := []) (m := []) (keep := [2]) (r := (.ret, (f45n0E a1 (.ret true)).2)) (by kernel_rfl) an rfl
        | ret =>
          obtain rfl := some_inj h
          exact T.oneX' (by kernel_rfl) (f45n1_ok a1 h93) (tds := []) (m := []) (keep := [2]) (st2 := (f45n0E a1 (.ret false)).2) (by kernel_rfl) an rfl rfl
      · obtain rfl := some_inj h
        exact runK_end cfg_ok (k := 2) (rs := [([], [], []), ([(4, false), (5, false), (6, false), (9, false), (10, false), (11, false), (12, false)], [(7, .bool false), (10, .byte (Int.toNat 0) x11), (11, .call (.pl (.bool x13)) []), (13, .bool false)], []), ([], [], [])]) (ps := [some true]) (tds := []) (m := []) (keep := [2]) (ex := .ret) (st' := (f45n0E a1 (.ret false)).2) (by kernel_rfl) (ap h9 (ap h9 (ap h9 (ap h9 (ap h10 (ap h10 (ap (at_some h12).1 (ap (at_some h12).2 (ap h10 (ap h10 (ap h10 (ap (f62_ok (x11.toNat : Int) h14) (ap (not_f h15) an))))))))))))) (fun h => nomatch h) rfl
noncomputable def f45 (a1 : ByteArray) : Option Bool := (f45n0 a1).bind fun o => match o with
  | .ret v94 => some v94
theorem f45_ok (a1 : ByteArray) {r : Bool} (h : (f45 a1) = some r) : CallS Try.prog false 45 [(.pl (.str a1))] [] (.pl (.bool r)) [] := by
  unfold f45 at h
  obtain ⟨o, ho, h⟩ := bind_cases h
  cases o with
  | ret v94 =>
    obtain rfl := some_inj h
    exact CallS.plain cfg_ok (f := Try.f45) (c := c45) (by kernel_rfl) (by kernel_rfl) (by kernel_rfl) (by kernel_rfl) ((f45n0_ok a1 ho).mono fun r e => by subst e; exact ⟨.inl rfl, (.pl (.bool v94)), (.pl (.bool v94)), by kernel_rfl, by kernel_rfl, ((Wk.refl _) : Wk (.pl (.bool v94)) (.pl (.bool v94)))⟩)
/-! ### novation/variation.party -/
noncomputable def c44 : Code := Try.f44.body.getD .skip
inductive f44n0O where
  | ret (v8 : Bool)
def f44n0E (a1 : ByteArray) : f44n0O → Ex × Tr × Hp
  | .ret v8 => (.ret, mkS [(2, (.pl (.bool v8)))], [])
def f44n0S (a1 : ByteArray) : Tr × Hp := (initS [(.pl (.str a1))] 0 .leaf, [])
noncomputable def f44n0 (a1 : ByteArray) : Option f44n0O :=
  bif (seq a1 str_house) then
    some (.ret false)
  else
    (f45 a1).bind fun x6 =>
    some (.ret x6)
theorem f44n0_ok (a1 : ByteArray) {o : f44n0O} (h : (f44n0 a1) = some o) : T Try.prog Try.f44.ntmps 0 c44 (f44n0S a1) (fun r => r = f44n0E a1 o) := by
  unfold f44n0 at h
  rcases cond_cases h with ⟨h5, h⟩ | ⟨h5, h⟩
  · obtain rfl := some_inj h
    exact run_end cfg_ok (rs := [([], [], []), ([(3, false), (4, false)], [(5, .bool false)], [])]) (ps := []) (tds := []) (m := []) (keep := [2]) (r := (.ret, (f44n0E a1 (.ret false)).2)) (by kernel_rfl) (ap (not_t h5) (ap (not_t h5) (ap (not_t h5) an))) rfl
  · obtain ⟨x6, h7, h⟩ := bind_cases h
    obtain rfl := some_inj h
    exact run_end cfg_ok (rs := [([], [], []), ([(3, true), (4, true)], [(4, .call (.pl (.bool x6)) []), (5, .bool true)], [])]) (ps := []) (tds := []) (m := []) (keep := [2]) (r := (.ret, (f44n0E a1 (.ret x6)).2)) (by kernel_rfl) (ap (not_f h5) (ap (not_f h5) (ap (not_f h5) (ap (f45_ok a1 h7) an)))) rfl
noncomputable def f44 (a1 : ByteArray) : Option Bool := (f44n0 a1).bind fun o => match o with
  | .ret v8 => some v8
theorem f44_ok (a1 : ByteArray) {r : Bool} (h : (f44 a1) = some r) : CallS Try.prog false 44 [(.pl (.str a1))] [] (.pl (.bool r)) [] := by
  unfold f44 at h
  obtain ⟨o, ho, h⟩ := bind_cases h
  cases o with
  | ret v8 =>
    obtain rfl := some_inj h
    exact CallS.plain cfg_ok (f := Try.f44) (c := c44) (by kernel_rfl) (by kernel_rfl) (by kernel_rfl) (by kernel_rfl) ((f44n0_ok a1 ho).mono fun r e => by subst e; exact ⟨.inl rfl, (.pl (.bool v8)), (.pl (.bool v8)), by kernel_rfl, by kernel_rfl, ((Wk.refl _) : Wk (.pl (.bool v8)) (.pl (.bool v8)))⟩)
/-! ### cmp.isNaN[string] -/
noncomputable def c61 : Code := Try.f61.body.getD .skip
inductive f61n0O where
  | ret
def f61n0E (a1 : ByteArray) : f61n0O → Ex × Tr × Hp
  | .ret => (.ret, mkS [(2, (.pl (.bool (!(seq a1 a1)))))], [])
def f61n0S (a1 : ByteArray) : Tr × Hp := (initS [(.pl (.str a1))] 0 .leaf, [])
noncomputable def f61n0 (a1 : ByteArray) : Option f61n0O :=
  some .ret
theorem f61n0_ok (a1 : ByteArray) {o : f61n0O} (h : (f61n0 a1) = some o) : T Try.prog Try.f61.ntmps 0 c61 (f61n0S a1) (fun r => r = f61n0E a1 o) := by
  unfold f61n0 at h
  obtain rfl := some_inj h
  exact run_end cfg_ok (rs := [([], [], []), ([], [], [])]) (ps := []) (tds := []) (m := []) (keep := [2]) (r := (.ret, (f61n0E a1 .ret).2)) (by kernel_rfl) an rfl
noncomputable def f61 (a1 : ByteArray) : Option Bool := (f61n0 a1).bind fun o => match o with
  | .ret => some (!(seq a1 a1))
theorem f61_ok (a1 : ByteArray) {r : Bool} (h : (f61 a1) = some r) : CallS Try.prog false 61 [(.pl (.str a1))] [] (.pl (.bool r)) [] := by
  unfold f61 at h
  obtain ⟨o, ho, h⟩ := bind_cases h
  cases o with
  | ret =>
    obtain rfl := some_inj h
    exact CallS.plain cfg_ok (f := Try.f61) (c := c61) (by kernel_rfl) (by kernel_rfl) (by kernel_rfl) (by kernel_rfl) ((f61n0_ok a1 ho).mono fun r e => by subst e; exact ⟨.inl rfl, (.pl (.bool (!(seq a1 a1)))), (.pl (.bool (!(seq a1 a1)))), by kernel_rfl, by kernel_rfl, ((Wk.refl _) : Wk (.pl (.bool (!(seq a1 a1)))) (.pl (.bool (!(seq a1 a1)))))⟩)
/-! ### cmp.Compare[string] -/
noncomputable def c40 : Code := Try.f40.body.getD .skip
inductive f40n0O where
  | ret (v21 : Int)
def f40n0E (a1 : ByteArray) (a2 : ByteArray) : f40n0O → Ex × Tr × Hp
  | .ret v21 => (.ret, mkS [(4, (.pl (.int .i64 v21)))], [])
def f40n0S (a1 : ByteArray) (a2 : ByteArray) : Tr × Hp := (initS [(.pl (.str a1)), (.pl (.str a2))] 0 .leaf, [])
noncomputable def f40n0 (a1 : ByteArray) (a2 : ByteArray) : Option f40n0O :=
  (f61 a1).bind fun x5 =>
  (f61 a2).bind fun x9 =>
  bif x5 then
    bif x9 then
      some (.ret 0)
    else
      some (.ret (-1))
  else
    bif x9 then
      some (.ret 1)
    else
      bif (slt a1 a2) then
        some (.ret (-1))
      else
        bif (slt a1 a2 || seq a1 a2) then
          some (.ret 0)
        else
          some (.ret 1)
theorem f40n0_ok (a1 : ByteArray) (a2 : ByteArray) {o : f40n0O} (h : (f40n0 a1 a2) = some o) : T Try.prog Try.f40.ntmps 0 c40 (f40n0S a1 a2) (fun r => r = f40n0E a1 a2 o) := by
  unfold f40n0 at h
  obtain ⟨x5, h6, h⟩ := bind_cases h
  obtain ⟨x9, h10, h⟩ := bind_cases h
  rcases cond_cases h with ⟨h13, h⟩ | ⟨h13, h⟩
  · rcases cond_cases h with ⟨h14, h⟩ | ⟨h14, h⟩
    · obtain rfl := some_inj h
      exact runK_end cfg_ok (k := 4) (rs := [([], [], []), ([], [(1, .call (.pl (.bool x5)) [])], []), ([], [(1, .call (.pl (.bool x9)) [])], []), ([], [], []), ([], [], []), ([], [], [])]) (ps := [some true, some true]) (tds := []) (m := []) (keep := [4]) (ex := .ret) (st' := (f40n0E a1 a2 (.ret 0)).2) (by kernel_rfl) (ap (f61_ok a1 h6) (ap (f61_ok a2 h10) (ap h13 (ap h14 an)))) (fun h => nomatch h) rfl
    · obtain rfl := some_inj h
      exact runK_end cfg_ok (k := 4) (rs := [([], [], []), ([], [(1, .call (.pl (.bool x5)) [])], []), ([], [(1, .call (.pl (.bool x9)) [])], []), ([], [], []), ([], [], []), ([], [], [])]) (ps := [some true, some false]) (tds := []) (m := []) (keep := [4]) (ex := .ret) (st' := (f40n0E a1 a2 (.ret (-1))).2) (by kernel_rfl) (ap (f61_ok a1 h6) (ap (f61_ok a2 h10) (ap h13 (ap h14 an)))) (fun h => nomatch h) rfl
  · rcases cond_cases h with ⟨h16, h⟩ | ⟨h16, h⟩
    · obtain rfl := some_inj h
      exact runK_end cfg_ok (k := 5) (rs := [([], [], []), ([], [(1, .call (.pl (.bool x5)) [])], []), ([], [(1, .call (.pl (.bool x9)) [])], []), ([], [], []), ([], [], []), ([], [], [])]) (ps := [some false, some true]) (tds := []) (m := []) (keep := [4]) (ex := .ret) (st' := (f40n0E a1 a2 (.ret 1)).2) (by kernel_rfl) (ap (f61_ok a1 h6) (ap (f61_ok a2 h10) (ap h13 (ap h16 an)))) (fun h => nomatch h) rfl
    · rcases cond_cases h with ⟨h18, h⟩ | ⟨h18, h⟩
      · obtain rfl := some_inj h
        exact runK_end cfg_ok (k := 6) (rs := [([], [], []), ([], [(1, .call (.pl (.bool x5)) [])], []), ([], [(1, .call (.pl (.bool x9)) [])], []), ([], [], []), ([], [], []), ([], [], []), ([], [], [])]) (ps := [some false, some false, some true]) (tds := []) (m := []) (keep := [4]) (ex := .ret) (st' := (f40n0E a1 a2 (.ret (-1))).2) (by kernel_rfl) (ap (f61_ok a1 h6) (ap (f61_ok a2 h10) (ap h13 (ap h16 (ap h18 an))))) (fun h => nomatch h) rfl
      · rcases cond_cases h with ⟨h20, h⟩ | ⟨h20, h⟩
        · obtain rfl := some_inj h
          exact run_end cfg_ok (rs := [([], [], []), ([], [(1, .call (.pl (.bool x5)) [])], []), ([], [(1, .call (.pl (.bool x9)) [])], []), ([], [], []), ([], [], []), ([], [], []), ([], [], []), ([], [], [])]) (ps := [some false, some false, some false, some false]) (tds := []) (m := []) (keep := [4]) (r := (.ret, (f40n0E a1 a2 (.ret 0)).2)) (by kernel_rfl) (ap (f61_ok a1 h6) (ap (f61_ok a2 h10) (ap h13 (ap h16 (ap h18 (ap (not_t h20) an)))))) rfl
        · obtain rfl := some_inj h
          exact runK_end cfg_ok (k := 7) (rs := [([], [], []), ([], [(1, .call (.pl (.bool x5)) [])], []), ([], [(1, .call (.pl (.bool x9)) [])], []), ([], [], []), ([], [], []), ([], [], []), ([], [], []), ([], [], [])]) (ps := [some false, some false, some false, some true]) (tds := []) (m := []) (keep := [4]) (ex := .ret) (st' := (f40n0E a1 a2 (.ret 1)).2) (by kernel_rfl) (ap (f61_ok a1 h6) (ap (f61_ok a2 h10) (ap h13 (ap h16 (ap h18 (ap (not_f h20) an)))))) (fun h => nomatch h) rfl
noncomputable def f40 (a1 : ByteArray) (a2 : ByteArray) : Option Int := (f40n0 a1 a2).bind fun o => match o with
  | .ret v21 => some v21
theorem f40_ok (a1 : ByteArray) (a2 : ByteArray) {r : Int} (h : (f40 a1 a2) = some r) : CallS Try.prog false 40 [(.pl (.str a1)), (.pl (.str a2))] [] (.pl (.int .i64 r)) [] := by
  unfold f40 at h
  obtain ⟨o, ho, h⟩ := bind_cases h
  cases o with
  | ret v21 =>
    obtain rfl := some_inj h
    exact CallS.plain cfg_ok (f := Try.f40) (c := c40) (by kernel_rfl) (by kernel_rfl) (by kernel_rfl) (by kernel_rfl) ((f40n0_ok a1 a2 ho).mono fun r e => by subst e; exact ⟨.inl rfl, (.pl (.int .i64 v21)), (.pl (.int .i64 v21)), by kernel_rfl, by kernel_rfl, ((Wk.refl _) : Wk (.pl (.int .i64 v21)) (.pl (.int .i64 v21)))⟩)
/-! ### cmp.Or[int] -/
noncomputable def c66 : Code := Try.f66.body.getD .skip
inductive f66n2O where
  | exit0
  | ret (v28 : Int)
def f66n2E (bc1 : List Int) : f66n2O → Ex × Tr × Hp
  | .exit0 => ((.exit 0), mkS [(3, (.pl (.int .i64 0)))], [])
  | .ret v28 => (.ret, mkS [(2, (.pl (.int .i64 v28)))], [])
def f66n2S (bc1 : List Int) (v19 : Int) : Tr × Hp := (mkS [(3, (.pl (.int .i64 0))), (6, (.pl (.sl .any 1 (bc1.map (cInt .i64))))), (7, (.pl (.int .i64 (bc1.length : Int)))), (8, (.pl (.int .i64 v19)))], [])
noncomputable def f66n2 : Nat → List Int → Int → Option f66n2O
  | 0, _, _ => none
  | f + 1, bc1, v19 =>
    bif (decide (v19 < (bc1.length : Int))) then
      (at? bc1 v19).bind fun x25 =>
      bif (decide (x25 = 0)) then
        (f66n2 f bc1 (wr64 (v19 + 1)))
      else
        some (.ret x25)
    else
      some .exit0
theorem f66n2_ok : ∀ (f : Nat) (bc1 : List Int) (v19 : Int) {o : f66n2O}, (f66n2 f bc1 v19) = some o → TL Try.prog Try.f66.ntmps 0 f (cL (cL (dropC 1 (cL (dropC 2 c66))))) (f66n2S bc1 v19) (fun r => r = f66n2E bc1 o)
  | 0, _, _, o, h => by rw [f66n2] at h; cases h
  | f + 1, bc1, v19, o, h => by
    rw [f66n2] at h
    refine TL.body (K := fun s => ∃ v19 : Int, s = (f66n2S bc1 v19) ∧ (f66n2 f bc1 v19) = some o) ?_ (by rintro _ ⟨v19, rfl, hk⟩; exact f66n2_ok f _ _ hk)
    rcases cond_cases h with ⟨h21, h⟩ | ⟨h21, h⟩
    · obtain ⟨x25, h26, h⟩ := bind_cases h
      rcases cond_cases h with ⟨h27, h⟩ | ⟨h27, h⟩
      · exact run_end cfg_ok (rs := [([], [], []), ([], [(0, .idx (Int.toNat v19) ((cInt .i64) x25))], []), ([], [], []), ([], [], [])]) (ps := [some true, some false]) (tds := []) (m := []) (keep := [3, 6, 7, 8]) (r := (.norm, (f66n2S bc1 (wr64 (v19 + 1))))) (by kernel_rfl) (ap h21 (ap (at_some h26).1 (ap (at_map (cInt .i64) (at_some h26).2) (ap (not_t h27) an)))) (LoopQ.norm ⟨(wr64 (v19 + 1)), rfl, h⟩)
      · obtain rfl := some_inj h
        exact runK_end cfg_ok (k := 3) (rs := [([], [], []), ([], [(0, .idx (Int.toNat v19) ((cInt .i64) x25))], []), ([], [], []), ([], [], [])]) (ps := [some true, some true]) (tds := []) (m := []) (keep := [2]) (ex := .ret) (st' := (f66n2E bc1 (.ret x25)).2) (by kernel_rfl) (ap h21 (ap (at_some h26).1 (ap (at_map (cInt .i64) (at_some h26).2) (ap (not_f h27) an)))) (fun h => nomatch h) (LoopQ.out rfl rfl)
    · obtain rfl := some_inj h
      exact runK_end cfg_ok (k := 2) (rs := [([], [], [])]) (ps := [some false]) (tds := []) (m := []) (keep := [3]) (ex := (.exit 0)) (st' := (f66n2E bc1 .exit0).2) (by kernel_rfl) (ap h21 an) (fun h => nomatch h) (LoopQ.out rfl rfl)
noncomputable def f66n2L (bc1 : List Int) : List Int → Int → Option f66n2O
  | [], v19 =>
    some .exit0
  | x0 :: rest, v19 =>
    bif (decide (x0 = 0)) then
      (f66n2L bc1 rest (v19 + 1))
    else
      some (.ret x0)
theorem f66n2L_eq (bc1 : List Int) : ∀ (rest : List Int) (f k : Nat), bc1.drop k = rest → bc1.length ≤ maxLen → rest.length < f → f66n2 f bc1 (k : Int) = f66n2L bc1 rest (k : Int)
  | _, 0, _, _, _, hf => absurd hf (Nat.not_lt_zero _)
  | [], f + 1, k, hd, hm, hf => by
    have hk : ¬ ((k : Int) < (bc1.length : Int)) := by have := drop_nil hd; omega
    rw [f66n2, f66n2L]
    simp only [decide_eq_false hk, cond_false]
  | x0 :: rest, f + 1, k, hd, hm, hf => by
    obtain ⟨hx, hlt, hd'⟩ := drop_cons hd
    have hk : (k : Int) < (bc1.length : Int) := by omega
    have hw : wr64 ((k : Int) + 1) = (k : Int) + 1 := wr64_of (by omega) (by unfold maxLen at hm; omega)
    have ih : f66n2 f bc1 ((k : Int) + 1) = f66n2L bc1 rest ((k : Int) + 1) := f66n2L_eq bc1 rest f (k + 1) hd' hm (by simpa using hf)
    rw [f66n2, f66n2L]
    simp only [decide_eq_true hk, cond_true, at_nat, hx, Option.bind_some, hw, ih]
theorem f66n2_run (bc1 : List Int) (hm : bc1.length ≤ maxLen) : f66n2 FUEL bc1 0 = f66n2L bc1 bc1 0 := f66n2L_eq bc1 bc1 FUEL 0 List.drop_zero hm (lt_FUEL hm)
inductive f66n1O where
  | norm
  | ret (v32 : Int)
def f66n1E (bc1 : List Int) : f66n1O → Ex × Tr × Hp
  | .norm => (.norm, mkS [(3, (.pl (.int .i64 0)))], [])
  | .ret v32 => (.ret, mkS [(2, (.pl (.int .i64 v32)))], [])
def f66n1S (bc1 : List Int) : Tr × Hp := (mkS [(0, (.pl (.sl .any 1 (bc1.map (cInt .i64))))), (3, (.pl (.int .i64 0)))], [])
noncomputable def f66n1 (bc1 : List Int) : Option f66n1O :=
  (f66n2 FUEL bc1 0).bind fun o29 => match o29 with
  | .exit0 => some .norm
  | .ret v31 => some (.ret v31)
theorem f66n1_ok (bc1 : List Int) {o : f66n1O} (h : (f66n1 bc1) = some o) : T Try.prog Try.f66.ntmps 0 (cL (dropC 2 c66)) (f66n1S bc1) (fun r => r = f66n1E bc1 o) := by
  unfold f66n1 at h
  refine runK_norm cfg_ok (k := 1) (rs := [([], [], [(1, .val (.pl (.int .i64 (bc1.length : Int))))])]) (ps := []) (tds := []) (m := []) (keep := [3, 6, 7, 8]) (st' := (f66n2S bc1 0)) (by kernel_rfl) (ap (len_cv (xs := bc1) (c := (cInt .i64))) an) ?_
  obtain ⟨o29, h30, h⟩ := bind_cases h
  cases o29 with
  | exit0 =>
    obtain rfl := some_inj h
    exact T.last' (T.bl (i := 0) (by kernel_rfl) (by kernel_rfl) (f66n2_ok FUEL bc1 0 h30)) (tds := []) (m := []) (keep := [3]) (st2 := (f66n1E bc1 .norm).2) (by kernel_rfl) an rfl
  | ret v31 =>
    obtain rfl := some_inj h
    exact T.last' (T.bl (i := 0) (by kernel_rfl) (by kernel_rfl) (f66n2_ok FUEL bc1 0 h30)) (tds := []) (m := []) (keep := [2]) (st2 := (f66n1E bc1 (.ret v31)).2) (by kernel_rfl) an rfl
inductive f66n0O where
  | ret (v36 : Int)
def f66n0E (a1 : List Int) : f66n0O → Ex × Tr × Hp
  | .ret v36 => (.ret, mkS [(2, (.pl (.int .i64 v36)))], [])
def f66n0S (a1 : List Int) : Tr × Hp := (initS [(.pl (.sl .any 1 (a1.map (cInt .i64))))] 0 .leaf, [])
noncomputable def f66n0 (a1 : List Int) : Option f66n0O :=
  (f66n1 a1).bind fun o33 => match o33 with
  | .norm => some (.ret 0)
  | .ret v35 => some (.ret v35)
theorem f66n0_ok (a1 : List Int) {o : f66n0O} (h : (f66n0 a1) = some o) : T Try.prog Try.f66.ntmps 0 c66 (f66n0S a1) (fun r => r = f66n0E a1 o) := by
  unfold f66n0 at h
  refine runK_norm cfg_ok (k := 2) (rs := [([], [], []), ([], [], [])]) (ps := []) (tds := []) (m := []) (keep := [0, 3]) (st' := (f66n1S a1)) (by kernel_rfl) an ?_
  obtain ⟨o33, h34, h⟩ := bind_cases h
  cases o33 with
  | norm =>
    refine T.oneN (by kernel_rfl) (f66n1_ok a1 h34) (st2 := (f66n1E a1 .norm).2) rfl ?_
    obtain rfl := some_inj h
    exact run_end cfg_ok (rs := [([], [], [])]) (ps := []) (tds := []) (m := []) (keep := [2]) (r := (.ret, (f66n0E a1 (.ret 0)).2)) (by kernel_rfl) an rfl
  | ret v35 =>
    obtain rfl := some_inj h
    exact T.oneX' (by kernel_rfl) (f66n1_ok a1 h34) (tds := []) (m := []) (keep := [2]) (st2 := (f66n0E a1 (.ret v35)).2) (by kernel_rfl) an rfl rfl
noncomputable def f66 (a1 : List Int) : Option Int := (f66n0 a1).bind fun o => match o with
  | .ret v36 => some v36
theorem f66_ok (a1 : List Int) {r : Int} (h : (f66 a1) = some r) : CallS Try.prog false 66 [(.pl (.sl .any 1 (a1.map (cInt .i64))))] [] (.pl (.int .i64 r)) [] := by
  unfold f66 at h
  obtain ⟨o, ho, h⟩ := bind_cases h
  cases o with
  | ret v36 =>
    obtain rfl := some_inj h
    exact CallS.plain cfg_ok (f := Try.f66) (c := c66) (by kernel_rfl) (by kernel_rfl) (by kernel_rfl) (by kernel_rfl) ((f66n0_ok a1 ho).mono fun r e => by subst e; exact ⟨.inl rfl, (.pl (.int .i64 v36)), (.pl (.int .i64 v36)), by kernel_rfl, by kernel_rfl, ((Wk.refl _) : Wk (.pl (.int .i64 v36)) (.pl (.int .i64 v36)))⟩)
/-! ### novation/variation.compare -/
noncomputable def c53 : Code := Try.f53.body.getD .skip
inductive f53n0O where
  | ret (v15 : Int)
def f53n0E (a1 : VariationPosition) (a2 : VariationPosition) : f53n0O → Ex × Tr × Hp
  | .ret v15 => (.ret, mkS [(4, (.pl (.int .i64 v15)))], [])
def f53n0S (a1 : VariationPosition) (a2 : VariationPosition) : Tr × Hp := (initS [(.pl (.agg (VariationPosition.cells a1))), (.pl (.agg (VariationPosition.cells a2)))] 0 .leaf, [])
noncomputable def f53n0 (a1 : VariationPosition) (a2 : VariationPosition) : Option f53n0O :=
  (f40 a1.Member a2.Member).bind fun x9 =>
  (f40 a1.Product a2.Product).bind fun x11 =>
  (f66 [x9, x11]).bind fun x13 =>
  some (.ret x13)
theorem f53n0_ok (a1 : VariationPosition) (a2 : VariationPosition) {o : f53n0O} (h : (f53n0 a1 a2) = some o) : T Try.prog Try.f53.ntmps 0 c53 (f53n0S a1 a2) (fun r => r = f53n0E a1 a2 o) := by
  unfold f53n0 at h
  obtain ⟨x9, h10, h⟩ := bind_cases h
  obtain ⟨x11, h12, h⟩ := bind_cases h
  obtain ⟨x13, h14, h⟩ := bind_cases h
  obtain rfl := some_inj h
  exact run_end cfg_ok (rs := [([], [], []), ([], [(4, .call (.pl (.int .i64 x9)) []), (9, .call (.pl (.int .i64 x11)) []), (11, .call (.pl (.int .i64 x13)) [])], [])]) (ps := []) (tds := []) (m := []) (keep := [4]) (r := (.ret, (f53n0E a1 a2 (.ret x13)).2)) (by kernel_rfl) (ap (same_val (e := ⟨false, 40, [(.pl (.str a1.Member)), (.pl (.str a2.Member))], [], (.pl (.int .i64 x9)), []⟩) (f := ⟨false, 40, [(.pl (.str a1.Product)), (.pl (.str a2.Product))], [], (.pl (.int .i64 x11)), []⟩) (fun k => by simp only [List.cons.injEq, AV.pl.injEq, PV.str.injEq, PV.int.injEq, PV.bool.injEq, PV.agg.injEq, and_true, true_and] at k; have e0 : x9 = x11 := Option.some.inj (by rw [← h10, ← h12]; simp only [k]); exact ⟨by rw [e0], rfl⟩)) (ap (f40_ok a1.Member a2.Member h10) (ap (f40_ok a1.Product a2.Product h12) (ap (f66_ok [x9, x11] h14) an)))) rfl
noncomputable def f53 (a1 : VariationPosition) (a2 : VariationPosition) : Option Int := (f53n0 a1 a2).bind fun o => match o with
  | .ret v15 => some v15
theorem f53_ok (a1 : VariationPosition) (a2 : VariationPosition) {r : Int} (h : (f53 a1 a2) = some r) : CallS Try.prog false 53 [(.pl (.agg (VariationPosition.cells a1))), (.pl (.agg (VariationPosition.cells a2)))] [] (.pl (.int .i64 r)) [] := by
  unfold f53 at h
  obtain ⟨o, ho, h⟩ := bind_cases h
  cases o with
  | ret v15 =>
    obtain rfl := some_inj h
    exact CallS.plain cfg_ok (f := Try.f53) (c := c53) (by kernel_rfl) (by kernel_rfl) (by kernel_rfl) (by kernel_rfl) ((f53n0_ok a1 a2 ho).mono fun r e => by subst e; exact ⟨.inl rfl, (.pl (.int .i64 v15)), (.pl (.int .i64 v15)), by kernel_rfl, by kernel_rfl, ((Wk.refl _) : Wk (.pl (.int .i64 v15)) (.pl (.int .i64 v15)))⟩)
/-! ### novation/variation.Check -/
noncomputable def c26 : Code := Try.f26.body.getD .skip
inductive f26n2O where
  | exit0 (v188 : List (ByteArray × Sums_))
  | ret
def f26n2E (ba1 : Variation) : f26n2O → Ex × Tr × Hp
  | .exit0 v188 => ((.exit 0), mkS [(3, (.mp 0))], [some (.map (v188.map (mkv pStr (pAgg Sums_.cells))))])
  | .ret => (.ret, mkS [(2, (.pl (.int .i64 8)))], [])
def f26n2S (ba1 : Variation) (v114 : Int) (v115 : List (ByteArray × Sums_)) : Tr × Hp := (mkS [(1, (.bp 0 0)), (3, (.mp 1)), (28, (.pl (.sl .any 4 (ba1.Positions.map VariationPosition.cells)))), (29, (.pl (.int .i64 (ba1.Positions.length : Int)))), (30, (.pl (.int .i64 v114)))], [some (.box ((Variation.cells ba1).map .pl)), some (.map (v115.map (mkv pStr (pAgg Sums_.cells))))])
noncomputable def f26n2 : Nat → Variation → Int → List (ByteArray × Sums_) → Option f26n2O
  | 0, _, _, _ => none
  | f + 1, ba1, v114, v115 =>
    bif (decide (v114 < (ba1.Positions.length : Int))) then
      (at? ba1.Positions v114).bind fun x153 =>
      bif (decide (v114 = 0)) then
        (f37 x153.Quantity 1048576).bind fun x156 =>
        bif x156 then
          (f37 x153.Basis 1125899906842624).bind fun x159 =>
          bif x159 then
            bif (VariationPosition.eqb x153 (VariationPosition.mk x153.Member x153.Product 0 0)) then
              some .ret
            else
              (f44 x153.Member).bind fun x163 =>
              bif x163 then
                (f45 x153.Product).bind fun x166 =>
                bif x166 then
                  (f26n2 f ba1 (wr64 (v114 + 1)) (mPut seq x153.Product (Sums_.mk (wr64 ((mGet seq (Sums_.mk 0 0) x153.Product v115).quantity + x153.Quantity)) (wr64 ((mGet seq (Sums_.mk 0 0) x153.Product v115).basis + x153.Basis))) v115))
                else
                  some .ret
              else
                some .ret
          else
            some .ret
        else
          some .ret
      else
        (at? ba1.Positions (wr64 (v114 - 1))).bind fun x169 =>
        (f53 x169 x153).bind fun x171 =>
        (f37 x153.Quantity 1048576).bind fun x173 =>
        bif x173 then
          (f37 x153.Basis 1125899906842624).bind fun x176 =>
          bif (decide (x171 < 0)) then
            bif x176 then
              bif (VariationPosition.eqb x153 (VariationPosition.mk x153.Member x153.Product 0 0)) then
                some .ret
              else
                (f44 x153.Member).bind fun x181 =>
                bif x181 then
                  (f45 x153.Product).bind fun x184 =>
                  bif x184 then
                    (f26n2 f ba1 (wr64 (v114 + 1)) (mPut seq x153.Product (Sums_.mk (wr64 ((mGet seq (Sums_.mk 0 0) x153.Product v115).quantity + x153.Quantity)) (wr64 ((mGet seq (Sums_.mk 0 0) x153.Product v115).basis + x153.Basis))) v115))
                  else
                    some .ret
                else
                  some .ret
            else
              some .ret
          else
            some .ret
        else
          bif (decide (x171 < 0)) then
            some .ret
          else
            some .ret
    else
      some (.exit0 v115)
theorem f26n2_ok : ∀ (f : Nat) (ba1 : Variation) (v114 : Int) (v115 : List (ByteArray × Sums_)) {o : f26n2O}, (f26n2 f ba1 v114 v115) = some o → TL Try.prog Try.f26.ntmps 0 f (cL (cL (dropC 1 (cL (dropC 3 c26))))) (f26n2S ba1 v114 v115) (fun r => r = f26n2E ba1 o)
  | 0, _, _, _, o, h => by rw [f26n2] at h; cases h
  | f + 1, ba1, v114, v115, o, h => by
    rw [f26n2] at h
    refine TL.body (K := fun s => ∃ v114 : Int, ∃ v115 : List (ByteArray × Sums_), s = (f26n2S ba1 v114 v115) ∧ (f26n2 f ba1 v114 v115) = some o) ?_ (by rintro _ ⟨v114, v115, rfl, hk⟩; exact f26n2_ok f _ _ _ hk)
    rcases cond_cases h with ⟨h117, h⟩ | ⟨h117, h⟩
    · obtain ⟨x153, h154, h⟩ := bind_cases h
      rcases cond_cases h with ⟨h155, h⟩ | ⟨h155, h⟩
      · obtain ⟨x156, h157, h⟩ := bind_cases h
        rcases cond_cases h with ⟨h158, h⟩ | ⟨h158, h⟩
        · obtain ⟨x159, h160, h⟩ := bind_cases h
          rcases cond_cases h with ⟨h161, h⟩ | ⟨h161, h⟩
          · rcases cond_cases h with ⟨h162, h⟩ | ⟨h162, h⟩
            · obtain rfl := some_inj h
              exact runK_end cfg_ok (k := 3) (rs := [([], [], []), ([], [(1, .idx (Int.toNat v114) (VariationPosition.cells x153))], []), ([(3, true), (4, true), (5, true), (6, true), (7, true), (8, true), (9, true), (10, true), (11, true)], [(12, .bool true)], []), ([(4, true), (5, true), (6, true)], [(2, .call (.pl (.bool x156)) []), (6, .call (.pl (.bool x159)) []), (7, .bool true)], []), ([], [(6, .bool (VariationPosition.eqb x153 (VariationPosition.mk x153.Member x153.Product 0 0)))], []), ([(7, false), (10, true), (11, true), (12, true), (13, true)], [(8, .bool false), (14, .bool true)], []), ([], [], [])]) (ps := [some true, none]) (tds := []) (m := []) (keep := [2]) (ex := .ret) (st' := (f26n2E ba1 .ret).2) (by kernel_rfl) (ap h117 (ap (at_some h154).1 (ap (at_map VariationPosition.cells (at_some h154).2) (ap h155 (ap h155 (ap h155 (ap h155 (ap h155 (ap h155 (ap h155 (ap h155 (ap h155 (ap h155 (ap h158 (ap h158 (ap h158 (ap h158 (ap (f37_ok x153.Quantity 1048576 h157) (ap (f37_ok x153.Basis 1125899906842624 h160) (ap (VariationPosition.eqb_ok x153 (VariationPosition.mk x153.Member x153.Product 0 0)) (ap (not_t h161) (ap (not_t h161) (ap h162 (ap h162 (ap h162 (ap h162 (ap h162 an))))))))))))))))))))))))))) (fun h => nomatch h) (LoopQ.out rfl rfl)
            · obtain ⟨x163, h164, h⟩ := bind_cases h
              rcases cond_cases h with ⟨h165, h⟩ | ⟨h165, h⟩
              · obtain ⟨x166, h167, h⟩ := bind_cases h
                rcases cond_cases h with ⟨h168, h⟩ | ⟨h168, h⟩
                · exact run_end cfg_ok (rs := [([], [], []), ([], [(1, .idx (Int.toNat v114) (VariationPosition.cells x153))], []), ([(3, true), (4, true), (5, true), (6, true), (7, true), (8, true), (9, true), (10, true), (11, true)], [(12, .bool true)], []), ([(4, true), (5, true), (6, true)], [(2, .call (.pl (.bool x156)) []), (6, .call (.pl (.bool x159)) []), (7, .bool true)], []), ([], [(6, .bool (VariationPosition.eqb x153 (VariationPosition.mk x153.Member x153.Product 0 0)))], []), ([(7, false), (10, false), (11, false), (12, false), (13, false), (16, false), (17, false), (18, false), (19, false)], [(8, .bool false), (12, .call (.pl (.bool x163)) []), (14, .bool false), (18, .call (.pl (.bool x166)) []), (20, .bool false)], []), ([], [(3, .look ((pAgg Sums_.cells) (mGet seq (Sums_.mk 0 0) x153.Product v115)) (mHas seq x153.Product v115))], []), ([], [(14, .mset ((mPut seq x153.Product (Sums_.mk (wr64 ((mGet seq (Sums_.mk 0 0) x153.Product v115).quantity + x153.Quantity)) (wr64 ((mGet seq (Sums_.mk 0 0) x153.Product v115).basis + x153.Basis))) v115).map (mkv pStr (pAgg Sums_.cells))))], []), ([], [], [])]) (ps := [some true, some false]) (tds := []) (m := [0, 1]) (keep := [1, 3, 28, 29, 30]) (r := (.norm, (f26n2S ba1 (wr64 (v114 + 1)) (mPut seq x153.Product (Sums_.mk (wr64 ((mGet seq (Sums_.mk 0 0) x153.Product v115).quantity + x153.Quantity)) (wr64 ((mGet seq (Sums_.mk 0 0) x153.Product v115).basis + x153.Basis))) v115)))) (by kernel_rfl) (ap h117 (ap (at_some h154).1 (ap (at_map VariationPosition.cells (at_some h154).2) (ap h155 (ap h155 (ap h155 (ap h155 (ap h155 (ap h155 (ap h155 (ap h155 (ap h155 (ap h155 (ap h158 (ap h158 (ap h158 (ap h158 (ap (f37_ok x153.Quantity 1048576 h157) (ap (f37_ok x153.Basis 1125899906842624 h160) (ap (VariationPosition.eqb_ok x153 (VariationPosition.mk x153.Member x153.Product 0 0)) (ap (not_t h161) (ap (not_t h161) (ap h162 (ap h162 (ap h162 (ap h162 (ap h162 (ap (not_t h165) (ap (not_t h165) (ap (not_t h165) (ap (not_t h165) (ap (not_t h165) (ap (f44_ok x153.Member h164) (ap (f45_ok x153.Product h167) (ap (not_t h168) (ap (look_map (vp := (pAgg Sums_.cells)) (e := 92) key_9 (Sums_.mk 0 0) (by kernel_rfl) x153.Product v115) (ap (mset_map (vp := (pAgg Sums_.cells)) key_9 x153.Product (Sums_.mk (wr64 ((mGet seq (Sums_.mk 0 0) x153.Product v115).quantity + x153.Quantity)) (wr64 ((mGet seq (Sums_.mk 0 0) x153.Product v115).basis + x153.Basis))) v115) an))))))))))))))))))))))))))))))))))))) (LoopQ.norm ⟨(wr64 (v114 + 1)), (mPut seq x153.Product (Sums_.mk (wr64 ((mGet seq (Sums_.mk 0 0) x153.Product v115).quantity + x153.Quantity)) (wr64 ((mGet seq (Sums_.mk 0 0) x153.Product v115).basis + x153.Basis))) v115), rfl, h⟩)
                · obtain rfl := some_inj h
                  exact runK_end cfg_ok (k := 3) (rs := [([], [], []), ([], [(1, .idx (Int.toNat v114) (VariationPosition.cells x153))], []), ([(3, true), (4, true), (5, true), (6, true), (7, true), (8, true), (9, true), (10, true), (11, true)], [(12, .bool true)], []), ([(4, true), (5, true), (6, true)], [(2, .call (.pl (.bool x156)) []), (6, .call (.pl (.bool x159)) []), (7, .bool true)], []), ([], [(6, .bool (VariationPosition.eqb x153 (VariationPosition.mk x153.Member x153.Product 0 0)))], []), ([(7, false), (10, false), (11, false), (12, false), (13, false), (16, false), (17, false), (18, false), (19, false)], [(8, .bool false), (12, .call (.pl (.bool x163)) []), (14, .bool false), (18, .call (.pl (.bool x166)) []), (20, .bool false)], []), ([], [], [])]) (ps := [some true, some true]) (tds := []) (m := []) (keep := [2]) (ex := .ret) (st' := (f26n2E ba1 .ret).2) (by kernel_rfl) (ap h117 (ap (at_some h154).1 (ap (at_map VariationPosition.cells (at_some h154).2) (ap h155 (ap h155 (ap h155 (ap h155 (ap h155 (ap h155 (ap h155 (ap h155 (ap h155 (ap h155 (ap h158 (ap h158 (ap h158 (ap h158 (ap (f37_ok x153.Quantity 1048576 h157) (ap (f37_ok x153.Basis 1125899906842624 h160) (ap (VariationPosition.eqb_ok x153 (VariationPosition.mk x153.Member x153.Product 0 0)) (ap (not_t h161) (ap (not_t h161) (ap h162 (ap h162 (ap h162 (ap h162 (ap h162 (ap (not_t h165) (ap (not_t h165) (ap (not_t h165) (ap (not_t h165) (ap (not_t h165) (ap (f44_ok x153.Member h164) (ap (f45_ok x153.Product h167) (ap (not_f h168) an))))))))))))))))))))))))))))))))))) (fun h => nomatch h) (LoopQ.out rfl rfl)
              · obtain rfl := some_inj h
                exact runK_end cfg_ok (k := 3) (rs := [([], [], []), ([], [(1, .idx (Int.toNat v114) (VariationPosition.cells x153))], []), ([(3, true), (4, true), (5, true), (6, true), (7, true), (8, true), (9, true), (10, true), (11, true)], [(12, .bool true)], []), ([(4, true), (5, true), (6, true)], [(2, .call (.pl (.bool x156)) []), (6, .call (.pl (.bool x159)) []), (7, .bool true)], []), ([], [(6, .bool (VariationPosition.eqb x153 (VariationPosition.mk x153.Member x153.Product 0 0)))], []), ([(7, false), (10, false), (11, false), (12, false), (13, false), (16, true), (17, true), (18, true), (19, true)], [(8, .bool false), (12, .call (.pl (.bool x163)) []), (14, .bool false), (20, .bool true)], []), ([], [], [])]) (ps := [some true, none]) (tds := []) (m := []) (keep := [2]) (ex := .ret) (st' := (f26n2E ba1 .ret).2) (by kernel_rfl) (ap h117 (ap (at_some h154).1 (ap (at_map VariationPosition.cells (at_some h154).2) (ap h155 (ap h155 (ap h155 (ap h155 (ap h155 (ap h155 (ap h155 (ap h155 (ap h155 (ap h155 (ap h158 (ap h158 (ap h158 (ap h158 (ap (f37_ok x153.Quantity 1048576 h157) (ap (f37_ok x153.Basis 1125899906842624 h160) (ap (VariationPosition.eqb_ok x153 (VariationPosition.mk x153.Member x153.Product 0 0)) (ap (not_t h161) (ap (not_t h161) (ap h162 (ap h162 (ap h162 (ap h162 (ap h162 (ap (not_f h165) (ap (not_f h165) (ap (not_f h165) (ap (not_f h165) (ap (not_f h165) (ap (f44_ok x153.Member h164) an))))))))))))))))))))))))))))))))) (fun h => nomatch h) (LoopQ.out rfl rfl)
          · obtain rfl := some_inj h
            exact runK_end cfg_ok (k := 3) (rs := [([], [], []), ([], [(1, .idx (Int.toNat v114) (VariationPosition.cells x153))], []), ([(3, true), (4, true), (5, true), (6, true), (7, true), (8, true), (9, true), (10, true), (11, true)], [(12, .bool true)], []), ([(4, true), (5, true), (6, true)], [(2, .call (.pl (.bool x156)) []), (6, .call (.pl (.bool x159)) []), (7, .bool true)], []), ([], [(6, .bool (VariationPosition.eqb x153 (VariationPosition.mk x153.Member x153.Product 0 0)))], []), ([(7, true)], [(8, .bool true)], []), ([], [], [])]) (ps := [some true, none]) (tds := []) (m := []) (keep := [2]) (ex := .ret) (st' := (f26n2E ba1 .ret).2) (by kernel_rfl) (ap h117 (ap (at_some h154).1 (ap (at_map VariationPosition.cells (at_some h154).2) (ap h155 (ap h155 (ap h155 (ap h155 (ap h155 (ap h155 (ap h155 (ap h155 (ap h155 (ap h155 (ap h158 (ap h158 (ap h158 (ap h158 (ap (f37_ok x153.Quantity 1048576 h157) (ap (f37_ok x153.Basis 1125899906842624 h160) (ap (VariationPosition.eqb_ok x153 (VariationPosition.mk x153.Member x153.Product 0 0)) (ap (not_f h161) (ap (not_f h161) an)))))))))))))))))))))) (fun h => nomatch h) (LoopQ.out rfl rfl)
        · obtain rfl := some_inj h
          exact runK_end cfg_ok (k := 3) (rs := [([], [], []), ([], [(1, .idx (Int.toNat v114) (VariationPosition.cells x153))], []), ([(3, true), (4, true), (5, true), (6, true), (7, true), (8, true), (9, true), (10, true), (11, true)], [(12, .bool true)], []), ([(4, false), (5, false), (6, false)], [(2, .call (.pl (.bool x156)) []), (7, .bool false)], []), ([], [(6, .bool (VariationPosition.eqb x153 (VariationPosition.mk x153.Member x153.Product 0 0)))], []), ([], [], []), ([], [], [])]) (ps := [some true, none]) (tds := []) (m := []) (keep := [2]) (ex := .ret) (st' := (f26n2E ba1 .ret).2) (by kernel_rfl) (ap h117 (ap (at_some h154).1 (ap (at_map VariationPosition.cells (at_some h154).2) (ap h155 (ap h155 (ap h155 (ap h155 (ap h155 (ap h155 (ap h155 (ap h155 (ap h155 (ap h155 (ap h158 (ap h158 (ap h158 (ap h158 (ap (f37_ok x153.Quantity 1048576 h157) (ap (VariationPosition.eqb_ok x153 (VariationPosition.mk x153.Member x153.Product 0 0)) an))))))))))))))))))) (fun h => nomatch h) (LoopQ.out rfl rfl)
      · obtain ⟨x169, h170, h⟩ := bind_cases h
        obtain ⟨x171, h172, h⟩ := bind_cases h
        obtain ⟨x173, h174, h⟩ := bind_cases h
        rcases cond_cases h with ⟨h175, h⟩ | ⟨h175, h⟩
        · obtain ⟨x176, h177, h⟩ := bind_cases h
          rcases cond_cases h with ⟨h178, h⟩ | ⟨h178, h⟩
          · rcases cond_cases h with ⟨h179, h⟩ | ⟨h179, h⟩
            · rcases cond_cases h with ⟨h180, h⟩ | ⟨h180, h⟩
              · obtain rfl := some_inj h
                exact runK_end cfg_ok (k := 3) (rs := [([], [], []), ([], [(1, .idx (Int.toNat v114) (VariationPosition.cells x153))], []), ([(3, false), (4, false), (5, false), (6, false), (7, false), (8, false), (9, false), (10, false), (11, false)], [(7, .idx (Int.toNat (wr64 (v114 - 1))) (VariationPosition.cells x169)), (10, .call (.pl (.int .i64 x171)) []), (12, .bool false)], []), ([(4, true), (5, true), (6, true)], [(2, .call (.pl (.bool x173)) []), (6, .call (.pl (.bool x176)) []), (7, .bool true)], []), ([], [(6, .bool (VariationPosition.eqb x153 (VariationPosition.mk x153.Member x153.Product 0 0)))], []), ([(3, false), (4, false), (7, false), (10, true), (11, true), (12, true), (13, true)], [(5, .bool false), (8, .bool false), (14, .bool true)], []), ([], [], [])]) (ps := [some true, none]) (tds := []) (m := []) (keep := [2]) (ex := .ret) (st' := (f26n2E ba1 .ret).2) (by kernel_rfl) (ap h117 (ap (at_some h154).1 (ap (at_map VariationPosition.cells (at_some h154).2) (ap h155 (ap h155 (ap h155 (ap h155 (ap h155 (ap (at_some h170).1 (ap (at_map VariationPosition.cells (at_some h170).2) (ap h155 (ap h155 (ap h155 (ap h155 (ap h155 (ap (f53_ok x169 x153 h172) (ap h175 (ap h175 (ap h175 (ap h175 (ap (f37_ok x153.Quantity 1048576 h174) (ap (f37_ok x153.Basis 1125899906842624 h177) (ap (VariationPosition.eqb_ok x153 (VariationPosition.mk x153.Member x153.Product 0 0)) (ap (not_t h178) (ap (not_t h178) (ap (not_t h178) (ap (not_t h179) (ap (not_t h179) (ap h180 (ap h180 (ap h180 (ap h180 (ap h180 an))))))))))))))))))))))))))))))))) (fun h => nomatch h) (LoopQ.out rfl rfl)
              · obtain ⟨x181, h182, h⟩ := bind_cases h
                rcases cond_cases h with ⟨h183, h⟩ | ⟨h183, h⟩
                · obtain ⟨x184, h185, h⟩ := bind_cases h
                  rcases cond_cases h with ⟨h186, h⟩ | ⟨h186, h⟩
                  · exact run_end cfg_ok (rs := [([], [], []), ([], [(1, .idx (Int.toNat v114) (VariationPosition.cells x153))], []), ([(3, false), (4, false), (5, false), (6, false), (7, false), (8, false), (9, false), (10, false), (11, false)], [(7, .idx (Int.toNat (wr64 (v114 - 1))) (VariationPosition.cells x169)), (10, .call (.pl (.int .i64 x171)) []), (12, .bool false)], []), ([(4, true), (5, true), (6, true)], [(2, .call (.pl (.bool x173)) []), (6, .call (.pl (.bool x176)) []), (7, .bool true)], []), ([], [(6, .bool (VariationPosition.eqb x153 (VariationPosition.mk x153.Member x153.Product 0 0)))], []), ([(3, false), (4, false), (7, false), (10, false), (11, false), (12, false), (13, false), (16, false), (17, false), (18, false), (19, false)], [(5, .bool false), (8, .bool false), (12, .call (.pl (.bool x181)) []), (14, .bool false), (18, .call (.pl (.bool x184)) []), (20, .bool false)], []), ([], [(3, .look ((pAgg Sums_.cells) (mGet seq (Sums_.mk 0 0) x153.Product v115)) (mHas seq x153.Product v115))], []), ([], [(14, .mset ((mPut seq x153.Product (Sums_.mk (wr64 ((mGet seq (Sums_.mk 0 0) x153.Product v115).quantity + x153.Quantity)) (wr64 ((mGet seq (Sums_.mk 0 0) x153.Product v115).basis + x153.Basis))) v115).map (mkv pStr (pAgg Sums_.cells))))], []), ([], [], [])]) (ps := [some true, some false]) (tds := []) (m := [0, 1]) (keep := [1, 3, 28, 29, 30]) (r := (.norm, (f26n2S ba1 (wr64 (v114 + 1)) (mPut seq x153.Product (Sums_.mk (wr64 ((mGet seq (Sums_.mk 0 0) x153.Product v115).quantity + x153.Quantity)) (wr64 ((mGet seq (Sums_.mk 0 0) x153.Product v115).basis + x153.Basis))) v115)))) (by kernel_rfl) (ap h117 (ap (at_some h154).1 (ap (at_map VariationPosition.cells (at_some h154).2) (ap h155 (ap h155 (ap h155 (ap h155 (ap h155 (ap (at_some h170).1 (ap (at_map VariationPosition.cells (at_some h170).2) (ap h155 (ap h155 (ap h155 (ap h155 (ap h155 (ap (f53_ok x169 x153 h172) (ap h175 (ap h175 (ap h175 (ap h175 (ap (f37_ok x153.Quantity 1048576 h174) (ap (f37_ok x153.Basis 1125899906842624 h177) (ap (VariationPosition.eqb_ok x153 (VariationPosition.mk x153.Member x153.Product 0 0)) (ap (not_t h178) (ap (not_t h178) (ap (not_t h178) (ap (not_t h179) (ap (not_t h179) (ap h180 (ap h180 (ap h180 (ap h180 (ap h180 (ap (not_t h183) (ap (not_t h183) (ap (not_t h183) (ap (not_t h183) (ap (not_t h183) (ap (f44_ok x153.Member h182) (ap (f45_ok x153.Product h185) (ap (not_t h186) (ap (look_map (vp := (pAgg Sums_.cells)) (e := 92) key_9 (Sums_.mk 0 0) (by kernel_rfl) x153.Product v115) (ap (mset_map (vp := (pAgg Sums_.cells)) key_9 x153.Product (Sums_.mk (wr64 ((mGet seq (Sums_.mk 0 0) x153.Product v115).quantity + x153.Quantity)) (wr64 ((mGet seq (Sums_.mk 0 0) x153.Product v115).basis + x153.Basis))) v115) an))))))))))))))))))))))))))))))))))))))))))) (LoopQ.norm ⟨(wr64 (v114 + 1)), (mPut seq x153.Product (Sums_.mk (wr64 ((mGet seq (Sums_.mk 0 0) x153.Product v115).quantity + x153.Quantity)) (wr64 ((mGet seq (Sums_.mk 0 0) x153.Product v115).basis + x153.Basis))) v115), rfl, h⟩)
                  · obtain rfl := some_inj h
                    exact runK_end cfg_ok (k := 3) (rs := [([], [], []), ([], [(1, .idx (Int.toNat v114) (VariationPosition.cells x153))], []), ([(3, false), (4, false), (5, false), (6, false), (7, false), (8, false), (9, false), (10, false), (11, false)], [(7, .idx (Int.toNat (wr64 (v114 - 1))) (VariationPosition.cells x169)), (10, .call (.pl (.int .i64 x171)) []), (12, .bool false)], []), ([(4, true), (5, true), (6, true)], [(2, .call (.pl (.bool x173)) []), (6, .call (.pl (.bool x176)) []), (7, .bool true)], []), ([], [(6, .bool (VariationPosition.eqb x153 (VariationPosition.mk x153.Member x153.Product 0 0)))], []), ([(3, false), (4, false), (7, false), (10, false), (11, false), (12, false), (13, false), (16, false), (17, false), (18, false), (19, false)], [(5, .bool false), (8, .bool false), (12, .call (.pl (.bool x181)) []), (14, .bool false), (18, .call (.pl (.bool x184)) []), (20, .bool false)], []), ([], [], [])]) (ps := [some true, some true]) (tds := []) (m := []) (keep := [2]) (ex := .ret) (st' := (f26n2E ba1 .ret).2) (by kernel_rfl) (ap h117 (ap (at_some h154).1 (ap (at_map VariationPosition.cells (at_some h154).2) (ap h155 (ap h155 (ap h155 (ap h155 (ap h155 (ap (at_some h170).1 (ap (at_map VariationPosition.cells (at_some h170).2) (ap h155 (ap h155 (ap h155 (ap h155 (ap h155 (ap (f53_ok x169 x153 h172) (ap h175 (ap h175 (ap h175 (ap h175 (ap (f37_ok x153.Quantity 1048576 h174) (ap (f37_ok x153.Basis 1125899906842624 h177) (ap (VariationPosition.eqb_ok x153 (VariationPosition.mk x153.Member x153.Product 0 0)) (ap (not_t h178) (ap (not_t h178) (ap (not_t h178) (ap (not_t h179) (ap (not_t h179) (ap h180 (ap h180 (ap h180 (ap h180 (ap h180 (ap (not_t h183) (ap (not_t h183) (ap (not_t h183) (ap (not_t h183) (ap (not_t h183) (ap (f44_ok x153.Member h182) (ap (f45_ok x153.Product h185) (ap (not_f h186) an))))))))))))))))))))))))))))))))))))))))) (fun h => nomatch h) (LoopQ.out rfl rfl)
                · obtain rfl := some_inj h
                  exact runK_end cfg_ok (k := 3) (rs := [([], [], []), ([], [(1, .idx (Int.toNat v114) (VariationPosition.cells x153))], []), ([(3, false), (4, false), (5, false), (6, false), (7, false), (8, false), (9, false), (10, false), (11, false)], [(7, .idx (Int.toNat (wr64 (v114 - 1))) (VariationPosition.cells x169)), (10, .call (.pl (.int .i64 x171)) []), (12, .bool false)], []), ([(4, true), (5, true), (6, true)], [(2, .call (.pl (.bool x173)) []), (6, .call (.pl (.bool x176)) []), (7, .bool true)], []), ([], [(6, .bool (VariationPosition.eqb x153 (VariationPosition.mk x153.Member x153.Product 0 0)))], []), ([(3, false), (4, false), (7, false), (10, false), (11, false), (12, false), (13, false), (16, true), (17, true), (18, true), (19, true)], [(5, .bool false), (8, .bool false), (12, .call (.pl (.bool x181)) []), (14, .bool false), (20, .bool true)], []), ([], [], [])]) (ps := [some true, none]) (tds := []) (m := []) (keep := [2]) (ex := .ret) (st' := (f26n2E ba1 .ret).2) (by kernel_rfl) (ap h117 (ap (at_some h154).1 (ap (at_map VariationPosition.cells (at_some h154).2) (ap h155 (ap h155 (ap h155 (ap h155 (ap h155 (ap (at_some h170).1 (ap (at_map VariationPosition.cells (at_some h170).2) (ap h155 (ap h155 (ap h155 (ap h155 (ap h155 (ap (f53_ok x169 x153 h172) (ap h175 (ap h175 (ap h175 (ap h175 (ap (f37_ok x153.Quantity 1048576 h174) (ap (f37_ok x153.Basis 1125899906842624 h177) (ap (VariationPosition.eqb_ok x153 (VariationPosition.mk x153.Member x153.Product 0 0)) (ap (not_t h178) (ap (not_t h178) (ap (not_t h178) (ap (not_t h179) (ap (not_t h179) (ap h180 (ap h180 (ap h180 (ap h180 (ap h180 (ap (not_f h183) (ap (not_f h183) (ap (not_f h183) (ap (not_f h183) (ap (not_f h183) (ap (f44_ok x153.Member h182) an))))))))))))))))))))))))))))))))))))))) (fun h => nomatch h) (LoopQ.out rfl rfl)
            · obtain rfl := some_inj h
              exact runK_end cfg_ok (k := 3) (rs := [([], [], []), ([], [(1, .idx (Int.toNat v114) (VariationPosition.cells x153))], []), ([(3, false), (4, false), (5, false), (6, false), (7, false), (8, false), (9, false), (10, false), (11, false)], [(7, .idx (Int.toNat (wr64 (v114 - 1))) (VariationPosition.cells x169)), (10, .call (.pl (.int .i64 x171)) []), (12, .bool false)], []), ([(4, true), (5, true), (6, true)], [(2, .call (.pl (.bool x173)) []), (6, .call (.pl (.bool x176)) []), (7, .bool true)], []), ([], [(6, .bool (VariationPosition.eqb x153 (VariationPosition.mk x153.Member x153.Product 0 0)))], []), ([(3, false), (4, false), (7, true)], [(5, .bool false), (8, .bool true)], []), ([], [], [])]) (ps := [some true, none]) (tds := []) (m := []) (keep := [2]) (ex := .ret) (st' := (f26n2E ba1 .ret).2) (by kernel_rfl) (ap h117 (ap (at_some h154).1 (ap (at_map VariationPosition.cells (at_some h154).2) (ap h155 (ap h155 (ap h155 (ap h155 (ap h155 (ap (at_some h170).1 (ap (at_map VariationPosition.cells (at_some h170).2) (ap h155 (ap h155 (ap h155 (ap h155 (ap h155 (ap (f53_ok x169 x153 h172) (ap h175 (ap h175 (ap h175 (ap h175 (ap (f37_ok x153.Quantity 1048576 h174) (ap (f37_ok x153.Basis 1125899906842624 h177) (ap (VariationPosition.eqb_ok x153 (VariationPosition.mk x153.Member x153.Product 0 0)) (ap (not_t h178) (ap (not_t h178) (ap (not_t h178) (ap (not_f h179) (ap (not_f h179) an)))))))))))))))))))))))))))) (fun h => nomatch h) (LoopQ.out rfl rfl)
          · obtain rfl := some_inj h
            exact runK_end cfg_ok (k := 3) (rs := [([], [], []), ([], [(1, .idx (Int.toNat v114) (VariationPosition.cells x153))], []), ([(3, false), (4, false), (5, false), (6, false), (7, false), (8, false), (9, false), (10, false), (11, false)], [(7, .idx (Int.toNat (wr64 (v114 - 1))) (VariationPosition.cells x169)), (10, .call (.pl (.int .i64 x171)) []), (12, .bool false)], []), ([(4, true), (5, true), (6, true)], [(2, .call (.pl (.bool x173)) []), (6, .call (.pl (.bool x176)) []), (7, .bool true)], []), ([], [(6, .bool (VariationPosition.eqb x153 (VariationPosition.mk x153.Member x153.Product 0 0)))], []), ([(3, true), (4, true)], [(5, .bool true)], []), ([], [], [])]) (ps := [some true, none]) (tds := []) (m := []) (keep := [2]) (ex := .ret) (st' := (f26n2E ba1 .ret).2) (by kernel_rfl) (ap h117 (ap (at_some h154).1 (ap (at_map VariationPosition.cells (at_some h154).2) (ap h155 (ap h155 (ap h155 (ap h155 (ap h155 (ap (at_some h170).1 (ap (at_map VariationPosition.cells (at_some h170).2) (ap h155 (ap h155 (ap h155 (ap h155 (ap h155 (ap (f53_ok x169 x153 h172) (ap h175 (ap h175 (ap h175 (ap h175 (ap (f37_ok x153.Quantity 1048576 h174) (ap (f37_ok x153.Basis 1125899906842624 h177) (ap (VariationPosition.eqb_ok x153 (VariationPosition.mk x153.Member x153.Product 0 0)) (ap (not_f h178) (ap (not_f h178) (ap (not_f h178) an)))))))))))))))))))))))))) (fun h => nomatch h) (LoopQ.out rfl rfl)
        · rcases cond_cases h with ⟨h187, h⟩ | ⟨h187, h⟩
          · obtain rfl := some_inj h
            exact runK_end cfg_ok (k := 3) (rs := [([], [], []), ([], [(1, .idx (Int.toNat v114) (VariationPosition.cells x153))], []), ([(3, false), (4, false), (5, false), (6, false), (7, false), (8, false), (9, false), (10, false), (11, false)], [(7, .idx (Int.toNat (wr64 (v114 - 1))) (VariationPosition.cells x169)), (10, .call (.pl (.int .i64 x171)) []), (12, .bool false)], []), ([(4, false), (5, false), (6, false)], [(2, .call (.pl (.bool x173)) []), (7, .bool false)], []), ([], [(6, .bool (VariationPosition.eqb x153 (VariationPosition.mk x153.Member x153.Product 0 0)))], []), ([(3, false), (4, false)], [(5, .bool false)], []), ([], [], [])]) (ps := [some true, none]) (tds := []) (m := []) (keep := [2]) (ex := .ret) (st' := (f26n2E ba1 .ret).2) (by kernel_rfl) (ap h117 (ap (at_some h154).1 (ap (at_map VariationPosition.cells (at_some h154).2) (ap h155 (ap h155 (ap h155 (ap h155 (ap h155 (ap (at_some h170).1 (ap (at_map VariationPosition.cells (at_some h170).2) (ap h155 (ap h155 (ap h155 (ap h155 (ap h155 (ap (f53_ok x169 x153 h172) (ap h175 (ap h175 (ap h175 (ap h175 (ap (f37_ok x153.Quantity 1048576 h174) (ap (VariationPosition.eqb_ok x153 (VariationPosition.mk x153.Member x153.Product 0 0)) (ap (not_t h187) (ap (not_t h187) (ap (not_t h187) an))))))))))))))))))))))))) (fun h => nomatch h) (LoopQ.out rfl rfl)
          · obtain rfl := some_inj h
            exact runK_end cfg_ok (k := 3) (rs := [([], [], []), ([], [(1, .idx (Int.toNat v114) (VariationPosition.cells x153))], []), ([(3, false), (4, false), (5, false), (6, false), (7, false), (8, false), (9, false), (10, false), (11, false)], [(7, .idx (Int.toNat (wr64 (v114 - 1))) (VariationPosition.cells x169)), (10, .call (.pl (.int .i64 x171)) []), (12, .bool false)], []), ([(4, false), (5, false), (6, false)], [(2, .call (.pl (.bool x173)) []), (7, .bool false)], []), ([], [(6, .bool (VariationPosition.eqb x153 (VariationPosition.mk x153.Member x153.Product 0 0)))], []), ([(3, true), (4, true)], [(5, .bool true)], []), ([], [], [])]) (ps := [some true, none]) (tds := []) (m := []) (keep := [2]) (ex := .ret) (st' := (f26n2E ba1 .ret).2) (by kernel_rfl) (ap h117 (ap (at_some h154).1 (ap (at_map VariationPosition.cells (at_some h154).2) (ap h155 (ap h155 (ap h155 (ap h155 (ap h155 (ap (at_some h170).1 (ap (at_map VariationPosition.cells (at_some h170).2) (ap h155 (ap h155 (ap h155 (ap h155 (ap h155 (ap (f53_ok x169 x153 h172) (ap h175 (ap h175 (ap h175 (ap h175 (ap (f37_ok x153.Quantity 1048576 h174) (ap (VariationPosition.eqb_ok x153 (VariationPosition.mk x153.Member x153.Product 0 0)) (ap (not_f h187) (ap (not_f h187) (ap (not_f h187) an))))))))))))))))))))))))) (fun h => nomatch h) (LoopQ.out rfl rfl)
    · obtain rfl := some_inj h
      exact runK_end cfg_ok (k := 2) (rs := [([], [], [])]) (ps := [some false]) (tds := []) (m := [1]) (keep := [3]) (ex := (.exit 0)) (st' := (f26n2E ba1 (.exit0 v115)).2) (by kernel_rfl) (ap h117 an) (fun h => nomatch h) (LoopQ.out rfl rfl)
noncomputable def f26n2L (ba1 : Variation) : List VariationPosition → Int → (List (ByteArray × Sums_)) → Option f26n2O
  | [], v114, v115 =>
    some (.exit0 v115)
  | x0 :: rest, v114, v115 =>
    bif (decide (v114 = 0)) then
      (f37 x0.Quantity 1048576).bind fun x156 =>
      bif x156 then
        (f37 x0.Basis 1125899906842624).bind fun x159 =>
        bif x159 then
          bif (VariationPosition.eqb x0 (VariationPosition.mk x0.Member x0.Product 0 0)) then
            some .ret
          else
            (f44 x0.Member).bind fun x163 =>
            bif x163 then
              (f45 x0.Product).bind fun x166 =>
              bif x166 then
                (f26n2L ba1 rest (v114 + 1) (mPut seq x0.Product (Sums_.mk (wr64 ((mGet seq (Sums_.mk 0 0) x0.Product v115).quantity + x0.Quantity)) (wr64 ((mGet seq (Sums_.mk 0 0) x0.Product v115).basis + x0.Basis))) v115))
              else
                some .ret
            else
              some .ret
        else
          some .ret
      else
        some .ret
    else
      (at? ba1.Positions (wr64 (v114 - 1))).bind fun x169 =>
      (f53 x169 x0).bind fun x171 =>
      (f37 x0.Quantity 1048576).bind fun x173 =>
      bif x173 then
        (f37 x0.Basis 1125899906842624).bind fun x176 =>
        bif (decide (x171 < 0)) then
          bif x176 then
            bif (VariationPosition.eqb x0 (VariationPosition.mk x0.Member x0.Product 0 0)) then
              some .ret
            else
              (f44 x0.Member).bind fun x181 =>
              bif x181 then
                (f45 x0.Product).bind fun x184 =>
                bif x184 then
                  (f26n2L ba1 rest (v114 + 1) (mPut seq x0.Product (Sums_.mk (wr64 ((mGet seq (Sums_.mk 0 0) x0.Product v115).quantity + x0.Quantity)) (wr64 ((mGet seq (Sums_.mk 0 0) x0.Product v115).basis + x0.Basis))) v115))
                else
                  some .ret
              else
                some .ret
          else
            some .ret
        else
          some .ret
      else
        bif (decide (x171 < 0)) then
          some .ret
        else
          some .ret
theorem f26n2L_eq (ba1 : Variation) : ∀ (rest : List VariationPosition) (f k : Nat) (v115 : List (ByteArray × Sums_)), ba1.Positions.drop k = rest → ba1.Positions.length ≤ maxLen → rest.length < f → f26n2 f ba1 (k : Int) v115 = f26n2L ba1 rest (k : Int) v115
  | _, 0, _, _, _, _, hf => absurd hf (Nat.not_lt_zero _)
  | [], f + 1, k, v115, hd, hm, hf => by
    have hk : ¬ ((k : Int) < (ba1.Positions.length : Int)) := by have := drop_nil hd; omega
    rw [f26n2, f26n2L]
    simp only [decide_eq_false hk, cond_false]
  | x0 :: rest, f + 1, k, v115, hd, hm, hf => by
    obtain ⟨hx, hlt, hd'⟩ := drop_cons hd
    have hk : (k : Int) < (ba1.Positions.length : Int) := by omega
    have hw : wr64 ((k : Int) + 1) = (k : Int) + 1 := wr64_of (by omega) (by unfold maxLen at hm; omega)
    have ih : ∀ (v115 : List (ByteArray × Sums_)), f26n2 f ba1 ((k : Int) + 1) v115 = f26n2L ba1 rest ((k : Int) + 1) v115 := fun v115 => f26n2L_eq ba1 rest f (k + 1) v115 hd' hm (by simpa using hf)
    rw [f26n2, f26n2L]
    simp only [decide_eq_true hk, cond_true, at_nat, hx, Option.bind_some, hw, ih]
theorem f26n2_run (ba1 : Variation) (v115 : List (ByteArray × Sums_)) (hm : ba1.Positions.length ≤ maxLen) : f26n2 FUEL ba1 0 v115 = f26n2L ba1 ba1.Positions 0 v115 := f26n2L_eq ba1 ba1.Positions FUEL 0 v115 List.drop_zero hm (lt_FUEL hm)
inductive f26n1O where
  | norm (v192 : List (ByteArray × Sums_))
  | ret
def f26n1E (ba1 : Variation) : f26n1O → Ex × Tr × Hp
  | .norm v192 => (.norm, mkS [(3, (.mp 0))], [some (.map (v192.map (mkv pStr (pAgg Sums_.cells))))])
  | .ret => (.ret, mkS [(2, (.pl (.int .i64 8)))], [])
def f26n1S (ba1 : Variation) : Tr × Hp := (mkS [(1, (.bp 0 0)), (3, (.mp 1))], [some (.box ((Variation.cells ba1).map .pl)), some (.map ([].map (mkv pStr (pAgg Sums_.cells))))])
noncomputable def f26n1 (ba1 : Variation) : Option f26n1O :=
  (f26n2 FUEL ba1 0 []).bind fun o189 => match o189 with
  | .exit0 v191 => some (.norm v191)
  | .ret => some .ret
theorem f26n1_ok (ba1 : Variation) {o : f26n1O} (h : (f26n1 ba1) = some o) : T Try.prog Try.f26.ntmps 0 (cL (dropC 3 c26)) (f26n1S ba1) (fun r => r = f26n1E ba1 o) := by
  unfold f26n1 at h
  refine runK_norm cfg_ok (k := 1) (rs := [([], [], [(2, .val (.pl (.int .i64 (ba1.Positions.length : Int))))])]) (ps := []) (tds := []) (m := [0, 1]) (keep := [1, 3, 28, 29, 30]) (st' := (f26n2S ba1 0 [])) (by kernel_rfl) (ap (len_cv (xs := ba1.Positions) (c := VariationPosition.cells)) an) ?_
  obtain ⟨o189, h190, h⟩ := bind_cases h
  cases o189 with
  | exit0 v191 =>
    obtain rfl := some_inj h
    exact T.last' (T.bl (i := 0) (by kernel_rfl) (by kernel_rfl) (f26n2_ok FUEL ba1 0 [] h190)) (tds := []) (m := [0]) (keep := [3]) (st2 := (f26n1E ba1 (.norm v191)).2) (by kernel_rfl) an rfl
  | ret =>
    obtain rfl := some_inj h
    exact T.last' (T.bl (i := 0) (by kernel_rfl) (by kernel_rfl) (f26n2_ok FUEL ba1 0 [] h190)) (tds := []) (m := []) (keep := [2]) (st2 := (f26n1E ba1 .ret).2) (by kernel_rfl) an rfl
inductive f26n4O where
  | exit2
  | ret
def f26n4E (bd1 : List (ByteArray × Sums_)) : f26n4O → Ex × Tr × Hp
  | .exit2 => ((.exit 2), mkS [], [])
  | .ret => (.ret, mkS [(2, (.pl (.int .i64 8)))], [])
def f26n4S (bd1 : List (ByteArray × Sums_)) (sn0 : List Nat) : Tr × Hp := (mkS [(104, (.it 0))], [some (.iter 1 (bd1.map (mkv pStr (pAgg Sums_.cells))).length sn0), some (.map (bd1.map (mkv pStr (pAgg Sums_.cells))))])
noncomputable def f26n4 (bd1 : List (ByteArray × Sums_)) : List (ByteArray × Sums_) → Option f26n4O
  | [] =>
    some .exit2
  | x202 :: rest =>
    bif (Sums_.eqb x202.2 (Sums_.mk 0 0)) then
      (f26n4 bd1 rest)
    else
      some .ret
theorem f26n4_ok (bd1 : List (ByteArray × Sums_)) : ∀ (f : Nat) (sn0 rem : List Nat) {o : f26n4O}, Rem bd1.length sn0 rem → rem.length < f → (∀ p, p.Perm rem → f26n4 bd1 (ords bd1 p) = some o) → TL Try.prog Try.f26.ntmps 0 f (cL (cL (dropC 1 (cL (dropC 0 (dropC 1 (dropC 3 c26))))))) (f26n4S bd1 sn0) (fun r => r = f26n4E bd1 o)
  | 0, _, _, _, _, hf, _ => absurd hf (Nat.not_lt_zero _)
  | f + 1, sn0, rem, o, hR, hf, H => by
    refine TL.body (K := fun s => ∃ (sn0 rem : List Nat), s = f26n4S bd1 sn0 ∧ Rem bd1.length sn0 rem ∧ rem.length < f ∧ (∀ p, p.Perm rem → f26n4 bd1 (ords bd1 p) = some o)) ?_ (by rintro _ ⟨sn0, rem, rfl, h1, h2, h3⟩; exact f26n4_ok bd1 f sn0 rem h1 h2 h3)
    refine T.oneNext cfg_ok (x := .tmp 104) (t := 105) (tb := 106) (i := 0) (o := 1) (m := (bd1.map (mkv pStr (pAgg Sums_.cells))).length) (seen := sn0) (kvs := (bd1.map (mkv pStr (pAgg Sums_.cells)))) (by kernel_rfl) (by kernel_rfl) (by kernel_rfl) (by kernel_rfl) (by kernel_rfl) (by kernel_rfl) rfl (fun hs => ?_) (fun j201 k v hj hs hx => ?_)
    · obtain rfl := hR.none (by simpa using hs)
      have h : f26n4 bd1 [] = some o := H [] (List.Perm.refl _)
      rw [f26n4] at h
      obtain rfl := some_inj h
      exact runK_end cfg_ok (k := 1) (rs := []) (ps := [none]) (tds := []) (m := []) (keep := []) (ex := (.exit 2)) (st' := (f26n4E bd1 .exit2).2) (by kernel_rfl) an (fun h => nomatch h) (LoopQ.out rfl rfl)
    · obtain ⟨x202, h203, rfl, rfl⟩ := mkv_at hx
      obtain ⟨hR2, hlen, hP⟩ := hR.step (j := j201) (by simpa using hj) hs
      have H2 : ∀ p, p.Perm (rem.erase j201) → f26n4 bd1 (x202 :: ords bd1 p) = some o := fun p hp => by have h := H _ (hP p hp); rwa [ords_cons h203] at h
      have h := H2 _ (List.Perm.refl _)
      rw [f26n4] at h
      rcases cond_cases h with ⟨h205, h⟩ | ⟨h205, h⟩
      · exact run_end cfg_ok (rs := [([], [(0, .entr j201 (pStr x202.1) ((pAgg Sums_.cells) x202.2))], []), ([], [(2, .bool (Sums_.eqb x202.2 (Sums_.mk 0 0)))], [])]) (ps := [none, some false]) (tds := []) (m := [0, 1]) (keep := [104]) (r := (.norm, (f26n4S bd1 (sn0 ++ [j201])))) (by kernel_rfl) (ap (last_app (seen := sn0) (j := j201)) (ap (rfl : (bd1.map (mkv pStr (pAgg Sums_.cells))).length = (bd1.map (mkv pStr (pAgg Sums_.cells))).length) (ap (at_mkv (kp := pStr) (vp := (pAgg Sums_.cells)) h203) (ap (Sums_.eqb_ok x202.2 (Sums_.mk 0 0)) (ap (not_t h205) an))))) (LoopQ.norm ⟨sn0 ++ [j201], rem.erase j201, rfl, hR2, by omega, fun p hp => by have h := H2 p hp; rw [f26n4] at h; simp only [h205, cond_true, cond_false, Option.bind_some, req] at h; exact h⟩)
      · obtain rfl := some_inj h
        exact run_end cfg_ok (rs := [([], [(0, .entr j201 (pStr x202.1) ((pAgg Sums_.cells) x202.2))], []), ([], [(2, .bool (Sums_.eqb x202.2 (Sums_.mk 0 0)))], []), ([], [], [])]) (ps := [none, some true]) (tds := []) (m := []) (keep := [2]) (r := (.ret, (f26n4E bd1 .ret).2)) (by kernel_rfl) (ap (last_app (seen := sn0) (j := j201)) (ap (rfl : (bd1.map (mkv pStr (pAgg Sums_.cells))).length = (bd1.map (mkv pStr (pAgg Sums_.cells))).length) (ap (at_mkv (kp := pStr) (vp := (pAgg Sums_.cells)) h203) (ap (Sums_.eqb_ok x202.2 (Sums_.mk 0 0)) (ap (not_f h205) an))))) (LoopQ.out rfl rfl)
inductive f26n3O where
  | norm
  | ret
def f26n3E (bd1 : List (ByteArray × Sums_)) : f26n3O → Ex × Tr × Hp
  | .norm => (.norm, mkS [], [])
  | .ret => (.ret, mkS [(2, (.pl (.int .i64 8)))], [])
def f26n3S (bd1 : List (ByteArray × Sums_)) : Tr × Hp := (mkS [(3, (.mp 0))], [some (.map (bd1.map (mkv pStr (pAgg Sums_.cells))))])
noncomputable def f26n3 (bd1 : List (ByteArray × Sums_)) : Option f26n3O :=
  (anyOrder bd1 fun p => (f26n4 bd1 p)).bind fun o206 => match o206 with
  | .exit2 => some .norm
  | .ret => some .ret
theorem f26n3_ok (bd1 : List (ByteArray × Sums_)) {o : f26n3O} (h : (f26n3 bd1) = some o) : T Try.prog Try.f26.ntmps 0 (cL (dropC 0 (dropC 1 (dropC 3 c26)))) (f26n3S bd1) (fun r => r = f26n3E bd1 o) := by
  unfold f26n3 at h
  refine runK_norm cfg_ok (k := 1) (rs := [([], [], [])]) (ps := []) (tds := []) (m := [1, 0]) (keep := [104]) (st' := (f26n4S bd1 [])) (by kernel_rfl) an ?_
  obtain ⟨o206, h207, h⟩ := bind_cases h
  cases o206 with
  | exit2 =>
    obtain rfl := some_inj h
    exact T.last' (T.bl (i := 2) (by kernel_rfl) (by kernel_rfl) (f26n4_ok bd1 _ [] (List.range bd1.length) (Rem.start _) (Nat.lt_succ_self _) (fun p hp => anyOrder_at h207 _ (ords_perm hp)))) (tds := []) (m := []) (keep := []) (st2 := (f26n3E bd1 .norm).2) (by kernel_rfl) an rfl
  | ret =>
    obtain rfl := some_inj h
    exact T.last' (T.bl (i := 2) (by kernel_rfl) (by kernel_rfl) (f26n4_ok bd1 _ [] (List.range bd1.length) (Rem.start _) (Nat.lt_succ_self _) (fun p hp => anyOrder_at h207 _ (ords_perm hp)))) (tds := []) (m := []) (keep := [2]) (st2 := (f26n3E bd1 .ret).2) (by kernel_rfl) an rfl
inductive f26n0O where
  | ret (v210 : Int)
def f26n0E (a1 : Variation) : f26n0O → Ex × Tr × Hp
  | .ret v210 => (.ret, mkS [(2, (.pl (.int .i64 v210)))], [])
def f26n0S (a1 : Variation) : Tr × Hp := (initS [(.pl (.agg (Variation.cells a1)))] 0 .leaf, [])
noncomputable def f26n0 (a1 : Variation) : Option f26n0O :=
  bif (decide (a1.Day < 0)) then
    some (.ret 8)
  else
    bif (decide (99999 < a1.Day)) then
      some (.ret 8)
    else
      bif (decide (200 < (a1.Positions.length : Int))) then
        some (.ret 8)
      else
        (f26n1 a1).bind fun o193 => match o193 with
        | .norm v195 => (f26n3 v195).bind fun o208 => match o208 with
          | .norm => some (.ret 0)
          | .ret => some (.ret 8)
        | .ret => some (.ret 8)
theorem f26n0_ok (a1 : Variation) {o : f26n0O} (h : (f26n0 a1) = some o) : T Try.prog Try.f26.ntmps 0 c26 (f26n0S a1) (fun r => r = f26n0E a1 o) := by
  unfold f26n0 at h
  rcases cond_cases h with ⟨h5, h⟩ | ⟨h5, h⟩
  · obtain rfl := some_inj h
    exact runK_end cfg_ok (k := 2) (rs := [([], [], []), ([(4, true), (5, true), (6, true)], [(7, .bool true)], []), ([], [], [])]) (ps := [none]) (tds := []) (m := []) (keep := [2]) (ex := .ret) (st' := (f26n0E a1 (.ret 8)).2) (by kernel_rfl) (ap h5 (ap h5 (ap h5 (ap h5 an)))) (fun h => nomatch h) rfl
  · rcases cond_cases h with ⟨h6, h⟩ | ⟨h6, h⟩
    · obtain rfl := some_inj h
      exact runK_end cfg_ok (k := 2) (rs := [([], [], []), ([(4, false), (5, false), (6, false), (9, true), (10, true), (11, true), (12, true)], [(7, .bool false), (13, .bool true)], []), ([], [], [])]) (ps := [none]) (tds := []) (m := []) (keep := [2]) (ex := .ret) (st' := (f26n0E a1 (.ret 8)).2) (by kernel_rfl) (ap h5 (ap h5 (ap h5 (ap h5 (ap h6 (ap h6 (ap h6 (ap h6 (ap h6 an))))))))) (fun h => nomatch h) rfl
    · rcases cond_cases h with ⟨h7, h⟩ | ⟨h7, h⟩
      · obtain rfl := some_inj h
        exact runK_end cfg_ok (k := 2) (rs := [([], [], []), ([(4, false), (5, false), (6, false), (9, false), (10, false), (11, false), (12, false)], [(7, .bool false), (13, .bool false)], [(11, .val (.pl (.int .i64 (a1.Positions.length : Int))))]), ([], [], [])]) (ps := [some true]) (tds := []) (m := []) (keep := [2]) (ex := .ret) (st' := (f26n0E a1 (.ret 8)).2) (by kernel_rfl) (ap h5 (ap h5 (ap h5 (ap h5 (ap h6 (ap h6 (ap h6 (ap (len_cv (xs := a1.Positions) (c := VariationPosition.cells)) (ap h6 (ap h6 (ap h7 an))))))))))) (fun h => nomatch h) rfl
      · refine runK_norm cfg_ok (k := 3) (rs := [([], [], []), ([(4, false), (5, false), (6, false), (9, false), (10, false), (11, false), (12, false)], [(7, .bool false), (13, .bool false)], [(11, .val (.pl (.int .i64 (a1.Positions.length : Int))))]), ([], [], [])]) (ps := [some false]) (tds := []) (m := [0, 1]) (keep := [1, 3]) (st' := (f26n1S a1)) (by kernel_rfl) (ap h5 (ap h5 (ap h5 (ap h5 (ap h6 (ap h6 (ap h6 (ap (len_cv (xs := a1.Positions) (c := VariationPosition.cells)) (ap h6 (ap h6 (ap h7 an))))))))))) ?_
        obtain ⟨o193, h194, h⟩ := bind_cases h
        cases o193 with
        | norm v195 =>
          refine T.oneN (by kernel_rfl) (f26n1_ok a1 h194) (st2 := (f26n1E a1 (.norm v195)).2) rfl ?_
          refine runK_norm cfg_ok (k := 0) (rs := []) (ps := []) (tds := []) (m := [0]) (keep := [3]) (st' := (f26n3S v195)) (by kernel_rfl) an ?_
          obtain ⟨o208, h209, h⟩ := bind_cases h
          cases o208 with
          | norm =>
            refine T.oneN (by kernel_rfl) (f26n3_ok v195 h209) (st2 := (f26n3E v195 .norm).2) rfl ?_
            obtain rfl := some_inj h
            exact run_end cfg_ok (rs := [([], [], [])]) (ps := []) (tds := []) (m := []) (keep := [2]) (r := (.ret, (f26n0E a1 (.ret 0)).2)) (by kernel_rfl) an rfl
          | ret =>
            obtain rfl := some_inj h
            exact T.oneX' (by kernel_rfl) (f26n3_ok v195 h209) (tds := []) (m := []) (keep := [2]) (st2 := (f26n0E a1 (.ret 8)).2) (by kernel_rfl) an rfl rfl
        | ret =>
          obtain rfl := some_inj h
          exact T.oneX' (by kernel_rfl) (f26n1_ok a1 h194) (tds := []) (m := []) (keep := [2]) (st2 := (f26n0E a1 (.ret 8)).2) (by kernel_rfl) an rfl rfl
noncomputable def f26 (a1 : Variation) : Option Int := (f26n0 a1).bind fun o => match o with
  | .ret v210 => some v210
theorem f26_ok (a1 : Variation) {r : Int} (h : (f26 a1) = some r) : CallS Try.prog false 26 [(.pl (.agg (Variation.cells a1)))] [] (.pl (.int .i64 r)) [] := by
  unfold f26 at h
  obtain ⟨o, ho, h⟩ := bind_cases h
  cases o with
  | ret v210 =>
    obtain rfl := some_inj h
    exact CallS.plain cfg_ok (f := Try.f26) (c := c26) (by kernel_rfl) (by kernel_rfl) (by kernel_rfl) (by kernel_rfl) ((f26n0_ok a1 ho).mono fun r e => by subst e; exact ⟨.inl rfl, (.pl (.int .i64 v210)), (.pl (.int .i64 v210)), by kernel_rfl, by kernel_rfl, ((Wk.refl _) : Wk (.pl (.int .i64 v210)) (.pl (.int .i64 v210)))⟩)
/-! ### slices.Clone[[]novation/api.VariationPosition,novation/api.VariationPosition] -/
noncomputable def c47 : Code := Try.f47.body.getD .skip
inductive f47r1n0O where
  | ret (v5 : List VariationPosition)
def f47r1n0E (a1 : List VariationPosition) : f47r1n0O → Ex × Tr × Hp
  | .ret v5 => (.ret, mkS [(2, (.own 0))], [some (.row false 4 (v5.map VariationPosition.cells))])
def f47r1n0S (a1 : List VariationPosition) : Tr × Hp := (initS [(.pl (.sl .any 4 (a1.map VariationPosition.cells)))] 0 .leaf, [])
noncomputable def f47r1n0 (a1 : List VariationPosition) : Option f47r1n0O :=
  bif (a1.isEmpty) then
    some (.ret [])
  else
    req (fit a1.length 48) <|
    some (.ret a1)
theorem f47r1n0_ok (a1 : List VariationPosition) {o : f47r1n0O} (h : (f47r1n0 a1) = some o) : T Try.prog Try.f47.ntmps 0 c47 (f47r1n0S a1) (fun r => r = f47r1n0E a1 o) := by
  unfold f47r1n0 at h
  refine runK_norm cfg_ok (k := 1) (rs := [([], [], [])]) (ps := []) (tds := []) (m := []) (keep := [0]) (st' := (mkS [(0, (.pl (.sl .any 4 (a1.map VariationPosition.cells))))], [])) (by kernel_rfl) an ?_
  refine T.nest (by kernel_rfl) ?_
  rcases cond_cases h with ⟨h2, h⟩ | ⟨h2, h⟩
  · refine runK_norm cfg_ok (k := 0) (rs := []) (ps := []) (tds := []) (m := []) (keep := [0]) (st' := (mkS [(0, (.pl (.sl .any 4 (a1.map VariationPosition.cells))))], [])) (by kernel_rfl) an ?_
    refine T.oneNil cfg_ok (x := .tmp 0) (t := 25) (t3 := 3) (t4 := 4) (sz := 4) (es := (a1.map VariationPosition.cells)) (by kernel_rfl) (by kernel_rfl) (by kernel_rfl) (by kernel_rfl) (by kernel_rfl) (fun b hb => ?_)
    cases b
    · refine run_end cfg_ok (rs := []) (ps := [none]) (tds := []) (m := []) (keep := [0]) (r := (.norm, (mkS [(0, (.pl (.sl .any 4 (a1.map VariationPosition.cells))))], []))) (by kernel_rfl) an (ThenQ.norm ?_)
      obtain rfl := some_inj h
      exact run_end cfg_ok (rs := [([], [(2, .app false)], [])]) (ps := []) (tds := []) (m := [0]) (keep := [2]) (r := (.ret, (f47r1n0E a1 (.ret [])).2)) (by kernel_rfl) (ap (nil_map (c := VariationPosition.cells) h2) an) rfl
    · obtain rfl := some_inj h
      exact run_end cfg_ok (rs := [([], [], [])]) (ps := [none]) (tds := [.mat 2 4]) (m := [0]) (keep := [2]) (r := (.ret, (f47r1n0E a1 (.ret [])).2)) (by kernel_rfl) an (ThenQ.out rfl rfl)
  · refine runK_norm cfg_ok (k := 0) (rs := []) (ps := []) (tds := []) (m := []) (keep := [0]) (st' := (mkS [(0, (.pl (.sl .any 4 (a1.map VariationPosition.cells))))], [])) (by kernel_rfl) an ?_
    refine T.oneNil cfg_ok (x := .tmp 0) (t := 25) (t3 := 3) (t4 := 4) (sz := 4) (es := (a1.map VariationPosition.cells)) (by kernel_rfl) (by kernel_rfl) (by kernel_rfl) (by kernel_rfl) (by kernel_rfl) (fun b hb => ?_)
    cases b
    · refine run_end cfg_ok (rs := []) (ps := [none]) (tds := []) (m := []) (keep := [0]) (r := (.norm, (mkS [(0, (.pl (.sl .any 4 (a1.map VariationPosition.cells))))], []))) (by kernel_rfl) an (ThenQ.norm ?_)
      obtain ⟨h4, h⟩ := req_cases h
      obtain rfl := some_inj h
      exact run_end cfg_ok (rs := [([], [(2, .app true)], [])]) (ps := []) (tds := []) (m := [1]) (keep := [2]) (r := (.ret, (f47r1n0E a1 (.ret a1)).2)) (by kernel_rfl) (ap (fit_map0z (te := ti52) (xs := a1) (c := VariationPosition.cells) h4 rfl) (ap (ne_map (c := VariationPosition.cells) h2) (ap (len_all (c := VariationPosition.cells) (xs := a1) (n := 4) (fun _ => rfl)) an))) rfl
    · exact absurd (hb rfl) (ne_map (c := VariationPosition.cells) h2)
noncomputable def f47r1 (a1 : List VariationPosition) : Option (List VariationPosition) := (f47r1n0 a1).bind fun o => match o with
  | .ret v5 => some v5
theorem f47r1_ok (a1 : List VariationPosition) {r : List VariationPosition} (h : (f47r1 a1) = some r) : CallS Try.prog true 47 [(.pl (.sl .any 4 (a1.map VariationPosition.cells)))] [] (.own 0) [some (.row false 4 (r.map VariationPosition.cells))] := by
  unfold f47r1 at h
  obtain ⟨o, ho, h⟩ := bind_cases h
  cases o with
  | ret v5 =>
    obtain rfl := some_inj h
    exact CallS.shared cfg_ok (f := Try.f47) (c := c47) (by kernel_rfl) (by kernel_rfl) (by kernel_rfl) ((f47r1n0_ok a1 ho).mono fun r e => by subst e; exact ⟨.inl rfl, by kernel_rfl, by kernel_rfl⟩)
/-! ### slices.BinarySearchFunc[[]novation/api.VariationPosition,novation/api.VariationPosition,novation/api.VariationPosition] -/
noncomputable def c63 : Code := Try.f63.body.getD .skip
inductive f63_53n1O where
  | exit0 (v43 : Int)
def f63_53n1E (a1 : List VariationPosition) (a2 : VariationPosition) : f63_53n1O → Ex × Tr × Hp
  | .exit0 v43 => ((.exit 0), mkS [(0, (.pl (.sl .any 4 (a1.map VariationPosition.cells)))), (2, (.pl (.fn 53))), (4, (.bp 0 0)), (8, (.pl (.int .i64 (a1.length : Int)))), (9, (.pl (.int .i64 v43)))], [some (.box ((VariationPosition.cells a2).map .pl))])
def f63_53n1S (a1 : List VariationPosition) (a2 : VariationPosition) (v29 : Int) (v30 : Int) : Tr × Hp := (mkS [(0, (.pl (.sl .any 4 (a1.map VariationPosition.cells)))), (2, (.pl (.fn 53))), (4, (.bp 0 0)), (8, (.pl (.int .i64 (a1.length : Int)))), (9, (.pl (.int .i64 v29))), (10, (.pl (.int .i64 v30)))], [some (.box ((VariationPosition.cells a2).map .pl))])
noncomputable def f63_53n1 : Nat → List VariationPosition → VariationPosition → Int → Int → Option f63_53n1O
  | 0, _, _, _, _ => none
  | f + 1, a1, a2, v29, v30 =>
    bif (decide (v29 < v30)) then
      (at? a1 (wr64 (shrK .u64 (wru64 (wr64 (v29 + v30))) 1))).bind fun x38 =>
      (f53 x38 a2).bind fun x40 =>
      bif (decide (x40 < 0)) then
        (f63_53n1 f a1 a2 (wr64 ((wr64 (shrK .u64 (wru64 (wr64 (v29 + v30))) 1)) + 1)) v30)
      else
        (f63_53n1 f a1 a2 v29 (wr64 (shrK .u64 (wru64 (wr64 (v29 + v30))) 1)))
    else
      some (.exit0 v29)
theorem f63_53n1_ok : ∀ (f : Nat) (a1 : List VariationPosition) (a2 : VariationPosition) (v29 : Int) (v30 : Int) {o : f63_53n1O}, (f63_53n1 f a1 a2 v29 v30) = some o → TL Try.prog Try.f63.ntmps 0 f (cL (cL (cL (dropC 3 c63)))) (f63_53n1S a1 a2 v29 v30) (fun r => r = f63_53n1E a1 a2 o)
  | 0, _, _, _, _, o, h => by rw [f63_53n1] at h; cases h
  | f + 1, a1, a2, v29, v30, o, h => by
    rw [f63_53n1] at h
    refine TL.body (K := fun s => ∃ v29 : Int, ∃ v30 : Int, s = (f63_53n1S a1 a2 v29 v30) ∧ (f63_53n1 f a1 a2 v29 v30) = some o) ?_ (by rintro _ ⟨v29, v30, rfl, hk⟩; exact f63_53n1_ok f _ _ _ _ hk)
    rcases cond_cases h with ⟨h32, h⟩ | ⟨h32, h⟩
    · obtain ⟨x38, h39, h⟩ := bind_cases h
      obtain ⟨x40, h41, h⟩ := bind_cases h
      rcases cond_cases h with ⟨h42, h⟩ | ⟨h42, h⟩
      · exact run_end cfg_ok (rs := [([], [], []), ([], [], []), ([], [(3, .idx (Int.toNat (wr64 (shrK .u64 (wru64 (wr64 (v29 + v30))) 1))) (VariationPosition.cells x38)), (6, .call (.pl (.int .i64 x40)) [])], []), ([], [], [])]) (ps := [some true, some true]) (tds := []) (m := [0]) (keep := [0, 2, 4, 8, 9, 10]) (r := (.norm, (f63_53n1S a1 a2 (wr64 ((wr64 (shrK .u64 (wru64 (wr64 (v29 + v30))) 1)) + 1)) v30))) (by kernel_rfl) (ap h32 (ap (at_some h39).1 (ap (at_map VariationPosition.cells (at_some h39).2) (ap (f53_ok x38 a2 h41) (ap h42 an))))) (LoopQ.norm ⟨(wr64 ((wr64 (shrK .u64 (wru64 (wr64 (v29 + v30))) 1)) + 1)), v30, rfl, h⟩)
      · exact run_end cfg_ok (rs := [([], [], []), ([], [], []), ([], [(3, .idx (Int.toNat (wr64 (shrK .u64 (wru64 (wr64 (v29 + v30))) 1))) (VariationPosition.cells x38)), (6, .call (.pl (.int .i64 x40)) [])], []), ([], [], [])]) (ps := [some true, some false]) (tds := []) (m := [0]) (keep := [0, 2, 4, 8, 9, 10]) (r := (.norm, (f63_53n1S a1 a2 v29 (wr64 (shrK .u64 (wru64 (wr64 (v29 + v30))) 1))))) (by kernel_rfl) (ap h32 (ap (at_some h39).1 (ap (at_map VariationPosition.cells (at_some h39).2) (ap (f53_ok x38 a2 h41) (ap h42 an))))) (LoopQ.norm ⟨v29, (wr64 (shrK .u64 (wru64 (wr64 (v29 + v30))) 1)), rfl, h⟩)
    · obtain rfl := some_inj h
      exact runK_end cfg_ok (k := 1) (rs := [([], [], [])]) (ps := [some false]) (tds := []) (m := [0]) (keep := [0, 2, 4, 8, 9]) (ex := (.exit 0)) (st' := (f63_53n1E a1 a2 (.exit0 v29)).2) (by kernel_rfl) (ap h32 an) (fun h => nomatch h) (LoopQ.out rfl rfl)
inductive f63_53n0O where
  | ret (v57 : Int) (v58 : Bool)
def f63_53n0E (a1 : List VariationPosition) (a2 : VariationPosition) : f63_53n0O → Ex × Tr × Hp
  | .ret v57 v58 => (.ret, mkS [(6, (.pl (.int .i64 v57))), (7, (.pl (.bool v58)))], [])
def f63_53n0S (a1 : List VariationPosition) (a2 : VariationPosition) : Tr × Hp := (initS [(.pl (.sl .any 4 (a1.map VariationPosition.cells))), (.pl (.agg (VariationPosition.cells a2))), (.pl (.fn 53))] 0 .leaf, [])
noncomputable def f63_53n0 (a1 : List VariationPosition) (a2 : VariationPosition) : Option f63_53n0O :=
  (f63_53n1 FUEL a1 a2 0 (a1.length : Int)).bind fun o44 => match o44 with
  | .exit0 v46 => bif (decide (v46 < (a1.length : Int))) then
      (at? a1 v46).bind fun x53 =>
      (f53 x53 a2).bind fun x55 =>
      some (.ret v46 (decide (x55 = 0)))
    else
      some (.ret v46 false)
theorem f63_53n0_ok (a1 : List VariationPosition) (a2 : VariationPosition) {o : f63_53n0O} (h : (f63_53n0 a1 a2) = some o) : T Try.prog Try.f63.ntmps 0 c63 (f63_53n0S a1 a2) (fun r => r = f63_53n0E a1 a2 o) := by
  unfold f63_53n0 at h
  refine runK_norm cfg_ok (k := 3) (rs := [([], [], []), ([], [], [(1, .val (.pl (.int .i64 (a1.length : Int))))]), ([], [], [])]) (ps := []) (tds := []) (m := [0]) (keep := [0, 2, 4, 8, 9, 10]) (st' := (f63_53n1S a1 a2 0 (a1.length : Int))) (by kernel_rfl) (ap (len_cv (xs := a1) (c := VariationPosition.cells)) an) ?_
  obtain ⟨o44, h45, h⟩ := bind_cases h
  cases o44 with
  | exit0 v46 =>
    refine T.oneN (by kernel_rfl) (T.bl (i := 0) (by kernel_rfl) (by kernel_rfl) (f63_53n1_ok FUEL a1 a2 0 (a1.length : Int) h45)) (st2 := (f63_53n1E a1 a2 (.exit0 v46)).2) rfl ?_
    rcases cond_cases h with ⟨h52, h⟩ | ⟨h52, h⟩
    · obtain ⟨x53, h54, h⟩ := bind_cases h
      obtain ⟨x55, h56, h⟩ := bind_cases h
      obtain rfl := some_inj h
      exact run_end cfg_ok (rs := [([(5, true), (6, true), (7, true), (8, true), (9, true), (10, true), (11, true), (12, true)], [(8, .idx (Int.toNat v46) (VariationPosition.cells x53)), (11, .call (.pl (.int .i64 x55)) []), (13, .bool true)], [])]) (ps := []) (tds := []) (m := []) (keep := [6, 7]) (r := (.ret, (f63_53n0E a1 a2 (.ret v46 (decide (x55 = 0)))).2)) (by kernel_rfl) (ap h52 (ap h52 (ap h52 (ap h52 (ap (at_some h54).1 (ap (at_map VariationPosition.cells (at_some h54).2) (ap h52 (ap h52 (ap h52 (ap h52 (ap h52 (ap (f53_ok x53 a2 h56) an)))))))))))) rfl
    · obtain rfl := some_inj h
      exact run_end cfg_ok (rs := [([(5, false), (6, false), (7, false), (8, false), (9, false), (10, false), (11, false), (12, false)], [(13, .bool false)], [])]) (ps := []) (tds := []) (m := []) (keep := [6, 7]) (r := (.ret, (f63_53n0E a1 a2 (.ret v46 false)).2)) (by kernel_rfl) (ap h52 (ap h52 (ap h52 (ap h52 (ap h52 (ap h52 (ap h52 (ap h52 (ap h52 an))))))))) rfl
noncomputable def f63_53 (a1 : List VariationPosition) (a2 : VariationPosition) : Option (Int × Bool) := (f63_53n0 a1 a2).bind fun o => match o with
  | .ret v57 v58 => some (v57, v58)
theorem f63_53_ok (a1 : List VariationPosition) (a2 : VariationPosition) {r : Int × Bool} (h : (f63_53 a1 a2) = some r) : CallS Try.prog false 63 [(.pl (.sl .any 4 (a1.map VariationPosition.cells))), (.pl (.agg (VariationPosition.cells a2))), (.pl (.fn 53))] [] (.tup [(.pl (.int .i64 r.1)), (.pl (.bool r.2))]) [] := by
  unfold f63_53 at h
  obtain ⟨o, ho, h⟩ := bind_cases h
  cases o with
  | ret v57 v58 =>
    obtain rfl := some_inj h
    exact CallS.plain cfg_ok (f := Try.f63) (c := c63) (by kernel_rfl) (by kernel_rfl) (by kernel_rfl) (by kernel_rfl) ((f63_53n0_ok a1 a2 ho).mono fun r e => by subst e; exact ⟨.inl rfl, (.tup [(.pl (.int .i64 v57)), (.pl (.bool v58))]), (.tup [(.pl (.int .i64 v57)), (.pl (.bool v58))]), by kernel_rfl, by kernel_rfl, ((Wk.refl _) : Wk (.tup [(.pl (.int .i64 v57)), (.pl (.bool v58))]) (.tup [(.pl (.int .i64 v57)), (.pl (.bool v58))]))⟩)
/-! ### slices.Insert[[]novation/api.VariationPosition,novation/api.VariationPosition] -/
def in64 (xs : List VariationPosition) (i : Int) (vs : List VariationPosition) : Option (List VariationPosition) := match vs with
  | [e] => bif decide (0 ≤ i) && (decide (i ≤ (xs.length : Int)) && fitsB (xs.length + 1) te52) then some (xs.take i.toNat ++ e :: xs.drop i.toNat) else none
  | _ => none
theorem in64_ok (xs : List VariationPosition) (i : Int) (vs : List VariationPosition) {r : List VariationPosition} (h : in64 xs i vs = some r) :
    CallS Try.prog true 64 [.own 0, .pl (.int .i64 i), .own 1] [some (.row false 4 (xs.map VariationPosition.cells)), some (.row false 4 (vs.map VariationPosition.cells))] (.own 2) [none, some (.row false 4 (vs.map VariationPosition.cells)), some (.row false 4 (r.map VariationPosition.cells))] := by
  match vs, h with
  | [e], h =>
    simp only [in64] at h
    cases hc : (decide (0 ≤ i) && (decide (i ≤ (xs.length : Int)) && fitsB (xs.length + 1) te52)) with
    | false => rw [hc] at h; cases h
    | true =>
      rw [hc] at h
      simp only [cond_true, Option.some.injEq] at h
      simp only [Bool.and_eq_true, decide_eq_true_eq] at hc
      obtain ⟨h1, h2, h3⟩ := hc
      subst h
      have := ins_callS (xs.map VariationPosition.cells) (VariationPosition.cells e) i.toNat (by rw [List.length_map]; omega) (by rw [List.length_map]; exact h3)
      rw [show ((i.toNat : Nat) : Int) = i by omega] at this
      simp only [List.map_append, List.map_cons, List.map_take, List.map_drop, List.map_nil]
      exact this

/-! ### slices.Delete[[]novation/api.VariationPosition,novation/api.VariationPosition] -/
def de65 (xs : List VariationPosition) (i j : Int) : Option (List VariationPosition) := bif decide (0 ≤ i) && (decide (i < (xs.length : Int)) && decide (j = i + 1)) then some (xs.take i.toNat ++ xs.drop (i.toNat + 1)) else none
theorem de65_ok (xs : List VariationPosition) (i j : Int) {r : List VariationPosition} (h : de65 xs i j = some r) :
    CallS Try.prog true 65 [.own 0, .pl (.int .i64 i), .pl (.int .i64 j)] [some (.row false 4 (xs.map VariationPosition.cells))] (.own 1) [none, some (.row false 4 (r.map VariationPosition.cells))] := by
  unfold de65 at h
  cases hc : (decide (0 ≤ i) && (decide (i < (xs.length : Int)) && decide (j = i + 1))) with
  | false => rw [hc] at h; cases h
  | true =>
    rw [hc] at h
    simp only [cond_true, Option.some.injEq] at h
    simp only [Bool.and_eq_true, decide_eq_true_eq] at hc
    obtain ⟨h1, h2, h3⟩ := hc
    subst h
    have := del_callS (xs.map VariationPosition.cells) i.toNat (by rw [List.length_map]; omega)
    rw [show ((i.toNat : Nat) : Int) = i by omega, show ((i.toNat + 1 : Nat) : Int) = j by omega] at this
    simp only [List.map_append, List.map_take, List.map_drop]
    exact this

/-! ### novation/variation.put -/
noncomputable def c46 : Code := Try.f46.body.getD .skip
inductive f46r1n1O where
  | norm (v19 : List VariationPosition)
def f46r1n1E (be1 : Int) (be2 : Int) (bf3 : Int × Bool) (bg4 : List VariationPosition) (bb5 : ByteArray) (bb6 : ByteArray) : f46r1n1O → Ex × Tr × Hp
  | .norm v19 => (.norm, mkS [(0, (.own 1)), (3, (.pl (.int .i64 be1))), (4, (.pl (.int .i64 be2))), (11, (.bp 2 0)), (12, (.bp 3 0)), (13, (.pl (.int .i64 bf3.1)))], [none, some (.row false 4 (v19.map VariationPosition.cells)), some (.box ((VariationPosition.cells (VariationPosition.mk str_x str_x 0 0)).map .pl)), some (.box ((VariationPosition.cells (VariationPosition.mk bb5 bb6 0 0)).map .pl))])
def f46r1n1S (be1 : Int) (be2 : Int) (bf3 : Int × Bool) (bg4 : List VariationPosition) (bb5 : ByteArray) (bb6 : ByteArray) : Tr × Hp := (mkS [(0, (.own 0)), (3, (.pl (.int .i64 be1))), (4, (.pl (.int .i64 be2))), (11, (.bp 1 0)), (12, (.bp 2 0)), (13, (.pl (.int .i64 bf3.1))), (14, (.pl (.bool bf3.2)))], [some (.row false 4 (bg4.map VariationPosition.cells)), some (.box ((VariationPosition.cells (VariationPosition.mk str_x str_x 0 0)).map .pl)), some (.box ((VariationPosition.cells (VariationPosition.mk bb5 bb6 0 0)).map .pl))])
noncomputable def f46r1n1 (be1 : Int) (be2 : Int) (bf3 : Int × Bool) (bg4 : List VariationPosition) (bb5 : ByteArray) (bb6 : ByteArray) : Option f46r1n1O :=
  bif bf3.2 then
    some (.norm bg4)
  else
    (in64 bg4 bf3.1 [(VariationPosition.mk bb5 bb6 0 0)]).bind fun x17 =>
    some (.norm x17)
theorem f46r1n1_ok (be1 : Int) (be2 : Int) (bf3 : Int × Bool) (bg4 : List VariationPosition) (bb5 : ByteArray) (bb6 : ByteArray) {o : f46r1n1O} (h : (f46r1n1 be1 be2 bf3 bg4 bb5 bb6) = some o) : T Try.prog Try.f46.ntmps 1 (cL (dropC 3 c46)) (f46r1n1S be1 be2 bf3 bg4 bb5 bb6) (fun r => r = f46r1n1E be1 be2 bf3 bg4 bb5 bb6 o) := by
  unfold f46r1n1 at h
  rcases cond_cases h with ⟨h16, h⟩ | ⟨h16, h⟩
  · obtain rfl := some_inj h
    exact run_end cfg_ok (rs := [([], [], [])]) (ps := [some false]) (tds := [.mov 0]) (m := [3, 1, 2]) (keep := [0, 3, 4, 11, 12, 13]) (r := (.norm, (f46r1n1E be1 be2 bf3 bg4 bb5 bb6 (.norm bg4)).2)) (by kernel_rfl) (ap (not_t h16) an) rfl
  · obtain ⟨x17, h18, h⟩ := bind_cases h
    obtain rfl := some_inj h
    exact run_end cfg_ok (rs := [([], [], []), ([], [(4, .call (.own 4) [none, none, none, some (.row false 4 ([(VariationPosition.mk bb5 bb6 0 0)].map VariationPosition.cells)), some (.row false 4 (x17.map VariationPosition.cells))])], [])]) (ps := [some true]) (tds := []) (m := [4, 1, 2]) (keep := [0, 3, 4, 11, 12, 13]) (r := (.norm, (f46r1n1E be1 be2 bf3 bg4 bb5 bb6 (.norm x17)).2)) (by kernel_rfl) (ap (not_f h16) (ap (CallS.ren (args' := [(.own 0), (.pl (.int .i64 bf3.1)), (.own 3)]) (v' := (.own 4)) (B := [some (.row false 4 (bg4.map VariationPosition.cells)), none, none, some (.row false 4 ([(VariationPosition.mk bb5 bb6 0 0)].map VariationPosition.cells))]) (B' := [none, none, none, some (.row false 4 ([(VariationPosition.mk bb5 bb6 0 0)].map VariationPosition.cells)), some (.row false 4 (x17.map VariationPosition.cells))]) 4 [0, 3] (in64_ok bg4 bf3.1 [(VariationPosition.mk bb5 bb6 0 0)] h18) (by kernel_rfl) (by kernel_rfl) (by kernel_rfl) (by kernel_rfl) (by kernel_rfl) (by kernel_rfl)) an)) rfl
inductive f46r1n0O where
  | ret (v33 : List VariationPosition) (v34 : VariationPosition)
def f46r1n0E (a1 : ByteArray) (a2 : ByteArray) (a3 : Int) (a4 : Int) (a5 : List VariationPosition) : f46r1n0O → Ex × Tr × Hp
  | .ret v33 v34 => (.ret, mkS [(10, (.own 1)), (11, (.bp 2 0))], [none, some (.row false 4 (v33.map VariationPosition.cells)), some (.box ((VariationPosition.cells v34).map .pl))])
def f46r1n0S (a1 : ByteArray) (a2 : ByteArray) (a3 : Int) (a4 : Int) (a5 : List VariationPosition) : Tr × Hp := (initS [(.own 0), (.pl (.str a1)), (.pl (.str a2)), (.pl (.int .i64 a3)), (.pl (.int .i64 a4))] 0 .leaf, [some (.row false 4 (a5.map VariationPosition.cells))])
noncomputable def f46r1n0 (a1 : ByteArray) (a2 : ByteArray) (a3 : Int) (a4 : Int) (a5 : List VariationPosition) : Option f46r1n0O :=
  (f63_53 a5 (VariationPosition.mk a1 a2 0 0)).bind fun x8 =>
  (f46r1n1 a3 a4 x8 a5 a1 a2).bind fun o20 => match o20 with
  | .norm v22 => (at? v22 x8.1).bind fun x25 =>
    bif (VariationPosition.eqb (VariationPosition.mk x25.Member x25.Product (wr64 (x25.Quantity + a3)) (wr64 (x25.Basis + a4))) (VariationPosition.mk a1 a2 0 0)) then
      (de65 ((v22.set (Int.toNat x8.1) (VariationPosition.mk x25.Member x25.Product (wr64 (x25.Quantity + a3)) x25.Basis)).set (Int.toNat x8.1) (VariationPosition.mk x25.Member x25.Product (wr64 (x25.Quantity + a3)) (wr64 (x25.Basis + a4)))) x8.1 (wr64 (x8.1 + 1))).bind fun x31 =>
      some (.ret x31 (VariationPosition.mk x25.Member x25.Product (wr64 (x25.Quantity + a3)) (wr64 (x25.Basis + a4))))
    else
      some (.ret ((v22.set (Int.toNat x8.1) (VariationPosition.mk x25.Member x25.Product (wr64 (x25.Quantity + a3)) x25.Basis)).set (Int.toNat x8.1) (VariationPosition.mk x25.Member x25.Product (wr64 (x25.Quantity + a3)) (wr64 (x25.Basis + a4)))) (VariationPosition.mk x25.Member x25.Product (wr64 (x25.Quantity + a3)) (wr64 (x25.Basis + a4))))
theorem f46r1n0_ok (a1 : ByteArray) (a2 : ByteArray) (a3 : Int) (a4 : Int) (a5 : List VariationPosition) {o : f46r1n0O} (h : (f46r1n0 a1 a2 a3 a4 a5) = some o) : T Try.prog Try.f46.ntmps 1 c46 (f46r1n0S a1 a2 a3 a4 a5) (fun r => r = f46r1n0E a1 a2 a3 a4 a5 o) := by
  unfold f46r1n0 at h
  obtain ⟨x8, h9, h⟩ := bind_cases h
  refine runK_norm cfg_ok (k := 3) (rs := [([], [], []), ([], [], []), ([], [(2, .call (.tup [(.pl (.int .i64 x8.1)), (.pl (.bool x8.2))]) [])], [])]) (ps := []) (tds := []) (m := [1, 2]) (keep := [0, 3, 4, 11, 12, 13, 14]) (st' := (f46r1n1S a3 a4 x8 a5 a1 a2)) (by kernel_rfl) (ap (f63_53_ok a5 (VariationPosition.mk a1 a2 0 0) h9) an) ?_
  obtain ⟨o20, h21, h⟩ := bind_cases h
  cases o20 with
  | norm v22 =>
    refine T.oneN (by kernel_rfl) (f46r1n1_ok a3 a4 x8 a5 a1 a2 h21) (st2 := (f46r1n1E a3 a4 x8 a5 a1 a2 (.norm v22)).2) rfl ?_
    obtain ⟨x25, h26, h⟩ := bind_cases h
    rcases cond_cases h with ⟨h30, h⟩ | ⟨h30, h⟩
    · obtain ⟨x31, h32, h⟩ := bind_cases h
      obtain rfl := some_inj h
      exact run_end cfg_ok (rs := [([], [(2, .at_ (Int.toNat x8.1)), (4, .idx 0 (VariationPosition.cells x25)), (7, .at_ (Int.toNat x8.1)), (9, .idx 0 (VariationPosition.cells x25))], [(9, .row 1 ((v22.set (Int.toNat x8.1) (VariationPosition.mk x25.Member x25.Product (wr64 (x25.Quantity + a3)) x25.Basis)).map VariationPosition.cells))]), ([], [(2, .at_ (Int.toNat x8.1)), (4, .idx 0 (VariationPosition.cells (VariationPosition.mk x25.Member x25.Product (wr64 (x25.Quantity + a3)) x25.Basis))), (7, .at_ (Int.toNat x8.1)), (9, .idx 0 (VariationPosition.cells (VariationPosition.mk x25.Member x25.Product (wr64 (x25.Quantity + a3)) x25.Basis)))], [(9, .row 1 (((v22.set (Int.toNat x8.1) (VariationPosition.mk x25.Member x25.Product (wr64 (x25.Quantity + a3)) x25.Basis)).set (Int.toNat x8.1) (VariationPosition.mk x25.Member x25.Product (wr64 (x25.Quantity + a3)) (wr64 (x25.Basis + a4)))).map VariationPosition.cells))]), ([], [(2, .at_ (Int.toNat x8.1)), (3, .idx 0 (VariationPosition.cells (VariationPosition.mk x25.Member x25.Product (wr64 (x25.Quantity + a3)) (wr64 (x25.Basis + a4)))))], []), ([], [(2, .bool (VariationPosition.eqb (VariationPosition.mk x25.Member x25.Product (wr64 (x25.Quantity + a3)) (wr64 (x25.Basis + a4))) (VariationPosition.mk a1 a2 0 0)))], []), ([], [(4, .call (.own 5) [none, none, none, none, none, some (.row false 4 (x31.map VariationPosition.cells))])], []), ([], [], [])]) (ps := [some true]) (tds := []) (m := [5, 2]) (keep := [10, 11]) (r := (.ret, (f46r1n0E a1 a2 a3 a4 a5 (.ret x31 (VariationPosition.mk x25.Member x25.Product (wr64 (x25.Quantity + a3)) (wr64 (x25.Basis + a4))))).2)) (by kernel_rfl) (ap (at_some h26).1 (ap (lt_map VariationPosition.cells (at_some h26).2) (ap (at_map VariationPosition.cells (at_some h26).2) (ap (at_some h26).1 (ap (lt_map VariationPosition.cells (at_some h26).2) (ap (at_map VariationPosition.cells (at_some h26).2) (ap (set_cv (xs := v22) (c := VariationPosition.cells) (k := (Int.toNat x8.1)) (x := (VariationPosition.mk x25.Member x25.Product (wr64 (x25.Quantity + a3)) x25.Basis))) (ap (at_some h26).1 (ap (lt_map VariationPosition.cells (set_at (xs := v22) (k := (Int.toNat x8.1)) (VariationPosition.mk x25.Member x25.Product (wr64 (x25.Quantity + a3)) x25.Basis) (at_some h26).2)) (ap (at_map VariationPosition.cells (set_at (xs := v22) (k := (Int.toNat x8.1)) (VariationPosition.mk x25.Member x25.Product (wr64 (x25.Quantity + a3)) x25.Basis) (at_some h26).2)) (ap (at_some h26).1 (ap (lt_map VariationPosition.cells (set_at (xs := v22) (k := (Int.toNat x8.1)) (VariationPosition.mk x25.Member x25.Product (wr64 (x25.Quantity + a3)) x25.Basis) (at_some h26).2)) (ap (at_map VariationPosition.cells (set_at (xs := v22) (k := (Int.toNat x8.1)) (VariationPosition.mk x25.Member x25.Product (wr64 (x25.Quantity + a3)) x25.Basis) (at_some h26).2)) (ap (set_cv (xs := (v22.set (Int.toNat x8.1) (VariationPosition.mk x25.Member x25.Product (wr64 (x25.Quantity + a3)) x25.Basis))) (c := VariationPosition.cells) (k := (Int.toNat x8.1)) (x := (VariationPosition.mk x25.Member x25.Product (wr64 (x25.Quantity + a3)) (wr64 (x25.Basis + a4))))) (ap (at_some h26).1 (ap (lt_map VariationPosition.cells (set_at (xs := (v22.set (Int.toNat x8.1) (VariationPosition.mk x25.Member x25.Product (wr64 (x25.Quantity + a3)) x25.Basis))) (k := (Int.toNat x8.1)) (VariationPosition.mk x25.Member x25.Product (wr64 (x25.Quantity + a3)) (wr64 (x25.Basis + a4))) (set_at (xs := v22) (k := (Int.toNat x8.1)) (VariationPosition.mk x25.Member x25.Product (wr64 (x25.Quantity + a3)) x25.Basis) (at_some h26).2))) (ap (at_map VariationPosition.cells (set_at (xs := (v22.set (Int.toNat x8.1) (VariationPosition.mk x25.Member x25.Product (wr64 (x25.Quantity + a3)) x25.Basis))) (k := (Int.toNat x8.1)) (VariationPosition.mk x25.Member x25.Product (wr64 (x25.Quantity + a3)) (wr64 (x25.Basis + a4))) (set_at (xs := v22) (k := (Int.toNat x8.1)) (VariationPosition.mk x25.Member x25.Product (wr64 (x25.Quantity + a3)) x25.Basis) (at_some h26).2))) (ap (VariationPosition.eqb_ok (VariationPosition.mk x25.Member x25.Product (wr64 (x25.Quantity + a3)) (wr64 (x25.Basis + a4))) (VariationPosition.mk a1 a2 0 0)) (ap h30 (ap (CallS.ren (args' := [(.own 1), (.pl (.int .i64 x8.1)), (.pl (.int .i64 (wr64 (x8.1 + 1))))]) (v' := (.own 5)) (B := [none, some (.row false 4 (((v22.set (Int.toNat x8.1) (VariationPosition.mk x25.Member x25.Product (wr64 (x25.Quantity + a3)) x25.Basis)).set (Int.toNat x8.1) (VariationPosition.mk x25.Member x25.Product (wr64 (x25.Quantity + a3)) (wr64 (x25.Basis + a4)))).map VariationPosition.cells)), none, none, none]) (B' := [none, none, none, none, none, some (.row false 4 (x31.map VariationPosition.cells))]) 5 [1] (de65_ok ((v22.set (Int.toNat x8.1) (VariationPosition.mk x25.Member x25.Product (wr64 (x25.Quantity + a3)) x25.Basis)).set (Int.toNat x8.1) (VariationPosition.mk x25.Member x25.Product (wr64 (x25.Quantity + a3)) (wr64 (x25.Basis + a4)))) x8.1 (wr64 (x8.1 + 1)) h32) (by kernel_rfl) (by kernel_rfl) (by kernel_rfl) (by kernel_rfl) (by kernel_rfl) (by kernel_rfl)) an)))))))))))))))))))) rfl
    · obtain rfl := some_inj h
      exact run_end cfg_ok (rs := [([], [(2, .at_ (Int.toNat x8.1)), (4, .idx 0 (VariationPosition.cells x25)), (7, .at_ (Int.toNat x8.1)), (9, .idx 0 (VariationPosition.cells x25))], [(9, .row 1 ((v22.set (Int.toNat x8.1) (VariationPosition.mk x25.Member x25.Product (wr64 (x25.Quantity + a3)) x25.Basis)).map VariationPosition.cells))]), ([], [(2, .at_ (Int.toNat x8.1)), (4, .idx 0 (VariationPosition.cells (VariationPosition.mk x25.Member x25.Product (wr64 (x25.Quantity + a3)) x25.Basis))), (7, .at_ (Int.toNat x8.1)), (9, .idx 0 (VariationPosition.cells (VariationPosition.mk x25.Member x25.Product (wr64 (x25.Quantity + a3)) x25.Basis)))], [(9, .row 1 (((v22.set (Int.toNat x8.1) (VariationPosition.mk x25.Member x25.Product (wr64 (x25.Quantity + a3)) x25.Basis)).set (Int.toNat x8.1) (VariationPosition.mk x25.Member x25.Product (wr64 (x25.Quantity + a3)) (wr64 (x25.Basis + a4)))).map VariationPosition.cells))]), ([], [(2, .at_ (Int.toNat x8.1)), (3, .idx 0 (VariationPosition.cells (VariationPosition.mk x25.Member x25.Product (wr64 (x25.Quantity + a3)) (wr64 (x25.Basis + a4)))))], []), ([], [(2, .bool (VariationPosition.eqb (VariationPosition.mk x25.Member x25.Product (wr64 (x25.Quantity + a3)) (wr64 (x25.Basis + a4))) (VariationPosition.mk a1 a2 0 0)))], []), ([], [], [])]) (ps := [some false]) (tds := []) (m := [1, 2]) (keep := [10, 11]) (r := (.ret, (f46r1n0E a1 a2 a3 a4 a5 (.ret ((v22.set (Int.toNat x8.1) (VariationPosition.mk x25.Member x25.Product (wr64 (x25.Quantity + a3)) x25.Basis)).set (Int.toNat x8.1) (VariationPosition.mk x25.Member x25.Product (wr64 (x25.Quantity + a3)) (wr64 (x25.Basis + a4)))) (VariationPosition.mk x25.Member x25.Product (wr64 (x25.Quantity + a3)) (wr64 (x25.Basis + a4))))).2)) (by kernel_rfl) (ap (at_some h26).1 (ap (lt_map VariationPosition.cells (at_some h26).2) (ap (at_map VariationPosition.cells (at_some h26).2) (ap (at_some h26).1 (ap (lt_map VariationPosition.cells (at_some h26).2) (ap (at_map VariationPosition.cells (at_some h26).2) (ap (set_cv (xs := v22) (c := VariationPosition.cells) (k := (Int.toNat x8.1)) (x := (VariationPosition.mk x25.Member x25.Product (wr64 (x25.Quantity + a3)) x25.Basis))) (ap (at_some h26).1 (ap (lt_map VariationPosition.cells (set_at (xs := v22) (k := (Int.toNat x8.1)) (VariationPosition.mk x25.Member x25.Product (wr64 (x25.Quantity + a3)) x25.Basis) (at_some h26).2)) (ap (at_map VariationPosition.cells (set_at (xs := v22) (k := (Int.toNat x8.1)) (VariationPosition.mk x25.Member x25.Product (wr64 (x25.Quantity + a3)) x25.Basis) (at_some h26).2)) (ap (at_some h26).1 (ap (lt_map VariationPosition.cells (set_at (xs := v22) (k := (Int.toNat x8.1)) (VariationPosition.mk x25.Member x25.Product (wr64 (x25.Quantity + a3)) x25.Basis) (at_some h26).2)) (ap (at_map VariationPosition.cells (set_at (xs := v22) (k := (Int.toNat x8.1)) (VariationPosition.mk x25.Member x25.Product (wr64 (x25.Quantity + a3)) x25.Basis) (at_some h26).2)) (ap (set_cv (xs := (v22.set (Int.toNat x8.1) (VariationPosition.mk x25.Member x25.Product (wr64 (x25.Quantity + a3)) x25.Basis))) (c := VariationPosition.cells) (k := (Int.toNat x8.1)) (x := (VariationPosition.mk x25.Member x25.Product (wr64 (x25.Quantity + a3)) (wr64 (x25.Basis + a4))))) (ap (at_some h26).1 (ap (lt_map VariationPosition.cells (set_at (xs := (v22.set (Int.toNat x8.1) (VariationPosition.mk x25.Member x25.Product (wr64 (x25.Quantity + a3)) x25.Basis))) (k := (Int.toNat x8.1)) (VariationPosition.mk x25.Member x25.Product (wr64 (x25.Quantity + a3)) (wr64 (x25.Basis + a4))) (set_at (xs := v22) (k := (Int.toNat x8.1)) (VariationPosition.mk x25.Member x25.Product (wr64 (x25.Quantity + a3)) x25.Basis) (at_some h26).2))) (ap (at_map VariationPosition.cells (set_at (xs := (v22.set (Int.toNat x8.1) (VariationPosition.mk x25.Member x25.Product (wr64 (x25.Quantity + a3)) x25.Basis))) (k := (Int.toNat x8.1)) (VariationPosition.mk x25.Member x25.Product (wr64 (x25.Quantity + a3)) (wr64 (x25.Basis + a4))) (set_at (xs := v22) (k := (Int.toNat x8.1)) (VariationPosition.mk x25.Member x25.Product (wr64 (x25.Quantity + a3)) x25.Basis) (at_some h26).2))) (ap (VariationPosition.eqb_ok (VariationPosition.mk x25.Member x25.Product (wr64 (x25.Quantity + a3)) (wr64 (x25.Basis + a4))) (VariationPosition.mk a1 a2 0 0)) (ap h30 an))))))))))))))))))) rfl
noncomputable def f46r1 (a1 : ByteArray) (a2 : ByteArray) (a3 : Int) (a4 : Int) (a5 : List VariationPosition) : Option ((List VariationPosition) × VariationPosition) := (f46r1n0 a1 a2 a3 a4 a5).bind fun o => match o with
  | .ret v33 v34 => some (v33, v34)
theorem f46r1_ok (a1 : ByteArray) (a2 : ByteArray) (a3 : Int) (a4 : Int) (a5 : List VariationPosition) {r : (List VariationPosition) × VariationPosition} (h : (f46r1 a1 a2 a3 a4 a5) = some r) : CallS Try.prog true 46 [(.own 0), (.pl (.str a1)), (.pl (.str a2)), (.pl (.int .i64 a3)), (.pl (.int .i64 a4))] [some (.row false 4 (a5.map VariationPosition.cells))] (.tup [(.own 1), (.pl (.agg (VariationPosition.cells r.2)))]) [none, some (.row false 4 (r.1.map VariationPosition.cells)), some (.box ((VariationPosition.cells r.2).map .pl))] := by
  unfold f46r1 at h
  obtain ⟨o, ho, h⟩ := bind_cases h
  cases o with
  | ret v33 v34 =>
    obtain rfl := some_inj h
    exact CallS.shared cfg_ok (f := Try.f46) (c := c46) (by kernel_rfl) (by kernel_rfl) (by kernel_rfl) ((f46r1n0_ok a1 a2 a3 a4 a5 ho).mono fun r e => by subst e; exact ⟨.inl rfl, by kernel_rfl, by kernel_rfl⟩)
end Go.Proofs.Ytelblamgfbkhbaa
