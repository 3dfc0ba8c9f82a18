/- Functions of the program, plainly, and that the machine computes them. No condition. -/
import Derived.Test.YtbgjlpdeoljmiaaMt
namespace Go.Proofs.Ytbgjlpdeoljmiaa
set_option linter.unusedVariables false
set_option linter.unusedSimpArgs false
set_option maxRecDepth 100000
open Go.RowKit
noncomputable def c36 : Code := Try.f36.body.getD .skip
inductive f36n0O where
  | ret
def f36n0E : f36n0O → Ex × Tr × Hp
  | .ret => (.ret, mkS [(0, (.bp 0 0))], [some (.box [(.pl (.sl .nil 0 []))])])
def f36n0S : Tr × Hp := (initS [] 0 .leaf, [])
noncomputable def f36n0 : Option f36n0O :=
  some .ret
theorem f36n0_ok {o : f36n0O} (h : f36n0 = some o) : T Try.prog Try.f36.ntmps 0 c36 f36n0S (fun r => r = f36n0E o) := by
  unfold f36n0 at h
  obtain rfl := some_inj h
  exact run_end cfg_ok (rs := [([], [], []), ([], [], [])]) (ps := []) (tds := []) (m := [0]) (keep := [0]) (r := (.ret, (f36n0E .ret).2)) (by kernel_rfl) an rfl
noncomputable def f36 : Option Journal := f36n0.bind fun o => match o with
  | .ret => some (Journal.mk [])
theorem f36_ok {r : Journal} (h : f36 = some r) : CallS Try.prog false 36 [] [] (.pl (.agg (Journal.cells r))) [] := by
  unfold f36 at h
  obtain ⟨o, ho, h⟩ := bind_cases h
  cases o with
  | ret =>
    obtain rfl := some_inj h
    exact CallS.plain cfg_ok (f := Try.f36) (c := c36) (by kernel_rfl) (by kernel_rfl) (by kernel_rfl) (by kernel_rfl) ((f36n0_ok  ho).mono fun r e => by subst e; exact ⟨.inl rfl, (.pl (.agg [(.sl .nil 0 [])])), (.pl (.agg [(.sl .nil 0 [])])), by kernel_rfl, by kernel_rfl, ((Wk.pl (WkP.agg (wpc (WkP.nil (f := .nil) (sz := 0) (sz' := 3)) wpn))) : Wk (.pl (.agg [(.sl .nil 0 [])])) (.pl (.agg (Journal.cells (Journal.mk [])))))⟩)

noncomputable def c37 : Code := Try.f37.body.getD .skip
inductive f37r1n0O where
  | ret
def f37r1n0E (a1 : Int) : f37r1n0O → Ex × Tr × Hp
  | .ret => (.ret, mkS [(2, (.own 0))], [some (.row false 3 ([(JournalLine.mk str_a str_EUR a1), (JournalLine.mk str_b str_EUR (wr64 (0 - a1)))].map JournalLine.cells))])
def f37r1n0S (a1 : Int) : Tr × Hp := (initS [(.pl (.int .i64 a1))] 0 .leaf, [])
noncomputable def f37r1n0 (a1 : Int) : Option f37r1n0O :=
  some .ret
theorem f37r1n0_ok (a1 : Int) {o : f37r1n0O} (h : (f37r1n0 a1) = some o) : T Try.prog Try.f37.ntmps 0 c37 (f37r1n0S a1) (fun r => r = f37r1n0E a1 o) := by
  unfold f37r1n0 at h
  obtain rfl := some_inj h
  exact run_end cfg_ok (rs := [([], [], []), ([], [], [])]) (ps := []) (tds := []) (m := [0]) (keep := [2]) (r := (.ret, (f37r1n0E a1 .ret).2)) (by kernel_rfl) an rfl
noncomputable def f37r1 (a1 : Int) : Option Unit := (f37r1n0 a1).bind fun o => match o with
  | .ret => some ()
theorem f37r1_ok (a1 : Int) {r : Unit} (h : (f37r1 a1) = some r) : CallS Try.prog true 37 [(.pl (.int .i64 a1))] [] (.own 0) [some (.row false 3 ([(JournalLine.mk str_a str_EUR a1), (JournalLine.mk str_b str_EUR (wr64 (0 - a1)))].map JournalLine.cells))] := by
  unfold f37r1 at h
  obtain ⟨o, ho, h⟩ := bind_cases h
  cases o with
  | ret =>
    obtain rfl := some_inj h
    exact CallS.shared cfg_ok (f := Try.f37) (c := c37) (by kernel_rfl) (by kernel_rfl) (by kernel_rfl) ((f37r1n0_ok a1 ho).mono fun r e => by subst e; exact ⟨.inl rfl, by kernel_rfl, by kernel_rfl⟩)

noncomputable def c48 : Code := Try.f48.body.getD .skip
inductive f48r1n0O where
  | ret (v5 : List JournalLine)
def f48r1n0E (a1 : List JournalLine) : f48r1n0O → Ex × Tr × Hp
  | .ret v5 => (.ret, mkS [(2, (.own 0))], [some (.row false 3 (v5.map JournalLine.cells))])
def f48r1n0S (a1 : List JournalLine) : Tr × Hp := (initS [(.pl (.sl .any 3 (a1.map JournalLine.cells)))] 0 .leaf, [])
noncomputable def f48r1n0 (a1 : List JournalLine) : Option f48r1n0O :=
  bif (a1.isEmpty) then
    some (.ret [])
  else
    req (fit a1.length 40) <|
    some (.ret a1)
theorem f48r1n0_ok (a1 : List JournalLine) {o : f48r1n0O} (h : (f48r1n0 a1) = some o) : T Try.prog Try.f48.ntmps 0 c48 (f48r1n0S a1) (fun r => r = f48r1n0E a1 o) := by
  unfold f48r1n0 at h
  refine runK_norm cfg_ok (k := 1) (rs := [([], [], [])]) (ps := []) (tds := []) (m := []) (keep := [0]) (st' := (mkS [(0, (.pl (.sl .any 3 (a1.map JournalLine.cells))))], [])) (by kernel_rfl) an ?_
  refine T.nest (by kernel_rfl) ?_
  rcases cond_cases h with ⟨h2, h⟩ | ⟨h2, h⟩
  · refine runK_norm cfg_ok (k := 0) (rs := []) (ps := []) (tds := []) (m := []) (keep := [0]) (st' := (mkS [(0, (.pl (.sl .any 3 (a1.map JournalLine.cells))))], [])) (by kernel_rfl) an ?_
    refine T.oneNil cfg_ok (x := .tmp 0) (t := 45) (t3 := 3) (t4 := 4) (sz := 3) (es := (a1.map JournalLine.cells)) (by kernel_rfl) (by kernel_rfl) (by kernel_rfl) (by kernel_rfl) (by kernel_rfl) (fun b hb => ?_)
    cases b
    · refine run_end cfg_ok (rs := []) (ps := [none]) (tds := []) (m := []) (keep := [0]) (r := (.norm, (mkS [(0, (.pl (.sl .any 3 (a1.map JournalLine.cells))))], []))) (by kernel_rfl) an (ThenQ.norm ?_)
      obtain rfl := some_inj h
      exact run_end cfg_ok (rs := [([], [(2, .app false)], [])]) (ps := []) (tds := []) (m := [0]) (keep := [2]) (r := (.ret, (f48r1n0E a1 (.ret [])).2)) (by kernel_rfl) (ap (nil_map (c := JournalLine.cells) h2) an) rfl
    · obtain rfl := some_inj h
      exact run_end cfg_ok (rs := [([], [], [])]) (ps := [none]) (tds := [.mat 2 3]) (m := [0]) (keep := [2]) (r := (.ret, (f48r1n0E a1 (.ret [])).2)) (by kernel_rfl) an (ThenQ.out rfl rfl)
  · refine runK_norm cfg_ok (k := 0) (rs := []) (ps := []) (tds := []) (m := []) (keep := [0]) (st' := (mkS [(0, (.pl (.sl .any 3 (a1.map JournalLine.cells))))], [])) (by kernel_rfl) an ?_
    refine T.oneNil cfg_ok (x := .tmp 0) (t := 45) (t3 := 3) (t4 := 4) (sz := 3) (es := (a1.map JournalLine.cells)) (by kernel_rfl) (by kernel_rfl) (by kernel_rfl) (by kernel_rfl) (by kernel_rfl) (fun b hb => ?_)
    cases b
    · refine run_end cfg_ok (rs := []) (ps := [none]) (tds := []) (m := []) (keep := [0]) (r := (.norm, (mkS [(0, (.pl (.sl .any 3 (a1.map JournalLine.cells))))], []))) (by kernel_rfl) an (ThenQ.norm ?_)
      obtain ⟨h4, h⟩ := req_cases h
      obtain rfl := some_inj h
      exact run_end cfg_ok (rs := [([], [(2, .app true)], [])]) (ps := []) (tds := []) (m := [1]) (keep := [2]) (r := (.ret, (f48r1n0E a1 (.ret a1)).2)) (by kernel_rfl) (ap (fit_map0z (te := ti49) (xs := a1) (c := JournalLine.cells) h4 rfl) (ap (ne_map (c := JournalLine.cells) h2) (ap (len_all (c := JournalLine.cells) (xs := a1) (n := 3) (fun _ => rfl)) an))) rfl
    · exact absurd (hb rfl) (ne_map (c := JournalLine.cells) h2)
noncomputable def f48r1 (a1 : List JournalLine) : Option (List JournalLine) := (f48r1n0 a1).bind fun o => match o with
  | .ret v5 => some v5
theorem f48r1_ok (a1 : List JournalLine) {r : List JournalLine} (h : (f48r1 a1) = some r) : CallS Try.prog true 48 [(.pl (.sl .any 3 (a1.map JournalLine.cells)))] [] (.own 0) [some (.row false 3 (r.map JournalLine.cells))] := by
  unfold f48r1 at h
  obtain ⟨o, ho, h⟩ := bind_cases h
  cases o with
  | ret v5 =>
    obtain rfl := some_inj h
    exact CallS.shared cfg_ok (f := Try.f48) (c := c48) (by kernel_rfl) (by kernel_rfl) (by kernel_rfl) ((f48r1n0_ok a1 ho).mono fun r e => by subst e; exact ⟨.inl rfl, by kernel_rfl, by kernel_rfl⟩)

noncomputable def c70 : Code := Try.f70.body.getD .skip
inductive f70n0O where
  | ret (v10 : Bool)
def f70n0E (a1 : Int) : f70n0O → Ex × Tr × Hp
  | .ret v10 => (.ret, mkS [(2, (.pl (.bool v10)))], [])
def f70n0S (a1 : Int) : Tr × Hp := (initS [(.pl (.int .u8 a1))] 0 .leaf, [])
noncomputable def f70n0 (a1 : Int) : Option f70n0O :=
  bif (decide (97 ≤ a1)) then
    bif (decide (a1 ≤ 122)) then
      some (.ret true)
    else
      bif (decide (65 ≤ a1)) then
        some (.ret (decide (a1 ≤ 90)))
      else
        some (.ret false)
  else
    bif (decide (65 ≤ a1)) then
      some (.ret (decide (a1 ≤ 90)))
    else
      some (.ret false)
theorem f70n0_ok (a1 : Int) {o : f70n0O} (h : (f70n0 a1) = some o) : T Try.prog Try.f70.ntmps 0 c70 (f70n0S a1) (fun r => r = f70n0E a1 o) := by
  unfold f70n0 at h
  rcases cond_cases h with ⟨h6, h⟩ | ⟨h6, h⟩
  · rcases cond_cases h with ⟨h7, h⟩ | ⟨h7, h⟩
    · obtain rfl := some_inj h
      exact run_end cfg_ok (rs := [([], [], []), ([(3, true), (4, true), (7, true), (8, true), (9, true), (12, true)], [(5, .bool true), (13, .bool true)], [])]) (ps := []) (tds := []) (m := []) (keep := [2]) (r := (.ret, (f70n0E a1 (.ret true)).2)) (by kernel_rfl) (ap h6 (ap h6 (ap h6 (ap h7 (ap h7 (ap h7 (ap h7 (ap h7 an)))))))) rfl
    · rcases cond_cases h with ⟨h8, h⟩ | ⟨h8, h⟩
      · obtain rfl := some_inj h
        exact run_end cfg_ok (rs := [([], [], []), ([(3, true), (4, true), (7, false), (8, false), (9, false), (10, true), (11, true), (12, false)], [(5, .bool true), (12, .bool true), (13, .bool false)], [])]) (ps := []) (tds := []) (m := []) (keep := [2]) (r := (.ret, (f70n0E a1 (.ret (decide (a1 ≤ 90)))).2)) (by kernel_rfl) (ap h6 (ap h6 (ap h6 (ap h7 (ap h7 (ap h7 (ap h8 (ap h8 (ap h7 (ap h8 (ap h7 an))))))))))) rfl
      · obtain rfl := some_inj h
        exact run_end cfg_ok (rs := [([], [], []), ([(3, true), (4, true), (7, false), (8, false), (9, false), (10, false), (11, false), (12, false)], [(5, .bool true), (12, .bool false), (13, .bool false)], [])]) (ps := []) (tds := []) (m := []) (keep := [2]) (r := (.ret, (f70n0E a1 (.ret false)).2)) (by kernel_rfl) (ap h6 (ap h6 (ap h6 (ap h7 (ap h7 (ap h7 (ap h8 (ap h8 (ap h7 (ap h8 (ap h7 an))))))))))) rfl
  · rcases cond_cases h with ⟨h9, h⟩ | ⟨h9, h⟩
    · obtain rfl := some_inj h
      exact run_end cfg_ok (rs := [([], [], []), ([(3, false), (4, false), (10, true), (11, true)], [(5, .bool false), (12, .bool true)], [])]) (ps := []) (tds := []) (m := []) (keep := [2]) (r := (.ret, (f70n0E a1 (.ret (decide (a1 ≤ 90)))).2)) (by kernel_rfl) (ap h6 (ap h6 (ap h6 (ap h9 (ap h9 (ap h9 an)))))) rfl
    · obtain rfl := some_inj h
      exact run_end cfg_ok (rs := [([], [], []), ([(3, false), (4, false), (10, false), (11, false)], [(5, .bool false), (12, .bool false)], [])]) (ps := []) (tds := []) (m := []) (keep := [2]) (r := (.ret, (f70n0E a1 (.ret false)).2)) (by kernel_rfl) (ap h6 (ap h6 (ap h6 (ap h9 (ap h9 (ap h9 an)))))) rfl
noncomputable def f70 (a1 : Int) : Option Bool := (f70n0 a1).bind fun o => match o with
  | .ret v10 => some v10
theorem f70_ok (a1 : Int) {r : Bool} (h : (f70 a1) = some r) : CallS Try.prog false 70 [(.pl (.int .u8 a1))] [] (.pl (.bool r)) [] := by
  unfold f70 at h
  obtain ⟨o, ho, h⟩ := bind_cases h
  cases o with
  | ret v10 =>
    obtain rfl := some_inj h
    exact CallS.plain cfg_ok (f := Try.f70) (c := c70) (by kernel_rfl) (by kernel_rfl) (by kernel_rfl) (by kernel_rfl) ((f70n0_ok a1 ho).mono fun r e => by subst e; exact ⟨.inl rfl, (.pl (.bool v10)), (.pl (.bool v10)), by kernel_rfl, by kernel_rfl, ((Wk.refl _) : Wk (.pl (.bool v10)) (.pl (.bool v10)))⟩)

noncomputable def c64 : Code := Try.f64.body.getD .skip
inductive f64n2O where
  | exit0
  | ret
def f64n2E (bd1 : ByteArray) : f64n2O → Ex × Tr × Hp
  | .exit0 => ((.exit 0), mkS [], [])
  | .ret => (.ret, mkS [(2, (.pl (.bool false)))], [])
def f64n2S (bd1 : ByteArray) (v65 : Int) : Tr × Hp := (mkS [(0, (.pl (.str bd1))), (20, (.pl (.int .i64 (bd1.size : Int)))), (21, (.pl (.int .i64 v65)))], [])
noncomputable def f64n2 : Nat → ByteArray → Int → Option f64n2O
  | 0, _, _ => none
  | f + 1, bd1, v65 =>
    bif (decide (v65 < (bd1.size : Int))) then
      (at? bd1.data.toList v65).bind fun x79 =>
      (f70 (x79.toNat : Int)).bind fun x81 =>
      bif x81 then
        (f64n2 f bd1 (wr64 (v65 + 1)))
      else
        bif (decide ((x79.toNat : Int) < 48)) then
          bif (decide ((x79.toNat : Int) = 95)) then
            (f64n2 f bd1 (wr64 (v65 + 1)))
          else
            bif (decide ((x79.toNat : Int) = 45)) then
              (f64n2 f bd1 (wr64 (v65 + 1)))
            else
              some .ret
        else
          bif (decide (57 < (x79.toNat : Int))) then
            bif (decide ((x79.toNat : Int) = 95)) then
              (f64n2 f bd1 (wr64 (v65 + 1)))
            else
              bif (decide ((x79.toNat : Int) = 45)) then
                (f64n2 f bd1 (wr64 (v65 + 1)))
              else
                some .ret
          else
            (f64n2 f bd1 (wr64 (v65 + 1)))
    else
      some .exit0
theorem f64n2_ok : ∀ (f : Nat) (bd1 : ByteArray) (v65 : Int) {o : f64n2O}, (f64n2 f bd1 v65) = some o → TL Try.prog Try.f64.ntmps 0 f (cL (cL (dropC 1 (cL (dropC 2 c64))))) (f64n2S bd1 v65) (fun r => r = f64n2E bd1 o)
  | 0, _, _, o, h => by rw [f64n2] at h; cases h
  | f + 1, bd1, v65, o, h => by
    rw [f64n2] at h
    refine TL.body (K := fun s => ∃ v65 : Int, s = (f64n2S bd1 v65) ∧ (f64n2 f bd1 v65) = some o) ?_ (by rintro _ ⟨v65, rfl, hk⟩; exact f64n2_ok f _ _ hk)
    rcases cond_cases h with ⟨h67, h⟩ | ⟨h67, h⟩
    · obtain ⟨x79, h80, h⟩ := bind_cases h
      obtain ⟨x81, h82, h⟩ := bind_cases h
      rcases cond_cases h with ⟨h83, h⟩ | ⟨h83, h⟩
      · exact run_end cfg_ok (rs := [([], [], []), ([], [], []), ([], [(2, .byte (Int.toNat v65) x79)], []), ([(4, false), (5, false), (6, false), (9, false)], [(1, .call (.pl (.bool x81)) []), (10, .bool false)], []), ([], [], [])]) (ps := [some true, none]) (tds := []) (m := []) (keep := [0, 20, 21]) (r := (.norm, (f64n2S bd1 (wr64 (v65 + 1))))) (by kernel_rfl) (ap h67 (ap (at_some h80).1 (ap (at_some h80).2 (ap (not_t h83) (ap (not_t h83) (ap (not_t h83) (ap (not_t h83) (ap (not_t h83) (ap (f70_ok (x79.toNat : Int) h82) an))))))))) (LoopQ.norm ⟨(wr64 (v65 + 1)), rfl, h⟩)
      · rcases cond_cases h with ⟨h84, h⟩ | ⟨h84, h⟩
        · rcases cond_cases h with ⟨h85, h⟩ | ⟨h85, h⟩
          · exact run_end cfg_ok (rs := [([], [], []), ([], [], []), ([], [(2, .byte (Int.toNat v65) x79)], []), ([(4, true), (5, true), (6, true), (7, true), (8, true), (9, true), (16, false), (17, false)], [(1, .call (.pl (.bool x81)) []), (9, .bool true), (10, .bool true), (18, .bool false)], []), ([], [], [])]) (ps := [some true, none]) (tds := []) (m := []) (keep := [0, 20, 21]) (r := (.norm, (f64n2S bd1 (wr64 (v65 + 1))))) (by kernel_rfl) (ap h67 (ap (at_some h80).1 (ap (at_some h80).2 (ap (not_f h83) (ap (not_f h83) (ap (not_f h83) (ap h84 (ap h84 (ap (not_f h83) (ap h84 (ap (not_f h83) (ap (not_t h85) (ap (not_t h85) (ap (not_t h85) (ap (f70_ok (x79.toNat : Int) h82) an))))))))))))))) (LoopQ.norm ⟨(wr64 (v65 + 1)), rfl, h⟩)
          · rcases cond_cases h with ⟨h86, h⟩ | ⟨h86, h⟩
            · exact run_end cfg_ok (rs := [([], [], []), ([], [], []), ([], [(2, .byte (Int.toNat v65) x79)], []), ([(4, true), (5, true), (6, true), (7, true), (8, true), (9, true), (16, true), (17, true)], [(1, .call (.pl (.bool x81)) []), (9, .bool true), (10, .bool true), (18, .bool true)], []), ([], [], [])]) (ps := [some true, some false]) (tds := []) (m := []) (keep := [0, 20, 21]) (r := (.norm, (f64n2S bd1 (wr64 (v65 + 1))))) (by kernel_rfl) (ap h67 (ap (at_some h80).1 (ap (at_some h80).2 (ap (not_f h83) (ap (not_f h83) (ap (not_f h83) (ap h84 (ap h84 (ap (not_f h83) (ap h84 (ap (not_f h83) (ap (not_f h85) (ap (not_f h85) (ap (not_f h85) (ap (f70_ok (x79.toNat : Int) h82) (ap (not_t h86) an)))))))))))))))) (LoopQ.norm ⟨(wr64 (v65 + 1)), rfl, h⟩)
            · obtain rfl := some_inj h
              exact runK_end cfg_ok (k := 3) (rs := [([], [], []), ([], [], []), ([], [(2, .byte (Int.toNat v65) x79)], []), ([(4, true), (5, true), (6, true), (7, true), (8, true), (9, true), (16, true), (17, true)], [(1, .call (.pl (.bool x81)) []), (9, .bool true), (10, .bool true), (18, .bool true)], []), ([], [], [])]) (ps := [some true, some true]) (tds := []) (m := []) (keep := [2]) (ex := .ret) (st' := (f64n2E bd1 .ret).2) (by kernel_rfl) (ap h67 (ap (at_some h80).1 (ap (at_some h80).2 (ap (not_f h83) (ap (not_f h83) (ap (not_f h83) (ap h84 (ap h84 (ap (not_f h83) (ap h84 (ap (not_f h83) (ap (not_f h85) (ap (not_f h85) (ap (not_f h85) (ap (f70_ok (x79.toNat : Int) h82) (ap (not_f h86) an)))))))))))))))) (fun h => nomatch h) (LoopQ.out rfl rfl)
        · rcases cond_cases h with ⟨h87, h⟩ | ⟨h87, h⟩
          · rcases cond_cases h with ⟨h88, h⟩ | ⟨h88, h⟩
            · exact run_end cfg_ok (rs := [([], [], []), ([], [], []), ([], [(2, .byte (Int.toNat v65) x79)], []), ([(4, true), (5, true), (6, true), (7, false), (8, false), (9, true), (12, true), (13, true), (16, false), (17, false)], [(1, .call (.pl (.bool x81)) []), (9, .bool false), (10, .bool true), (14, .bool true), (18, .bool false)], []), ([], [], [])]) (ps := [some true, none]) (tds := []) (m := []) (keep := [0, 20, 21]) (r := (.norm, (f64n2S bd1 (wr64 (v65 + 1))))) (by kernel_rfl) (ap h67 (ap (at_some h80).1 (ap (at_some h80).2 (ap (not_f h83) (ap (not_f h83) (ap (not_f h83) (ap h84 (ap h84 (ap (not_f h83) (ap h84 (ap (not_f h83) (ap h87 (ap h87 (ap h87 (ap (not_t h88) (ap (not_t h88) (ap (not_t h88) (ap (f70_ok (x79.toNat : Int) h82) an)))))))))))))))))) (LoopQ.norm ⟨(wr64 (v65 + 1)), rfl, h⟩)
            · rcases cond_cases h with ⟨h89, h⟩ | ⟨h89, h⟩
              · exact run_end cfg_ok (rs := [([], [], []), ([], [], []), ([], [(2, .byte (Int.toNat v65) x79)], []), ([(4, true), (5, true), (6, true), (7, false), (8, false), (9, true), (12, true), (13, true), (16, true), (17, true)], [(1, .call (.pl (.bool x81)) []), (9, .bool false), (10, .bool true), (14, .bool true), (18, .bool true)], []), ([], [], [])]) (ps := [some true, some false]) (tds := []) (m := []) (keep := [0, 20, 21]) (r := (.norm, (f64n2S bd1 (wr64 (v65 + 1))))) (by kernel_rfl) (ap h67 (ap (at_some h80).1 (ap (at_some h80).2 (ap (not_f h83) (ap (not_f h83) (ap (not_f h83) (ap h84 (ap h84 (ap (not_f h83) (ap h84 (ap (not_f h83) (ap h87 (ap h87 (ap h87 (ap (not_f h88) (ap (not_f h88) (ap (not_f h88) (ap (f70_ok (x79.toNat : Int) h82) (ap (not_t h89) an))))))))))))))))))) (LoopQ.norm ⟨(wr64 (v65 + 1)), rfl, h⟩)
              · obtain rfl := some_inj h
                exact runK_end cfg_ok (k := 3) (rs := [([], [], []), ([], [], []), ([], [(2, .byte (Int.toNat v65) x79)], []), ([(4, true), (5, true), (6, true), (7, false), (8, false), (9, true), (12, true), (13, true), (16, true), (17, true)], [(1, .call (.pl (.bool x81)) []), (9, .bool false), (10, .bool true), (14, .bool true), (18, .bool true)], []), ([], [], [])]) (ps := [some true, some true]) (tds := []) (m := []) (keep := [2]) (ex := .ret) (st' := (f64n2E bd1 .ret).2) (by kernel_rfl) (ap h67 (ap (at_some h80).1 (ap (at_some h80).2 (ap (not_f h83) (ap (not_f h83) (ap (not_f h83) (ap h84 (ap h84 (ap (not_f h83) (ap h84 (ap (not_f h83) (ap h87 (ap h87 (ap h87 (ap (not_f h88) (ap (not_f h88) (ap (not_f h88) (ap (f70_ok (x79.toNat : Int) h82) (ap (not_f h89) an))))))))))))))))))) (fun h => nomatch h) (LoopQ.out rfl rfl)
          · exact run_end cfg_ok (rs := [([], [], []), ([], [], []), ([], [(2, .byte (Int.toNat v65) x79)], []), ([(4, true), (5, true), (6, true), (7, false), (8, false), (9, true), (12, false), (13, false)], [(1, .call (.pl (.bool x81)) []), (9, .bool false), (10, .bool true), (14, .bool false)], []), ([], [], [])]) (ps := [some true, none]) (tds := []) (m := []) (keep := [0, 20, 21]) (r := (.norm, (f64n2S bd1 (wr64 (v65 + 1))))) (by kernel_rfl) (ap h67 (ap (at_some h80).1 (ap (at_some h80).2 (ap (not_f h83) (ap (not_f h83) (ap (not_f h83) (ap h84 (ap h84 (ap (not_f h83) (ap h84 (ap (not_f h83) (ap h87 (ap h87 (ap h87 (ap (f70_ok (x79.toNat : Int) h82) an))))))))))))))) (LoopQ.norm ⟨(wr64 (v65 + 1)), rfl, h⟩)
    · obtain rfl := some_inj h
      exact runK_end cfg_ok (k := 2) (rs := [([], [], [])]) (ps := [some false]) (tds := []) (m := []) (keep := []) (ex := (.exit 0)) (st' := (f64n2E bd1 .exit0).2) (by kernel_rfl) (ap h67 an) (fun h => nomatch h) (LoopQ.out rfl rfl)
noncomputable def f64n2L (bd1 : ByteArray) : List UInt8 → Int → Option f64n2O
  | [], v65 =>
    some .exit0
  | x0 :: rest, v65 =>
    (f70 (x0.toNat : Int)).bind fun x81 =>
    bif x81 then
      (f64n2L bd1 rest (v65 + 1))
    else
      bif (decide ((x0.toNat : Int) < 48)) then
        bif (decide ((x0.toNat : Int) = 95)) then
          (f64n2L bd1 rest (v65 + 1))
        else
          bif (decide ((x0.toNat : Int) = 45)) then
            (f64n2L bd1 rest (v65 + 1))
          else
            some .ret
      else
        bif (decide (57 < (x0.toNat : Int))) then
          bif (decide ((x0.toNat : Int) = 95)) then
            (f64n2L bd1 rest (v65 + 1))
          else
            bif (decide ((x0.toNat : Int) = 45)) then
              (f64n2L bd1 rest (v65 + 1))
            else
              some .ret
        else
          (f64n2L bd1 rest (v65 + 1))
theorem f64n2L_eq (bd1 : ByteArray) : ∀ (rest : List UInt8) (f k : Nat), bd1.data.toList.drop k = rest → bd1.data.toList.length ≤ maxLen → rest.length < f → f64n2 f bd1 (k : Int) = f64n2L bd1 rest (k : Int)
  | _, 0, _, _, _, hf => absurd hf (Nat.not_lt_zero _)
  | [], f + 1, k, hd, hm, hf => by
    have hk : ¬ ((k : Int) < (bd1.data.toList.length : Int)) := by have := drop_nil hd; omega
    rw [f64n2, f64n2L]
    simp only [size_list, decide_eq_false hk, cond_false]
  | x0 :: rest, f + 1, k, hd, hm, hf => by
    obtain ⟨hx, hlt, hd'⟩ := drop_cons hd
    have hk : (k : Int) < (bd1.data.toList.length : Int) := by omega
    have hw : wr64 ((k : Int) + 1) = (k : Int) + 1 := wr64_of (by omega) (by unfold maxLen at hm; omega)
    have ih : f64n2 f bd1 ((k : Int) + 1) = f64n2L bd1 rest ((k : Int) + 1) := f64n2L_eq bd1 rest f (k + 1) hd' hm (by simpa using hf)
    rw [f64n2, f64n2L]
    simp only [size_list, decide_eq_true hk, cond_true, at_nat, hx, Option.bind_some, hw, ih]
theorem f64n2_run (bd1 : ByteArray) (hm : bd1.data.toList.length ≤ maxLen) : f64n2 FUEL bd1 0 = f64n2L bd1 bd1.data.toList 0 := f64n2L_eq bd1 bd1.data.toList FUEL 0 List.drop_zero hm (lt_FUEL hm)
inductive f64n1O where
  | norm
  | ret
def f64n1E (bd1 : ByteArray) : f64n1O → Ex × Tr × Hp
  | .norm => (.norm, mkS [], [])
  | .ret => (.ret, mkS [(2, (.pl (.bool false)))], [])
def f64n1S (bd1 : ByteArray) : Tr × Hp := (mkS [(0, (.pl (.str bd1)))], [])
noncomputable def f64n1 (bd1 : ByteArray) : Option f64n1O :=
  (f64n2 FUEL bd1 0).bind fun o90 => match o90 with
  | .exit0 => some .norm
  | .ret => some .ret
theorem f64n1_ok (bd1 : ByteArray) {o : f64n1O} (h : (f64n1 bd1) = some o) : T Try.prog Try.f64.ntmps 0 (cL (dropC 2 c64)) (f64n1S bd1) (fun r => r = f64n1E bd1 o) := by
  unfold f64n1 at h
  refine runK_norm cfg_ok (k := 1) (rs := [([], [], [])]) (ps := []) (tds := []) (m := []) (keep := [0, 20, 21]) (st' := (f64n2S bd1 0)) (by kernel_rfl) an ?_
  obtain ⟨o90, h91, h⟩ := bind_cases h
  cases o90 with
  | exit0 =>
    obtain rfl := some_inj h
    exact T.last' (T.bl (i := 0) (by kernel_rfl) (by kernel_rfl) (f64n2_ok FUEL bd1 0 h91)) (tds := []) (m := []) (keep := []) (st2 := (f64n1E bd1 .norm).2) (by kernel_rfl) an rfl
  | ret =>
    obtain rfl := some_inj h
    exact T.last' (T.bl (i := 0) (by kernel_rfl) (by kernel_rfl) (f64n2_ok FUEL bd1 0 h91)) (tds := []) (m := []) (keep := [2]) (st2 := (f64n1E bd1 .ret).2) (by kernel_rfl) an rfl
inductive f64n0O where
  | ret (v94 : Bool)
def f64n0E (a1 : ByteArray) : f64n0O → Ex × Tr × Hp
  | .ret v94 => (.ret, mkS [(2, (.pl (.bool v94)))], [])
def f64n0S (a1 : ByteArray) : Tr × Hp := (initS [(.pl (.str a1))] 0 .leaf, [])
noncomputable def f64n0 (a1 : ByteArray) : Option f64n0O :=
  bif (decide ((a1.size : Int) < 1)) then
    some (.ret false)
  else
    bif (decide (40 < (a1.size : Int))) then
      some (.ret false)
    else
      (at? a1.data.toList 0).bind fun x11 =>
      (f70 (x11.toNat : Int)).bind fun x13 =>
      bif x13 then
        (f64n1 a1).bind fun o92 => match o92 with
        | .norm => some (.ret true)
        | .ret => some (.ret false)
      else
        some (.ret false)
theorem f64n0_ok (a1 : ByteArray) {o : f64n0O} (h : (f64n0 a1) = some o) : T Try.prog Try.f64.ntmps 0 c64 (f64n0S a1) (fun r => r = f64n0E a1 o) := by
  unfold f64n0 at h
  rcases cond_cases h with ⟨h9, h⟩ | ⟨h9, h⟩
  · obtain rfl := some_inj h
    exact runK_end cfg_ok (k := 2) (rs := [([], [], []), ([(4, true), (5, true), (6, true)], [(7, .bool true)], []), ([], [], [])]) (ps := [none]) (tds := []) (m := []) (keep := [2]) (ex := .ret) (st' := (f64n0E a1 (.ret false)).2) (by kernel_rfl) (ap h9 (ap h9 (ap h9 (ap h9 an)))) (fun h => nomatch h) rfl
  · rcases cond_cases h with ⟨h10, h⟩ | ⟨h10, h⟩
    · obtain rfl := some_inj h
      exact runK_end cfg_ok (k := 2) (rs := [([], [], []), ([(4, false), (5, false), (6, false), (9, true), (10, true), (11, true), (12, true)], [(7, .bool false), (13, .bool true)], []), ([], [], [])]) (ps := [none]) (tds := []) (m := []) (keep := [2]) (ex := .ret) (st' := (f64n0E a1 (.ret false)).2) (by kernel_rfl) (ap h9 (ap h9 (ap h9 (ap h9 (ap h10 (ap h10 (ap h10 (ap h10 (ap h10 an))))))))) (fun h => nomatch h) rfl
    · obtain ⟨x11, h12, h⟩ := bind_cases h
      obtain ⟨x13, h14, h⟩ := bind_cases h
      rcases cond_cases h with ⟨h15, h⟩ | ⟨h15, h⟩
      · refine runK_norm cfg_ok (k := 2) (rs := [([], [], []), ([(4, false), (5, false), (6, false), (9, false), (10, false), (11, false), (12, false)], [(7, .bool false), (10, .byte (Int.toNat 0) x11), (11, .call (.pl (.bool x13)) []), (13, .bool false)], [])]) (ps := [some false]) (tds := []) (m := []) (keep := [0]) (st' := (f64n1S a1)) (by kernel_rfl) (ap h9 (ap h9 (ap h9 (ap h9 (ap h10 (ap h10 (ap (at_some h12).1 (ap (at_some h12).2 (ap h10 (ap h10 (ap h10 (ap (f70_ok (x11.toNat : Int) h14) (ap (not_t h15) an))))))))))))) ?_
        obtain ⟨o92, h93, h⟩ := bind_cases h
        cases o92 with
        | norm =>
          refine T.oneN (by kernel_rfl) (f64n1_ok a1 h93) (st2 := (f64n1E a1 .norm).2) rfl ?_
          obtain rfl := some_inj h
          exact run_end cfg_ok (rs := [([], [], [])]) (ps := []) (tds := []) (m := []) (keep := [2]) (r := (.ret, (f64n0E a1 (.ret true)).2)) (by kernel_rfl) an rfl
        | ret =>
          obtain rfl := some_inj h
          exact T.oneX' (by kernel_rfl) (f64n1_ok a1 h93) (tds := []) (m := []) (keep := [2]) (st2 := (f64n0E a1 (.ret false)).2) (by kernel_rfl) an rfl rfl
      · obtain rfl := some_inj h
        exact runK_end cfg_ok (k := 2) (rs := [([], [], []), ([(4, false), (5, false), (6, false), (9, false), (10, false), (11, false), (12, false)], [(7, .bool false), (10, .byte (Int.toNat 0) x11), (11, .call (.pl (.bool x13)) []), (13, .bool false)], []), ([], [], [])]) (ps := [some true]) (tds := []) (m := []) (keep := [2]) (ex := .ret) (st' := (f64n0E a1 (.ret false)).2) (by kernel_rfl) (ap h9 (ap h9 (ap h9 (ap h9 (ap h10 (ap h10 (ap (at_some h12).1 (ap (at_some h12).2 (ap h10 (ap h10 (ap h10 (ap (f70_ok (x11.toNat : Int) h14) (ap (not_f h15) an))))))))))))) (fun h => nomatch h) rfl
noncomputable def f64 (a1 : ByteArray) : Option Bool := (f64n0 a1).bind fun o => match o with
  | .ret v94 => some v94
theorem f64_ok (a1 : ByteArray) {r : Bool} (h : (f64 a1) = some r) : CallS Try.prog false 64 [(.pl (.str a1))] [] (.pl (.bool r)) [] := by
  unfold f64 at h
  obtain ⟨o, ho, h⟩ := bind_cases h
  cases o with
  | ret v94 =>
    obtain rfl := some_inj h
    exact CallS.plain cfg_ok (f := Try.f64) (c := c64) (by kernel_rfl) (by kernel_rfl) (by kernel_rfl) (by kernel_rfl) ((f64n0_ok a1 ho).mono fun r e => by subst e; exact ⟨.inl rfl, (.pl (.bool v94)), (.pl (.bool v94)), by kernel_rfl, by kernel_rfl, ((Wk.refl _) : Wk (.pl (.bool v94)) (.pl (.bool v94)))⟩)

noncomputable def c65 : Code := Try.f65.body.getD .skip
inductive f65n0O where
  | ret (v4 : Bool)
def f65n0E (a1 : Int) : f65n0O → Ex × Tr × Hp
  | .ret v4 => (.ret, mkS [(2, (.pl (.bool v4)))], [])
def f65n0S (a1 : Int) : Tr × Hp := (initS [(.pl (.int .i64 a1))] 0 .leaf, [])
noncomputable def f65n0 (a1 : Int) : Option f65n0O :=
  bif (decide ((-1125899906842624) ≤ a1)) then
    some (.ret (decide (a1 ≤ 1125899906842624)))
  else
    some (.ret false)
theorem f65n0_ok (a1 : Int) {o : f65n0O} (h : (f65n0 a1) = some o) : T Try.prog Try.f65.ntmps 0 c65 (f65n0S a1) (fun r => r = f65n0E a1 o) := by
  unfold f65n0 at h
  rcases cond_cases h with ⟨h3, h⟩ | ⟨h3, h⟩
  · obtain rfl := some_inj h
    exact run_end cfg_ok (rs := [([], [], []), ([(3, true), (4, true)], [(5, .bool true)], [])]) (ps := []) (tds := []) (m := []) (keep := [2]) (r := (.ret, (f65n0E a1 (.ret (decide (a1 ≤ 1125899906842624)))).2)) (by kernel_rfl) (ap h3 (ap h3 (ap h3 an))) rfl
  · obtain rfl := some_inj h
    exact run_end cfg_ok (rs := [([], [], []), ([(3, false), (4, false)], [(5, .bool false)], [])]) (ps := []) (tds := []) (m := []) (keep := [2]) (r := (.ret, (f65n0E a1 (.ret false)).2)) (by kernel_rfl) (ap h3 (ap h3 (ap h3 an))) rfl
noncomputable def f65 (a1 : Int) : Option Bool := (f65n0 a1).bind fun o => match o with
  | .ret v4 => some v4
theorem f65_ok (a1 : Int) {r : Bool} (h : (f65 a1) = some r) : CallS Try.prog false 65 [(.pl (.int .i64 a1))] [] (.pl (.bool r)) [] := by
  unfold f65 at h
  obtain ⟨o, ho, h⟩ := bind_cases h
  cases o with
  | ret v4 =>
    obtain rfl := some_inj h
    exact CallS.plain cfg_ok (f := Try.f65) (c := c65) (by kernel_rfl) (by kernel_rfl) (by kernel_rfl) (by kernel_rfl) ((f65n0_ok a1 ho).mono fun r e => by subst e; exact ⟨.inl rfl, (.pl (.bool v4)), (.pl (.bool v4)), by kernel_rfl, by kernel_rfl, ((Wk.refl _) : Wk (.pl (.bool v4)) (.pl (.bool v4)))⟩)

noncomputable def c63 : Code := Try.f63.body.getD .skip
inductive f63n0O where
  | ret (v20 : Bool)
def f63n0E (a1 : JournalLine) : f63n0O → Ex × Tr × Hp
  | .ret v20 => (.ret, mkS [(2, (.pl (.bool v20)))], [])
def f63n0S (a1 : JournalLine) : Tr × Hp := (initS [(.pl (.agg (JournalLine.cells a1)))] 0 .leaf, [])
noncomputable def f63n0 (a1 : JournalLine) : Option f63n0O :=
  (f64 a1.Account).bind fun x11 =>
  bif x11 then
    (f64 a1.Ccy).bind fun x14 =>
    bif x14 then
      bif (decide (a1.Amount = 0)) then
        some (.ret true)
      else
        (f65 a1.Amount).bind fun x18 =>
        some (.ret (!x18))
    else
      some (.ret true)
  else
    some (.ret true)
theorem f63n0_ok (a1 : JournalLine) {o : f63n0O} (h : (f63n0 a1) = some o) : T Try.prog Try.f63.ntmps 0 c63 (f63n0S a1) (fun r => r = f63n0E a1 o) := by
  unfold f63n0 at h
  obtain ⟨x11, h12, h⟩ := bind_cases h
  rcases cond_cases h with ⟨h13, h⟩ | ⟨h13, h⟩
  · obtain ⟨x14, h15, h⟩ := bind_cases h
    rcases cond_cases h with ⟨h16, h⟩ | ⟨h16, h⟩
    · rcases cond_cases h with ⟨h17, h⟩ | ⟨h17, h⟩
      · obtain rfl := some_inj h
        exact run_end cfg_ok (rs := [([], [], []), ([(5, false), (6, false), (7, false), (8, false), (11, false), (12, false), (13, false), (16, true), (17, true), (18, true), (19, true)], [(2, .call (.pl (.bool x11)) []), (7, .call (.pl (.bool x14)) []), (9, .bool false), (14, .bool false), (20, .bool true)], [])]) (ps := []) (tds := []) (m := []) (keep := [2]) (r := (.ret, (f63n0E a1 (.ret true)).2)) (by kernel_rfl) (ap (not_t h13) (ap (not_t h13) (ap (not_t h13) (ap (not_t h13) (ap (not_t h13) (ap (not_t h16) (ap (not_t h16) (ap (not_t h16) (ap (not_t h16) (ap h17 (ap h17 (ap h17 (ap h17 (ap h17 (ap (f64_ok a1.Account h12) (ap (f64_ok a1.Ccy h15) an)))))))))))))))) rfl
      · obtain ⟨x18, h19, h⟩ := bind_cases h
        obtain rfl := some_inj h
        exact run_end cfg_ok (rs := [([], [], []), ([(5, false), (6, false), (7, false), (8, false), (11, false), (12, false), (13, false), (16, false), (17, false), (18, false), (19, false)], [(2, .call (.pl (.bool x11)) []), (7, .call (.pl (.bool x14)) []), (9, .bool false), (14, .bool false), (18, .call (.pl (.bool x18)) []), (20, .bool false)], [])]) (ps := []) (tds := []) (m := []) (keep := [2]) (r := (.ret, (f63n0E a1 (.ret (!x18))).2)) (by kernel_rfl) (ap (not_t h13) (ap (not_t h13) (ap (not_t h13) (ap (not_t h13) (ap (not_t h13) (ap (not_t h16) (ap (not_t h16) (ap (not_t h16) (ap (not_t h16) (ap h17 (ap h17 (ap h17 (ap h17 (ap h17 (ap (f64_ok a1.Account h12) (ap (f64_ok a1.Ccy h15) (ap (f65_ok a1.Amount h19) an))))))))))))))))) rfl
    · obtain rfl := some_inj h
      exact run_end cfg_ok (rs := [([], [], []), ([(5, false), (6, false), (7, false), (8, false), (11, true), (12, true), (13, true)], [(2, .call (.pl (.bool x11)) []), (7, .call (.pl (.bool x14)) []), (9, .bool false), (14, .bool true)], [])]) (ps := []) (tds := []) (m := []) (keep := [2]) (r := (.ret, (f63n0E a1 (.ret true)).2)) (by kernel_rfl) (ap (not_t h13) (ap (not_t h13) (ap (not_t h13) (ap (not_t h13) (ap (not_t h13) (ap (not_f h16) (ap (not_f h16) (ap (not_f h16) (ap (not_f h16) (ap (f64_ok a1.Account h12) (ap (f64_ok a1.Ccy h15) an))))))))))) rfl
  · obtain rfl := some_inj h
    exact run_end cfg_ok (rs := [([], [], []), ([(5, true), (6, true), (7, true), (8, true)], [(2, .call (.pl (.bool x11)) []), (9, .bool true)], [])]) (ps := []) (tds := []) (m := []) (keep := [2]) (r := (.ret, (f63n0E a1 (.ret true)).2)) (by kernel_rfl) (ap (not_f h13) (ap (not_f h13) (ap (not_f h13) (ap (not_f h13) (ap (not_f h13) (ap (f64_ok a1.Account h12) an)))))) rfl
noncomputable def f63 (a1 : JournalLine) : Option Bool := (f63n0 a1).bind fun o => match o with
  | .ret v20 => some v20
theorem f63_ok (a1 : JournalLine) {r : Bool} (h : (f63 a1) = some r) : CallS Try.prog false 63 [(.pl (.agg (JournalLine.cells a1)))] [] (.pl (.bool r)) [] := by
  unfold f63 at h
  obtain ⟨o, ho, h⟩ := bind_cases h
  cases o with
  | ret v20 =>
    obtain rfl := some_inj h
    exact CallS.plain cfg_ok (f := Try.f63) (c := c63) (by kernel_rfl) (by kernel_rfl) (by kernel_rfl) (by kernel_rfl) ((f63n0_ok a1 ho).mono fun r e => by subst e; exact ⟨.inl rfl, (.pl (.bool v20)), (.pl (.bool v20)), by kernel_rfl, by kernel_rfl, ((Wk.refl _) : Wk (.pl (.bool v20)) (.pl (.bool v20)))⟩)

noncomputable def c71 : Code := Try.f71.body.getD .skip
inductive f71_63n2O where
  | exit0
  | ret (v40 : Int)
def f71_63n2E (bc1 : List JournalLine) : f71_63n2O → Ex × Tr × Hp
  | .exit0 => ((.exit 0), mkS [], [])
  | .ret v40 => (.ret, mkS [(4, (.pl (.int .i64 v40)))], [])
def f71_63n2S (bc1 : List JournalLine) (v27 : Int) : Tr × Hp := (mkS [(0, (.pl (.sl .any 3 (bc1.map JournalLine.cells)))), (1, (.pl (.fn 63))), (7, (.pl (.int .i64 (bc1.length : Int)))), (8, (.pl (.int .i64 v27)))], [])
noncomputable def f71_63n2 : Nat → List JournalLine → Int → Option f71_63n2O
  | 0, _, _ => none
  | f + 1, bc1, v27 =>
    bif (decide (v27 < (bc1.length : Int))) then
      (at? bc1 v27).bind fun x35 =>
      (f63 x35).bind fun x37 =>
      bif x37 then
        some (.ret v27)
      else
        (f71_63n2 f bc1 (wr64 (v27 + 1)))
    else
      some .exit0
theorem f71_63n2_ok : ∀ (f : Nat) (bc1 : List JournalLine) (v27 : Int) {o : f71_63n2O}, (f71_63n2 f bc1 v27) = some o → TL Try.prog Try.f71.ntmps 0 f (cL (cL (dropC 1 (cL (dropC 1 c71))))) (f71_63n2S bc1 v27) (fun r => r = f71_63n2E bc1 o)
  | 0, _, _, o, h => by rw [f71_63n2] at h; cases h
  | f + 1, bc1, v27, o, h => by
    rw [f71_63n2] at h
    refine TL.body (K := fun s => ∃ v27 : Int, s = (f71_63n2S bc1 v27) ∧ (f71_63n2 f bc1 v27) = some o) ?_ (by rintro _ ⟨v27, rfl, hk⟩; exact f71_63n2_ok f _ _ hk)
    rcases cond_cases h with ⟨h29, h⟩ | ⟨h29, h⟩
    · obtain ⟨x35, h36, h⟩ := bind_cases h
      obtain ⟨x37, h38, h⟩ := bind_cases h
      rcases cond_cases h with ⟨h39, h⟩ | ⟨h39, h⟩
      · obtain rfl := some_inj h
        exact runK_end cfg_ok (k := 3) (rs := [([], [], []), ([], [], []), ([], [(3, .idx (Int.toNat v27) (JournalLine.cells x35)), (5, .call (.pl (.bool x37)) [])], []), ([], [], [])]) (ps := [some true, some true]) (tds := []) (m := []) (keep := [4]) (ex := .ret) (st' := (f71_63n2E bc1 (.ret v27)).2) (by kernel_rfl) (ap h29 (ap (at_some h36).1 (ap (at_map JournalLine.cells (at_some h36).2) (ap (f63_ok x35 h38) (ap h39 an))))) (fun h => nomatch h) (LoopQ.out rfl rfl)
      · exact run_end cfg_ok (rs := [([], [], []), ([], [], []), ([], [(3, .idx (Int.toNat v27) (JournalLine.cells x35)), (5, .call (.pl (.bool x37)) [])], []), ([], [], [])]) (ps := [some true, some false]) (tds := []) (m := []) (keep := [0, 1, 7, 8]) (r := (.norm, (f71_63n2S bc1 (wr64 (v27 + 1))))) (by kernel_rfl) (ap h29 (ap (at_some h36).1 (ap (at_map JournalLine.cells (at_some h36).2) (ap (f63_ok x35 h38) (ap h39 an))))) (LoopQ.norm ⟨(wr64 (v27 + 1)), rfl, h⟩)
    · obtain rfl := some_inj h
      exact runK_end cfg_ok (k := 2) (rs := [([], [], [])]) (ps := [some false]) (tds := []) (m := []) (keep := []) (ex := (.exit 0)) (st' := (f71_63n2E bc1 .exit0).2) (by kernel_rfl) (ap h29 an) (fun h => nomatch h) (LoopQ.out rfl rfl)
noncomputable def f71_63n2L (bc1 : List JournalLine) : List JournalLine → Int → Option f71_63n2O
  | [], v27 =>
    some .exit0
  | x0 :: rest, v27 =>
    (f63 x0).bind fun x37 =>
    bif x37 then
      some (.ret v27)
    else
      (f71_63n2L bc1 rest (v27 + 1))
theorem f71_63n2L_eq (bc1 : List JournalLine) : ∀ (rest : List JournalLine) (f k : Nat), bc1.drop k = rest → bc1.length ≤ maxLen → rest.length < f → f71_63n2 f bc1 (k : Int) = f71_63n2L bc1 rest (k : Int)
  | _, 0, _, _, _, hf => absurd hf (Nat.not_lt_zero _)
  | [], f + 1, k, hd, hm, hf => by
    have hk : ¬ ((k : Int) < (bc1.length : Int)) := by have := drop_nil hd; omega
    rw [f71_63n2, f71_63n2L]
    simp only [decide_eq_false hk, cond_false]
  | x0 :: rest, f + 1, k, hd, hm, hf => by
    obtain ⟨hx, hlt, hd'⟩ := drop_cons hd
    have hk : (k : Int) < (bc1.length : Int) := by omega
    have hw : wr64 ((k : Int) + 1) = (k : Int) + 1 := wr64_of (by omega) (by unfold maxLen at hm; omega)
    have ih : f71_63n2 f bc1 ((k : Int) + 1) = f71_63n2L bc1 rest ((k : Int) + 1) := f71_63n2L_eq bc1 rest f (k + 1) hd' hm (by simpa using hf)
    rw [f71_63n2, f71_63n2L]
    simp only [decide_eq_true hk, cond_true, at_nat, hx, Option.bind_some, hw, ih]
theorem f71_63n2_run (bc1 : List JournalLine) (hm : bc1.length ≤ maxLen) : f71_63n2 FUEL bc1 0 = f71_63n2L bc1 bc1 0 := f71_63n2L_eq bc1 bc1 FUEL 0 List.drop_zero hm (lt_FUEL hm)
inductive f71_63n1O where
  | norm
  | ret (v44 : Int)
def f71_63n1E (bc1 : List JournalLine) : f71_63n1O → Ex × Tr × Hp
  | .norm => (.norm, mkS [], [])
  | .ret v44 => (.ret, mkS [(4, (.pl (.int .i64 v44)))], [])
def f71_63n1S (bc1 : List JournalLine) : Tr × Hp := (mkS [(0, (.pl (.sl .any 3 (bc1.map JournalLine.cells)))), (1, (.pl (.fn 63)))], [])
noncomputable def f71_63n1 (bc1 : List JournalLine) : Option f71_63n1O :=
  (f71_63n2 FUEL bc1 0).bind fun o41 => match o41 with
  | .exit0 => some .norm
  | .ret v43 => some (.ret v43)
theorem f71_63n1_ok (bc1 : List JournalLine) {o : f71_63n1O} (h : (f71_63n1 bc1) = some o) : T Try.prog Try.f71.ntmps 0 (cL (dropC 1 c71)) (f71_63n1S bc1) (fun r => r = f71_63n1E bc1 o) := by
  unfold f71_63n1 at h
  refine runK_norm cfg_ok (k := 1) (rs := [([], [], [(1, .val (.pl (.int .i64 (bc1.length : Int))))])]) (ps := []) (tds := []) (m := []) (keep := [0, 1, 7, 8]) (st' := (f71_63n2S bc1 0)) (by kernel_rfl) (ap (len_cv (xs := bc1) (c := JournalLine.cells)) an) ?_
  obtain ⟨o41, h42, h⟩ := bind_cases h
  cases o41 with
  | exit0 =>
    obtain rfl := some_inj h
    exact T.last' (T.bl (i := 0) (by kernel_rfl) (by kernel_rfl) (f71_63n2_ok FUEL bc1 0 h42)) (tds := []) (m := []) (keep := []) (st2 := (f71_63n1E bc1 .norm).2) (by kernel_rfl) an rfl
  | ret v43 =>
    obtain rfl := some_inj h
    exact T.last' (T.bl (i := 0) (by kernel_rfl) (by kernel_rfl) (f71_63n2_ok FUEL bc1 0 h42)) (tds := []) (m := []) (keep := [4]) (st2 := (f71_63n1E bc1 (.ret v43)).2) (by kernel_rfl) an rfl
inductive f71_63n0O where
  | ret (v48 : Int)
def f71_63n0E (a1 : List JournalLine) : f71_63n0O → Ex × Tr × Hp
  | .ret v48 => (.ret, mkS [(4, (.pl (.int .i64 v48)))], [])
def f71_63n0S (a1 : List JournalLine) : Tr × Hp := (initS [(.pl (.sl .any 3 (a1.map JournalLine.cells))), (.pl (.fn 63))] 0 .leaf, [])
noncomputable def f71_63n0 (a1 : List JournalLine) : Option f71_63n0O :=
  (f71_63n1 a1).bind fun o45 => match o45 with
  | .norm => some (.ret (-1))
  | .ret v47 => some (.ret v47)
theorem f71_63n0_ok (a1 : List JournalLine) {o : f71_63n0O} (h : (f71_63n0 a1) = some o) : T Try.prog Try.f71.ntmps 0 c71 (f71_63n0S a1) (fun r => r = f71_63n0E a1 o) := by
  unfold f71_63n0 at h
  refine runK_norm cfg_ok (k := 1) (rs := [([], [], [])]) (ps := []) (tds := []) (m := []) (keep := [0, 1]) (st' := (f71_63n1S a1)) (by kernel_rfl) an ?_
  obtain ⟨o45, h46, h⟩ := bind_cases h
  cases o45 with
  | norm =>
    refine T.oneN (by kernel_rfl) (f71_63n1_ok a1 h46) (st2 := (f71_63n1E a1 .norm).2) rfl ?_
    obtain rfl := some_inj h
    exact run_end cfg_ok (rs := [([], [], [])]) (ps := []) (tds := []) (m := []) (keep := [4]) (r := (.ret, (f71_63n0E a1 (.ret (-1))).2)) (by kernel_rfl) an rfl
  | ret v47 =>
    obtain rfl := some_inj h
    exact T.oneX' (by kernel_rfl) (f71_63n1_ok a1 h46) (tds := []) (m := []) (keep := [4]) (st2 := (f71_63n0E a1 (.ret v47)).2) (by kernel_rfl) an rfl rfl
noncomputable def f71_63 (a1 : List JournalLine) : Option Int := (f71_63n0 a1).bind fun o => match o with
  | .ret v48 => some v48
theorem f71_63_ok (a1 : List JournalLine) {r : Int} (h : (f71_63 a1) = some r) : CallS Try.prog false 71 [(.pl (.sl .any 3 (a1.map JournalLine.cells))), (.pl (.fn 63))] [] (.pl (.int .i64 r)) [] := by
  unfold f71_63 at h
  obtain ⟨o, ho, h⟩ := bind_cases h
  cases o with
  | ret v48 =>
    obtain rfl := some_inj h
    exact CallS.plain cfg_ok (f := Try.f71) (c := c71) (by kernel_rfl) (by kernel_rfl) (by kernel_rfl) (by kernel_rfl) ((f71_63n0_ok a1 ho).mono fun r e => by subst e; exact ⟨.inl rfl, (.pl (.int .i64 v48)), (.pl (.int .i64 v48)), by kernel_rfl, by kernel_rfl, ((Wk.refl _) : Wk (.pl (.int .i64 v48)) (.pl (.int .i64 v48)))⟩)

noncomputable def c66 : Code := Try.f66.body.getD .skip
inductive f66_63n0O where
  | ret (v6 : Bool)
def f66_63n0E (a1 : List JournalLine) : f66_63n0O → Ex × Tr × Hp
  | .ret v6 => (.ret, mkS [(4, (.pl (.bool v6)))], [])
def f66_63n0S (a1 : List JournalLine) : Tr × Hp := (initS [(.pl (.sl .any 3 (a1.map JournalLine.cells))), (.pl (.fn 63))] 0 .leaf, [])
noncomputable def f66_63n0 (a1 : List JournalLine) : Option f66_63n0O :=
  (f71_63 a1).bind fun x4 =>
  some (.ret (decide (0 ≤ x4)))
theorem f66_63n0_ok (a1 : List JournalLine) {o : f66_63n0O} (h : (f66_63n0 a1) = some o) : T Try.prog Try.f66.ntmps 0 c66 (f66_63n0S a1) (fun r => r = f66_63n0E a1 o) := by
  unfold f66_63n0 at h
  obtain ⟨x4, h5, h⟩ := bind_cases h
  obtain rfl := some_inj h
  exact run_end cfg_ok (rs := [([], [], []), ([], [(2, .call (.pl (.int .i64 x4)) [])], [])]) (ps := []) (tds := []) (m := []) (keep := [4]) (r := (.ret, (f66_63n0E a1 (.ret (decide (0 ≤ x4)))).2)) (by kernel_rfl) (ap (f71_63_ok a1 h5) an) rfl
noncomputable def f66_63 (a1 : List JournalLine) : Option Bool := (f66_63n0 a1).bind fun o => match o with
  | .ret v6 => some v6
theorem f66_63_ok (a1 : List JournalLine) {r : Bool} (h : (f66_63 a1) = some r) : CallS Try.prog false 66 [(.pl (.sl .any 3 (a1.map JournalLine.cells))), (.pl (.fn 63))] [] (.pl (.bool r)) [] := by
  unfold f66_63 at h
  obtain ⟨o, ho, h⟩ := bind_cases h
  cases o with
  | ret v6 =>
    obtain rfl := some_inj h
    exact CallS.plain cfg_ok (f := Try.f66) (c := c66) (by kernel_rfl) (by kernel_rfl) (by kernel_rfl) (by kernel_rfl) ((f66_63n0_ok a1 ho).mono fun r e => by subst e; exact ⟨.inl rfl, (.pl (.bool v6)), (.pl (.bool v6)), by kernel_rfl, by kernel_rfl, ((Wk.refl _) : Wk (.pl (.bool v6)) (.pl (.bool v6)))⟩)

noncomputable def c49 : Code := Try.f49.body.getD .skip
inductive f49n2O where
  | exit0
  | ret
def f49n2E (bb1 : JournalRecord) : f49n2O → Ex × Tr × Hp
  | .exit0 => ((.exit 0), mkS [(1, (.bp 0 0))], [some (.box ((JournalRecord.cells bb1).map .pl))])
  | .ret => (.ret, mkS [(2, (.pl (.bool false)))], [])
def f49n2S (bb1 : JournalRecord) (v25 : Int) : Tr × Hp := (mkS [(1, (.bp 0 0)), (9, (.pl (.sl .any 1 ((ofB bb1.Text).map (cInt .u8))))), (10, (.pl (.int .i64 ((ofB bb1.Text).length : Int)))), (11, (.pl (.int .i64 v25)))], [some (.box ((JournalRecord.cells bb1).map .pl))])
noncomputable def f49n2 : Nat → JournalRecord → Int → Option f49n2O
  | 0, _, _ => none
  | f + 1, bb1, v25 =>
    bif (decide (v25 < ((ofB bb1.Text).length : Int))) then
      (at? (ofB bb1.Text) v25).bind fun x32 =>
      bif (decide (x32 < 32)) then
        some .ret
      else
        bif (decide (126 < x32)) then
          some .ret
        else
          (f49n2 f bb1 (wr64 (v25 + 1)))
    else
      some .exit0
theorem f49n2_ok : ∀ (f : Nat) (bb1 : JournalRecord) (v25 : Int) {o : f49n2O}, (f49n2 f bb1 v25) = some o → TL Try.prog Try.f49.ntmps 0 f (cL (cL (dropC 1 (cL (dropC 1 c49))))) (f49n2S bb1 v25) (fun r => r = f49n2E bb1 o)
  | 0, _, _, o, h => by rw [f49n2] at h; cases h
  | f + 1, bb1, v25, o, h => by
    rw [f49n2] at h
    refine TL.body (K := fun s => ∃ v25 : Int, s = (f49n2S bb1 v25) ∧ (f49n2 f bb1 v25) = some o) ?_ (by rintro _ ⟨v25, rfl, hk⟩; exact f49n2_ok f _ _ hk)
    rcases cond_cases h with ⟨h27, h⟩ | ⟨h27, h⟩
    · obtain ⟨x32, h33, h⟩ := bind_cases h
      rcases cond_cases h with ⟨h34, h⟩ | ⟨h34, h⟩
      · obtain rfl := some_inj h
        exact runK_end cfg_ok (k := 3) (rs := [([], [], []), ([], [(0, .idx (Int.toNat v25) ((cInt .u8) x32))], []), ([(3, true), (4, true)], [(5, .bool true)], []), ([], [], [])]) (ps := [some true, none]) (tds := []) (m := []) (keep := [2]) (ex := .ret) (st' := (f49n2E bb1 .ret).2) (by kernel_rfl) (ap h27 (ap (at_some h33).1 (ap (at_map (cInt .u8) (at_some h33).2) (ap h34 (ap h34 (ap h34 an)))))) (fun h => nomatch h) (LoopQ.out rfl rfl)
      · rcases cond_cases h with ⟨h35, h⟩ | ⟨h35, h⟩
        · obtain rfl := some_inj h
          exact runK_end cfg_ok (k := 3) (rs := [([], [], []), ([], [(0, .idx (Int.toNat v25) ((cInt .u8) x32))], []), ([(3, false), (4, false)], [(5, .bool false)], []), ([], [], [])]) (ps := [some true, some true]) (tds := []) (m := []) (keep := [2]) (ex := .ret) (st' := (f49n2E bb1 .ret).2) (by kernel_rfl) (ap h27 (ap (at_some h33).1 (ap (at_map (cInt .u8) (at_some h33).2) (ap h34 (ap h34 (ap h34 (ap h35 an))))))) (fun h => nomatch h) (LoopQ.out rfl rfl)
        · exact run_end cfg_ok (rs := [([], [], []), ([], [(0, .idx (Int.toNat v25) ((cInt .u8) x32))], []), ([(3, false), (4, false)], [(5, .bool false)], []), ([], [], [])]) (ps := [some true, some false]) (tds := []) (m := [0]) (keep := [1, 9, 10, 11]) (r := (.norm, (f49n2S bb1 (wr64 (v25 + 1))))) (by kernel_rfl) (ap h27 (ap (at_some h33).1 (ap (at_map (cInt .u8) (at_some h33).2) (ap h34 (ap h34 (ap h34 (ap h35 an))))))) (LoopQ.norm ⟨(wr64 (v25 + 1)), rfl, h⟩)
    · obtain rfl := some_inj h
      exact runK_end cfg_ok (k := 2) (rs := [([], [], [])]) (ps := [some false]) (tds := []) (m := [0]) (keep := [1]) (ex := (.exit 0)) (st' := (f49n2E bb1 .exit0).2) (by kernel_rfl) (ap h27 an) (fun h => nomatch h) (LoopQ.out rfl rfl)
noncomputable def f49n2L (bb1 : JournalRecord) : List Int → Int → Option f49n2O
  | [], v25 =>
    some .exit0
  | x0 :: rest, v25 =>
    bif (decide (x0 < 32)) then
      some .ret
    else
      bif (decide (126 < x0)) then
        some .ret
      else
        (f49n2L bb1 rest (v25 + 1))
theorem f49n2L_eq (bb1 : JournalRecord) : ∀ (rest : List Int) (f k : Nat), (ofB bb1.Text).drop k = rest → (ofB bb1.Text).length ≤ maxLen → rest.length < f → f49n2 f bb1 (k : Int) = f49n2L bb1 rest (k : Int)
  | _, 0, _, _, _, hf => absurd hf (Nat.not_lt_zero _)
  | [], f + 1, k, hd, hm, hf => by
    have hk : ¬ ((k : Int) < ((ofB bb1.Text).length : Int)) := by have := drop_nil hd; omega
    rw [f49n2, f49n2L]
    simp only [decide_eq_false hk, cond_false]
  | x0 :: rest, f + 1, k, hd, hm, hf => by
    obtain ⟨hx, hlt, hd'⟩ := drop_cons hd
    have hk : (k : Int) < ((ofB bb1.Text).length : Int) := by omega
    have hw : wr64 ((k : Int) + 1) = (k : Int) + 1 := wr64_of (by omega) (by unfold maxLen at hm; omega)
    have ih : f49n2 f bb1 ((k : Int) + 1) = f49n2L bb1 rest ((k : Int) + 1) := f49n2L_eq bb1 rest f (k + 1) hd' hm (by simpa using hf)
    rw [f49n2, f49n2L]
    simp only [decide_eq_true hk, cond_true, at_nat, hx, Option.bind_some, hw, ih]
theorem f49n2_run (bb1 : JournalRecord) (hm : (ofB bb1.Text).length ≤ maxLen) : f49n2 FUEL bb1 0 = f49n2L bb1 (ofB bb1.Text) 0 := f49n2L_eq bb1 (ofB bb1.Text) FUEL 0 List.drop_zero hm (lt_FUEL hm)
inductive f49n1O where
  | norm
  | ret
def f49n1E (bb1 : JournalRecord) : f49n1O → Ex × Tr × Hp
  | .norm => (.norm, mkS [(1, (.bp 0 0))], [some (.box ((JournalRecord.cells bb1).map .pl))])
  | .ret => (.ret, mkS [(2, (.pl (.bool false)))], [])
def f49n1S (bb1 : JournalRecord) : Tr × Hp := (mkS [(1, (.bp 0 0))], [some (.box ((JournalRecord.cells bb1).map .pl))])
noncomputable def f49n1 (bb1 : JournalRecord) : Option f49n1O :=
  req (decide (bb1.Text.size ≤ 9223372036854775807)) <|
  (f49n2 FUEL bb1 0).bind fun o36 => match o36 with
  | .exit0 => some .norm
  | .ret => some .ret
theorem f49n1_ok (bb1 : JournalRecord) {o : f49n1O} (h : (f49n1 bb1) = some o) : T Try.prog Try.f49.ntmps 0 (cL (dropC 1 c49)) (f49n1S bb1) (fun r => r = f49n1E bb1 o) := by
  unfold f49n1 at h
  obtain ⟨h3, h⟩ := req_cases h
  refine runK_norm cfg_ok (k := 1) (rs := [([], [(2, .fits)], [(2, .val (.pl (.sl .any 1 ((ofB bb1.Text).map (cInt .u8))))), (3, .val (.pl (.int .i64 ((ofB bb1.Text).length : Int))))])]) (ps := []) (tds := []) (m := [0]) (keep := [1, 9, 10, 11]) (st' := (f49n2S bb1 0)) (by kernel_rfl) (ap (of_decide_eq_true h3) (ap (congrArg (fun l => AV.pl (.sl .any 1 l)) (ofB_cv (s := bb1.Text))) (ap (len_cv (xs := (ofB bb1.Text)) (c := (cInt .u8))) an))) ?_
  obtain ⟨o36, h37, h⟩ := bind_cases h
  cases o36 with
  | exit0 =>
    obtain rfl := some_inj h
    exact T.last' (T.bl (i := 0) (by kernel_rfl) (by kernel_rfl) (f49n2_ok FUEL bb1 0 h37)) (tds := []) (m := [0]) (keep := [1]) (st2 := (f49n1E bb1 .norm).2) (by kernel_rfl) an rfl
  | ret =>
    obtain rfl := some_inj h
    exact T.last' (T.bl (i := 0) (by kernel_rfl) (by kernel_rfl) (f49n2_ok FUEL bb1 0 h37)) (tds := []) (m := []) (keep := [2]) (st2 := (f49n1E bb1 .ret).2) (by kernel_rfl) an rfl
inductive f49n0O where
  | ret (v54 : Bool)
def f49n0E (a1 : JournalRecord) : f49n0O → Ex × Tr × Hp
  | .ret v54 => (.ret, mkS [(2, (.pl (.bool v54)))], [])
def f49n0S (a1 : JournalRecord) : Tr × Hp := (initS [(.pl (.agg (JournalRecord.cells a1)))] 0 .leaf, [])
noncomputable def f49n0 (a1 : JournalRecord) : Option f49n0O :=
  (f49n1 a1).bind fun o38 => match o38 with
  | .norm => bif (decide (0 ≤ a1.Day)) then
      bif (decide (a1.Day ≤ 99999)) then
        bif (decide ((a1.Text.size : Int) ≤ 100)) then
          bif (decide (2 ≤ (a1.Lines.length : Int))) then
            bif (decide ((a1.Lines.length : Int) ≤ 20)) then
              (f66_63 a1.Lines).bind fun x52 =>
              some (.ret (!x52))
            else
              some (.ret false)
          else
            some (.ret false)
        else
          some (.ret false)
      else
        some (.ret false)
    else
      some (.ret false)
  | .ret => some (.ret false)
theorem f49n0_ok (a1 : JournalRecord) {o : f49n0O} (h : (f49n0 a1) = some o) : T Try.prog Try.f49.ntmps 0 c49 (f49n0S a1) (fun r => r = f49n0E a1 o) := by
  unfold f49n0 at h
  refine runK_norm cfg_ok (k := 1) (rs := [([], [], [])]) (ps := []) (tds := []) (m := [0]) (keep := [1]) (st' := (f49n1S a1)) (by kernel_rfl) an ?_
  obtain ⟨o38, h39, h⟩ := bind_cases h
  cases o38 with
  | norm =>
    refine T.oneN (by kernel_rfl) (f49n1_ok a1 h39) (st2 := (f49n1E a1 .norm).2) rfl ?_
    rcases cond_cases h with ⟨h47, h⟩ | ⟨h47, h⟩
    · rcases cond_cases h with ⟨h48, h⟩ | ⟨h48, h⟩
      · rcases cond_cases h with ⟨h49, h⟩ | ⟨h49, h⟩
        · rcases cond_cases h with ⟨h50, h⟩ | ⟨h50, h⟩
          · rcases cond_cases h with ⟨h51, h⟩ | ⟨h51, h⟩
            · obtain ⟨x52, h53, h⟩ := bind_cases h
              obtain rfl := some_inj h
              exact run_end cfg_ok (rs := [([], [], []), ([], [], [(2, .val (.pl (.int .i64 (a1.Lines.length : Int))))]), ([(4, true), (5, true), (6, true), (9, true), (10, true), (11, true), (12, true), (15, true), (16, true), (19, true), (20, true), (23, true), (24, true), (25, true), (26, true), (27, true)], [(7, .bool true), (13, .bool true), (17, .bool true), (21, .bool true), (26, .call (.pl (.bool x52)) []), (28, .bool true)], [])]) (ps := []) (tds := []) (m := []) (keep := [2]) (r := (.ret, (f49n0E a1 (.ret (!x52))).2)) (by kernel_rfl) (ap (len_cv (xs := a1.Lines) (c := JournalLine.cells)) (ap h47 (ap h47 (ap h47 (ap h47 (ap h48 (ap h48 (ap h48 (ap h48 (ap h48 (ap h49 (ap h49 (ap h49 (ap h50 (ap h50 (ap h50 (ap h51 (ap h51 (ap h51 (ap h51 (ap h51 (ap h51 (ap (f66_63_ok a1.Lines h53) an))))))))))))))))))))))) rfl
            · obtain rfl := some_inj h
              exact run_end cfg_ok (rs := [([], [], []), ([], [], [(2, .val (.pl (.int .i64 (a1.Lines.length : Int))))]), ([(4, true), (5, true), (6, true), (9, true), (10, true), (11, true), (12, true), (15, true), (16, true), (19, true), (20, true), (23, false), (24, false), (25, false), (26, false), (27, false)], [(7, .bool true), (13, .bool true), (17, .bool true), (21, .bool true), (28, .bool false)], [])]) (ps := []) (tds := []) (m := []) (keep := [2]) (r := (.ret, (f49n0E a1 (.ret false)).2)) (by kernel_rfl) (ap (len_cv (xs := a1.Lines) (c := JournalLine.cells)) (ap h47 (ap h47 (ap h47 (ap h47 (ap h48 (ap h48 (ap h48 (ap h48 (ap h48 (ap h49 (ap h49 (ap h49 (ap h50 (ap h50 (ap h50 (ap h51 (ap h51 (ap h51 (ap h51 (ap h51 (ap h51 an)))))))))))))))))))))) rfl
          · obtain rfl := some_inj h
            exact run_end cfg_ok (rs := [([], [], []), ([], [], [(2, .val (.pl (.int .i64 (a1.Lines.length : Int))))]), ([(4, true), (5, true), (6, true), (9, true), (10, true), (11, true), (12, true), (15, true), (16, true), (19, false), (20, false)], [(7, .bool true), (13, .bool true), (17, .bool true), (21, .bool false)], [])]) (ps := []) (tds := []) (m := []) (keep := [2]) (r := (.ret, (f49n0E a1 (.ret false)).2)) (by kernel_rfl) (ap (len_cv (xs := a1.Lines) (c := JournalLine.cells)) (ap h47 (ap h47 (ap h47 (ap h47 (ap h48 (ap h48 (ap h48 (ap h48 (ap h48 (ap h49 (ap h49 (ap h49 (ap h50 (ap h50 (ap h50 an)))))))))))))))) rfl
        · obtain rfl := some_inj h
          exact run_end cfg_ok (rs := [([], [], []), ([], [], [(2, .val (.pl (.int .i64 (a1.Lines.length : Int))))]), ([(4, true), (5, true), (6, true), (9, true), (10, true), (11, true), (12, true), (15, false), (16, false)], [(7, .bool true), (13, .bool true), (17, .bool false)], [])]) (ps := []) (tds := []) (m := []) (keep := [2]) (r := (.ret, (f49n0E a1 (.ret false)).2)) (by kernel_rfl) (ap (len_cv (xs := a1.Lines) (c := JournalLine.cells)) (ap h47 (ap h47 (ap h47 (ap h47 (ap h48 (ap h48 (ap h48 (ap h48 (ap h48 (ap h49 (ap h49 (ap h49 an))))))))))))) rfl
      · obtain rfl := some_inj h
        exact run_end cfg_ok (rs := [([], [], []), ([], [], [(2, .val (.pl (.int .i64 (a1.Lines.length : Int))))]), ([(4, true), (5, true), (6, true), (9, false), (10, false), (11, false), (12, false)], [(7, .bool true), (13, .bool false)], [])]) (ps := []) (tds := []) (m := []) (keep := [2]) (r := (.ret, (f49n0E a1 (.ret false)).2)) (by kernel_rfl) (ap (len_cv (xs := a1.Lines) (c := JournalLine.cells)) (ap h47 (ap h47 (ap h47 (ap h47 (ap h48 (ap h48 (ap h48 (ap h48 (ap h48 an)))))))))) rfl
    · obtain rfl := some_inj h
      exact run_end cfg_ok (rs := [([], [], []), ([], [], [(2, .val (.pl (.int .i64 (a1.Lines.length : Int))))]), ([(4, false), (5, false), (6, false)], [(7, .bool false)], [])]) (ps := []) (tds := []) (m := []) (keep := [2]) (r := (.ret, (f49n0E a1 (.ret false)).2)) (by kernel_rfl) (ap (len_cv (xs := a1.Lines) (c := JournalLine.cells)) (ap h47 (ap h47 (ap h47 (ap h47 an))))) rfl
  | ret =>
    obtain rfl := some_inj h
    exact T.oneX' (by kernel_rfl) (f49n1_ok a1 h39) (tds := []) (m := []) (keep := [2]) (st2 := (f49n0E a1 (.ret false)).2) (by kernel_rfl) an rfl rfl
noncomputable def f49 (a1 : JournalRecord) : Option Bool := (f49n0 a1).bind fun o => match o with
  | .ret v54 => some v54
theorem f49_ok (a1 : JournalRecord) {r : Bool} (h : (f49 a1) = some r) : CallS Try.prog false 49 [(.pl (.agg (JournalRecord.cells a1)))] [] (.pl (.bool r)) [] := by
  unfold f49 at h
  obtain ⟨o, ho, h⟩ := bind_cases h
  cases o with
  | ret v54 =>
    obtain rfl := some_inj h
    exact CallS.plain cfg_ok (f := Try.f49) (c := c49) (by kernel_rfl) (by kernel_rfl) (by kernel_rfl) (by kernel_rfl) ((f49n0_ok a1 ho).mono fun r e => by subst e; exact ⟨.inl rfl, (.pl (.bool v54)), (.pl (.bool v54)), by kernel_rfl, by kernel_rfl, ((Wk.refl _) : Wk (.pl (.bool v54)) (.pl (.bool v54)))⟩)

noncomputable def c50 : Code := Try.f50.body.getD .skip
inductive f50n2O where
  | exit0 (v24 : List (ByteArray × Int))
def f50n2E (bb1 : JournalRecord) : f50n2O → Ex × Tr × Hp
  | .exit0 v24 => ((.exit 0), mkS [(3, (.mp 0))], [some (.map (v24.map (mkv pStr (pInt .i64))))])
def f50n2S (bb1 : JournalRecord) (v16 : Int) (v17 : List (ByteArray × Int)) : Tr × Hp := (mkS [(3, (.mp 0)), (10, (.pl (.sl .any 3 (bb1.Lines.map JournalLine.cells)))), (11, (.pl (.int .i64 (bb1.Lines.length : Int)))), (12, (.pl (.int .i64 v16)))], [some (.map (v17.map (mkv pStr (pInt .i64))))])
noncomputable def f50n2 : Nat → JournalRecord → Int → List (ByteArray × Int) → Option f50n2O
  | 0, _, _, _ => none
  | f + 1, bb1, v16, v17 =>
    bif (decide (v16 < (bb1.Lines.length : Int))) then
      (at? bb1.Lines v16).bind fun x22 =>
      (f50n2 f bb1 (wr64 (v16 + 1)) (mPut seq x22.Ccy (wr64 ((mGet seq 0 x22.Ccy v17) + x22.Amount)) v17))
    else
      some (.exit0 v17)
theorem f50n2_ok : ∀ (f : Nat) (bb1 : JournalRecord) (v16 : Int) (v17 : List (ByteArray × Int)) {o : f50n2O}, (f50n2 f bb1 v16 v17) = some o → TL Try.prog Try.f50.ntmps 0 f (cL (cL (dropC 1 (cL (dropC 2 c50))))) (f50n2S bb1 v16 v17) (fun r => r = f50n2E bb1 o)
  | 0, _, _, _, o, h => by rw [f50n2] at h; cases h
  | f + 1, bb1, v16, v17, o, h => by
    rw [f50n2] at h
    refine TL.body (K := fun s => ∃ v16 : Int, ∃ v17 : List (ByteArray × Int), s = (f50n2S bb1 v16 v17) ∧ (f50n2 f bb1 v16 v17) = some o) ?_ (by rintro _ ⟨v16, v17, rfl, hk⟩; exact f50n2_ok f _ _ _ hk)
    rcases cond_cases h with ⟨h19, h⟩ | ⟨h19, h⟩
    · obtain ⟨x22, h23, h⟩ := bind_cases h
      exact run_end cfg_ok (rs := [([], [], []), ([], [(0, .idx (Int.toNat v16) (JournalLine.cells x22))], []), ([], [(3, .look ((pInt .i64) (mGet seq 0 x22.Ccy v17)) (mHas seq x22.Ccy v17)), (7, .mset ((mPut seq x22.Ccy (wr64 ((mGet seq 0 x22.Ccy v17) + x22.Amount)) v17).map (mkv pStr (pInt .i64))))], []), ([], [], [])]) (ps := [some true]) (tds := []) (m := [0]) (keep := [3, 10, 11, 12]) (r := (.norm, (f50n2S bb1 (wr64 (v16 + 1)) (mPut seq x22.Ccy (wr64 ((mGet seq 0 x22.Ccy v17) + x22.Amount)) v17)))) (by kernel_rfl) (ap h19 (ap (at_some h23).1 (ap (at_map JournalLine.cells (at_some h23).2) (ap (look_map (vp := (pInt .i64)) (e := 3) key_9 0 (by kernel_rfl) x22.Ccy v17) (ap (mset_map (vp := (pInt .i64)) key_9 x22.Ccy (wr64 ((mGet seq 0 x22.Ccy v17) + x22.Amount)) v17) an))))) (LoopQ.norm ⟨(wr64 (v16 + 1)), (mPut seq x22.Ccy (wr64 ((mGet seq 0 x22.Ccy v17) + x22.Amount)) v17), rfl, h⟩)
    · obtain rfl := some_inj h
      exact runK_end cfg_ok (k := 2) (rs := [([], [], [])]) (ps := [some false]) (tds := []) (m := [0]) (keep := [3]) (ex := (.exit 0)) (st' := (f50n2E bb1 (.exit0 v17)).2) (by kernel_rfl) (ap h19 an) (fun h => nomatch h) (LoopQ.out rfl rfl)
noncomputable def f50n2L (bb1 : JournalRecord) : List JournalLine → Int → (List (ByteArray × Int)) → Option f50n2O
  | [], v16, v17 =>
    some (.exit0 v17)
  | x0 :: rest, v16, v17 =>
    (f50n2L bb1 rest (v16 + 1) (mPut seq x0.Ccy (wr64 ((mGet seq 0 x0.Ccy v17) + x0.Amount)) v17))
theorem f50n2L_eq (bb1 : JournalRecord) : ∀ (rest : List JournalLine) (f k : Nat) (v17 : List (ByteArray × Int)), bb1.Lines.drop k = rest → bb1.Lines.length ≤ maxLen → rest.length < f → f50n2 f bb1 (k : Int) v17 = f50n2L bb1 rest (k : Int) v17
  | _, 0, _, _, _, _, hf => absurd hf (Nat.not_lt_zero _)
  | [], f + 1, k, v17, hd, hm, hf => by
    have hk : ¬ ((k : Int) < (bb1.Lines.length : Int)) := by have := drop_nil hd; omega
    rw [f50n2, f50n2L]
    simp only [decide_eq_false hk, cond_false]
  | x0 :: rest, f + 1, k, v17, hd, hm, hf => by
    obtain ⟨hx, hlt, hd'⟩ := drop_cons hd
    have hk : (k : Int) < (bb1.Lines.length : Int) := by omega
    have hw : wr64 ((k : Int) + 1) = (k : Int) + 1 := wr64_of (by omega) (by unfold maxLen at hm; omega)
    have ih : ∀ (v17 : List (ByteArray × Int)), f50n2 f bb1 ((k : Int) + 1) v17 = f50n2L bb1 rest ((k : Int) + 1) v17 := fun v17 => f50n2L_eq bb1 rest f (k + 1) v17 hd' hm (by simpa using hf)
    rw [f50n2, f50n2L]
    simp only [decide_eq_true hk, cond_true, at_nat, hx, Option.bind_some, hw, ih]
theorem f50n2_run (bb1 : JournalRecord) (v17 : List (ByteArray × Int)) (hm : bb1.Lines.length ≤ maxLen) : f50n2 FUEL bb1 0 v17 = f50n2L bb1 bb1.Lines 0 v17 := f50n2L_eq bb1 bb1.Lines FUEL 0 v17 List.drop_zero hm (lt_FUEL hm)
inductive f50n1O where
  | norm (v28 : List (ByteArray × Int))
def f50n1E (bb1 : JournalRecord) : f50n1O → Ex × Tr × Hp
  | .norm v28 => (.norm, mkS [(3, (.mp 0))], [some (.map (v28.map (mkv pStr (pInt .i64))))])
def f50n1S (bb1 : JournalRecord) : Tr × Hp := (mkS [(1, (.bp 0 0)), (3, (.mp 1))], [some (.box ((JournalRecord.cells bb1).map .pl)), some (.map ([].map (mkv pStr (pInt .i64))))])
noncomputable def f50n1 (bb1 : JournalRecord) : Option f50n1O :=
  (f50n2 FUEL bb1 0 []).bind fun o25 => match o25 with
  | .exit0 v27 => some (.norm v27)
theorem f50n1_ok (bb1 : JournalRecord) {o : f50n1O} (h : (f50n1 bb1) = some o) : T Try.prog Try.f50.ntmps 0 (cL (dropC 2 c50)) (f50n1S bb1) (fun r => r = f50n1E bb1 o) := by
  unfold f50n1 at h
  refine runK_norm cfg_ok (k := 1) (rs := [([], [], [(2, .val (.pl (.int .i64 (bb1.Lines.length : Int))))])]) (ps := []) (tds := []) (m := [1]) (keep := [3, 10, 11, 12]) (st' := (f50n2S bb1 0 [])) (by kernel_rfl) (ap (len_cv (xs := bb1.Lines) (c := JournalLine.cells)) an) ?_
  obtain ⟨o25, h26, h⟩ := bind_cases h
  cases o25 with
  | exit0 v27 =>
    obtain rfl := some_inj h
    exact T.last' (T.bl (i := 0) (by kernel_rfl) (by kernel_rfl) (f50n2_ok FUEL bb1 0 [] h26)) (tds := []) (m := [0]) (keep := [3]) (st2 := (f50n1E bb1 (.norm v27)).2) (by kernel_rfl) an rfl
inductive f50n4O where
  | exit2
  | ret
def f50n4E (be1 : List (ByteArray × Int)) : f50n4O → Ex × Tr × Hp
  | .exit2 => ((.exit 2), mkS [], [])
  | .ret => (.ret, mkS [(2, (.pl (.bool false)))], [])
def f50n4S (be1 : List (ByteArray × Int)) (sn0 : List Nat) : Tr × Hp := (mkS [(25, (.it 0))], [some (.iter 1 (be1.map (mkv pStr (pInt .i64))).length sn0), some (.map (be1.map (mkv pStr (pInt .i64))))])
noncomputable def f50n4 (be1 : List (ByteArray × Int)) : List (ByteArray × Int) → Option f50n4O
  | [] =>
    some .exit2
  | x38 :: rest =>
    bif (decide (x38.2 = 0)) then
      (f50n4 be1 rest)
    else
      some .ret
theorem f50n4_ok (be1 : List (ByteArray × Int)) : ∀ (f : Nat) (sn0 rem : List Nat) {o : f50n4O}, Rem be1.length sn0 rem → rem.length < f → (∀ p, p.Perm rem → f50n4 be1 (ords be1 p) = some o) → TL Try.prog Try.f50.ntmps 0 f (cL (cL (dropC 1 (cL (dropC 0 (dropC 1 (dropC 2 c50))))))) (f50n4S be1 sn0) (fun r => r = f50n4E be1 o)
  | 0, _, _, _, _, hf, _ => absurd hf (Nat.not_lt_zero _)
  | f + 1, sn0, rem, o, hR, hf, H => by
    refine TL.body (K := fun s => ∃ (sn0 rem : List Nat), s = f50n4S be1 sn0 ∧ Rem be1.length sn0 rem ∧ rem.length < f ∧ (∀ p, p.Perm rem → f50n4 be1 (ords be1 p) = some o)) ?_ (by rintro _ ⟨sn0, rem, rfl, h1, h2, h3⟩; exact f50n4_ok be1 f sn0 rem h1 h2 h3)
    refine T.oneNext cfg_ok (x := .tmp 25) (t := 26) (tb := 27) (i := 0) (o := 1) (m := (be1.map (mkv pStr (pInt .i64))).length) (seen := sn0) (kvs := (be1.map (mkv pStr (pInt .i64)))) (by kernel_rfl) (by kernel_rfl) (by kernel_rfl) (by kernel_rfl) (by kernel_rfl) (by kernel_rfl) rfl (fun hs => ?_) (fun j37 k v hj hs hx => ?_)
    · obtain rfl := hR.none (by simpa using hs)
      have h : f50n4 be1 [] = some o := H [] (List.Perm.refl _)
      rw [f50n4] at h
      obtain rfl := some_inj h
      exact runK_end cfg_ok (k := 1) (rs := []) (ps := [none]) (tds := []) (m := []) (keep := []) (ex := (.exit 2)) (st' := (f50n4E be1 .exit2).2) (by kernel_rfl) an (fun h => nomatch h) (LoopQ.out rfl rfl)
    · obtain ⟨x38, h39, rfl, rfl⟩ := mkv_at hx
      obtain ⟨hR2, hlen, hP⟩ := hR.step (j := j37) (by simpa using hj) hs
      have H2 : ∀ p, p.Perm (rem.erase j37) → f50n4 be1 (x38 :: ords be1 p) = some o := fun p hp => by have h := H _ (hP p hp); rwa [ords_cons h39] at h
      have h := H2 _ (List.Perm.refl _)
      rw [f50n4] at h
      rcases cond_cases h with ⟨h41, h⟩ | ⟨h41, h⟩
      · exact run_end cfg_ok (rs := [([], [(0, .entr j37 (pStr x38.1) ((pInt .i64) x38.2))], []), ([], [], [])]) (ps := [none, some false]) (tds := []) (m := [0, 1]) (keep := [25]) (r := (.norm, (f50n4S be1 (sn0 ++ [j37])))) (by kernel_rfl) (ap (last_app (seen := sn0) (j := j37)) (ap (rfl : (be1.map (mkv pStr (pInt .i64))).length = (be1.map (mkv pStr (pInt .i64))).length) (ap (at_mkv (kp := pStr) (vp := (pInt .i64)) h39) (ap (not_t h41) an)))) (LoopQ.norm ⟨sn0 ++ [j37], rem.erase j37, rfl, hR2, by omega, fun p hp => by have h := H2 p hp; rw [f50n4] at h; simp only [h41, cond_true, cond_false, Option.bind_some, req] at h; exact h⟩)
      · obtain rfl := some_inj h
        exact run_end cfg_ok (rs := [([], [(0, .entr j37 (pStr x38.1) ((pInt .i64) x38.2))], []), ([], [], []), ([], [], [])]) (ps := [none, some true]) (tds := []) (m := []) (keep := [2]) (r := (.ret, (f50n4E be1 .ret).2)) (by kernel_rfl) (ap (last_app (seen := sn0) (j := j37)) (ap (rfl : (be1.map (mkv pStr (pInt .i64))).length = (be1.map (mkv pStr (pInt .i64))).length) (ap (at_mkv (kp := pStr) (vp := (pInt .i64)) h39) (ap (not_f h41) an)))) (LoopQ.out rfl rfl)
inductive f50n3O where
  | norm
  | ret
def f50n3E (be1 : List (ByteArray × Int)) : f50n3O → Ex × Tr × Hp
  | .norm => (.norm, mkS [], [])
  | .ret => (.ret, mkS [(2, (.pl (.bool false)))], [])
def f50n3S (be1 : List (ByteArray × Int)) : Tr × Hp := (mkS [(3, (.mp 0))], [some (.map (be1.map (mkv pStr (pInt .i64))))])
noncomputable def f50n3 (be1 : List (ByteArray × Int)) : Option f50n3O :=
  (anyOrder be1 fun p => (f50n4 be1 p)).bind fun o42 => match o42 with
  | .exit2 => some .norm
  | .ret => some .ret
theorem f50n3_ok (be1 : List (ByteArray × Int)) {o : f50n3O} (h : (f50n3 be1) = some o) : T Try.prog Try.f50.ntmps 0 (cL (dropC 0 (dropC 1 (dropC 2 c50)))) (f50n3S be1) (fun r => r = f50n3E be1 o) := by
  unfold f50n3 at h
  refine runK_norm cfg_ok (k := 1) (rs := [([], [], [])]) (ps := []) (tds := []) (m := [1, 0]) (keep := [25]) (st' := (f50n4S be1 [])) (by kernel_rfl) an ?_
  obtain ⟨o42, h43, h⟩ := bind_cases h
  cases o42 with
  | exit2 =>
    obtain rfl := some_inj h
    exact T.last' (T.bl (i := 2) (by kernel_rfl) (by kernel_rfl) (f50n4_ok be1 _ [] (List.range be1.length) (Rem.start _) (Nat.lt_succ_self _) (fun p hp => anyOrder_at h43 _ (ords_perm hp)))) (tds := []) (m := []) (keep := []) (st2 := (f50n3E be1 .norm).2) (by kernel_rfl) an rfl
  | ret =>
    obtain rfl := some_inj h
    exact T.last' (T.bl (i := 2) (by kernel_rfl) (by kernel_rfl) (f50n4_ok be1 _ [] (List.range be1.length) (Rem.start _) (Nat.lt_succ_self _) (fun p hp => anyOrder_at h43 _ (ords_perm hp)))) (tds := []) (m := []) (keep := [2]) (st2 := (f50n3E be1 .ret).2) (by kernel_rfl) an rfl
inductive f50n0O where
  | ret (v46 : Bool)
def f50n0E (a1 : JournalRecord) : f50n0O → Ex × Tr × Hp
  | .ret v46 => (.ret, mkS [(2, (.pl (.bool v46)))], [])
def f50n0S (a1 : JournalRecord) : Tr × Hp := (initS [(.pl (.agg (JournalRecord.cells a1)))] 0 .leaf, [])
noncomputable def f50n0 (a1 : JournalRecord) : Option f50n0O :=
  (f50n1 a1).bind fun o29 => match o29 with
  | .norm v31 => (f50n3 v31).bind fun o44 => match o44 with
    | .norm => some (.ret true)
    | .ret => some (.ret false)
theorem f50n0_ok (a1 : JournalRecord) {o : f50n0O} (h : (f50n0 a1) = some o) : T Try.prog Try.f50.ntmps 0 c50 (f50n0S a1) (fun r => r = f50n0E a1 o) := by
  unfold f50n0 at h
  refine runK_norm cfg_ok (k := 2) (rs := [([], [], []), ([], [], [])]) (ps := []) (tds := []) (m := [0, 1]) (keep := [1, 3]) (st' := (f50n1S a1)) (by kernel_rfl) an ?_
  obtain ⟨o29, h30, h⟩ := bind_cases h
  cases o29 with
  | norm v31 =>
    refine T.oneN (by kernel_rfl) (f50n1_ok a1 h30) (st2 := (f50n1E a1 (.norm v31)).2) rfl ?_
    refine runK_norm cfg_ok (k := 0) (rs := []) (ps := []) (tds := []) (m := [0]) (keep := [3]) (st' := (f50n3S v31)) (by kernel_rfl) an ?_
    obtain ⟨o44, h45, h⟩ := bind_cases h
    cases o44 with
    | norm =>
      refine T.oneN (by kernel_rfl) (f50n3_ok v31 h45) (st2 := (f50n3E v31 .norm).2) rfl ?_
      obtain rfl := some_inj h
      exact run_end cfg_ok (rs := [([], [], [])]) (ps := []) (tds := []) (m := []) (keep := [2]) (r := (.ret, (f50n0E a1 (.ret true)).2)) (by kernel_rfl) an rfl
    | ret =>
      obtain rfl := some_inj h
      exact T.oneX' (by kernel_rfl) (f50n3_ok v31 h45) (tds := []) (m := []) (keep := [2]) (st2 := (f50n0E a1 (.ret false)).2) (by kernel_rfl) an rfl rfl
noncomputable def f50 (a1 : JournalRecord) : Option Bool := (f50n0 a1).bind fun o => match o with
  | .ret v46 => some v46
theorem f50_ok (a1 : JournalRecord) {r : Bool} (h : (f50 a1) = some r) : CallS Try.prog false 50 [(.pl (.agg (JournalRecord.cells a1)))] [] (.pl (.bool r)) [] := by
  unfold f50 at h
  obtain ⟨o, ho, h⟩ := bind_cases h
  cases o with
  | ret v46 =>
    obtain rfl := some_inj h
    exact CallS.plain cfg_ok (f := Try.f50) (c := c50) (by kernel_rfl) (by kernel_rfl) (by kernel_rfl) (by kernel_rfl) ((f50n0_ok a1 ho).mono fun r e => by subst e; exact ⟨.inl rfl, (.pl (.bool v46)), (.pl (.bool v46)), by kernel_rfl, by kernel_rfl, ((Wk.refl _) : Wk (.pl (.bool v46)) (.pl (.bool v46)))⟩)

noncomputable def c69 : Code := Try.f69.body.getD .skip
inductive f69r1n0O where
  | ret (v9 : Bool)
def f69r1n0E (a1 : JournalLine) (a2 : Int) (a3 : Int) (a4 : List (Account_ × Int)) : f69r1n0O → Ex × Tr × Hp
  | .ret v9 => (.ret, mkS [(3, (.pl (.bool v9)))], [some (.box [(.bp 1 0)]), some (.box [(.mp 2), (.pl (.int .i64 a2)), (.pl (.int .i64 a3))]), some (.map (a4.map (mkv (pAgg Account_.cells) (pInt .i64))))])
def f69r1n0S (a1 : JournalLine) (a2 : Int) (a3 : Int) (a4 : List (Account_ × Int)) : Tr × Hp := (initS [(.pl (.agg (JournalLine.cells a1))), (.bp 0 0)] 0 .leaf, [some (.box [(.bp 1 0)]), some (.box [(.mp 2), (.pl (.int .i64 a2)), (.pl (.int .i64 a3))]), some (.map (a4.map (mkv (pAgg Account_.cells) (pInt .i64))))])
noncomputable def f69r1n0 (a1 : JournalLine) (a2 : Int) (a3 : Int) (a4 : List (Account_ × Int)) : Option f69r1n0O :=
  (f65 (mGet Account_.eqb 0 (Account_.mk a1.Account a1.Ccy) a4)).bind fun x7 =>
  some (.ret (!x7))
theorem f69r1n0_ok (a1 : JournalLine) (a2 : Int) (a3 : Int) (a4 : List (Account_ × Int)) {o : f69r1n0O} (h : (f69r1n0 a1 a2 a3 a4) = some o) : T Try.prog Try.f69.ntmps 3 c69 (f69r1n0S a1 a2 a3 a4) (fun r => r = f69r1n0E a1 a2 a3 a4 o) := by
  unfold f69r1n0 at h
  obtain ⟨x7, h8, h⟩ := bind_cases h
  obtain rfl := some_inj h
  exact run_end cfg_ok (rs := [([], [], []), ([], [(9, .look ((pInt .i64) (mGet Account_.eqb 0 (Account_.mk a1.Account a1.Ccy) a4)) (mHas Account_.eqb (Account_.mk a1.Account a1.Ccy) a4)), (10, .call (.pl (.bool x7)) [])], [])]) (ps := []) (tds := []) (m := []) (keep := [3]) (r := (.ret, (f69r1n0E a1 a2 a3 a4 (.ret (!x7))).2)) (by kernel_rfl) (ap (look_map (vp := (pInt .i64)) (e := 3) key_95 0 (by kernel_rfl) (Account_.mk a1.Account a1.Ccy) a4) (ap (f65_ok (mGet Account_.eqb 0 (Account_.mk a1.Account a1.Ccy) a4) h8) an)) rfl
noncomputable def f69r1 (a1 : JournalLine) (a2 : Int) (a3 : Int) (a4 : List (Account_ × Int)) : Option Bool := (f69r1n0 a1 a2 a3 a4).bind fun o => match o with
  | .ret v9 => some v9
theorem f69r1_ok (a1 : JournalLine) (a2 : Int) (a3 : Int) (a4 : List (Account_ × Int)) {r : Bool} (h : (f69r1 a1 a2 a3 a4) = some r) : CallS Try.prog true 69 [(.pl (.agg (JournalLine.cells a1))), (.bp 0 0)] [some (.box [(.bp 1 0)]), some (.box [(.mp 2), (.pl (.int .i64 a2)), (.pl (.int .i64 a3))]), some (.map (a4.map (mkv (pAgg Account_.cells) (pInt .i64))))] (.pl (.bool r)) [some (.box [(.bp 1 0)]), some (.box [(.mp 2), (.pl (.int .i64 a2)), (.pl (.int .i64 a3))]), some (.map (a4.map (mkv (pAgg Account_.cells) (pInt .i64))))] := by
  unfold f69r1 at h
  obtain ⟨o, ho, h⟩ := bind_cases h
  cases o with
  | ret v9 =>
    obtain rfl := some_inj h
    exact CallS.shared cfg_ok (f := Try.f69) (c := c69) (by kernel_rfl) (by kernel_rfl) (by kernel_rfl) ((f69r1n0_ok a1 a2 a3 a4 ho).mono fun r e => by subst e; exact ⟨.inl rfl, by kernel_rfl, by kernel_rfl⟩)

inductive f71r1n2O where
  | exit0
  | ret (v43 : Int)
def f71r1n2E (bc1 : List JournalLine) (bf2 : Int) (bf3 : Int) (bg4 : List (Account_ × Int)) : f71r1n2O → Ex × Tr × Hp
  | .exit0 => ((.exit 0), mkS [], [some (.box [(.bp 1 0)]), some (.box [(.mp 2), (.pl (.int .i64 bf2)), (.pl (.int .i64 bf3))]), some (.map (bg4.map (mkv (pAgg Account_.cells) (pInt .i64))))])
  | .ret v43 => (.ret, mkS [(4, (.pl (.int .i64 v43)))], [some (.box [(.bp 1 0)]), some (.box [(.mp 2), (.pl (.int .i64 bf2)), (.pl (.int .i64 bf3))]), some (.map (bg4.map (mkv (pAgg Account_.cells) (pInt .i64))))])
def f71r1n2S (bc1 : List JournalLine) (bf2 : Int) (bf3 : Int) (bg4 : List (Account_ × Int)) (v30 : Int) : Tr × Hp := (mkS [(0, (.pl (.sl .any 3 (bc1.map JournalLine.cells)))), (1, (.clo 69 [(.bp 0 0)])), (7, (.pl (.int .i64 (bc1.length : Int)))), (8, (.pl (.int .i64 v30)))], [some (.box [(.bp 1 0)]), some (.box [(.mp 2), (.pl (.int .i64 bf2)), (.pl (.int .i64 bf3))]), some (.map (bg4.map (mkv (pAgg Account_.cells) (pInt .i64))))])
noncomputable def f71r1n2 : Nat → List JournalLine → Int → Int → List (Account_ × Int) → Int → Option f71r1n2O
  | 0, _, _, _, _, _ => none
  | f + 1, bc1, bf2, bf3, bg4, v30 =>
    bif (decide (v30 < (bc1.length : Int))) then
      (at? bc1 v30).bind fun x38 =>
      (f69r1 x38 bf2 bf3 bg4).bind fun x40 =>
      bif x40 then
        some (.ret v30)
      else
        (f71r1n2 f bc1 bf2 bf3 bg4 (wr64 (v30 + 1)))
    else
      some .exit0
theorem f71r1n2_ok : ∀ (f : Nat) (bc1 : List JournalLine) (bf2 : Int) (bf3 : Int) (bg4 : List (Account_ × Int)) (v30 : Int) {o : f71r1n2O}, (f71r1n2 f bc1 bf2 bf3 bg4 v30) = some o → TL Try.prog Try.f71.ntmps 3 f (cL (cL (dropC 1 (cL (dropC 1 c71))))) (f71r1n2S bc1 bf2 bf3 bg4 v30) (fun r => r = f71r1n2E bc1 bf2 bf3 bg4 o)
  | 0, _, _, _, _, _, o, h => by rw [f71r1n2] at h; cases h
  | f + 1, bc1, bf2, bf3, bg4, v30, o, h => by
    rw [f71r1n2] at h
    refine TL.body (K := fun s => ∃ v30 : Int, s = (f71r1n2S bc1 bf2 bf3 bg4 v30) ∧ (f71r1n2 f bc1 bf2 bf3 bg4 v30) = some o) ?_ (by rintro _ ⟨v30, rfl, hk⟩; exact f71r1n2_ok f _ _ _ _ _ hk)
    rcases cond_cases h with ⟨h32, h⟩ | ⟨h32, h⟩
    · obtain ⟨x38, h39, h⟩ := bind_cases h
      obtain ⟨x40, h41, h⟩ := bind_cases h
      rcases cond_cases h with ⟨h42, h⟩ | ⟨h42, h⟩
      · obtain rfl := some_inj h
        exact runK_end cfg_ok (k := 3) (rs := [([], [], []), ([], [], []), ([], [(3, .idx (Int.toNat v30) (JournalLine.cells x38)), (5, .call (.pl (.bool x40)) [some (.box [(.bp 1 0)]), some (.box [(.mp 2), (.pl (.int .i64 bf2)), (.pl (.int .i64 bf3))]), some (.map (bg4.map (mkv (pAgg Account_.cells) (pInt .i64))))])], []), ([], [], [])]) (ps := [some true, some true]) (tds := []) (m := []) (keep := [4]) (ex := .ret) (st' := (f71r1n2E bc1 bf2 bf3 bg4 (.ret v30)).2) (by kernel_rfl) (ap h32 (ap (at_some h39).1 (ap (at_map JournalLine.cells (at_some h39).2) (ap (f69r1_ok x38 bf2 bf3 bg4 h41) (ap h42 an))))) (fun h => nomatch h) (LoopQ.out rfl rfl)
      · exact run_end cfg_ok (rs := [([], [], []), ([], [], []), ([], [(3, .idx (Int.toNat v30) (JournalLine.cells x38)), (5, .call (.pl (.bool x40)) [some (.box [(.bp 1 0)]), some (.box [(.mp 2), (.pl (.int .i64 bf2)), (.pl (.int .i64 bf3))]), some (.map (bg4.map (mkv (pAgg Account_.cells) (pInt .i64))))])], []), ([], [], [])]) (ps := [some true, some false]) (tds := []) (m := []) (keep := [0, 1, 7, 8]) (r := (.norm, (f71r1n2S bc1 bf2 bf3 bg4 (wr64 (v30 + 1))))) (by kernel_rfl) (ap h32 (ap (at_some h39).1 (ap (at_map JournalLine.cells (at_some h39).2) (ap (f69r1_ok x38 bf2 bf3 bg4 h41) (ap h42 an))))) (LoopQ.norm ⟨(wr64 (v30 + 1)), rfl, h⟩)
    · obtain rfl := some_inj h
      exact runK_end cfg_ok (k := 2) (rs := [([], [], [])]) (ps := [some false]) (tds := []) (m := []) (keep := []) (ex := (.exit 0)) (st' := (f71r1n2E bc1 bf2 bf3 bg4 .exit0).2) (by kernel_rfl) (ap h32 an) (fun h => nomatch h) (LoopQ.out rfl rfl)
noncomputable def f71r1n2L (bc1 : List JournalLine) (bf2 : Int) (bf3 : Int) (bg4 : List (Account_ × Int)) : List JournalLine → Int → Option f71r1n2O
  | [], v30 =>
    some .exit0
  | x0 :: rest, v30 =>
    (f69r1 x0 bf2 bf3 bg4).bind fun x40 =>
    bif x40 then
      some (.ret v30)
    else
      (f71r1n2L bc1 bf2 bf3 bg4 rest (v30 + 1))
theorem f71r1n2L_eq (bc1 : List JournalLine) (bf2 : Int) (bf3 : Int) (bg4 : List (Account_ × Int)) : ∀ (rest : List JournalLine) (f k : Nat), bc1.drop k = rest → bc1.length ≤ maxLen → rest.length < f → f71r1n2 f bc1 bf2 bf3 bg4 (k : Int) = f71r1n2L bc1 bf2 bf3 bg4 rest (k : Int)
  | _, 0, _, _, _, hf => absurd hf (Nat.not_lt_zero _)
  | [], f + 1, k, hd, hm, hf => by
    have hk : ¬ ((k : Int) < (bc1.length : Int)) := by have := drop_nil hd; omega
    rw [f71r1n2, f71r1n2L]
    simp only [decide_eq_false hk, cond_false]
  | x0 :: rest, f + 1, k, hd, hm, hf => by
    obtain ⟨hx, hlt, hd'⟩ := drop_cons hd
    have hk : (k : Int) < (bc1.length : Int) := by omega
    have hw : wr64 ((k : Int) + 1) = (k : Int) + 1 := wr64_of (by omega) (by unfold maxLen at hm; omega)
    have ih : f71r1n2 f bc1 bf2 bf3 bg4 ((k : Int) + 1) = f71r1n2L bc1 bf2 bf3 bg4 rest ((k : Int) + 1) := f71r1n2L_eq bc1 bf2 bf3 bg4 rest f (k + 1) hd' hm (by simpa using hf)
    rw [f71r1n2, f71r1n2L]
    simp only [decide_eq_true hk, cond_true, at_nat, hx, Option.bind_some, hw, ih]
theorem f71r1n2_run (bc1 : List JournalLine) (bf2 : Int) (bf3 : Int) (bg4 : List (Account_ × Int)) (hm : bc1.length ≤ maxLen) : f71r1n2 FUEL bc1 bf2 bf3 bg4 0 = f71r1n2L bc1 bf2 bf3 bg4 bc1 0 := f71r1n2L_eq bc1 bf2 bf3 bg4 bc1 FUEL 0 List.drop_zero hm (lt_FUEL hm)
inductive f71r1n1O where
  | norm
  | ret (v47 : Int)
def f71r1n1E (bc1 : List JournalLine) (bf2 : Int) (bf3 : Int) (bg4 : List (Account_ × Int)) : f71r1n1O → Ex × Tr × Hp
  | .norm => (.norm, mkS [], [some (.box [(.bp 1 0)]), some (.box [(.mp 2), (.pl (.int .i64 bf2)), (.pl (.int .i64 bf3))]), some (.map (bg4.map (mkv (pAgg Account_.cells) (pInt .i64))))])
  | .ret v47 => (.ret, mkS [(4, (.pl (.int .i64 v47)))], [some (.box [(.bp 1 0)]), some (.box [(.mp 2), (.pl (.int .i64 bf2)), (.pl (.int .i64 bf3))]), some (.map (bg4.map (mkv (pAgg Account_.cells) (pInt .i64))))])
def f71r1n1S (bc1 : List JournalLine) (bf2 : Int) (bf3 : Int) (bg4 : List (Account_ × Int)) : Tr × Hp := (mkS [(0, (.pl (.sl .any 3 (bc1.map JournalLine.cells)))), (1, (.clo 69 [(.bp 0 0)]))], [some (.box [(.bp 1 0)]), some (.box [(.mp 2), (.pl (.int .i64 bf2)), (.pl (.int .i64 bf3))]), some (.map (bg4.map (mkv (pAgg Account_.cells) (pInt .i64))))])
noncomputable def f71r1n1 (bc1 : List JournalLine) (bf2 : Int) (bf3 : Int) (bg4 : List (Account_ × Int)) : Option f71r1n1O :=
  (f71r1n2 FUEL bc1 bf2 bf3 bg4 0).bind fun o44 => match o44 with
  | .exit0 => some .norm
  | .ret v46 => some (.ret v46)
theorem f71r1n1_ok (bc1 : List JournalLine) (bf2 : Int) (bf3 : Int) (bg4 : List (Account_ × Int)) {o : f71r1n1O} (h : (f71r1n1 bc1 bf2 bf3 bg4) = some o) : T Try.prog Try.f71.ntmps 3 (cL (dropC 1 c71)) (f71r1n1S bc1 bf2 bf3 bg4) (fun r => r = f71r1n1E bc1 bf2 bf3 bg4 o) := by
  unfold f71r1n1 at h
  refine runK_norm cfg_ok (k := 1) (rs := [([], [], [(1, .val (.pl (.int .i64 (bc1.length : Int))))])]) (ps := []) (tds := []) (m := []) (keep := [0, 1, 7, 8]) (st' := (f71r1n2S bc1 bf2 bf3 bg4 0)) (by kernel_rfl) (ap (len_cv (xs := bc1) (c := JournalLine.cells)) an) ?_
  obtain ⟨o44, h45, h⟩ := bind_cases h
  cases o44 with
  | exit0 =>
    obtain rfl := some_inj h
    exact T.last' (T.bl (i := 0) (by kernel_rfl) (by kernel_rfl) (f71r1n2_ok FUEL bc1 bf2 bf3 bg4 0 h45)) (tds := []) (m := []) (keep := []) (st2 := (f71r1n1E bc1 bf2 bf3 bg4 .norm).2) (by kernel_rfl) an rfl
  | ret v46 =>
    obtain rfl := some_inj h
    exact T.last' (T.bl (i := 0) (by kernel_rfl) (by kernel_rfl) (f71r1n2_ok FUEL bc1 bf2 bf3 bg4 0 h45)) (tds := []) (m := []) (keep := [4]) (st2 := (f71r1n1E bc1 bf2 bf3 bg4 (.ret v46)).2) (by kernel_rfl) an rfl
inductive f71r1n0O where
  | ret (v51 : Int)
def f71r1n0E (a1 : List JournalLine) (a2 : Int) (a3 : Int) (a4 : List (Account_ × Int)) : f71r1n0O → Ex × Tr × Hp
  | .ret v51 => (.ret, mkS [(4, (.pl (.int .i64 v51)))], [some (.box [(.bp 1 0)]), some (.box [(.mp 2), (.pl (.int .i64 a2)), (.pl (.int .i64 a3))]), some (.map (a4.map (mkv (pAgg Account_.cells) (pInt .i64))))])
def f71r1n0S (a1 : List JournalLine) (a2 : Int) (a3 : Int) (a4 : List (Account_ × Int)) : Tr × Hp := (initS [(.pl (.sl .any 3 (a1.map JournalLine.cells))), (.clo 69 [(.bp 0 0)])] 0 .leaf, [some (.box [(.bp 1 0)]), some (.box [(.mp 2), (.pl (.int .i64 a2)), (.pl (.int .i64 a3))]), some (.map (a4.map (mkv (pAgg Account_.cells) (pInt .i64))))])
noncomputable def f71r1n0 (a1 : List JournalLine) (a2 : Int) (a3 : Int) (a4 : List (Account_ × Int)) : Option f71r1n0O :=
  (f71r1n1 a1 a2 a3 a4).bind fun o48 => match o48 with
  | .norm => some (.ret (-1))
  | .ret v50 => some (.ret v50)
theorem f71r1n0_ok (a1 : List JournalLine) (a2 : Int) (a3 : Int) (a4 : List (Account_ × Int)) {o : f71r1n0O} (h : (f71r1n0 a1 a2 a3 a4) = some o) : T Try.prog Try.f71.ntmps 3 c71 (f71r1n0S a1 a2 a3 a4) (fun r => r = f71r1n0E a1 a2 a3 a4 o) := by
  unfold f71r1n0 at h
  refine runK_norm cfg_ok (k := 1) (rs := [([], [], [])]) (ps := []) (tds := []) (m := []) (keep := [0, 1]) (st' := (f71r1n1S a1 a2 a3 a4)) (by kernel_rfl) an ?_
  obtain ⟨o48, h49, h⟩ := bind_cases h
  cases o48 with
  | norm =>
    refine T.oneN (by kernel_rfl) (f71r1n1_ok a1 a2 a3 a4 h49) (st2 := (f71r1n1E a1 a2 a3 a4 .norm).2) rfl ?_
    obtain rfl := some_inj h
    exact run_end cfg_ok (rs := [([], [], [])]) (ps := []) (tds := []) (m := []) (keep := [4]) (r := (.ret, (f71r1n0E a1 a2 a3 a4 (.ret (-1))).2)) (by kernel_rfl) an rfl
  | ret v50 =>
    obtain rfl := some_inj h
    exact T.oneX' (by kernel_rfl) (f71r1n1_ok a1 a2 a3 a4 h49) (tds := []) (m := []) (keep := [4]) (st2 := (f71r1n0E a1 a2 a3 a4 (.ret v50)).2) (by kernel_rfl) an rfl rfl
noncomputable def f71r1 (a1 : List JournalLine) (a2 : Int) (a3 : Int) (a4 : List (Account_ × Int)) : Option Int := (f71r1n0 a1 a2 a3 a4).bind fun o => match o with
  | .ret v51 => some v51
theorem f71r1_ok (a1 : List JournalLine) (a2 : Int) (a3 : Int) (a4 : List (Account_ × Int)) {r : Int} (h : (f71r1 a1 a2 a3 a4) = some r) : CallS Try.prog true 71 [(.pl (.sl .any 3 (a1.map JournalLine.cells))), (.clo 69 [(.bp 0 0)])] [some (.box [(.bp 1 0)]), some (.box [(.mp 2), (.pl (.int .i64 a2)), (.pl (.int .i64 a3))]), some (.map (a4.map (mkv (pAgg Account_.cells) (pInt .i64))))] (.pl (.int .i64 r)) [some (.box [(.bp 1 0)]), some (.box [(.mp 2), (.pl (.int .i64 a2)), (.pl (.int .i64 a3))]), some (.map (a4.map (mkv (pAgg Account_.cells) (pInt .i64))))] := by
  unfold f71r1 at h
  obtain ⟨o, ho, h⟩ := bind_cases h
  cases o with
  | ret v51 =>
    obtain rfl := some_inj h
    exact CallS.shared cfg_ok (f := Try.f71) (c := c71) (by kernel_rfl) (by kernel_rfl) (by kernel_rfl) ((f71r1n0_ok a1 a2 a3 a4 ho).mono fun r e => by subst e; exact ⟨.inl rfl, by kernel_rfl, by kernel_rfl⟩)

inductive f66r1n0O where
  | ret (v9 : Bool)
def f66r1n0E (a1 : List JournalLine) (a2 : Int) (a3 : Int) (a4 : List (Account_ × Int)) : f66r1n0O → Ex × Tr × Hp
  | .ret v9 => (.ret, mkS [(4, (.pl (.bool v9)))], [some (.box [(.bp 1 0)]), some (.box [(.mp 2), (.pl (.int .i64 a2)), (.pl (.int .i64 a3))]), some (.map (a4.map (mkv (pAgg Account_.cells) (pInt .i64))))])
def f66r1n0S (a1 : List JournalLine) (a2 : Int) (a3 : Int) (a4 : List (Account_ × Int)) : Tr × Hp := (initS [(.pl (.sl .any 3 (a1.map JournalLine.cells))), (.clo 69 [(.bp 0 0)])] 0 .leaf, [some (.box [(.bp 1 0)]), some (.box [(.mp 2), (.pl (.int .i64 a2)), (.pl (.int .i64 a3))]), some (.map (a4.map (mkv (pAgg Account_.cells) (pInt .i64))))])
noncomputable def f66r1n0 (a1 : List JournalLine) (a2 : Int) (a3 : Int) (a4 : List (Account_ × Int)) : Option f66r1n0O :=
  (f71r1 a1 a2 a3 a4).bind fun x7 =>
  some (.ret (decide (0 ≤ x7)))
theorem f66r1n0_ok (a1 : List JournalLine) (a2 : Int) (a3 : Int) (a4 : List (Account_ × Int)) {o : f66r1n0O} (h : (f66r1n0 a1 a2 a3 a4) = some o) : T Try.prog Try.f66.ntmps 3 c66 (f66r1n0S a1 a2 a3 a4) (fun r => r = f66r1n0E a1 a2 a3 a4 o) := by
  unfold f66r1n0 at h
  obtain ⟨x7, h8, h⟩ := bind_cases h
  obtain rfl := some_inj h
  exact run_end cfg_ok (rs := [([], [], []), ([], [(2, .call (.pl (.int .i64 x7)) [some (.box [(.bp 1 0)]), some (.box [(.mp 2), (.pl (.int .i64 a2)), (.pl (.int .i64 a3))]), some (.map (a4.map (mkv (pAgg Account_.cells) (pInt .i64))))])], [])]) (ps := []) (tds := []) (m := []) (keep := [4]) (r := (.ret, (f66r1n0E a1 a2 a3 a4 (.ret (decide (0 ≤ x7)))).2)) (by kernel_rfl) (ap (f71r1_ok a1 a2 a3 a4 h8) an) rfl
noncomputable def f66r1 (a1 : List JournalLine) (a2 : Int) (a3 : Int) (a4 : List (Account_ × Int)) : Option Bool := (f66r1n0 a1 a2 a3 a4).bind fun o => match o with
  | .ret v9 => some v9
theorem f66r1_ok (a1 : List JournalLine) (a2 : Int) (a3 : Int) (a4 : List (Account_ × Int)) {r : Bool} (h : (f66r1 a1 a2 a3 a4) = some r) : CallS Try.prog true 66 [(.pl (.sl .any 3 (a1.map JournalLine.cells))), (.clo 69 [(.bp 0 0)])] [some (.box [(.bp 1 0)]), some (.box [(.mp 2), (.pl (.int .i64 a2)), (.pl (.int .i64 a3))]), some (.map (a4.map (mkv (pAgg Account_.cells) (pInt .i64))))] (.pl (.bool r)) [some (.box [(.bp 1 0)]), some (.box [(.mp 2), (.pl (.int .i64 a2)), (.pl (.int .i64 a3))]), some (.map (a4.map (mkv (pAgg Account_.cells) (pInt .i64))))] := by
  unfold f66r1 at h
  obtain ⟨o, ho, h⟩ := bind_cases h
  cases o with
  | ret v9 =>
    obtain rfl := some_inj h
    exact CallS.shared cfg_ok (f := Try.f66) (c := c66) (by kernel_rfl) (by kernel_rfl) (by kernel_rfl) ((f66r1n0_ok a1 a2 a3 a4 ho).mono fun r e => by subst e; exact ⟨.inl rfl, by kernel_rfl, by kernel_rfl⟩)

noncomputable def c61 : Code := Try.f61.body.getD .skip
inductive f61r1n0O where
  | ret (v9 : Bool)
def f61r1n0E (a1 : JournalRecord) (a2 : Int) (a3 : Int) (a4 : List (Account_ × Int)) : f61r1n0O → Ex × Tr × Hp
  | .ret v9 => (.ret, mkS [(4, (.pl (.bool v9)))], [some (.box [(.mp 1), (.pl (.int .i64 a2)), (.pl (.int .i64 a3))]), some (.map (a4.map (mkv (pAgg Account_.cells) (pInt .i64))))])
def f61r1n0S (a1 : JournalRecord) (a2 : Int) (a3 : Int) (a4 : List (Account_ × Int)) : Tr × Hp := (initS [(.bp 0 0), (.pl (.agg (JournalRecord.cells a1)))] 0 .leaf, [some (.box [(.mp 1), (.pl (.int .i64 a2)), (.pl (.int .i64 a3))]), some (.map (a4.map (mkv (pAgg Account_.cells) (pInt .i64))))])
noncomputable def f61r1n0 (a1 : JournalRecord) (a2 : Int) (a3 : Int) (a4 : List (Account_ × Int)) : Option f61r1n0O :=
  (f66r1 a1.Lines a2 a3 a4).bind fun x7 =>
  some (.ret (!x7))
theorem f61r1n0_ok (a1 : JournalRecord) (a2 : Int) (a3 : Int) (a4 : List (Account_ × Int)) {o : f61r1n0O} (h : (f61r1n0 a1 a2 a3 a4) = some o) : T Try.prog Try.f61.ntmps 2 c61 (f61r1n0S a1 a2 a3 a4) (fun r => r = f61r1n0E a1 a2 a3 a4 o) := by
  unfold f61r1n0 at h
  obtain ⟨x7, h8, h⟩ := bind_cases h
  obtain rfl := some_inj h
  exact run_end cfg_ok (rs := [([], [], []), ([], [(3, .call (.pl (.bool x7)) [some (.box [(.mp 1), (.pl (.int .i64 a2)), (.pl (.int .i64 a3))]), some (.map (a4.map (mkv (pAgg Account_.cells) (pInt .i64)))), some (.box [(.bp 0 0)]), none])], [])]) (ps := []) (tds := []) (m := []) (keep := [4]) (r := (.ret, (f61r1n0E a1 a2 a3 a4 (.ret (!x7))).2)) (by kernel_rfl) (ap (CallS.ren (args' := [(.pl (.sl .any 3 (a1.Lines.map JournalLine.cells))), (.clo 69 [(.bp 2 0)])]) (v' := (.pl (.bool x7))) (B := [some (.box [(.mp 1), (.pl (.int .i64 a2)), (.pl (.int .i64 a3))]), some (.map (a4.map (mkv (pAgg Account_.cells) (pInt .i64)))), some (.box [(.bp 0 0)]), none]) (B' := [some (.box [(.mp 1), (.pl (.int .i64 a2)), (.pl (.int .i64 a3))]), some (.map (a4.map (mkv (pAgg Account_.cells) (pInt .i64)))), some (.box [(.bp 0 0)]), none]) 4 [2, 0, 1] (f66r1_ok a1.Lines a2 a3 a4 h8) (by kernel_rfl) (by kernel_rfl) (by kernel_rfl) (by kernel_rfl) (by kernel_rfl) (by kernel_rfl)) an) rfl
noncomputable def f61r1 (a1 : JournalRecord) (a2 : Int) (a3 : Int) (a4 : List (Account_ × Int)) : Option Bool := (f61r1n0 a1 a2 a3 a4).bind fun o => match o with
  | .ret v9 => some v9
theorem f61r1_ok (a1 : JournalRecord) (a2 : Int) (a3 : Int) (a4 : List (Account_ × Int)) {r : Bool} (h : (f61r1 a1 a2 a3 a4) = some r) : CallS Try.prog true 61 [(.bp 0 0), (.pl (.agg (JournalRecord.cells a1)))] [some (.box [(.mp 1), (.pl (.int .i64 a2)), (.pl (.int .i64 a3))]), some (.map (a4.map (mkv (pAgg Account_.cells) (pInt .i64))))] (.pl (.bool r)) [some (.box [(.mp 1), (.pl (.int .i64 a2)), (.pl (.int .i64 a3))]), some (.map (a4.map (mkv (pAgg Account_.cells) (pInt .i64))))] := by
  unfold f61r1 at h
  obtain ⟨o, ho, h⟩ := bind_cases h
  cases o with
  | ret v9 =>
    obtain rfl := some_inj h
    exact CallS.shared cfg_ok (f := Try.f61) (c := c61) (by kernel_rfl) (by kernel_rfl) (by kernel_rfl) ((f61r1n0_ok a1 a2 a3 a4 ho).mono fun r e => by subst e; exact ⟨.inl rfl, by kernel_rfl, by kernel_rfl⟩)

noncomputable def c44 : Code := Try.f44.body.getD .skip
inductive f44r1n2O where
  | exit0 (v41 : List (Account_ × Int))
def f44r1n2E (bb2 : JournalRecord) (bf1 : Int) : f44r1n2O → Ex × Tr × Hp
  | .exit0 v41 => ((.exit 0), mkS [(0, (.bp 0 0)), (3, (.bp 2 0))], [some (.box [(.mp 1), (.pl (.int .i64 bf1)), (.pl (.int .i64 bf1))]), some (.map (v41.map (mkv (pAgg Account_.cells) (pInt .i64)))), some (.box ((JournalRecord.cells bb2).map .pl))])
def f44r1n2S (bb2 : JournalRecord) (bf1 : Int) (v33 : Int) (v34 : List (Account_ × Int)) : Tr × Hp := (mkS [(0, (.bp 0 0)), (3, (.bp 2 0)), (32, (.pl (.sl .any 3 (bb2.Lines.map JournalLine.cells)))), (33, (.pl (.int .i64 (bb2.Lines.length : Int)))), (34, (.pl (.int .i64 v33)))], [some (.box [(.mp 1), (.pl (.int .i64 bf1)), (.pl (.int .i64 bf1))]), some (.map (v34.map (mkv (pAgg Account_.cells) (pInt .i64)))), some (.box ((JournalRecord.cells bb2).map .pl))])
noncomputable def f44r1n2 : Nat → JournalRecord → Int → Int → List (Account_ × Int) → Option f44r1n2O
  | 0, _, _, _, _ => none
  | f + 1, bb2, bf1, v33, v34 =>
    bif (decide (v33 < (bb2.Lines.length : Int))) then
      (at? bb2.Lines v33).bind fun x39 =>
      (f44r1n2 f bb2 bf1 (wr64 (v33 + 1)) (mPut Account_.eqb (Account_.mk x39.Account x39.Ccy) (wr64 ((mGet Account_.eqb 0 (Account_.mk x39.Account x39.Ccy) v34) + x39.Amount)) v34))
    else
      some (.exit0 v34)
theorem f44r1n2_ok : ∀ (f : Nat) (bb2 : JournalRecord) (bf1 : Int) (v33 : Int) (v34 : List (Account_ × Int)) {o : f44r1n2O}, (f44r1n2 f bb2 bf1 v33 v34) = some o → TL Try.prog Try.f44.ntmps 2 f (cL (cL (dropC 1 (cL (dropC 2 c44))))) (f44r1n2S bb2 bf1 v33 v34) (fun r => r = f44r1n2E bb2 bf1 o)
  | 0, _, _, _, _, o, h => by rw [f44r1n2] at h; cases h
  | f + 1, bb2, bf1, v33, v34, o, h => by
    rw [f44r1n2] at h
    refine TL.body (K := fun s => ∃ v33 : Int, ∃ v34 : List (Account_ × Int), s = (f44r1n2S bb2 bf1 v33 v34) ∧ (f44r1n2 f bb2 bf1 v33 v34) = some o) ?_ (by rintro _ ⟨v33, v34, rfl, hk⟩; exact f44r1n2_ok f _ _ _ _ hk)
    rcases cond_cases h with ⟨h36, h⟩ | ⟨h36, h⟩
    · obtain ⟨x39, h40, h⟩ := bind_cases h
      exact run_end cfg_ok (rs := [([], [], []), ([], [(0, .idx (Int.toNat v33) (JournalLine.cells x39))], []), ([], [(9, .look ((pInt .i64) (mGet Account_.eqb 0 (Account_.mk x39.Account x39.Ccy) v34)) (mHas Account_.eqb (Account_.mk x39.Account x39.Ccy) v34)), (13, .ment ((pInt .i64) (mGet Account_.eqb 0 (Account_.mk x39.Account x39.Ccy) v34)) (mIdx Account_.eqb (Account_.mk x39.Account x39.Ccy) v34) ((mEns Account_.eqb 0 (Account_.mk x39.Account x39.Ccy) v34).map (mkv (pAgg Account_.cells) (pInt .i64)))), (15, .mst (mIdx Account_.eqb (Account_.mk x39.Account x39.Ccy) v34) ((pAgg Account_.cells) (Account_.mk x39.Account x39.Ccy)) ((pInt .i64) (mGet Account_.eqb 0 (Account_.mk x39.Account x39.Ccy) v34)))], [(15, .map 1 ((mPut Account_.eqb (Account_.mk x39.Account x39.Ccy) (wr64 ((mGet Account_.eqb 0 (Account_.mk x39.Account x39.Ccy) v34) + x39.Amount)) v34).map (mkv (pAgg Account_.cells) (pInt .i64))))]), ([], [], [])]) (ps := [some true]) (tds := []) (m := [2]) (keep := [0, 3, 32, 33, 34]) (r := (.norm, (f44r1n2S bb2 bf1 (wr64 (v33 + 1)) (mPut Account_.eqb (Account_.mk x39.Account x39.Ccy) (wr64 ((mGet Account_.eqb 0 (Account_.mk x39.Account x39.Ccy) v34) + x39.Amount)) v34)))) (by kernel_rfl) (ap h36 (ap (at_some h40).1 (ap (at_map JournalLine.cells (at_some h40).2) (ap (look_map (vp := (pInt .i64)) (e := 3) key_95 0 (by kernel_rfl) (Account_.mk x39.Account x39.Ccy) v34) (ap (ment_map (vp := (pInt .i64)) (e := 3) key_95 0 (by kernel_rfl) (Account_.mk x39.Account x39.Ccy) v34) (ap (rfl : ((mIdx Account_.eqb (Account_.mk x39.Account x39.Ccy) v34) : Int) = (((mIdx Account_.eqb (Account_.mk x39.Account x39.Ccy) v34) : Nat) : Int)) (ap (mst_at (vp := (pInt .i64)) key_95 0 (Account_.mk x39.Account x39.Ccy) v34) (ap (mst_put (vp := (pInt .i64)) key_95 0 (wr64 ((mGet Account_.eqb 0 (Account_.mk x39.Account x39.Ccy) v34) + x39.Amount)) (Account_.mk x39.Account x39.Ccy) v34) an)))))))) (LoopQ.norm ⟨(wr64 (v33 + 1)), (mPut Account_.eqb (Account_.mk x39.Account x39.Ccy) (wr64 ((mGet Account_.eqb 0 (Account_.mk x39.Account x39.Ccy) v34) + x39.Amount)) v34), rfl, h⟩)
    · obtain rfl := some_inj h
      exact runK_end cfg_ok (k := 2) (rs := [([], [], [])]) (ps := [some false]) (tds := []) (m := [2]) (keep := [0, 3]) (ex := (.exit 0)) (st' := (f44r1n2E bb2 bf1 (.exit0 v34)).2) (by kernel_rfl) (ap h36 an) (fun h => nomatch h) (LoopQ.out rfl rfl)
noncomputable def f44r1n2L (bb2 : JournalRecord) (bf1 : Int) : List JournalLine → Int → (List (Account_ × Int)) → Option f44r1n2O
  | [], v33, v34 =>
    some (.exit0 v34)
  | x0 :: rest, v33, v34 =>
    (f44r1n2L bb2 bf1 rest (v33 + 1) (mPut Account_.eqb (Account_.mk x0.Account x0.Ccy) (wr64 ((mGet Account_.eqb 0 (Account_.mk x0.Account x0.Ccy) v34) + x0.Amount)) v34))
theorem f44r1n2L_eq (bb2 : JournalRecord) (bf1 : Int) : ∀ (rest : List JournalLine) (f k : Nat) (v34 : List (Account_ × Int)), bb2.Lines.drop k = rest → bb2.Lines.length ≤ maxLen → rest.length < f → f44r1n2 f bb2 bf1 (k : Int) v34 = f44r1n2L bb2 bf1 rest (k : Int) v34
  | _, 0, _, _, _, _, hf => absurd hf (Nat.not_lt_zero _)
  | [], f + 1, k, v34, hd, hm, hf => by
    have hk : ¬ ((k : Int) < (bb2.Lines.length : Int)) := by have := drop_nil hd; omega
    rw [f44r1n2, f44r1n2L]
    simp only [decide_eq_false hk, cond_false]
  | x0 :: rest, f + 1, k, v34, hd, hm, hf => by
    obtain ⟨hx, hlt, hd'⟩ := drop_cons hd
    have hk : (k : Int) < (bb2.Lines.length : Int) := by omega
    have hw : wr64 ((k : Int) + 1) = (k : Int) + 1 := wr64_of (by omega) (by unfold maxLen at hm; omega)
    have ih : ∀ (v34 : List (Account_ × Int)), f44r1n2 f bb2 bf1 ((k : Int) + 1) v34 = f44r1n2L bb2 bf1 rest ((k : Int) + 1) v34 := fun v34 => f44r1n2L_eq bb2 bf1 rest f (k + 1) v34 hd' hm (by simpa using hf)
    rw [f44r1n2, f44r1n2L]
    simp only [decide_eq_true hk, cond_true, at_nat, hx, Option.bind_some, hw, ih]
inductive f44r1n1O where
  | norm (v45 : List (Account_ × Int))
def f44r1n1E (bf1 : Int) (bb2 : JournalRecord) : f44r1n1O → Ex × Tr × Hp
  | .norm v45 => (.norm, mkS [(0, (.bp 0 0)), (3, (.bp 2 0))], [some (.box [(.mp 1), (.pl (.int .i64 bf1)), (.pl (.int .i64 bf1))]), some (.map (v45.map (mkv (pAgg Account_.cells) (pInt .i64)))), some (.box ((JournalRecord.cells bb2).map .pl))])
def f44r1n1S (bf1 : Int) (bb2 : JournalRecord) : Tr × Hp := (mkS [(0, (.bp 0 0)), (3, (.bp 2 0))], [some (.box [(.mp 1), (.pl (.int .i64 bf1)), (.pl (.int .i64 bf1))]), some (.map ([].map (mkv (pAgg Account_.cells) (pInt .i64)))), some (.box ((JournalRecord.cells bb2).map .pl))])
noncomputable def f44r1n1 (bf1 : Int) (bb2 : JournalRecord) : Option f44r1n1O :=
  (f44r1n2 FUEL bb2 bf1 0 []).bind fun o42 => match o42 with
  | .exit0 v44 => some (.norm v44)
theorem f44r1n1_ok (bf1 : Int) (bb2 : JournalRecord) {o : f44r1n1O} (h : (f44r1n1 bf1 bb2) = some o) : T Try.prog Try.f44.ntmps 2 (cL (dropC 2 c44)) (f44r1n1S bf1 bb2) (fun r => r = f44r1n1E bf1 bb2 o) := by
  unfold f44r1n1 at h
  refine runK_norm cfg_ok (k := 1) (rs := [([], [], [(2, .val (.pl (.int .i64 (bb2.Lines.length : Int))))])]) (ps := []) (tds := []) (m := [2]) (keep := [0, 3, 32, 33, 34]) (st' := (f44r1n2S bb2 bf1 0 [])) (by kernel_rfl) (ap (len_cv (xs := bb2.Lines) (c := JournalLine.cells)) an) ?_
  obtain ⟨o42, h43, h⟩ := bind_cases h
  cases o42 with
  | exit0 v44 =>
    obtain rfl := some_inj h
    exact T.last' (T.bl (i := 0) (by kernel_rfl) (by kernel_rfl) (f44r1n2_ok FUEL bb2 bf1 0 [] h43)) (tds := []) (m := [2]) (keep := [0, 3]) (st2 := (f44r1n1E bf1 bb2 (.norm v44)).2) (by kernel_rfl) an rfl
inductive f44r1n0O where
  | ret (v53 : Bool) (v54 : Int) (v55 : Int) (v56 : List (Account_ × Int))
def f44r1n0E (a1 : JournalRecord) (a2 : Int) : f44r1n0O → Ex × Tr × Hp
  | .ret v53 v54 v55 v56 => (.ret, mkS [(4, (.pl (.bool v53)))], [some (.box [(.mp 1), (.pl (.int .i64 v54)), (.pl (.int .i64 v55))]), some (.map (v56.map (mkv (pAgg Account_.cells) (pInt .i64))))])
def f44r1n0S (a1 : JournalRecord) (a2 : Int) : Tr × Hp := (initS [(.bp 0 0), (.pl (.agg (JournalRecord.cells a1)))] 0 .leaf, [some (.box [(.mp 1), (.pl (.int .i64 a2)), (.pl (.int .i64 a2))]), some (.map ([].map (mkv (pAgg Account_.cells) (pInt .i64))))])
noncomputable def f44r1n0 (a1 : JournalRecord) (a2 : Int) : Option f44r1n0O :=
  bif (decide (a2 = 200)) then
    some (.ret false a2 a2 [])
  else
    (f49 a1).bind fun x12 =>
    bif x12 then
      (f50 a1).bind fun x15 =>
      bif x15 then
        bif (decide (a1.Day < a2)) then
          some (.ret false a2 a2 [])
        else
          (f44r1n1 a2 a1).bind fun o46 => match o46 with
          | .norm v48 => (f61r1 a1 a1.Day (wr64 (a2 + 1)) v48).bind fun x51 =>
            some (.ret x51 a1.Day (wr64 (a2 + 1)) v48)
      else
        some (.ret false a2 a2 [])
    else
      some (.ret false a2 a2 [])
theorem f44r1n0_ok (a1 : JournalRecord) (a2 : Int) {o : f44r1n0O} (h : (f44r1n0 a1 a2) = some o) : T Try.prog Try.f44.ntmps 2 c44 (f44r1n0S a1 a2) (fun r => r = f44r1n0E a1 a2 o) := by
  unfold f44r1n0 at h
  rcases cond_cases h with ⟨h11, h⟩ | ⟨h11, h⟩
  · obtain rfl := some_inj h
    exact runK_end cfg_ok (k := 2) (rs := [([], [], []), ([(6, true), (7, true), (8, true)], [(9, .bool true)], []), ([], [], [])]) (ps := [none]) (tds := []) (m := []) (keep := [4]) (ex := .ret) (st' := (f44r1n0E a1 a2 (.ret false a2 a2 [])).2) (by kernel_rfl) (ap h11 (ap h11 (ap h11 (ap h11 an)))) (fun h => nomatch h) rfl
  · obtain ⟨x12, h13, h⟩ := bind_cases h
    rcases cond_cases h with ⟨h14, h⟩ | ⟨h14, h⟩
    · obtain ⟨x15, h16, h⟩ := bind_cases h
      rcases cond_cases h with ⟨h17, h⟩ | ⟨h17, h⟩
      · rcases cond_cases h with ⟨h18, h⟩ | ⟨h18, h⟩
        · obtain rfl := some_inj h
          exact runK_end cfg_ok (k := 2) (rs := [([], [], []), ([(6, false), (7, false), (8, false), (11, false), (12, false), (13, false), (16, false), (17, false), (18, false), (19, false), (20, false), (21, false), (22, false)], [(7, .call (.pl (.bool x12)) []), (9, .bool false), (12, .call (.pl (.bool x15)) []), (14, .bool false), (23, .bool false)], []), ([], [], [])]) (ps := [some true]) (tds := []) (m := []) (keep := [4]) (ex := .ret) (st' := (f44r1n0E a1 a2 (.ret false a2 a2 [])).2) (by kernel_rfl) (ap h11 (ap h11 (ap h11 (ap h11 (ap (not_t h14) (ap (not_t h14) (ap (not_t h14) (ap (not_t h14) (ap (not_t h17) (ap (not_t h17) (ap (not_t h17) (ap (not_t h17) (ap (not_t h17) (ap (not_t h17) (ap (not_t h17) (ap (not_t h17) (ap (f49_ok a1 h13) (ap (f50_ok a1 h16) (ap h18 an))))))))))))))))))) (fun h => nomatch h) rfl
        · refine runK_norm cfg_ok (k := 2) (rs := [([], [], []), ([(6, false), (7, false), (8, false), (11, false), (12, false), (13, false), (16, false), (17, false), (18, false), (19, false), (20, false), (21, false), (22, false)], [(7, .call (.pl (.bool x12)) []), (9, .bool false), (12, .call (.pl (.bool x15)) []), (14, .bool false), (23, .bool false)], [])]) (ps := [some false]) (tds := []) (m := [2]) (keep := [0, 3]) (st' := (f44r1n1S a2 a1)) (by kernel_rfl) (ap h11 (ap h11 (ap h11 (ap h11 (ap (not_t h14) (ap (not_t h14) (ap (not_t h14) (ap (not_t h14) (ap (not_t h17) (ap (not_t h17) (ap (not_t h17) (ap (not_t h17) (ap (not_t h17) (ap (not_t h17) (ap (not_t h17) (ap (not_t h17) (ap (f49_ok a1 h13) (ap (f50_ok a1 h16) (ap h18 an))))))))))))))))))) ?_
          obtain ⟨o46, h47, h⟩ := bind_cases h
          cases o46 with
          | norm v48 =>
            refine T.oneN (by kernel_rfl) (f44r1n1_ok a2 a1 h47) (st2 := (f44r1n1E a2 a1 (.norm v48)).2) rfl ?_
            obtain ⟨x51, h52, h⟩ := bind_cases h
            obtain rfl := some_inj h
            exact run_end cfg_ok (rs := [([], [], []), ([], [(2, .call (.pl (.bool x51)) [some (.box [(.mp 1), (.pl (.int .i64 a1.Day)), (.pl (.int .i64 (wr64 (a2 + 1))))]), some (.map (v48.map (mkv (pAgg Account_.cells) (pInt .i64)))), none, none])], [])]) (ps := []) (tds := []) (m := []) (keep := [4]) (r := (.ret, (f44r1n0E a1 a2 (.ret x51 a1.Day (wr64 (a2 + 1)) v48)).2)) (by kernel_rfl) (ap (CallS.ren (args' := [(.bp 0 0), (.pl (.agg (JournalRecord.cells a1)))]) (v' := (.pl (.bool x51))) (B := [some (.box [(.mp 1), (.pl (.int .i64 a1.Day)), (.pl (.int .i64 (wr64 (a2 + 1))))]), some (.map (v48.map (mkv (pAgg Account_.cells) (pInt .i64)))), none, none]) (B' := [some (.box [(.mp 1), (.pl (.int .i64 a1.Day)), (.pl (.int .i64 (wr64 (a2 + 1))))]), some (.map (v48.map (mkv (pAgg Account_.cells) (pInt .i64)))), none, none]) 4 [0, 1] (f61r1_ok a1 a1.Day (wr64 (a2 + 1)) v48 h52) (by kernel_rfl) (by kernel_rfl) (by kernel_rfl) (by kernel_rfl) (by kernel_rfl) (by kernel_rfl)) an) rfl
      · obtain rfl := some_inj h
        exact runK_end cfg_ok (k := 2) (rs := [([], [], []), ([(6, false), (7, false), (8, false), (11, false), (12, false), (13, false), (16, true), (17, true), (18, true), (19, true), (20, true), (21, true), (22, true)], [(7, .call (.pl (.bool x12)) []), (9, .bool false), (12, .call (.pl (.bool x15)) []), (14, .bool false), (23, .bool true)], []), ([], [], [])]) (ps := [none]) (tds := []) (m := []) (keep := [4]) (ex := .ret) (st' := (f44r1n0E a1 a2 (.ret false a2 a2 [])).2) (by kernel_rfl) (ap h11 (ap h11 (ap h11 (ap h11 (ap (not_t h14) (ap (not_t h14) (ap (not_t h14) (ap (not_t h14) (ap (not_f h17) (ap (not_f h17) (ap (not_f h17) (ap (not_f h17) (ap (not_f h17) (ap (not_f h17) (ap (not_f h17) (ap (not_f h17) (ap (f49_ok a1 h13) (ap (f50_ok a1 h16) an)))))))))))))))))) (fun h => nomatch h) rfl
    · obtain rfl := some_inj h
      exact runK_end cfg_ok (k := 2) (rs := [([], [], []), ([(6, false), (7, false), (8, false), (11, true), (12, true), (13, true)], [(7, .call (.pl (.bool x12)) []), (9, .bool false), (14, .bool true)], []), ([], [], [])]) (ps := [none]) (tds := []) (m := []) (keep := [4]) (ex := .ret) (st' := (f44r1n0E a1 a2 (.ret false a2 a2 [])).2) (by kernel_rfl) (ap h11 (ap h11 (ap h11 (ap h11 (ap (not_f h14) (ap (not_f h14) (ap (not_f h14) (ap (not_f h14) (ap (f49_ok a1 h13) an))))))))) (fun h => nomatch h) rfl
noncomputable def f44r1 (a1 : JournalRecord) (a2 : Int) : Option (Bool × Int × Int × (List (Account_ × Int))) := (f44r1n0 a1 a2).bind fun o => match o with
  | .ret v53 v54 v55 v56 => some (v53, v54, v55, v56)
theorem f44r1_ok (a1 : JournalRecord) (a2 : Int) {r : Bool × Int × Int × (List (Account_ × Int))} (h : (f44r1 a1 a2) = some r) : CallS Try.prog true 44 [(.bp 0 0), (.pl (.agg (JournalRecord.cells a1)))] [some (.box [(.mp 1), (.pl (.int .i64 a2)), (.pl (.int .i64 a2))]), some (.map ([].map (mkv (pAgg Account_.cells) (pInt .i64))))] (.pl (.bool r.1)) [some (.box [(.mp 1), (.pl (.int .i64 r.2.1)), (.pl (.int .i64 r.2.2.1))]), some (.map (r.2.2.2.map (mkv (pAgg Account_.cells) (pInt .i64))))] := by
  unfold f44r1 at h
  obtain ⟨o, ho, h⟩ := bind_cases h
  cases o with
  | ret v53 v54 v55 v56 =>
    obtain rfl := some_inj h
    exact CallS.shared cfg_ok (f := Try.f44) (c := c44) (by kernel_rfl) (by kernel_rfl) (by kernel_rfl) ((f44r1n0_ok a1 a2 ho).mono fun r e => by subst e; exact ⟨.inl rfl, by kernel_rfl, by kernel_rfl⟩)

inductive f44r2n2O where
  | exit0 (v43 : List (Account_ × Int))
def f44r2n2E (bb4 : JournalRecord) (bf1 : Int) (bf2 : Int) : f44r2n2O → Ex × Tr × Hp
  | .exit0 v43 => ((.exit 0), mkS [(0, (.bp 0 0)), (3, (.bp 2 0))], [some (.box [(.mp 1), (.pl (.int .i64 bf1)), (.pl (.int .i64 bf2))]), some (.map (v43.map (mkv (pAgg Account_.cells) (pInt .i64)))), some (.box ((JournalRecord.cells bb4).map .pl))])
def f44r2n2S (bb4 : JournalRecord) (bf1 : Int) (bf2 : Int) (v35 : Int) (v36 : List (Account_ × Int)) : Tr × Hp := (mkS [(0, (.bp 0 0)), (3, (.bp 2 0)), (32, (.pl (.sl .any 3 (bb4.Lines.map JournalLine.cells)))), (33, (.pl (.int .i64 (bb4.Lines.length : Int)))), (34, (.pl (.int .i64 v35)))], [some (.box [(.mp 1), (.pl (.int .i64 bf1)), (.pl (.int .i64 bf2))]), some (.map (v36.map (mkv (pAgg Account_.cells) (pInt .i64)))), some (.box ((JournalRecord.cells bb4).map .pl))])
noncomputable def f44r2n2 : Nat → JournalRecord → Int → Int → Int → List (Account_ × Int) → Option f44r2n2O
  | 0, _, _, _, _, _ => none
  | f + 1, bb4, bf1, bf2, v35, v36 =>
    bif (decide (v35 < (bb4.Lines.length : Int))) then
      (at? bb4.Lines v35).bind fun x41 =>
      (f44r2n2 f bb4 bf1 bf2 (wr64 (v35 + 1)) (mPut Account_.eqb (Account_.mk x41.Account x41.Ccy) (wr64 ((mGet Account_.eqb 0 (Account_.mk x41.Account x41.Ccy) v36) + x41.Amount)) v36))
    else
      some (.exit0 v36)
theorem f44r2n2_ok : ∀ (f : Nat) (bb4 : JournalRecord) (bf1 : Int) (bf2 : Int) (v35 : Int) (v36 : List (Account_ × Int)) {o : f44r2n2O}, (f44r2n2 f bb4 bf1 bf2 v35 v36) = some o → TL Try.prog Try.f44.ntmps 2 f (cL (cL (dropC 1 (cL (dropC 2 c44))))) (f44r2n2S bb4 bf1 bf2 v35 v36) (fun r => r = f44r2n2E bb4 bf1 bf2 o)
  | 0, _, _, _, _, _, o, h => by rw [f44r2n2] at h; cases h
  | f + 1, bb4, bf1, bf2, v35, v36, o, h => by
    rw [f44r2n2] at h
    refine TL.body (K := fun s => ∃ v35 : Int, ∃ v36 : List (Account_ × Int), s = (f44r2n2S bb4 bf1 bf2 v35 v36) ∧ (f44r2n2 f bb4 bf1 bf2 v35 v36) = some o) ?_ (by rintro _ ⟨v35, v36, rfl, hk⟩; exact f44r2n2_ok f _ _ _ _ _ hk)
    rcases cond_cases h with ⟨h38, h⟩ | ⟨h38, h⟩
    · obtain ⟨x41, h42, h⟩ := bind_cases h
      exact run_end cfg_ok (rs := [([], [], []), ([], [(0, .idx (Int.toNat v35) (JournalLine.cells x41))], []), ([], [(9, .look ((pInt .i64) (mGet Account_.eqb 0 (Account_.mk x41.Account x41.Ccy) v36)) (mHas Account_.eqb (Account_.mk x41.Account x41.Ccy) v36)), (13, .ment ((pInt .i64) (mGet Account_.eqb 0 (Account_.mk x41.Account x41.Ccy) v36)) (mIdx Account_.eqb (Account_.mk x41.Account x41.Ccy) v36) ((mEns Account_.eqb 0 (Account_.mk x41.Account x41.Ccy) v36).map (mkv (pAgg Account_.cells) (pInt .i64)))), (15, .mst (mIdx Account_.eqb (Account_.mk x41.Account x41.Ccy) v36) ((pAgg Account_.cells) (Account_.mk x41.Account x41.Ccy)) ((pInt .i64) (mGet Account_.eqb 0 (Account_.mk x41.Account x41.Ccy) v36)))], [(15, .map 1 ((mPut Account_.eqb (Account_.mk x41.Account x41.Ccy) (wr64 ((mGet Account_.eqb 0 (Account_.mk x41.Account x41.Ccy) v36) + x41.Amount)) v36).map (mkv (pAgg Account_.cells) (pInt .i64))))]), ([], [], [])]) (ps := [some true]) (tds := []) (m := [2]) (keep := [0, 3, 32, 33, 34]) (r := (.norm, (f44r2n2S bb4 bf1 bf2 (wr64 (v35 + 1)) (mPut Account_.eqb (Account_.mk x41.Account x41.Ccy) (wr64 ((mGet Account_.eqb 0 (Account_.mk x41.Account x41.Ccy) v36) + x41.Amount)) v36)))) (by kernel_rfl) (ap h38 (ap (at_some h42).1 (ap (at_map JournalLine.cells (at_some h42).2) (ap (look_map (vp := (pInt .i64)) (e := 3) key_95 0 (by kernel_rfl) (Account_.mk x41.Account x41.Ccy) v36) (ap (ment_map (vp := (pInt .i64)) (e := 3) key_95 0 (by kernel_rfl) (Account_.mk x41.Account x41.Ccy) v36) (ap (rfl : ((mIdx Account_.eqb (Account_.mk x41.Account x41.Ccy) v36) : Int) = (((mIdx Account_.eqb (Account_.mk x41.Account x41.Ccy) v36) : Nat) : Int)) (ap (mst_at (vp := (pInt .i64)) key_95 0 (Account_.mk x41.Account x41.Ccy) v36) (ap (mst_put (vp := (pInt .i64)) key_95 0 (wr64 ((mGet Account_.eqb 0 (Account_.mk x41.Account x41.Ccy) v36) + x41.Amount)) (Account_.mk x41.Account x41.Ccy) v36) an)))))))) (LoopQ.norm ⟨(wr64 (v35 + 1)), (mPut Account_.eqb (Account_.mk x41.Account x41.Ccy) (wr64 ((mGet Account_.eqb 0 (Account_.mk x41.Account x41.Ccy) v36) + x41.Amount)) v36), rfl, h⟩)
    · obtain rfl := some_inj h
      exact runK_end cfg_ok (k := 2) (rs := [([], [], [])]) (ps := [some false]) (tds := []) (m := [2]) (keep := [0, 3]) (ex := (.exit 0)) (st' := (f44r2n2E bb4 bf1 bf2 (.exit0 v36)).2) (by kernel_rfl) (ap h38 an) (fun h => nomatch h) (LoopQ.out rfl rfl)
noncomputable def f44r2n2L (bb4 : JournalRecord) (bf1 : Int) (bf2 : Int) : List JournalLine → Int → (List (Account_ × Int)) → Option f44r2n2O
  | [], v35, v36 =>
    some (.exit0 v36)
  | x0 :: rest, v35, v36 =>
    (f44r2n2L bb4 bf1 bf2 rest (v35 + 1) (mPut Account_.eqb (Account_.mk x0.Account x0.Ccy) (wr64 ((mGet Account_.eqb 0 (Account_.mk x0.Account x0.Ccy) v36) + x0.Amount)) v36))
theorem f44r2n2L_eq (bb4 : JournalRecord) (bf1 : Int) (bf2 : Int) : ∀ (rest : List JournalLine) (f k : Nat) (v36 : List (Account_ × Int)), bb4.Lines.drop k = rest → bb4.Lines.length ≤ maxLen → rest.length < f → f44r2n2 f bb4 bf1 bf2 (k : Int) v36 = f44r2n2L bb4 bf1 bf2 rest (k : Int) v36
  | _, 0, _, _, _, _, hf => absurd hf (Nat.not_lt_zero _)
  | [], f + 1, k, v36, hd, hm, hf => by
    have hk : ¬ ((k : Int) < (bb4.Lines.length : Int)) := by have := drop_nil hd; omega
    rw [f44r2n2, f44r2n2L]
    simp only [decide_eq_false hk, cond_false]
  | x0 :: rest, f + 1, k, v36, hd, hm, hf => by
    obtain ⟨hx, hlt, hd'⟩ := drop_cons hd
    have hk : (k : Int) < (bb4.Lines.length : Int) := by omega
    have hw : wr64 ((k : Int) + 1) = (k : Int) + 1 := wr64_of (by omega) (by unfold maxLen at hm; omega)
    have ih : ∀ (v36 : List (Account_ × Int)), f44r2n2 f bb4 bf1 bf2 ((k : Int) + 1) v36 = f44r2n2L bb4 bf1 bf2 rest ((k : Int) + 1) v36 := fun v36 => f44r2n2L_eq bb4 bf1 bf2 rest f (k + 1) v36 hd' hm (by simpa using hf)
    rw [f44r2n2, f44r2n2L]
    simp only [decide_eq_true hk, cond_true, at_nat, hx, Option.bind_some, hw, ih]
theorem f44r2n2_run (bb4 : JournalRecord) (bf1 : Int) (bf2 : Int) (v36 : List (Account_ × Int)) (hm : bb4.Lines.length ≤ maxLen) : f44r2n2 FUEL bb4 bf1 bf2 0 v36 = f44r2n2L bb4 bf1 bf2 bb4.Lines 0 v36 := f44r2n2L_eq bb4 bf1 bf2 bb4.Lines FUEL 0 v36 List.drop_zero hm (lt_FUEL hm)
inductive f44r2n1O where
  | norm (v47 : List (Account_ × Int))
def f44r2n1E (bf1 : Int) (bf2 : Int) (bg3 : List (Account_ × Int)) (bb4 : JournalRecord) : f44r2n1O → Ex × Tr × Hp
  | .norm v47 => (.norm, mkS [(0, (.bp 0 0)), (3, (.bp 2 0))], [some (.box [(.mp 1), (.pl (.int .i64 bf1)), (.pl (.int .i64 bf2))]), some (.map (v47.map (mkv (pAgg Account_.cells) (pInt .i64)))), some (.box ((JournalRecord.cells bb4).map .pl))])
def f44r2n1S (bf1 : Int) (bf2 : Int) (bg3 : List (Account_ × Int)) (bb4 : JournalRecord) : Tr × Hp := (mkS [(0, (.bp 0 0)), (3, (.bp 2 0))], [some (.box [(.mp 1), (.pl (.int .i64 bf1)), (.pl (.int .i64 bf2))]), some (.map (bg3.map (mkv (pAgg Account_.cells) (pInt .i64)))), some (.box ((JournalRecord.cells bb4).map .pl))])
noncomputable def f44r2n1 (bf1 : Int) (bf2 : Int) (bg3 : List (Account_ × Int)) (bb4 : JournalRecord) : Option f44r2n1O :=
  (f44r2n2 FUEL bb4 bf1 bf2 0 bg3).bind fun o44 => match o44 with
  | .exit0 v46 => some (.norm v46)
theorem f44r2n1_ok (bf1 : Int) (bf2 : Int) (bg3 : List (Account_ × Int)) (bb4 : JournalRecord) {o : f44r2n1O} (h : (f44r2n1 bf1 bf2 bg3 bb4) = some o) : T Try.prog Try.f44.ntmps 2 (cL (dropC 2 c44)) (f44r2n1S bf1 bf2 bg3 bb4) (fun r => r = f44r2n1E bf1 bf2 bg3 bb4 o) := by
  unfold f44r2n1 at h
  refine runK_norm cfg_ok (k := 1) (rs := [([], [], [(2, .val (.pl (.int .i64 (bb4.Lines.length : Int))))])]) (ps := []) (tds := []) (m := [2]) (keep := [0, 3, 32, 33, 34]) (st' := (f44r2n2S bb4 bf1 bf2 0 bg3)) (by kernel_rfl) (ap (len_cv (xs := bb4.Lines) (c := JournalLine.cells)) an) ?_
  obtain ⟨o44, h45, h⟩ := bind_cases h
  cases o44 with
  | exit0 v46 =>
    obtain rfl := some_inj h
    exact T.last' (T.bl (i := 0) (by kernel_rfl) (by kernel_rfl) (f44r2n2_ok FUEL bb4 bf1 bf2 0 bg3 h45)) (tds := []) (m := [2]) (keep := [0, 3]) (st2 := (f44r2n1E bf1 bf2 bg3 bb4 (.norm v46)).2) (by kernel_rfl) an rfl
inductive f44r2n0O where
  | ret (v55 : Bool) (v56 : Int) (v57 : Int) (v58 : List (Account_ × Int))
def f44r2n0E (a1 : JournalRecord) (a2 : Int) (a3 : Int) (a4 : List (Account_ × Int)) : f44r2n0O → Ex × Tr × Hp
  | .ret v55 v56 v57 v58 => (.ret, mkS [(4, (.pl (.bool v55)))], [some (.box [(.mp 1), (.pl (.int .i64 v56)), (.pl (.int .i64 v57))]), some (.map (v58.map (mkv (pAgg Account_.cells) (pInt .i64))))])
def f44r2n0S (a1 : JournalRecord) (a2 : Int) (a3 : Int) (a4 : List (Account_ × Int)) : Tr × Hp := (initS [(.bp 0 0), (.pl (.agg (JournalRecord.cells a1)))] 0 .leaf, [some (.box [(.mp 1), (.pl (.int .i64 a2)), (.pl (.int .i64 a3))]), some (.map (a4.map (mkv (pAgg Account_.cells) (pInt .i64))))])
noncomputable def f44r2n0 (a1 : JournalRecord) (a2 : Int) (a3 : Int) (a4 : List (Account_ × Int)) : Option f44r2n0O :=
  bif (decide (a3 = 200)) then
    some (.ret false a2 a3 a4)
  else
    (f49 a1).bind fun x14 =>
    bif x14 then
      (f50 a1).bind fun x17 =>
      bif x17 then
        bif (decide (a1.Day < a2)) then
          some (.ret false a2 a3 a4)
        else
          (f44r2n1 a2 a3 a4 a1).bind fun o48 => match o48 with
          | .norm v50 => (f61r1 a1 a1.Day (wr64 (a3 + 1)) v50).bind fun x53 =>
            some (.ret x53 a1.Day (wr64 (a3 + 1)) v50)
      else
        some (.ret false a2 a3 a4)
    else
      some (.ret false a2 a3 a4)
theorem f44r2n0_ok (a1 : JournalRecord) (a2 : Int) (a3 : Int) (a4 : List (Account_ × Int)) {o : f44r2n0O} (h : (f44r2n0 a1 a2 a3 a4) = some o) : T Try.prog Try.f44.ntmps 2 c44 (f44r2n0S a1 a2 a3 a4) (fun r => r = f44r2n0E a1 a2 a3 a4 o) := by
  unfold f44r2n0 at h
  rcases cond_cases h with ⟨h13, h⟩ | ⟨h13, h⟩
  · obtain rfl := some_inj h
    exact runK_end cfg_ok (k := 2) (rs := [([], [], []), ([(6, true), (7, true), (8, true)], [(9, .bool true)], []), ([], [], [])]) (ps := [none]) (tds := []) (m := []) (keep := [4]) (ex := .ret) (st' := (f44r2n0E a1 a2 a3 a4 (.ret false a2 a3 a4)).2) (by kernel_rfl) (ap h13 (ap h13 (ap h13 (ap h13 an)))) (fun h => nomatch h) rfl
  · obtain ⟨x14, h15, h⟩ := bind_cases h
    rcases cond_cases h with ⟨h16, h⟩ | ⟨h16, h⟩
    · obtain ⟨x17, h18, h⟩ := bind_cases h
      rcases cond_cases h with ⟨h19, h⟩ | ⟨h19, h⟩
      · rcases cond_cases h with ⟨h20, h⟩ | ⟨h20, h⟩
        · obtain rfl := some_inj h
          exact runK_end cfg_ok (k := 2) (rs := [([], [], []), ([(6, false), (7, false), (8, false), (11, false), (12, false), (13, false), (16, false), (17, false), (18, false), (19, false), (20, false), (21, false), (22, false)], [(7, .call (.pl (.bool x14)) []), (9, .bool false), (12, .call (.pl (.bool x17)) []), (14, .bool false), (23, .bool false)], []), ([], [], [])]) (ps := [some true]) (tds := []) (m := []) (keep := [4]) (ex := .ret) (st' := (f44r2n0E a1 a2 a3 a4 (.ret false a2 a3 a4)).2) (by kernel_rfl) (ap h13 (ap h13 (ap h13 (ap h13 (ap (not_t h16) (ap (not_t h16) (ap (not_t h16) (ap (not_t h16) (ap (not_t h19) (ap (not_t h19) (ap (not_t h19) (ap (not_t h19) (ap (not_t h19) (ap (not_t h19) (ap (not_t h19) (ap (not_t h19) (ap (f49_ok a1 h15) (ap (f50_ok a1 h18) (ap h20 an))))))))))))))))))) (fun h => nomatch h) rfl
        · refine runK_norm cfg_ok (k := 2) (rs := [([], [], []), ([(6, false), (7, false), (8, false), (11, false), (12, false), (13, false), (16, false), (17, false), (18, false), (19, false), (20, false), (21, false), (22, false)], [(7, .call (.pl (.bool x14)) []), (9, .bool false), (12, .call (.pl (.bool x17)) []), (14, .bool false), (23, .bool false)], [])]) (ps := [some false]) (tds := []) (m := [2]) (keep := [0, 3]) (st' := (f44r2n1S a2 a3 a4 a1)) (by kernel_rfl) (ap h13 (ap h13 (ap h13 (ap h13 (ap (not_t h16) (ap (not_t h16) (ap (not_t h16) (ap (not_t h16) (ap (not_t h19) (ap (not_t h19) (ap (not_t h19) (ap (not_t h19) (ap (not_t h19) (ap (not_t h19) (ap (not_t h19) (ap (not_t h19) (ap (f49_ok a1 h15) (ap (f50_ok a1 h18) (ap h20 an))))))))))))))))))) ?_
          obtain ⟨o48, h49, h⟩ := bind_cases h
          cases o48 with
          | norm v50 =>
            refine T.oneN (by kernel_rfl) (f44r2n1_ok a2 a3 a4 a1 h49) (st2 := (f44r2n1E a2 a3 a4 a1 (.norm v50)).2) rfl ?_
            obtain ⟨x53, h54, h⟩ := bind_cases h
            obtain rfl := some_inj h
            exact run_end cfg_ok (rs := [([], [], []), ([], [(2, .call (.pl (.bool x53)) [some (.box [(.mp 1), (.pl (.int .i64 a1.Day)), (.pl (.int .i64 (wr64 (a3 + 1))))]), some (.map (v50.map (mkv (pAgg Account_.cells) (pInt .i64)))), none, none])], [])]) (ps := []) (tds := []) (m := []) (keep := [4]) (r := (.ret, (f44r2n0E a1 a2 a3 a4 (.ret x53 a1.Day (wr64 (a3 + 1)) v50)).2)) (by kernel_rfl) (ap (CallS.ren (args' := [(.bp 0 0), (.pl (.agg (JournalRecord.cells a1)))]) (v' := (.pl (.bool x53))) (B := [some (.box [(.mp 1), (.pl (.int .i64 a1.Day)), (.pl (.int .i64 (wr64 (a3 + 1))))]), some (.map (v50.map (mkv (pAgg Account_.cells) (pInt .i64)))), none, none]) (B' := [some (.box [(.mp 1), (.pl (.int .i64 a1.Day)), (.pl (.int .i64 (wr64 (a3 + 1))))]), some (.map (v50.map (mkv (pAgg Account_.cells) (pInt .i64)))), none, none]) 4 [0, 1] (f61r1_ok a1 a1.Day (wr64 (a3 + 1)) v50 h54) (by kernel_rfl) (by kernel_rfl) (by kernel_rfl) (by kernel_rfl) (by kernel_rfl) (by kernel_rfl)) an) rfl
      · obtain rfl := some_inj h
        exact runK_end cfg_ok (k := 2) (rs := [([], [], []), ([(6, false), (7, false), (8, false), (11, false), (12, false), (13, false), (16, true), (17, true), (18, true), (19, true), (20, true), (21, true), (22, true)], [(7, .call (.pl (.bool x14)) []), (9, .bool false), (12, .call (.pl (.bool x17)) []), (14, .bool false), (23, .bool true)], []), ([], [], [])]) (ps := [none]) (tds := []) (m := []) (keep := [4]) (ex := .ret) (st' := (f44r2n0E a1 a2 a3 a4 (.ret false a2 a3 a4)).2) (by kernel_rfl) (ap h13 (ap h13 (ap h13 (ap h13 (ap (not_t h16) (ap (not_t h16) (ap (not_t h16) (ap (not_t h16) (ap (not_f h19) (ap (not_f h19) (ap (not_f h19) (ap (not_f h19) (ap (not_f h19) (ap (not_f h19) (ap (not_f h19) (ap (not_f h19) (ap (f49_ok a1 h15) (ap (f50_ok a1 h18) an)))))))))))))))))) (fun h => nomatch h) rfl
    · obtain rfl := some_inj h
      exact runK_end cfg_ok (k := 2) (rs := [([], [], []), ([(6, false), (7, false), (8, false), (11, true), (12, true), (13, true)], [(7, .call (.pl (.bool x14)) []), (9, .bool false), (14, .bool true)], []), ([], [], [])]) (ps := [none]) (tds := []) (m := []) (keep := [4]) (ex := .ret) (st' := (f44r2n0E a1 a2 a3 a4 (.ret false a2 a3 a4)).2) (by kernel_rfl) (ap h13 (ap h13 (ap h13 (ap h13 (ap (not_f h16) (ap (not_f h16) (ap (not_f h16) (ap (not_f h16) (ap (f49_ok a1 h15) an))))))))) (fun h => nomatch h) rfl
noncomputable def f44r2 (a1 : JournalRecord) (a2 : Int) (a3 : Int) (a4 : List (Account_ × Int)) : Option (Bool × Int × Int × (List (Account_ × Int))) := (f44r2n0 a1 a2 a3 a4).bind fun o => match o with
  | .ret v55 v56 v57 v58 => some (v55, v56, v57, v58)
theorem f44r2_ok (a1 : JournalRecord) (a2 : Int) (a3 : Int) (a4 : List (Account_ × Int)) {r : Bool × Int × Int × (List (Account_ × Int))} (h : (f44r2 a1 a2 a3 a4) = some r) : CallS Try.prog true 44 [(.bp 0 0), (.pl (.agg (JournalRecord.cells a1)))] [some (.box [(.mp 1), (.pl (.int .i64 a2)), (.pl (.int .i64 a3))]), some (.map (a4.map (mkv (pAgg Account_.cells) (pInt .i64))))] (.pl (.bool r.1)) [some (.box [(.mp 1), (.pl (.int .i64 r.2.1)), (.pl (.int .i64 r.2.2.1))]), some (.map (r.2.2.2.map (mkv (pAgg Account_.cells) (pInt .i64))))] := by
  unfold f44r2 at h
  obtain ⟨o, ho, h⟩ := bind_cases h
  cases o with
  | ret v55 v56 v57 v58 =>
    obtain rfl := some_inj h
    exact CallS.shared cfg_ok (f := Try.f44) (c := c44) (by kernel_rfl) (by kernel_rfl) (by kernel_rfl) ((f44r2n0_ok a1 a2 a3 a4 ho).mono fun r e => by subst e; exact ⟨.inl rfl, by kernel_rfl, by kernel_rfl⟩)
end Go.Proofs.Ytbgjlpdeoljmiaa
