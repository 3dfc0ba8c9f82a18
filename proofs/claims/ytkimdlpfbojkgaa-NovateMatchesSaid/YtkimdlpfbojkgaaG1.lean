/- Functions of the program, plainly, and that the machine computes them. No condition. -/
import Derived.Test.YtkimdlpfbojkgaaGt
namespace Go.Proofs.Ytkimdlpfbojkgaa
set_option linter.unusedVariables false
set_option maxRecDepth 100000
open Go.RowKit
/-! ### novation/novationlaw34.alive -/
def f11 : Option Bool := some true
theorem f11_ok {r : Bool} (h : f11 = some r) : CallS Try.prog false 11 [] [] (.pl (.bool r)) [] := by
  obtain rfl := some_inj h
  exact CallS.eval cfg_ok (N := 500) (by kernel_rfl)
/-! ### novation/novationref34.Twin -/
noncomputable def c16 : Code := Try.f16.body.getD .skip
inductive f16r1n0O where
  | ret (v6 : List NovateTrade)
def f16r1n0E (a1 : NovateBook) : f16r1n0O → Ex × Tr × Hp
  | .ret v6 => (.ret, mkS [(2, (.bp 0 0))], [some (.box [(.own 1)]), some (.row false 8 (v6.map NovateTrade.cells))])
def f16r1n0S (a1 : NovateBook) : Tr × Hp := (initS [(.pl (.agg (NovateBook.cells a1)))] 0 .leaf, [])
def f16r1n0 (a1 : NovateBook) : Option f16r1n0O :=
  bif (a1.Trades.isEmpty) then
    some (.ret [])
  else
    req (fit a1.Trades.length 72) <|
    some (.ret a1.Trades)
theorem f16r1n0_ok (a1 : NovateBook) {o : f16r1n0O} (h : (f16r1n0 a1) = some o) : T Try.prog Try.f16.ntmps 0 c16 (f16r1n0S a1) (fun r => r = f16r1n0E a1 o) := by
  unfold f16r1n0 at h
  rcases cond_cases h with ⟨h4, h⟩ | ⟨h4, h⟩
  · obtain rfl := some_inj h
    exact run_end cfg_ok (rs := [([], [], []), ([], [(3, .app false)], [])]) (ps := []) (tds := []) (m := [1, 2]) (keep := [2]) (r := (.ret, (f16r1n0E a1 (.ret [])).2)) (by kernel_rfl) (ap (nil_map (c := NovateTrade.cells) h4) an) rfl
  · obtain ⟨h5, h⟩ := req_cases h
    obtain rfl := some_inj h
    exact run_end cfg_ok (rs := [([], [], []), ([], [(3, .app true)], [])]) (ps := []) (tds := []) (m := [1, 3]) (keep := [2]) (r := (.ret, (f16r1n0E a1 (.ret a1.Trades)).2)) (by kernel_rfl) (ap (fit_map0z (te := ti34) (xs := a1.Trades) (c := NovateTrade.cells) h5 rfl) (ap (ne_map (c := NovateTrade.cells) h4) (ap (len_all (c := NovateTrade.cells) (xs := a1.Trades) (n := 8) (fun _ => rfl)) an))) rfl
def f16r1 (a1 : NovateBook) : Option (List NovateTrade) := (f16r1n0 a1).bind fun o => match o with
  | .ret v6 => some v6
theorem f16r1_ok (a1 : NovateBook) {r : List NovateTrade} (h : (f16r1 a1) = some r) : CallS Try.prog true 16 [(.pl (.agg (NovateBook.cells a1)))] [] (.agg [(.own 1)]) [some (.box [(.own 1)]), some (.row false 8 (r.map NovateTrade.cells))] := by
  unfold f16r1 at h
  obtain ⟨o, ho, h⟩ := bind_cases h
  cases o with
  | ret v6 =>
    obtain rfl := some_inj h
    exact CallS.shared cfg_ok (f := Try.f16) (c := c16) (by kernel_rfl) (by kernel_rfl) (by kernel_rfl) ((f16r1n0_ok a1 ho).mono fun r e => by subst e; exact ⟨.inl rfl, by kernel_rfl, by kernel_rfl⟩)
/-! ### novation/observable.letter -/
noncomputable def c54 : Code := Try.f54.body.getD .skip
inductive f54n0O where
  | ret (v10 : Bool)
def f54n0E (a1 : Int) : f54n0O → Ex × Tr × Hp
  | .ret v10 => (.ret, mkS [(2, (.pl (.bool v10)))], [])
def f54n0S (a1 : Int) : Tr × Hp := (initS [(.pl (.int .u8 a1))] 0 .leaf, [])
def f54n0 (a1 : Int) : Option f54n0O :=
  bif (decide (97 ≤ a1)) then
    bif (decide (a1 ≤ 122)) then
      some (.ret true)
    else
      bif (decide (65 ≤ a1)) then
        some (.ret (decide (a1 ≤ 90)))
      else
        some (.ret false)
  else
    bif (decide (65 ≤ a1)) then
      some (.ret (decide (a1 ≤ 90)))
    else
      some (.ret false)
theorem f54n0_ok (a1 : Int) {o : f54n0O} (h : (f54n0 a1) = some o) : T Try.prog Try.f54.ntmps 0 c54 (f54n0S a1) (fun r => r = f54n0E a1 o) := by
  unfold f54n0 at h
  rcases cond_cases h with ⟨h6, h⟩ | ⟨h6, h⟩
  · rcases cond_cases h with ⟨h7, h⟩ | ⟨h7, h⟩
    · obtain rfl := some_inj h
      exact run_end cfg_ok (rs := [([], [], []), ([(3, true), (4, true), (7, true), (8, true), (9, true), (12, true)], [(5, .bool true), (13, .bool true)], [])]) (ps := []) (tds := []) (m := []) (keep := [2]) (r := (.ret, (f54n0E a1 (.ret true)).2)) (by kernel_rfl) (ap h6 (ap h6 (ap h6 (ap h7 (ap h7 (ap h7 (ap h7 (ap h7 an)))))))) rfl
    · rcases cond_cases h with ⟨h8, h⟩ | ⟨h8, h⟩
      · obtain rfl := some_inj h
        exact run_end cfg_ok (rs := [([], [], []), ([(3, true), (4, true), (7, false), (8, false), (9, false), (10, true), (11, true), (12, false)], [(5, .bool true), (12, .bool true), (13, .bool false)], [])]) (ps := []) (tds := []) (m := []) (keep := [2]) (r := (.ret, (f54n0E a1 (.ret (decide (a1 ≤ 90)))).2)) (by kernel_rfl) (ap h6 (ap h6 (ap h6 (ap h7 (ap h7 (ap h7 (ap h8 (ap h8 (ap h7 (ap h8 (ap h7 an))))))))))) rfl
      · obtain rfl := some_inj h
        exact run_end cfg_ok (rs := [([], [], []), ([(3, true), (4, true), (7, false), (8, false), (9, false), (10, false), (11, false), (12, false)], [(5, .bool true), (12, .bool false), (13, .bool false)], [])]) (ps := []) (tds := []) (m := []) (keep := [2]) (r := (.ret, (f54n0E a1 (.ret false)).2)) (by kernel_rfl) (ap h6 (ap h6 (ap h6 (ap h7 (ap h7 (ap h7 (ap h8 (ap h8 (ap h7 (ap h8 (ap h7 an))))))))))) rfl
  · rcases cond_cases h with ⟨h9, h⟩ | ⟨h9, h⟩
    · obtain rfl := some_inj h
      exact run_end cfg_ok (rs := [([], [], []), ([(3, false), (4, false), (10, true), (11, true)], [(5, .bool false), (12, .bool true)], [])]) (ps := []) (tds := []) (m := []) (keep := [2]) (r := (.ret, (f54n0E a1 (.ret (decide (a1 ≤ 90)))).2)) (by kernel_rfl) (ap h6 (ap h6 (ap h6 (ap h9 (ap h9 (ap h9 an)))))) rfl
    · obtain rfl := some_inj h
      exact run_end cfg_ok (rs := [([], [], []), ([(3, false), (4, false), (10, false), (11, false)], [(5, .bool false), (12, .bool false)], [])]) (ps := []) (tds := []) (m := []) (keep := [2]) (r := (.ret, (f54n0E a1 (.ret false)).2)) (by kernel_rfl) (ap h6 (ap h6 (ap h6 (ap h9 (ap h9 (ap h9 an)))))) rfl
def f54 (a1 : Int) : Option Bool := (f54n0 a1).bind fun o => match o with
  | .ret v10 => some v10
theorem f54_ok (a1 : Int) {r : Bool} (h : (f54 a1) = some r) : CallS Try.prog false 54 [(.pl (.int .u8 a1))] [] (.pl (.bool r)) [] := by
  unfold f54 at h
  obtain ⟨o, ho, h⟩ := bind_cases h
  cases o with
  | ret v10 =>
    obtain rfl := some_inj h
    exact CallS.plain cfg_ok (f := Try.f54) (c := c54) (by kernel_rfl) (by kernel_rfl) (by kernel_rfl) (by kernel_rfl) ((f54n0_ok a1 ho).mono fun r e => by subst e; exact ⟨.inl rfl, (.pl (.bool v10)), (.pl (.bool v10)), by kernel_rfl, by kernel_rfl, ((Wk.refl _) : Wk (.pl (.bool v10)) (.pl (.bool v10)))⟩)
/-! ### novation/observable.Name -/
noncomputable def c50 : Code := Try.f50.body.getD .skip
inductive f50n2O where
  | exit0
  | ret
def f50n2E (bc1 : ByteArray) : f50n2O → Ex × Tr × Hp
  | .exit0 => ((.exit 0), mkS [], [])
  | .ret => (.ret, mkS [(2, (.pl (.bool false)))], [])
def f50n2S (bc1 : ByteArray) (v65 : Int) : Tr × Hp := (mkS [(0, (.pl (.str bc1))), (20, (.pl (.int .i64 (bc1.size : Int)))), (21, (.pl (.int .i64 v65)))], [])
def f50n2 : Nat → ByteArray → Int → Option f50n2O
  | 0, _, _ => none
  | f + 1, bc1, v65 =>
    bif (decide (v65 < (bc1.size : Int))) then
      (at? bc1.data.toList v65).bind fun x79 =>
      (f54 (x79.toNat : Int)).bind fun x81 =>
      bif x81 then
        (f50n2 f bc1 (wr64 (v65 + 1)))
      else
        bif (decide ((x79.toNat : Int) < 48)) then
          bif (decide ((x79.toNat : Int) = 95)) then
            (f50n2 f bc1 (wr64 (v65 + 1)))
          else
            bif (decide ((x79.toNat : Int) = 45)) then
              (f50n2 f bc1 (wr64 (v65 + 1)))
            else
              some .ret
        else
          bif (decide (57 < (x79.toNat : Int))) then
            bif (decide ((x79.toNat : Int) = 95)) then
              (f50n2 f bc1 (wr64 (v65 + 1)))
            else
              bif (decide ((x79.toNat : Int) = 45)) then
                (f50n2 f bc1 (wr64 (v65 + 1)))
              else
                some .ret
          else
            (f50n2 f bc1 (wr64 (v65 + 1)))
    else
      some .exit0
theorem f50n2_ok : ∀ (f : Nat) (bc1 : ByteArray) (v65 : Int) {o : f50n2O}, (f50n2 f bc1 v65) = some o → TL Try.prog Try.f50.ntmps 0 f (cL (cL (dropC 1 (cL (dropC 2 c50))))) (f50n2S bc1 v65) (fun r => r = f50n2E bc1 o)
  | 0, _, _, o, h => by rw [f50n2] at h; cases h
  | f + 1, bc1, v65, o, h => by
    rw [f50n2] at h
    refine TL.body (K := fun s => ∃ v65 : Int, s = (f50n2S bc1 v65) ∧ (f50n2 f bc1 v65) = some o) ?_ (by rintro _ ⟨v65, rfl, hk⟩; exact f50n2_ok f _ _ hk)
    rcases cond_cases h with ⟨h67, h⟩ | ⟨h67, h⟩
    · obtain ⟨x79, h80, h⟩ := bind_cases h
      obtain ⟨x81, h82, h⟩ := bind_cases h
      rcases cond_cases h with ⟨h83, h⟩ | ⟨h83, h⟩
      · exact run_end cfg_ok (rs := [([], [], []), ([], [], []), ([], [(2, .byte (Int.toNat v65) x79)], []), ([(4, false), (5, false), (6, false), (9, false)], [(1, .call (.pl (.bool x81)) []), (10, .bool false)], []), ([], [], [])]) (ps := [some true, none]) (tds := []) (m := []) (keep := [0, 20, 21]) (r := (.norm, (f50n2S bc1 (wr64 (v65 + 1))))) (by kernel_rfl) (ap h67 (ap (at_some h80).1 (ap (at_some h80).2 (ap (not_t h83) (ap (not_t h83) (ap (not_t h83) (ap (not_t h83) (ap (not_t h83) (ap (f54_ok (x79.toNat : Int) h82) an))))))))) (LoopQ.norm ⟨(wr64 (v65 + 1)), rfl, h⟩)
      · rcases cond_cases h with ⟨h84, h⟩ | ⟨h84, h⟩
        · rcases cond_cases h with ⟨h85, h⟩ | ⟨h85, h⟩
          · exact run_end cfg_ok (rs := [([], [], []), ([], [], []), ([], [(2, .byte (Int.toNat v65) x79)], []), ([(4, true), (5, true), (6, true), (7, true), (8, true), (9, true), (16, false), (17, false)], [(1, .call (.pl (.bool x81)) []), (9, .bool true), (10, .bool true), (18, .bool false)], []), ([], [], [])]) (ps := [some true, none]) (tds := []) (m := []) (keep := [0, 20, 21]) (r := (.norm, (f50n2S bc1 (wr64 (v65 + 1))))) (by kernel_rfl) (ap h67 (ap (at_some h80).1 (ap (at_some h80).2 (ap (not_f h83) (ap (not_f h83) (ap (not_f h83) (ap h84 (ap h84 (ap (not_f h83) (ap h84 (ap (not_f h83) (ap (not_t h85) (ap (not_t h85) (ap (not_t h85) (ap (f54_ok (x79.toNat : Int) h82) an))))))))))))))) (LoopQ.norm ⟨(wr64 (v65 + 1)), rfl, h⟩)
          · rcases cond_cases h with ⟨h86, h⟩ | ⟨h86, h⟩
            · exact run_end cfg_ok (rs := [([], [], []), ([], [], []), ([], [(2, .byte (Int.toNat v65) x79)], []), ([(4, true), (5, true), (6, true), (7, true), (8, true), (9, true), (16, true), (17, true)], [(1, .call (.pl (.bool x81)) []), (9, .bool true), (10, .bool true), (18, .bool true)], []), ([], [], [])]) (ps := [some true, some false]) (tds := []) (m := []) (keep := [0, 20, 21]) (r := (.norm, (f50n2S bc1 (wr64 (v65 + 1))))) (by kernel_rfl) (ap h67 (ap (at_some h80).1 (ap (at_some h80).2 (ap (not_f h83) (ap (not_f h83) (ap (not_f h83) (ap h84 (ap h84 (ap (not_f h83) (ap h84 (ap (not_f h83) (ap (not_f h85) (ap (not_f h85) (ap (not_f h85) (ap (f54_ok (x79.toNat : Int) h82) (ap (not_t h86) an)))))))))))))))) (LoopQ.norm ⟨(wr64 (v65 + 1)), rfl, h⟩)
            · obtain rfl := some_inj h
              exact runK_end cfg_ok (k := 3) (rs := [([], [], []), ([], [], []), ([], [(2, .byte (Int.toNat v65) x79)], []), ([(4, true), (5, true), (6, true), (7, true), (8, true), (9, true), (16, true), (17, true)], [(1, .call (.pl (.bool x81)) []), (9, .bool true), (10, .bool true), (18, .bool true)], []), ([], [], [])]) (ps := [some true, some true]) (tds := []) (m := []) (keep := [2]) (ex := .ret) (st' := (f50n2E bc1 .ret).2) (by kernel_rfl) (ap h67 (ap (at_some h80).1 (ap (at_some h80).2 (ap (not_f h83) (ap (not_f h83) (ap (not_f h83) (ap h84 (ap h84 (ap (not_f h83) (ap h84 (ap (not_f h83) (ap (not_f h85) (ap (not_f h85) (ap (not_f h85) (ap (f54_ok (x79.toNat : Int) h82) (ap (not_f h86) an)))))))))))))))) (fun h => nomatch h) (LoopQ.out rfl rfl)
        · rcases cond_cases h with ⟨h87, h⟩ | ⟨h87, h⟩
          · rcases cond_cases h with ⟨h88, h⟩ | ⟨h88, h⟩
            · exact run_end cfg_ok (rs := [([], [], []), ([], [], []), ([], [(2, .byte (Int.toNat v65) x79)], []), ([(4, true), (5, true), (6, true), (7, false), (8, false), (9, true), (12, true), (13, true), (16, false), (17, false)], [(1, .call (.pl (.bool x81)) []), (9, .bool false), (10, .bool true), (14, .bool true), (18, .bool false)], []), ([], [], [])]) (ps := [some true, none]) (tds := []) (m := []) (keep := [0, 20, 21]) (r := (.norm, (f50n2S bc1 (wr64 (v65 + 1))))) (by kernel_rfl) (ap h67 (ap (at_some h80).1 (ap (at_some h80).2 (ap (not_f h83) (ap (not_f h83) (ap (not_f h83) (ap h84 (ap h84 (ap (not_f h83) (ap h84 (ap (not_f h83) (ap h87 (ap h87 (ap h87 (ap (not_t h88) (ap (not_t h88) (ap (not_t h88) (ap (f54_ok (x79.toNat : Int) h82) an)))))))))))))))))) (LoopQ.norm ⟨(wr64 (v65 + 1)), rfl, h⟩)
            · rcases cond_cases h with ⟨h89, h⟩ | ⟨h89, h⟩
              · exact run_end cfg_ok (rs := [([], [], []), ([], [], []), ([], [(2, .byte (Int.toNat v65) x79)], []), ([(4, true), (5, true), (6, true), (7, false), (8, false), (9, true), (12, true), (13, true), (16, true), (17, true)], [(1, .call (.pl (.bool x81)) []), (9, .bool false), (10, .bool true), (14, .bool true), (18, .bool true)], []), ([], [], [])]) (ps := [some true, some false]) (tds := []) (m := []) (keep := [0, 20, 21]) (r := (.norm, (f50n2S bc1 (wr64 (v65 + 1))))) (by kernel_rfl) (ap h67 (ap (at_some h80).1 (ap (at_some h80).2 (ap (not_f h83) (ap (not_f h83) (ap (not_f h83) (ap h84 (ap h84 (ap (not_f h83) (ap h84 (ap (not_f h83) (ap h87 (ap h87 (ap h87 (ap (not_f h88) (ap (not_f h88) (ap (not_f h88) (ap (f54_ok (x79.toNat : Int) h82) (ap (not_t h89) an))))))))))))))))))) (LoopQ.norm ⟨(wr64 (v65 + 1)), rfl, h⟩)
              · obtain rfl := some_inj h
                exact runK_end cfg_ok (k := 3) (rs := [([], [], []), ([], [], []), ([], [(2, .byte (Int.toNat v65) x79)], []), ([(4, true), (5, true), (6, true), (7, false), (8, false), (9, true), (12, true), (13, true), (16, true), (17, true)], [(1, .call (.pl (.bool x81)) []), (9, .bool false), (10, .bool true), (14, .bool true), (18, .bool true)], []), ([], [], [])]) (ps := [some true, some true]) (tds := []) (m := []) (keep := [2]) (ex := .ret) (st' := (f50n2E bc1 .ret).2) (by kernel_rfl) (ap h67 (ap (at_some h80).1 (ap (at_some h80).2 (ap (not_f h83) (ap (not_f h83) (ap (not_f h83) (ap h84 (ap h84 (ap (not_f h83) (ap h84 (ap (not_f h83) (ap h87 (ap h87 (ap h87 (ap (not_f h88) (ap (not_f h88) (ap (not_f h88) (ap (f54_ok (x79.toNat : Int) h82) (ap (not_f h89) an))))))))))))))))))) (fun h => nomatch h) (LoopQ.out rfl rfl)
          · exact run_end cfg_ok (rs := [([], [], []), ([], [], []), ([], [(2, .byte (Int.toNat v65) x79)], []), ([(4, true), (5, true), (6, true), (7, false), (8, false), (9, true), (12, false), (13, false)], [(1, .call (.pl (.bool x81)) []), (9, .bool false), (10, .bool true), (14, .bool false)], []), ([], [], [])]) (ps := [some true, none]) (tds := []) (m := []) (keep := [0, 20, 21]) (r := (.norm, (f50n2S bc1 (wr64 (v65 + 1))))) (by kernel_rfl) (ap h67 (ap (at_some h80).1 (ap (at_some h80).2 (ap (not_f h83) (ap (not_f h83) (ap (not_f h83) (ap h84 (ap h84 (ap (not_f h83) (ap h84 (ap (not_f h83) (ap h87 (ap h87 (ap h87 (ap (f54_ok (x79.toNat : Int) h82) an))))))))))))))) (LoopQ.norm ⟨(wr64 (v65 + 1)), rfl, h⟩)
    · obtain rfl := some_inj h
      exact runK_end cfg_ok (k := 2) (rs := [([], [], [])]) (ps := [some false]) (tds := []) (m := []) (keep := []) (ex := (.exit 0)) (st' := (f50n2E bc1 .exit0).2) (by kernel_rfl) (ap h67 an) (fun h => nomatch h) (LoopQ.out rfl rfl)
def f50n2L (bc1 : ByteArray) : List UInt8 → Int → Option f50n2O
  | [], v65 =>
    some .exit0
  | x0 :: rest, v65 =>
    (f54 (x0.toNat : Int)).bind fun x81 =>
    bif x81 then
      (f50n2L bc1 rest (v65 + 1))
    else
      bif (decide ((x0.toNat : Int) < 48)) then
        bif (decide ((x0.toNat : Int) = 95)) then
          (f50n2L bc1 rest (v65 + 1))
        else
          bif (decide ((x0.toNat : Int) = 45)) then
            (f50n2L bc1 rest (v65 + 1))
          else
            some .ret
      else
        bif (decide (57 < (x0.toNat : Int))) then
          bif (decide ((x0.toNat : Int) = 95)) then
            (f50n2L bc1 rest (v65 + 1))
          else
            bif (decide ((x0.toNat : Int) = 45)) then
              (f50n2L bc1 rest (v65 + 1))
            else
              some .ret
        else
          (f50n2L bc1 rest (v65 + 1))
theorem f50n2L_eq (bc1 : ByteArray) : ∀ (rest : List UInt8) (f k : Nat), bc1.data.toList.drop k = rest → bc1.data.toList.length ≤ maxLen → rest.length < f → f50n2 f bc1 (k : Int) = f50n2L bc1 rest (k : Int)
  | _, 0, _, _, _, hf => absurd hf (Nat.not_lt_zero _)
  | [], f + 1, k, hd, hm, hf => by
    have hk : ¬ ((k : Int) < (bc1.data.toList.length : Int)) := by have := drop_nil hd; omega
    rw [f50n2, f50n2L]
    simp only [size_list, decide_eq_false hk, cond_false]
  | x0 :: rest, f + 1, k, hd, hm, hf => by
    obtain ⟨hx, hlt, hd'⟩ := drop_cons hd
    have hk : (k : Int) < (bc1.data.toList.length : Int) := by omega
    have hw : wr64 ((k : Int) + 1) = (k : Int) + 1 := wr64_of (by omega) (by unfold maxLen at hm; omega)
    have ih : f50n2 f bc1 ((k : Int) + 1) = f50n2L bc1 rest ((k : Int) + 1) := f50n2L_eq bc1 rest f (k + 1) hd' hm (by simpa using hf)
    rw [f50n2, f50n2L]
    simp only [size_list, decide_eq_true hk, cond_true, at_nat, hx, Option.bind_some, hw, ih]
theorem f50n2_run (bc1 : ByteArray) (hm : bc1.data.toList.length ≤ maxLen) : f50n2 FUEL bc1 0 = f50n2L bc1 bc1.data.toList 0 := f50n2L_eq bc1 bc1.data.toList FUEL 0 List.drop_zero hm (lt_FUEL hm)
inductive f50n1O where
  | norm
  | ret
def f50n1E (bc1 : ByteArray) : f50n1O → Ex × Tr × Hp
  | .norm => (.norm, mkS [], [])
  | .ret => (.ret, mkS [(2, (.pl (.bool false)))], [])
def f50n1S (bc1 : ByteArray) : Tr × Hp := (mkS [(0, (.pl (.str bc1)))], [])
def f50n1 (bc1 : ByteArray) : Option f50n1O :=
  (f50n2 FUEL bc1 0).bind fun o90 => match o90 with
  | .exit0 => some .norm
  | .ret => some .ret
theorem f50n1_ok (bc1 : ByteArray) {o : f50n1O} (h : (f50n1 bc1) = some o) : T Try.prog Try.f50.ntmps 0 (cL (dropC 2 c50)) (f50n1S bc1) (fun r => r = f50n1E bc1 o) := by
  unfold f50n1 at h
  refine runK_norm cfg_ok (k := 1) (rs := [([], [], [])]) (ps := []) (tds := []) (m := []) (keep := [0, 20, 21]) (st' := (f50n2S bc1 0)) (by kernel_rfl) an ?_
  obtain ⟨o90, h91, h⟩ := bind_cases h
  cases o90 with
  | exit0 =>
    obtain rfl := some_inj h
    exact T.last' (T.bl (i := 0) (by kernel_rfl) (by kernel_rfl) (f50n2_ok FUEL bc1 0 h91)) (tds := []) (m := []) (keep := []) (st2 := (f50n1E bc1 .norm).2) (by kernel_rfl) an rfl
  | ret =>
    obtain rfl := some_inj h
    exact T.last' (T.bl (i := 0) (by kernel_rfl) (by kernel_rfl) (f50n2_ok FUEL bc1 0 h91)) (tds := []) (m := []) (keep := [2]) (st2 := (f50n1E bc1 .ret).2) (by kernel_rfl) an rfl
inductive f50n0O where
  | ret (v94 : Bool)
def f50n0E (a1 : ByteArray) : f50n0O → Ex × Tr × Hp
  | .ret v94 => (.ret, mkS [(2, (.pl (.bool v94)))], [])
def f50n0S (a1 : ByteArray) : Tr × Hp := (initS [(.pl (.str a1))] 0 .leaf, [])
def f50n0 (a1 : ByteArray) : Option f50n0O :=
  bif (decide ((a1.size : Int) < 1)) then
    some (.ret false)
  else
    bif (decide (40 < (a1.size : Int))) then
      some (.ret false)
    else
      (at? a1.data.toList 0).bind fun x11 =>
      (f54 (x11.toNat : Int)).bind fun x13 =>
      bif x13 then
        (f50n1 a1).bind fun o92 => match o92 with
        | .norm => some (.ret true)
        | .ret => some (.ret false)
      else
        some (.ret false)
theorem f50n0_ok (a1 : ByteArray) {o : f50n0O} (h : (f50n0 a1) = some o) : T Try.prog Try.f50.ntmps 0 c50 (f50n0S a1) (fun r => r = f50n0E a1 o) := by
  unfold f50n0 at h
  rcases cond_cases h with ⟨h9, h⟩ | ⟨h9, h⟩
  · obtain rfl := some_inj h
    exact runK_end cfg_ok (k := 2) (rs := [([], [], []), ([(4, true), (5, true), (6, true)], [(7, .bool true)], []), ([], [], [])]) (ps := [none]) (tds := []) (m := []) (keep := [2]) (ex := .ret) (st' := (f50n0E a1 (.ret false)).2) (by kernel_rfl) (ap h9 (ap h9 (ap h9 (ap h9 an)))) (fun h => nomatch h) rfl
  · rcases cond_cases h with ⟨h10, h⟩ | ⟨h10, h⟩
    · obtain rfl := some_inj h
      exact runK_end cfg_ok (k := 2) (rs := [([], [], []), ([(4, false), (5, false), (6, false), (9, true), (10, true), (11, true), (12, true)], [(7, .bool false), (13, .bool true)], []), ([], [], [])]) (ps := [none]) (tds := []) (m := []) (keep := [2]) (ex := .ret) (st' := (f50n0E a1 (.ret false)).2) (by kernel_rfl) (ap h9 (ap h9 (ap h9 (ap h9 (ap h10 (ap h10 (ap h10 (ap h10 (ap h10 an))))))))) (fun h => nomatch h) rfl
    · obtain ⟨x11, h12, h⟩ := bind_cases h
      obtain ⟨x13, h14, h⟩ := bind_cases h
      rcases cond_cases h with ⟨h15, h⟩ | ⟨h15, h⟩
      · refine runK_norm cfg_ok (k := 2) (rs := [([], [], []), ([(4, false), (5, false), (6, false), (9, false), (10, false), (11, false), (12, false)], [(7, .bool false), (10, .byte (Int.toNat 0) x11), (11, .call (.pl (.bool x13)) []), (13, .bool false)], [])]) (ps := [some false]) (tds := []) (m := []) (keep := [0]) (st' := (f50n1S a1)) (by kernel_rfl) (ap h9 (ap h9 (ap h9 (ap h9 (ap h10 (ap h10 (ap (at_some h12).1 (ap (at_some h12).2 (ap h10 (ap h10 (ap h10 (ap (f54_ok (x11.toNat : Int) h14) (ap (not_t h15) an))))))))))))) ?_
        obtain ⟨o92, h93, h⟩ := bind_cases h
        cases o92 with
        | norm =>
          refine T.oneN (by kernel_rfl) (f50n1_ok a1 h93) (st2 := (f50n1E a1 .norm).2) rfl ?_
          obtain rfl := some_inj h
          exact run_end cfg_ok (rs := [([], [], [])]) (ps := []) (tds := []) (m := []) (keep := [2]) (r := (.ret, (f50n0E a1 (.ret true)).2)) (by kernel_rfl) an rfl
        | ret =>
          obtain rfl := some_inj h
          exact T.oneX' (by kernel_rfl) (f50n1_ok a1 h93) (tds := []) (m := []) (keep := [2]) (st2 := (f50n0E a1 (.ret false)).2) (by kernel_rfl) an rfl rfl
      · obtain rfl := some_inj h
        exact runK_end cfg_ok (k := 2) (rs := [([], [], []), ([(4, false), (5, false), (6, false), (9, false), (10, false), (11, false), (12, false)], [(7, .bool false), (10, .byte (Int.toNat 0) x11), (11, .call (.pl (.bool x13)) []), (13, .bool false)], []), ([], [], [])]) (ps := [some true]) (tds := []) (m := []) (keep := [2]) (ex := .ret) (st' := (f50n0E a1 (.ret false)).2) (by kernel_rfl) (ap h9 (ap h9 (ap h9 (ap h9 (ap h10 (ap h10 (ap (at_some h12).1 (ap (at_some h12).2 (ap h10 (ap h10 (ap h10 (ap (f54_ok (x11.toNat : Int) h14) (ap (not_f h15) an))))))))))))) (fun h => nomatch h) rfl
def f50 (a1 : ByteArray) : Option Bool := (f50n0 a1).bind fun o => match o with
  | .ret v94 => some v94
theorem f50_ok (a1 : ByteArray) {r : Bool} (h : (f50 a1) = some r) : CallS Try.prog false 50 [(.pl (.str a1))] [] (.pl (.bool r)) [] := by
  unfold f50 at h
  obtain ⟨o, ho, h⟩ := bind_cases h
  cases o with
  | ret v94 =>
    obtain rfl := some_inj h
    exact CallS.plain cfg_ok (f := Try.f50) (c := c50) (by kernel_rfl) (by kernel_rfl) (by kernel_rfl) (by kernel_rfl) ((f50n0_ok a1 ho).mono fun r e => by subst e; exact ⟨.inl rfl, (.pl (.bool v94)), (.pl (.bool v94)), by kernel_rfl, by kernel_rfl, ((Wk.refl _) : Wk (.pl (.bool v94)) (.pl (.bool v94)))⟩)
/-! ### novation/novate.party -/
noncomputable def c49 : Code := Try.f49.body.getD .skip
inductive f49n0O where
  | ret (v8 : Bool)
def f49n0E (a1 : ByteArray) : f49n0O → Ex × Tr × Hp
  | .ret v8 => (.ret, mkS [(2, (.pl (.bool v8)))], [])
def f49n0S (a1 : ByteArray) : Tr × Hp := (initS [(.pl (.str a1))] 0 .leaf, [])
def f49n0 (a1 : ByteArray) : Option f49n0O :=
  bif (seq a1 str_house) then
    some (.ret false)
  else
    (f50 a1).bind fun x6 =>
    some (.ret x6)
theorem f49n0_ok (a1 : ByteArray) {o : f49n0O} (h : (f49n0 a1) = some o) : T Try.prog Try.f49.ntmps 0 c49 (f49n0S a1) (fun r => r = f49n0E a1 o) := by
  unfold f49n0 at h
  rcases cond_cases h with ⟨h5, h⟩ | ⟨h5, h⟩
  · obtain rfl := some_inj h
    exact run_end cfg_ok (rs := [([], [], []), ([(3, false), (4, false)], [(5, .bool false)], [])]) (ps := []) (tds := []) (m := []) (keep := [2]) (r := (.ret, (f49n0E a1 (.ret false)).2)) (by kernel_rfl) (ap (not_t h5) (ap (not_t h5) (ap (not_t h5) an))) rfl
  · obtain ⟨x6, h7, h⟩ := bind_cases h
    obtain rfl := some_inj h
    exact run_end cfg_ok (rs := [([], [], []), ([(3, true), (4, true)], [(4, .call (.pl (.bool x6)) []), (5, .bool true)], [])]) (ps := []) (tds := []) (m := []) (keep := [2]) (r := (.ret, (f49n0E a1 (.ret x6)).2)) (by kernel_rfl) (ap (not_f h5) (ap (not_f h5) (ap (not_f h5) (ap (f50_ok a1 h7) an)))) rfl
def f49 (a1 : ByteArray) : Option Bool := (f49n0 a1).bind fun o => match o with
  | .ret v8 => some v8
theorem f49_ok (a1 : ByteArray) {r : Bool} (h : (f49 a1) = some r) : CallS Try.prog false 49 [(.pl (.str a1))] [] (.pl (.bool r)) [] := by
  unfold f49 at h
  obtain ⟨o, ho, h⟩ := bind_cases h
  cases o with
  | ret v8 =>
    obtain rfl := some_inj h
    exact CallS.plain cfg_ok (f := Try.f49) (c := c49) (by kernel_rfl) (by kernel_rfl) (by kernel_rfl) (by kernel_rfl) ((f49n0_ok a1 ho).mono fun r e => by subst e; exact ⟨.inl rfl, (.pl (.bool v8)), (.pl (.bool v8)), by kernel_rfl, by kernel_rfl, ((Wk.refl _) : Wk (.pl (.bool v8)) (.pl (.bool v8)))⟩)
/-! ### novation/novate.agreed -/
noncomputable def c35 : Code := Try.f35.body.getD .skip
inductive f35n1O where
  | norm (v29 : Bool)
def f35n1E (bb1 : NovateTrade) : f35n1O → Ex × Tr × Hp
  | .norm v29 => (.norm, mkS [(1, (.bp 0 0)), (3, (.pl (.bool v29)))], [some (.box ((NovateTrade.cells bb1).map .pl))])
def f35n1S (bb1 : NovateTrade) : Tr × Hp := (mkS [(1, (.bp 0 0))], [some (.box ((NovateTrade.cells bb1).map .pl))])
def f35n1 (bb1 : NovateTrade) : Option f35n1O :=
  (f49 bb1.Buyer).bind fun x20 =>
  bif x20 then
    (f49 bb1.Seller).bind fun x23 =>
    bif x23 then
      bif (seq bb1.Buyer bb1.Seller) then
        some (.norm false)
      else
        (f50 bb1.Product).bind fun x27 =>
        some (.norm x27)
    else
      some (.norm false)
  else
    some (.norm false)
theorem f35n1_ok (bb1 : NovateTrade) {o : f35n1O} (h : (f35n1 bb1) = some o) : T Try.prog Try.f35.ntmps 0 (cL (dropC 1 c35)) (f35n1S bb1) (fun r => r = f35n1E bb1 o) := by
  unfold f35n1 at h
  obtain ⟨x20, h21, h⟩ := bind_cases h
  rcases cond_cases h with ⟨h22, h⟩ | ⟨h22, h⟩
  · obtain ⟨x23, h24, h⟩ := bind_cases h
    rcases cond_cases h with ⟨h25, h⟩ | ⟨h25, h⟩
    · rcases cond_cases h with ⟨h26, h⟩ | ⟨h26, h⟩
      · obtain rfl := some_inj h
        exact run_end cfg_ok (rs := [([(4, true), (5, true), (6, true), (9, true), (10, true), (11, true), (12, true), (13, true), (16, false), (17, false), (18, false)], [(2, .call (.pl (.bool x20)) []), (6, .call (.pl (.bool x23)) []), (7, .bool true), (14, .bool true), (19, .bool false)], [])]) (ps := []) (tds := []) (m := [0]) (keep := [1, 3]) (r := (.norm, (f35n1E bb1 (.norm false)).2)) (by kernel_rfl) (ap h22 (ap h22 (ap h22 (ap h22 (ap h25 (ap h25 (ap h25 (ap h25 (ap h25 (ap h25 (ap (not_t h26) (ap (not_t h26) (ap (not_t h26) (ap (not_t h26) (ap (f49_ok bb1.Buyer h21) (ap (f49_ok bb1.Seller h24) an)))))))))))))))) rfl
      · obtain ⟨x27, h28, h⟩ := bind_cases h
        obtain rfl := some_inj h
        exact run_end cfg_ok (rs := [([(4, true), (5, true), (6, true), (9, true), (10, true), (11, true), (12, true), (13, true), (16, true), (17, true), (18, true)], [(2, .call (.pl (.bool x20)) []), (6, .call (.pl (.bool x23)) []), (7, .bool true), (14, .bool true), (18, .call (.pl (.bool x27)) []), (19, .bool true)], [])]) (ps := []) (tds := []) (m := [0]) (keep := [1, 3]) (r := (.norm, (f35n1E bb1 (.norm x27)).2)) (by kernel_rfl) (ap h22 (ap h22 (ap h22 (ap h22 (ap h25 (ap h25 (ap h25 (ap h25 (ap h25 (ap h25 (ap (not_f h26) (ap (not_f h26) (ap (not_f h26) (ap (not_f h26) (ap (f49_ok bb1.Buyer h21) (ap (f49_ok bb1.Seller h24) (ap (f50_ok bb1.Product h28) an))))))))))))))))) rfl
    · obtain rfl := some_inj h
      exact run_end cfg_ok (rs := [([(4, true), (5, true), (6, true), (9, false), (10, false), (11, false), (12, false), (13, false)], [(2, .call (.pl (.bool x20)) []), (6, .call (.pl (.bool x23)) []), (7, .bool true), (14, .bool false)], [])]) (ps := []) (tds := []) (m := [0]) (keep := [1, 3]) (r := (.norm, (f35n1E bb1 (.norm false)).2)) (by kernel_rfl) (ap h22 (ap h22 (ap h22 (ap h22 (ap h25 (ap h25 (ap h25 (ap h25 (ap h25 (ap h25 (ap (f49_ok bb1.Buyer h21) (ap (f49_ok bb1.Seller h24) an)))))))))))) rfl
  · obtain rfl := some_inj h
    exact run_end cfg_ok (rs := [([(4, false), (5, false), (6, false)], [(2, .call (.pl (.bool x20)) []), (7, .bool false)], [])]) (ps := []) (tds := []) (m := [0]) (keep := [1, 3]) (r := (.norm, (f35n1E bb1 (.norm false)).2)) (by kernel_rfl) (ap h22 (ap h22 (ap h22 (ap h22 (ap (f49_ok bb1.Buyer h21) an))))) rfl
inductive f35n0O where
  | ret (v41 : Bool)
def f35n0E (a1 : NovateTrade) : f35n0O → Ex × Tr × Hp
  | .ret v41 => (.ret, mkS [(2, (.pl (.bool v41)))], [])
def f35n0S (a1 : NovateTrade) : Tr × Hp := (initS [(.pl (.agg (NovateTrade.cells a1)))] 0 .leaf, [])
def f35n0 (a1 : NovateTrade) : Option f35n0O :=
  (f35n1 a1).bind fun o30 => match o30 with
  | .norm v32 => bif v32 then
      bif (decide (1 ≤ a1.Quantity)) then
        bif (decide (a1.Quantity ≤ 1048576)) then
          bif (decide ((-536870912) ≤ a1.Price)) then
            some (.ret (decide (a1.Price ≤ 536870912)))
          else
            some (.ret false)
        else
          some (.ret false)
      else
        some (.ret false)
    else
      some (.ret false)
theorem f35n0_ok (a1 : NovateTrade) {o : f35n0O} (h : (f35n0 a1) = some o) : T Try.prog Try.f35.ntmps 0 c35 (f35n0S a1) (fun r => r = f35n0E a1 o) := by
  unfold f35n0 at h
  refine runK_norm cfg_ok (k := 1) (rs := [([], [], [])]) (ps := []) (tds := []) (m := [0]) (keep := [1]) (st' := (f35n1S a1)) (by kernel_rfl) an ?_
  obtain ⟨o30, h31, h⟩ := bind_cases h
  cases o30 with
  | norm v32 =>
    refine T.oneN (by kernel_rfl) (f35n1_ok a1 h31) (st2 := (f35n1E a1 (.norm v32)).2) rfl ?_
    rcases cond_cases h with ⟨h37, h⟩ | ⟨h37, h⟩
    · rcases cond_cases h with ⟨h38, h⟩ | ⟨h38, h⟩
      · rcases cond_cases h with ⟨h39, h⟩ | ⟨h39, h⟩
        · rcases cond_cases h with ⟨h40, h⟩ | ⟨h40, h⟩
          · obtain rfl := some_inj h
            exact run_end cfg_ok (rs := [([(2, true), (3, true), (4, true), (7, true), (8, true), (9, true), (12, true), (13, true), (14, true), (17, true), (18, true), (19, true)], [(5, .bool true), (10, .bool true), (15, .bool true), (20, .bool true)], [])]) (ps := []) (tds := []) (m := []) (keep := [2]) (r := (.ret, (f35n0E a1 (.ret (decide (a1.Price ≤ 536870912)))).2)) (by kernel_rfl) (ap h37 (ap h37 (ap h37 (ap h37 (ap h38 (ap h38 (ap h38 (ap h38 (ap h39 (ap h39 (ap h39 (ap h39 (ap h40 (ap h40 (ap h40 (ap h40 an)))))))))))))))) rfl
          · obtain rfl := some_inj h
            exact run_end cfg_ok (rs := [([(2, true), (3, true), (4, true), (7, true), (8, true), (9, true), (12, true), (13, true), (14, true), (17, false), (18, false), (19, false)], [(5, .bool true), (10, .bool true), (15, .bool true), (20, .bool false)], [])]) (ps := []) (tds := []) (m := []) (keep := [2]) (r := (.ret, (f35n0E a1 (.ret false)).2)) (by kernel_rfl) (ap h37 (ap h37 (ap h37 (ap h37 (ap h38 (ap h38 (ap h38 (ap h38 (ap h39 (ap h39 (ap h39 (ap h39 (ap h40 (ap h40 (ap h40 (ap h40 an)))))))))))))))) rfl
        · obtain rfl := some_inj h
          exact run_end cfg_ok (rs := [([(2, true), (3, true), (4, true), (7, true), (8, true), (9, true), (12, false), (13, false), (14, false)], [(5, .bool true), (10, .bool true), (15, .bool false)], [])]) (ps := []) (tds := []) (m := []) (keep := [2]) (r := (.ret, (f35n0E a1 (.ret false)).2)) (by kernel_rfl) (ap h37 (ap h37 (ap h37 (ap h37 (ap h38 (ap h38 (ap h38 (ap h38 (ap h39 (ap h39 (ap h39 (ap h39 an)))))))))))) rfl
      · obtain rfl := some_inj h
        exact run_end cfg_ok (rs := [([(2, true), (3, true), (4, true), (7, false), (8, false), (9, false)], [(5, .bool true), (10, .bool false)], [])]) (ps := []) (tds := []) (m := []) (keep := [2]) (r := (.ret, (f35n0E a1 (.ret false)).2)) (by kernel_rfl) (ap h37 (ap h37 (ap h37 (ap h37 (ap h38 (ap h38 (ap h38 (ap h38 an)))))))) rfl
    · obtain rfl := some_inj h
      exact run_end cfg_ok (rs := [([(2, false), (3, false), (4, false)], [(5, .bool false)], [])]) (ps := []) (tds := []) (m := []) (keep := [2]) (r := (.ret, (f35n0E a1 (.ret false)).2)) (by kernel_rfl) (ap h37 (ap h37 (ap h37 (ap h37 an)))) rfl
def f35 (a1 : NovateTrade) : Option Bool := (f35n0 a1).bind fun o => match o with
  | .ret v41 => some v41
theorem f35_ok (a1 : NovateTrade) {r : Bool} (h : (f35 a1) = some r) : CallS Try.prog false 35 [(.pl (.agg (NovateTrade.cells a1)))] [] (.pl (.bool r)) [] := by
  unfold f35 at h
  obtain ⟨o, ho, h⟩ := bind_cases h
  cases o with
  | ret v41 =>
    obtain rfl := some_inj h
    exact CallS.plain cfg_ok (f := Try.f35) (c := c35) (by kernel_rfl) (by kernel_rfl) (by kernel_rfl) (by kernel_rfl) ((f35n0_ok a1 ho).mono fun r e => by subst e; exact ⟨.inl rfl, (.pl (.bool v41)), (.pl (.bool v41)), by kernel_rfl, by kernel_rfl, ((Wk.refl _) : Wk (.pl (.bool v41)) (.pl (.bool v41)))⟩)
/-! ### novation/novate.valid -/
noncomputable def c33 : Code := Try.f33.body.getD .skip
inductive f33n1O where
  | norm (v5 : Bool)
def f33n1E (bb1 : NovateTrade) : f33n1O → Ex × Tr × Hp
  | .norm v5 => (.norm, mkS [(1, (.bp 0 0)), (3, (.pl (.bool v5)))], [some (.box ((NovateTrade.cells bb1).map .pl))])
def f33n1S (bb1 : NovateTrade) : Tr × Hp := (mkS [(1, (.bp 0 0))], [some (.box ((NovateTrade.cells bb1).map .pl))])
def f33n1 (bb1 : NovateTrade) : Option f33n1O :=
  bif bb1.Bought then
    some (.norm bb1.Sold)
  else
    some (.norm false)
theorem f33n1_ok (bb1 : NovateTrade) {o : f33n1O} (h : (f33n1 bb1) = some o) : T Try.prog Try.f33.ntmps 0 (cL (dropC 1 c33)) (f33n1S bb1) (fun r => r = f33n1E bb1 o) := by
  unfold f33n1 at h
  rcases cond_cases h with ⟨h4, h⟩ | ⟨h4, h⟩
  · obtain rfl := some_inj h
    exact run_end cfg_ok (rs := [([(3, true), (4, true)], [(5, .bool true)], [])]) (ps := []) (tds := []) (m := [0]) (keep := [1, 3]) (r := (.norm, (f33n1E bb1 (.norm bb1.Sold)).2)) (by kernel_rfl) (ap h4 (ap h4 (ap h4 an))) rfl
  · obtain rfl := some_inj h
    exact run_end cfg_ok (rs := [([(3, false), (4, false)], [(5, .bool false)], [])]) (ps := []) (tds := []) (m := [0]) (keep := [1, 3]) (r := (.norm, (f33n1E bb1 (.norm false)).2)) (by kernel_rfl) (ap h4 (ap h4 (ap h4 an))) rfl
inductive f33n0O where
  | ret (v41 : Bool)
def f33n0E (a1 : NovateTrade) : f33n0O → Ex × Tr × Hp
  | .ret v41 => (.ret, mkS [(2, (.pl (.bool v41)))], [])
def f33n0S (a1 : NovateTrade) : Tr × Hp := (initS [(.pl (.agg (NovateTrade.cells a1)))] 0 .leaf, [])
def f33n0 (a1 : NovateTrade) : Option f33n0O :=
  (f33n1 a1).bind fun o6 => match o6 with
  | .norm v8 => bif (decide (a1.Stage = 0)) then
      (f35 a1).bind fun x26 =>
      bif x26 then
        some (.ret (!v8))
      else
        some (.ret false)
    else
      bif (decide (a1.Stage = 2)) then
        (f35 a1).bind fun x30 =>
        bif x30 then
          some (.ret (!v8))
        else
          some (.ret false)
      else
        bif (decide (a1.Stage = 1)) then
          (f35 a1).bind fun x34 =>
          bif x34 then
            some (.ret v8)
          else
            some (.ret false)
        else
          bif (decide (a1.Stage = 3)) then
            (f35 a1).bind fun x38 =>
            bif x38 then
              some (.ret v8)
            else
              some (.ret false)
          else
            some (.ret false)
theorem f33n0_ok (a1 : NovateTrade) {o : f33n0O} (h : (f33n0 a1) = some o) : T Try.prog Try.f33.ntmps 0 c33 (f33n0S a1) (fun r => r = f33n0E a1 o) := by
  unfold f33n0 at h
  refine runK_norm cfg_ok (k := 1) (rs := [([], [], [])]) (ps := []) (tds := []) (m := [0]) (keep := [1]) (st' := (f33n1S a1)) (by kernel_rfl) an ?_
  obtain ⟨o6, h7, h⟩ := bind_cases h
  cases o6 with
  | norm v8 =>
    refine T.oneN (by kernel_rfl) (f33n1_ok a1 h7) (st2 := (f33n1E a1 (.norm v8)).2) rfl ?_
    rcases cond_cases h with ⟨h25, h⟩ | ⟨h25, h⟩
    · obtain ⟨x26, h27, h⟩ := bind_cases h
      rcases cond_cases h with ⟨h28, h⟩ | ⟨h28, h⟩
      · obtain rfl := some_inj h
        exact runK_end cfg_ok (k := 1) (rs := [([], [], []), ([], [], []), ([(3, true), (4, true)], [(1, .call (.pl (.bool x26)) []), (5, .bool true)], [])]) (ps := [some true, some true]) (tds := []) (m := []) (keep := [2]) (ex := .ret) (st' := (f33n0E a1 (.ret (!v8))).2) (by kernel_rfl) (ap h25 (ap h25 (ap h28 (ap h28 (ap h28 (ap (f35_ok a1 h27) an)))))) (fun h => nomatch h) rfl
      · obtain rfl := some_inj h
        exact runK_end cfg_ok (k := 1) (rs := [([], [], []), ([], [], []), ([(3, false), (4, false)], [(1, .call (.pl (.bool x26)) []), (5, .bool false)], [])]) (ps := [some true, some true]) (tds := []) (m := []) (keep := [2]) (ex := .ret) (st' := (f33n0E a1 (.ret false)).2) (by kernel_rfl) (ap h25 (ap h25 (ap h28 (ap h28 (ap h28 (ap (f35_ok a1 h27) an)))))) (fun h => nomatch h) rfl
    · rcases cond_cases h with ⟨h29, h⟩ | ⟨h29, h⟩
      · obtain ⟨x30, h31, h⟩ := bind_cases h
        rcases cond_cases h with ⟨h32, h⟩ | ⟨h32, h⟩
        · obtain rfl := some_inj h
          exact runK_end cfg_ok (k := 1) (rs := [([], [], []), ([], [], []), ([], [], []), ([(3, true), (4, true)], [(1, .call (.pl (.bool x30)) []), (5, .bool true)], [])]) (ps := [some false, some true]) (tds := []) (m := []) (keep := [2]) (ex := .ret) (st' := (f33n0E a1 (.ret (!v8))).2) (by kernel_rfl) (ap h25 (ap h29 (ap h32 (ap h32 (ap h32 (ap (f35_ok a1 h31) an)))))) (fun h => nomatch h) rfl
        · obtain rfl := some_inj h
          exact runK_end cfg_ok (k := 1) (rs := [([], [], []), ([], [], []), ([], [], []), ([(3, false), (4, false)], [(1, .call (.pl (.bool x30)) []), (5, .bool false)], [])]) (ps := [some false, some true]) (tds := []) (m := []) (keep := [2]) (ex := .ret) (st' := (f33n0E a1 (.ret false)).2) (by kernel_rfl) (ap h25 (ap h29 (ap h32 (ap h32 (ap h32 (ap (f35_ok a1 h31) an)))))) (fun h => nomatch h) rfl
      · rcases cond_cases h with ⟨h33, h⟩ | ⟨h33, h⟩
        · obtain ⟨x34, h35, h⟩ := bind_cases h
          rcases cond_cases h with ⟨h36, h⟩ | ⟨h36, h⟩
          · obtain rfl := some_inj h
            exact runK_end cfg_ok (k := 1) (rs := [([], [], []), ([], [], []), ([], [], []), ([], [], []), ([(3, true)], [(1, .call (.pl (.bool x34)) []), (4, .bool true)], [])]) (ps := [some false, some false, some true, some true]) (tds := []) (m := []) (keep := [2]) (ex := .ret) (st' := (f33n0E a1 (.ret v8)).2) (by kernel_rfl) (ap h25 (ap h29 (ap h33 (ap h33 (ap h36 (ap h36 (ap (f35_ok a1 h35) an))))))) (fun h => nomatch h) rfl
          · obtain rfl := some_inj h
            exact runK_end cfg_ok (k := 1) (rs := [([], [], []), ([], [], []), ([], [], []), ([], [], []), ([(3, false)], [(1, .call (.pl (.bool x34)) []), (4, .bool false)], [])]) (ps := [some false, some false, some true, some true]) (tds := []) (m := []) (keep := [2]) (ex := .ret) (st' := (f33n0E a1 (.ret false)).2) (by kernel_rfl) (ap h25 (ap h29 (ap h33 (ap h33 (ap h36 (ap h36 (ap (f35_ok a1 h35) an))))))) (fun h => nomatch h) rfl
        · rcases cond_cases h with ⟨h37, h⟩ | ⟨h37, h⟩
          · obtain ⟨x38, h39, h⟩ := bind_cases h
            rcases cond_cases h with ⟨h40, h⟩ | ⟨h40, h⟩
            · obtain rfl := some_inj h
              exact runK_end cfg_ok (k := 1) (rs := [([], [], []), ([], [], []), ([], [], []), ([], [], []), ([], [], []), ([(3, true)], [(1, .call (.pl (.bool x38)) []), (4, .bool true)], [])]) (ps := [some false, some false, some false, some true]) (tds := []) (m := []) (keep := [2]) (ex := .ret) (st' := (f33n0E a1 (.ret v8)).2) (by kernel_rfl) (ap h25 (ap h29 (ap h33 (ap h37 (ap h40 (ap h40 (ap (f35_ok a1 h39) an))))))) (fun h => nomatch h) rfl
            · obtain rfl := some_inj h
              exact runK_end cfg_ok (k := 1) (rs := [([], [], []), ([], [], []), ([], [], []), ([], [], []), ([], [], []), ([(3, false)], [(1, .call (.pl (.bool x38)) []), (4, .bool false)], [])]) (ps := [some false, some false, some false, some true]) (tds := []) (m := []) (keep := [2]) (ex := .ret) (st' := (f33n0E a1 (.ret false)).2) (by kernel_rfl) (ap h25 (ap h29 (ap h33 (ap h37 (ap h40 (ap h40 (ap (f35_ok a1 h39) an))))))) (fun h => nomatch h) rfl
          · obtain rfl := some_inj h
            exact run_end cfg_ok (rs := [([], [], []), ([], [], []), ([], [], []), ([], [], []), ([], [], []), ([], [], [])]) (ps := [some false, some false, some false, some false]) (tds := []) (m := []) (keep := [2]) (r := (.ret, (f33n0E a1 (.ret false)).2)) (by kernel_rfl) (ap h25 (ap h29 (ap h33 (ap h37 an)))) rfl
def f33 (a1 : NovateTrade) : Option Bool := (f33n0 a1).bind fun o => match o with
  | .ret v41 => some v41
theorem f33_ok (a1 : NovateTrade) {r : Bool} (h : (f33 a1) = some r) : CallS Try.prog false 33 [(.pl (.agg (NovateTrade.cells a1)))] [] (.pl (.bool r)) [] := by
  unfold f33 at h
  obtain ⟨o, ho, h⟩ := bind_cases h
  cases o with
  | ret v41 =>
    obtain rfl := some_inj h
    exact CallS.plain cfg_ok (f := Try.f33) (c := c33) (by kernel_rfl) (by kernel_rfl) (by kernel_rfl) (by kernel_rfl) ((f33n0_ok a1 ho).mono fun r e => by subst e; exact ⟨.inl rfl, (.pl (.bool v41)), (.pl (.bool v41)), by kernel_rfl, by kernel_rfl, ((Wk.refl _) : Wk (.pl (.bool v41)) (.pl (.bool v41)))⟩)
/-! ### novation/novate.Check$1 -/
noncomputable def c32 : Code := Try.f32.body.getD .skip
inductive f32n0O where
  | ret (v6 : Bool)
def f32n0E (a1 : NovateTrade) : f32n0O → Ex × Tr × Hp
  | .ret v6 => (.ret, mkS [(2, (.pl (.bool v6)))], [])
def f32n0S (a1 : NovateTrade) : Tr × Hp := (initS [(.pl (.agg (NovateTrade.cells a1)))] 0 .leaf, [])
def f32n0 (a1 : NovateTrade) : Option f32n0O :=
  (f33 a1).bind fun x4 =>
  some (.ret (!x4))
theorem f32n0_ok (a1 : NovateTrade) {o : f32n0O} (h : (f32n0 a1) = some o) : T Try.prog Try.f32.ntmps 0 c32 (f32n0S a1) (fun r => r = f32n0E a1 o) := by
  unfold f32n0 at h
  obtain ⟨x4, h5, h⟩ := bind_cases h
  obtain rfl := some_inj h
  exact run_end cfg_ok (rs := [([], [], []), ([], [(1, .call (.pl (.bool x4)) [])], [])]) (ps := []) (tds := []) (m := []) (keep := [2]) (r := (.ret, (f32n0E a1 (.ret (!x4))).2)) (by kernel_rfl) (ap (f33_ok a1 h5) an) rfl
def f32 (a1 : NovateTrade) : Option Bool := (f32n0 a1).bind fun o => match o with
  | .ret v6 => some v6
theorem f32_ok (a1 : NovateTrade) {r : Bool} (h : (f32 a1) = some r) : CallS Try.prog false 32 [(.pl (.agg (NovateTrade.cells a1)))] [] (.pl (.bool r)) [] := by
  unfold f32 at h
  obtain ⟨o, ho, h⟩ := bind_cases h
  cases o with
  | ret v6 =>
    obtain rfl := some_inj h
    exact CallS.plain cfg_ok (f := Try.f32) (c := c32) (by kernel_rfl) (by kernel_rfl) (by kernel_rfl) (by kernel_rfl) ((f32n0_ok a1 ho).mono fun r e => by subst e; exact ⟨.inl rfl, (.pl (.bool v6)), (.pl (.bool v6)), by kernel_rfl, by kernel_rfl, ((Wk.refl _) : Wk (.pl (.bool v6)) (.pl (.bool v6)))⟩)
/-! ### slices.IndexFunc[[]novation/api.NovateTrade,novation/api.NovateTrade] -/
noncomputable def c48 : Code := Try.f48.body.getD .skip
inductive f48_32n2O where
  | exit0
  | ret (v40 : Int)
def f48_32n2E (ba1 : List NovateTrade) : f48_32n2O → Ex × Tr × Hp
  | .exit0 => ((.exit 0), mkS [], [])
  | .ret v40 => (.ret, mkS [(4, (.pl (.int .i64 v40)))], [])
def f48_32n2S (ba1 : List NovateTrade) (v27 : Int) : Tr × Hp := (mkS [(0, (.pl (.sl .any 8 (ba1.map NovateTrade.cells)))), (1, (.pl (.fn 32))), (7, (.pl (.int .i64 (ba1.length : Int)))), (8, (.pl (.int .i64 v27)))], [])
def f48_32n2 : Nat → List NovateTrade → Int → Option f48_32n2O
  | 0, _, _ => none
  | f + 1, ba1, v27 =>
    bif (decide (v27 < (ba1.length : Int))) then
      (at? ba1 v27).bind fun x35 =>
      (f32 x35).bind fun x37 =>
      bif x37 then
        some (.ret v27)
      else
        (f48_32n2 f ba1 (wr64 (v27 + 1)))
    else
      some .exit0
theorem f48_32n2_ok : ∀ (f : Nat) (ba1 : List NovateTrade) (v27 : Int) {o : f48_32n2O}, (f48_32n2 f ba1 v27) = some o → TL Try.prog Try.f48.ntmps 0 f (cL (cL (dropC 1 (cL (dropC 1 c48))))) (f48_32n2S ba1 v27) (fun r => r = f48_32n2E ba1 o)
  | 0, _, _, o, h => by rw [f48_32n2] at h; cases h
  | f + 1, ba1, v27, o, h => by
    rw [f48_32n2] at h
    refine TL.body (K := fun s => ∃ v27 : Int, s = (f48_32n2S ba1 v27) ∧ (f48_32n2 f ba1 v27) = some o) ?_ (by rintro _ ⟨v27, rfl, hk⟩; exact f48_32n2_ok f _ _ hk)
    rcases cond_cases h with ⟨h29, h⟩ | ⟨h29, h⟩
    · obtain ⟨x35, h36, h⟩ := bind_cases h
      obtain ⟨x37, h38, h⟩ := bind_cases h
      rcases cond_cases h with ⟨h39, h⟩ | ⟨h39, h⟩
      · obtain rfl := some_inj h
        exact runK_end cfg_ok (k := 3) (rs := [([], [], []), ([], [], []), ([], [(3, .idx (Int.toNat v27) (NovateTrade.cells x35)), (5, .call (.pl (.bool x37)) [])], []), ([], [], [])]) (ps := [some true, some true]) (tds := []) (m := []) (keep := [4]) (ex := .ret) (st' := (f48_32n2E ba1 (.ret v27)).2) (by kernel_rfl) (ap h29 (ap (at_some h36).1 (ap (at_map NovateTrade.cells (at_some h36).2) (ap (f32_ok x35 h38) (ap h39 an))))) (fun h => nomatch h) (LoopQ.out rfl rfl)
      · exact run_end cfg_ok (rs := [([], [], []), ([], [], []), ([], [(3, .idx (Int.toNat v27) (NovateTrade.cells x35)), (5, .call (.pl (.bool x37)) [])], []), ([], [], [])]) (ps := [some true, some false]) (tds := []) (m := []) (keep := [0, 1, 7, 8]) (r := (.norm, (f48_32n2S ba1 (wr64 (v27 + 1))))) (by kernel_rfl) (ap h29 (ap (at_some h36).1 (ap (at_map NovateTrade.cells (at_some h36).2) (ap (f32_ok x35 h38) (ap h39 an))))) (LoopQ.norm ⟨(wr64 (v27 + 1)), rfl, h⟩)
    · obtain rfl := some_inj h
      exact runK_end cfg_ok (k := 2) (rs := [([], [], [])]) (ps := [some false]) (tds := []) (m := []) (keep := []) (ex := (.exit 0)) (st' := (f48_32n2E ba1 .exit0).2) (by kernel_rfl) (ap h29 an) (fun h => nomatch h) (LoopQ.out rfl rfl)
def f48_32n2L (ba1 : List NovateTrade) : List NovateTrade → Int → Option f48_32n2O
  | [], v27 =>
    some .exit0
  | x0 :: rest, v27 =>
    (f32 x0).bind fun x37 =>
    bif x37 then
      some (.ret v27)
    else
      (f48_32n2L ba1 rest (v27 + 1))
theorem f48_32n2L_eq (ba1 : List NovateTrade) : ∀ (rest : List NovateTrade) (f k : Nat), ba1.drop k = rest → ba1.length ≤ maxLen → rest.length < f → f48_32n2 f ba1 (k : Int) = f48_32n2L ba1 rest (k : Int)
  | _, 0, _, _, _, hf => absurd hf (Nat.not_lt_zero _)
  | [], f + 1, k, hd, hm, hf => by
    have hk : ¬ ((k : Int) < (ba1.length : Int)) := by have := drop_nil hd; omega
    rw [f48_32n2, f48_32n2L]
    simp only [decide_eq_false hk, cond_false]
  | x0 :: rest, f + 1, k, hd, hm, hf => by
    obtain ⟨hx, hlt, hd'⟩ := drop_cons hd
    have hk : (k : Int) < (ba1.length : Int) := by omega
    have hw : wr64 ((k : Int) + 1) = (k : Int) + 1 := wr64_of (by omega) (by unfold maxLen at hm; omega)
    have ih : f48_32n2 f ba1 ((k : Int) + 1) = f48_32n2L ba1 rest ((k : Int) + 1) := f48_32n2L_eq ba1 rest f (k + 1) hd' hm (by simpa using hf)
    rw [f48_32n2, f48_32n2L]
    simp only [decide_eq_true hk, cond_true, at_nat, hx, Option.bind_some, hw, ih]
theorem f48_32n2_run (ba1 : List NovateTrade) (hm : ba1.length ≤ maxLen) : f48_32n2 FUEL ba1 0 = f48_32n2L ba1 ba1 0 := f48_32n2L_eq ba1 ba1 FUEL 0 List.drop_zero hm (lt_FUEL hm)
inductive f48_32n1O where
  | norm
  | ret (v44 : Int)
def f48_32n1E (ba1 : List NovateTrade) : f48_32n1O → Ex × Tr × Hp
  | .norm => (.norm, mkS [], [])
  | .ret v44 => (.ret, mkS [(4, (.pl (.int .i64 v44)))], [])
def f48_32n1S (ba1 : List NovateTrade) : Tr × Hp := (mkS [(0, (.pl (.sl .any 8 (ba1.map NovateTrade.cells)))), (1, (.pl (.fn 32)))], [])
def f48_32n1 (ba1 : List NovateTrade) : Option f48_32n1O :=
  (f48_32n2 FUEL ba1 0).bind fun o41 => match o41 with
  | .exit0 => some .norm
  | .ret v43 => some (.ret v43)
theorem f48_32n1_ok (ba1 : List NovateTrade) {o : f48_32n1O} (h : (f48_32n1 ba1) = some o) : T Try.prog Try.f48.ntmps 0 (cL (dropC 1 c48)) (f48_32n1S ba1) (fun r => r = f48_32n1E ba1 o) := by
  unfold f48_32n1 at h
  refine runK_norm cfg_ok (k := 1) (rs := [([], [], [(1, .val (.pl (.int .i64 (ba1.length : Int))))])]) (ps := []) (tds := []) (m := []) (keep := [0, 1, 7, 8]) (st' := (f48_32n2S ba1 0)) (by kernel_rfl) (ap (len_cv (xs := ba1) (c := NovateTrade.cells)) an) ?_
  obtain ⟨o41, h42, h⟩ := bind_cases h
  cases o41 with
  | exit0 =>
    obtain rfl := some_inj h
    exact T.last' (T.bl (i := 0) (by kernel_rfl) (by kernel_rfl) (f48_32n2_ok FUEL ba1 0 h42)) (tds := []) (m := []) (keep := []) (st2 := (f48_32n1E ba1 .norm).2) (by kernel_rfl) an rfl
  | ret v43 =>
    obtain rfl := some_inj h
    exact T.last' (T.bl (i := 0) (by kernel_rfl) (by kernel_rfl) (f48_32n2_ok FUEL ba1 0 h42)) (tds := []) (m := []) (keep := [4]) (st2 := (f48_32n1E ba1 (.ret v43)).2) (by kernel_rfl) an rfl
inductive f48_32n0O where
  | ret (v48 : Int)
def f48_32n0E (a1 : List NovateTrade) : f48_32n0O → Ex × Tr × Hp
  | .ret v48 => (.ret, mkS [(4, (.pl (.int .i64 v48)))], [])
def f48_32n0S (a1 : List NovateTrade) : Tr × Hp := (initS [(.pl (.sl .any 8 (a1.map NovateTrade.cells))), (.pl (.fn 32))] 0 .leaf, [])
def f48_32n0 (a1 : List NovateTrade) : Option f48_32n0O :=
  (f48_32n1 a1).bind fun o45 => match o45 with
  | .norm => some (.ret (-1))
  | .ret v47 => some (.ret v47)
theorem f48_32n0_ok (a1 : List NovateTrade) {o : f48_32n0O} (h : (f48_32n0 a1) = some o) : T Try.prog Try.f48.ntmps 0 c48 (f48_32n0S a1) (fun r => r = f48_32n0E a1 o) := by
  unfold f48_32n0 at h
  refine runK_norm cfg_ok (k := 1) (rs := [([], [], [])]) (ps := []) (tds := []) (m := []) (keep := [0, 1]) (st' := (f48_32n1S a1)) (by kernel_rfl) an ?_
  obtain ⟨o45, h46, h⟩ := bind_cases h
  cases o45 with
  | norm =>
    refine T.oneN (by kernel_rfl) (f48_32n1_ok a1 h46) (st2 := (f48_32n1E a1 .norm).2) rfl ?_
    obtain rfl := some_inj h
    exact run_end cfg_ok (rs := [([], [], [])]) (ps := []) (tds := []) (m := []) (keep := [4]) (r := (.ret, (f48_32n0E a1 (.ret (-1))).2)) (by kernel_rfl) an rfl
  | ret v47 =>
    obtain rfl := some_inj h
    exact T.oneX' (by kernel_rfl) (f48_32n1_ok a1 h46) (tds := []) (m := []) (keep := [4]) (st2 := (f48_32n0E a1 (.ret v47)).2) (by kernel_rfl) an rfl rfl
def f48_32 (a1 : List NovateTrade) : Option Int := (f48_32n0 a1).bind fun o => match o with
  | .ret v48 => some v48
theorem f48_32_ok (a1 : List NovateTrade) {r : Int} (h : (f48_32 a1) = some r) : CallS Try.prog false 48 [(.pl (.sl .any 8 (a1.map NovateTrade.cells))), (.pl (.fn 32))] [] (.pl (.int .i64 r)) [] := by
  unfold f48_32 at h
  obtain ⟨o, ho, h⟩ := bind_cases h
  cases o with
  | ret v48 =>
    obtain rfl := some_inj h
    exact CallS.plain cfg_ok (f := Try.f48) (c := c48) (by kernel_rfl) (by kernel_rfl) (by kernel_rfl) (by kernel_rfl) ((f48_32n0_ok a1 ho).mono fun r e => by subst e; exact ⟨.inl rfl, (.pl (.int .i64 v48)), (.pl (.int .i64 v48)), by kernel_rfl, by kernel_rfl, ((Wk.refl _) : Wk (.pl (.int .i64 v48)) (.pl (.int .i64 v48)))⟩)
/-! ### slices.ContainsFunc[[]novation/api.NovateTrade,novation/api.NovateTrade] -/
noncomputable def c34 : Code := Try.f34.body.getD .skip
inductive f34_32n0O where
  | ret (v6 : Bool)
def f34_32n0E (a1 : List NovateTrade) : f34_32n0O → Ex × Tr × Hp
  | .ret v6 => (.ret, mkS [(4, (.pl (.bool v6)))], [])
def f34_32n0S (a1 : List NovateTrade) : Tr × Hp := (initS [(.pl (.sl .any 8 (a1.map NovateTrade.cells))), (.pl (.fn 32))] 0 .leaf, [])
def f34_32n0 (a1 : List NovateTrade) : Option f34_32n0O :=
  (f48_32 a1).bind fun x4 =>
  some (.ret (decide (0 ≤ x4)))
theorem f34_32n0_ok (a1 : List NovateTrade) {o : f34_32n0O} (h : (f34_32n0 a1) = some o) : T Try.prog Try.f34.ntmps 0 c34 (f34_32n0S a1) (fun r => r = f34_32n0E a1 o) := by
  unfold f34_32n0 at h
  obtain ⟨x4, h5, h⟩ := bind_cases h
  obtain rfl := some_inj h
  exact run_end cfg_ok (rs := [([], [], []), ([], [(2, .call (.pl (.int .i64 x4)) [])], [])]) (ps := []) (tds := []) (m := []) (keep := [4]) (r := (.ret, (f34_32n0E a1 (.ret (decide (0 ≤ x4)))).2)) (by kernel_rfl) (ap (f48_32_ok a1 h5) an) rfl
def f34_32 (a1 : List NovateTrade) : Option Bool := (f34_32n0 a1).bind fun o => match o with
  | .ret v6 => some v6
theorem f34_32_ok (a1 : List NovateTrade) {r : Bool} (h : (f34_32 a1) = some r) : CallS Try.prog false 34 [(.pl (.sl .any 8 (a1.map NovateTrade.cells))), (.pl (.fn 32))] [] (.pl (.bool r)) [] := by
  unfold f34_32 at h
  obtain ⟨o, ho, h⟩ := bind_cases h
  cases o with
  | ret v6 =>
    obtain rfl := some_inj h
    exact CallS.plain cfg_ok (f := Try.f34) (c := c34) (by kernel_rfl) (by kernel_rfl) (by kernel_rfl) (by kernel_rfl) ((f34_32n0_ok a1 ho).mono fun r e => by subst e; exact ⟨.inl rfl, (.pl (.bool v6)), (.pl (.bool v6)), by kernel_rfl, by kernel_rfl, ((Wk.refl _) : Wk (.pl (.bool v6)) (.pl (.bool v6)))⟩)
/-! ### novation/novate.Check -/
noncomputable def c13 : Code := Try.f13.body.getD .skip
inductive f13n0O where
  | ret (v10 : Int)
def f13n0E (a1 : NovateBook) : f13n0O → Ex × Tr × Hp
  | .ret v10 => (.ret, mkS [(2, (.pl (.int .i64 v10)))], [])
def f13n0S (a1 : NovateBook) : Tr × Hp := (initS [(.pl (.agg (NovateBook.cells a1)))] 0 .leaf, [])
def f13n0 (a1 : NovateBook) : Option f13n0O :=
  bif (decide (200 < (a1.Trades.length : Int))) then
    some (.ret 8)
  else
    (f34_32 a1.Trades).bind fun x7 =>
    bif x7 then
      some (.ret 8)
    else
      some (.ret 0)
theorem f13n0_ok (a1 : NovateBook) {o : f13n0O} (h : (f13n0 a1) = some o) : T Try.prog Try.f13.ntmps 0 c13 (f13n0S a1) (fun r => r = f13n0E a1 o) := by
  unfold f13n0 at h
  rcases cond_cases h with ⟨h6, h⟩ | ⟨h6, h⟩
  · obtain rfl := some_inj h
    exact runK_end cfg_ok (k := 3) (rs := [([], [], []), ([], [], []), ([(5, true), (6, true), (7, true), (8, true)], [(9, .bool true)], [(2, .val (.pl (.int .i64 (a1.Trades.length : Int))))]), ([], [], [])]) (ps := [none]) (tds := []) (m := []) (keep := [2]) (ex := .ret) (st' := (f13n0E a1 (.ret 8)).2) (by kernel_rfl) (ap (len_cv (xs := a1.Trades) (c := NovateTrade.cells)) (ap h6 (ap h6 (ap h6 (ap h6 (ap h6 an)))))) (fun h => nomatch h) rfl
  · obtain ⟨x7, h8, h⟩ := bind_cases h
    rcases cond_cases h with ⟨h9, h⟩ | ⟨h9, h⟩
    · obtain rfl := some_inj h
      exact runK_end cfg_ok (k := 3) (rs := [([], [], []), ([], [], []), ([(5, false), (6, false), (7, false), (8, false)], [(8, .call (.pl (.bool x7)) []), (9, .bool false)], [(2, .val (.pl (.int .i64 (a1.Trades.length : Int))))]), ([], [], [])]) (ps := [some true]) (tds := []) (m := []) (keep := [2]) (ex := .ret) (st' := (f13n0E a1 (.ret 8)).2) (by kernel_rfl) (ap (len_cv (xs := a1.Trades) (c := NovateTrade.cells)) (ap h6 (ap h6 (ap h6 (ap h6 (ap h6 (ap (f34_32_ok a1.Trades h8) (ap h9 an)))))))) (fun h => nomatch h) rfl
    · obtain rfl := some_inj h
      exact run_end cfg_ok (rs := [([], [], []), ([], [], []), ([(5, false), (6, false), (7, false), (8, false)], [(8, .call (.pl (.bool x7)) []), (9, .bool false)], [(2, .val (.pl (.int .i64 (a1.Trades.length : Int))))]), ([], [], [])]) (ps := [some false]) (tds := []) (m := []) (keep := [2]) (r := (.ret, (f13n0E a1 (.ret 0)).2)) (by kernel_rfl) (ap (len_cv (xs := a1.Trades) (c := NovateTrade.cells)) (ap h6 (ap h6 (ap h6 (ap h6 (ap h6 (ap (f34_32_ok a1.Trades h8) (ap h9 an)))))))) rfl
def f13 (a1 : NovateBook) : Option Int := (f13n0 a1).bind fun o => match o with
  | .ret v10 => some v10
theorem f13_ok (a1 : NovateBook) {r : Int} (h : (f13 a1) = some r) : CallS Try.prog false 13 [(.pl (.agg (NovateBook.cells a1)))] [] (.pl (.int .i64 r)) [] := by
  unfold f13 at h
  obtain ⟨o, ho, h⟩ := bind_cases h
  cases o with
  | ret v10 =>
    obtain rfl := some_inj h
    exact CallS.plain cfg_ok (f := Try.f13) (c := c13) (by kernel_rfl) (by kernel_rfl) (by kernel_rfl) (by kernel_rfl) ((f13n0_ok a1 ho).mono fun r e => by subst e; exact ⟨.inl rfl, (.pl (.int .i64 v10)), (.pl (.int .i64 v10)), by kernel_rfl, by kernel_rfl, ((Wk.refl _) : Wk (.pl (.int .i64 v10)) (.pl (.int .i64 v10)))⟩)
/-! ### slices.Clone[[]novation/api.NovateTrade,novation/api.NovateTrade] -/
noncomputable def c36 : Code := Try.f36.body.getD .skip
inductive f36r1n0O where
  | ret (v5 : List NovateTrade)
def f36r1n0E (a1 : List NovateTrade) : f36r1n0O → Ex × Tr × Hp
  | .ret v5 => (.ret, mkS [(2, (.own 15))], [none, none, none, some (.row true 8 (a1.map NovateTrade.cells)), none, none, none, none, none, none, none, none, none, none, none, some (.row false 8 (v5.map NovateTrade.cells))])
def f36r1n0S (a1 : List NovateTrade) : Tr × Hp := (initS [(.own 3)] 0 .leaf, [none, none, none, some (.row true 8 (a1.map NovateTrade.cells)), none, none, none, none, none, none, none, none, none, none, none])
def f36r1n0 (a1 : List NovateTrade) : Option f36r1n0O :=
  bif (a1.isEmpty) then
    some (.ret [])
  else
    req (fit a1.length 72) <|
    some (.ret a1)
theorem f36r1n0_ok (a1 : List NovateTrade) {o : f36r1n0O} (h : (f36r1n0 a1) = some o) : T Try.prog Try.f36.ntmps 15 c36 (f36r1n0S a1) (fun r => r = f36r1n0E a1 o) := by
  unfold f36r1n0 at h
  refine runK_norm cfg_ok (k := 1) (rs := [([], [], [])]) (ps := []) (tds := []) (m := []) (keep := [0]) (st' := (mkS [(0, (.own 3))], [none, none, none, some (.row true 8 (a1.map NovateTrade.cells)), none, none, none, none, none, none, none, none, none, none, none])) (by kernel_rfl) an ?_
  refine T.nest (by kernel_rfl) ?_
  rcases cond_cases h with ⟨h2, h⟩ | ⟨h2, h⟩
  · refine runK_norm cfg_ok (k := 0) (rs := []) (ps := []) (tds := []) (m := []) (keep := [0]) (st' := (mkS [(0, (.own 3))], [none, none, none, some (.row true 8 (a1.map NovateTrade.cells)), none, none, none, none, none, none, none, none, none, none, none])) (by kernel_rfl) an ?_
    refine T.oneNil cfg_ok (x := .tmp 0) (t := 22) (t3 := 3) (t4 := 4) (sz := 8) (es := (a1.map NovateTrade.cells)) (by kernel_rfl) (by kernel_rfl) (by kernel_rfl) (by kernel_rfl) (by kernel_rfl) (fun b hb => ?_)
    cases b
    · refine run_end cfg_ok (rs := []) (ps := [none]) (tds := []) (m := []) (keep := [0]) (r := (.norm, (mkS [(0, (.own 3))], [none, none, none, some (.row true 8 (a1.map NovateTrade.cells)), none, none, none, none, none, none, none, none, none, none, none]))) (by kernel_rfl) an (ThenQ.norm ?_)
      obtain rfl := some_inj h
      exact run_end cfg_ok (rs := [([], [(2, .app false)], [])]) (ps := []) (tds := []) (m := [15]) (keep := [2]) (r := (.ret, (f36r1n0E a1 (.ret [])).2)) (by kernel_rfl) (ap (nil_map (c := NovateTrade.cells) h2) an) rfl
    · obtain rfl := some_inj h
      exact run_end cfg_ok (rs := [([], [], [])]) (ps := [none]) (tds := [.mat 2 8]) (m := [15]) (keep := [2]) (r := (.ret, (f36r1n0E a1 (.ret [])).2)) (by kernel_rfl) an (ThenQ.out rfl rfl)
  · refine runK_norm cfg_ok (k := 0) (rs := []) (ps := []) (tds := []) (m := []) (keep := [0]) (st' := (mkS [(0, (.own 3))], [none, none, none, some (.row true 8 (a1.map NovateTrade.cells)), none, none, none, none, none, none, none, none, none, none, none])) (by kernel_rfl) an ?_
    refine T.oneNil cfg_ok (x := .tmp 0) (t := 22) (t3 := 3) (t4 := 4) (sz := 8) (es := (a1.map NovateTrade.cells)) (by kernel_rfl) (by kernel_rfl) (by kernel_rfl) (by kernel_rfl) (by kernel_rfl) (fun b hb => ?_)
    cases b
    · refine run_end cfg_ok (rs := []) (ps := [none]) (tds := []) (m := []) (keep := [0]) (r := (.norm, (mkS [(0, (.own 3))], [none, none, none, some (.row true 8 (a1.map NovateTrade.cells)), none, none, none, none, none, none, none, none, none, none, none]))) (by kernel_rfl) an (ThenQ.norm ?_)
      obtain ⟨h4, h⟩ := req_cases h
      obtain rfl := some_inj h
      exact run_end cfg_ok (rs := [([], [(2, .app true)], [])]) (ps := []) (tds := []) (m := [16]) (keep := [2]) (r := (.ret, (f36r1n0E a1 (.ret a1)).2)) (by kernel_rfl) (ap (fit_map0z (te := ti34) (xs := a1) (c := NovateTrade.cells) h4 rfl) (ap (ne_map (c := NovateTrade.cells) h2) (ap (len_all (c := NovateTrade.cells) (xs := a1) (n := 8) (fun _ => rfl)) an))) rfl
    · exact absurd (hb rfl) (ne_map (c := NovateTrade.cells) h2)
def f36r1 (a1 : List NovateTrade) : Option (List NovateTrade) := (f36r1n0 a1).bind fun o => match o with
  | .ret v5 => some v5
theorem f36r1_ok (a1 : List NovateTrade) {r : List NovateTrade} (h : (f36r1 a1) = some r) : CallS Try.prog true 36 [(.own 3)] [none, none, none, some (.row true 8 (a1.map NovateTrade.cells)), none, none, none, none, none, none, none, none, none, none, none] (.own 15) [none, none, none, some (.row true 8 (a1.map NovateTrade.cells)), none, none, none, none, none, none, none, none, none, none, none, some (.row false 8 (r.map NovateTrade.cells))] := by
  unfold f36r1 at h
  obtain ⟨o, ho, h⟩ := bind_cases h
  cases o with
  | ret v5 =>
    obtain rfl := some_inj h
    exact CallS.shared cfg_ok (f := Try.f36) (c := c36) (by kernel_rfl) (by kernel_rfl) (by kernel_rfl) ((f36r1n0_ok a1 ho).mono fun r e => by subst e; exact ⟨.inl rfl, by kernel_rfl, by kernel_rfl⟩)
/-! ### novation/novate.Submit -/
noncomputable def c15 : Code := Try.f15.body.getD .skip
inductive f15r1n1O where
  | norm (v26 : Int)
def f15r1n1E (bd1 : Int) (ba2 : List NovateTrade) (bc3 : ByteArray) (bc4 : ByteArray) (bc5 : ByteArray) (bd6 : Int) (bd7 : Int) : f15r1n1O → Ex × Tr × Hp
  | .norm v26 => (.norm, mkS [(6, (.bp 9 0)), (12, (.bp 10 0)), (15, (.bp 11 0)), (16, (.pl (.int .i64 v26)))], [none, none, none, some (.row true 8 (ba2.map NovateTrade.cells)), none, none, none, none, none, some (.box [(.own 3)]), some (.box [(.pl (.sl .nil 0 []))]), some (.box ((NovateTrade.cells (NovateTrade.mk bc3 bc4 bc5 bd6 bd7 false false 0)).map .pl))])
def f15r1n1S (bd1 : Int) (ba2 : List NovateTrade) (bc3 : ByteArray) (bc4 : ByteArray) (bc5 : ByteArray) (bd6 : Int) (bd7 : Int) : Tr × Hp := (mkS [(6, (.bp 9 0)), (12, (.bp 10 0)), (15, (.bp 11 0)), (16, (.pl (.int .i64 bd1)))], [none, none, none, some (.row true 8 (ba2.map NovateTrade.cells)), none, none, none, none, none, some (.box [(.own 3)]), some (.box [(.pl (.sl .nil 0 []))]), some (.box ((NovateTrade.cells (NovateTrade.mk bc3 bc4 bc5 bd6 bd7 false false 0)).map .pl))])
def f15r1n1 (bd1 : Int) (ba2 : List NovateTrade) (bc3 : ByteArray) (bc4 : ByteArray) (bc5 : ByteArray) (bd6 : Int) (bd7 : Int) : Option f15r1n1O :=
  bif (decide (bd1 = 0)) then
    (f35 (NovateTrade.mk bc3 bc4 bc5 bd6 bd7 false false 0)).bind fun x22 =>
    bif x22 then
      bif (decide ((ba2.length : Int) = 200)) then
        some (.norm 22)
      else
        some (.norm bd1)
    else
      some (.norm 2)
  else
    some (.norm bd1)
theorem f15r1n1_ok (bd1 : Int) (ba2 : List NovateTrade) (bc3 : ByteArray) (bc4 : ByteArray) (bc5 : ByteArray) (bd6 : Int) (bd7 : Int) {o : f15r1n1O} (h : (f15r1n1 bd1 ba2 bc3 bc4 bc5 bd6 bd7) = some o) : T Try.prog Try.f15.ntmps 9 (cL (dropC 3 c15)) (f15r1n1S bd1 ba2 bc3 bc4 bc5 bd6 bd7) (fun r => r = f15r1n1E bd1 ba2 bc3 bc4 bc5 bd6 bd7 o) := by
  unfold f15r1n1 at h
  rcases cond_cases h with ⟨h21, h⟩ | ⟨h21, h⟩
  · obtain ⟨x22, h23, h⟩ := bind_cases h
    rcases cond_cases h with ⟨h24, h⟩ | ⟨h24, h⟩
    · rcases cond_cases h with ⟨h25, h⟩ | ⟨h25, h⟩
      · obtain rfl := some_inj h
        exact run_end cfg_ok (rs := [([], [], []), ([], [(1, .call (.pl (.bool x22)) [])], []), ([], [], [(2, .val (.pl (.int .i64 (ba2.length : Int))))]), ([], [], [])]) (ps := [some false, some false, some true]) (tds := []) (m := [9, 10, 11]) (keep := [6, 12, 15, 16]) (r := (.norm, (f15r1n1E bd1 ba2 bc3 bc4 bc5 bd6 bd7 (.norm 22)).2)) (by kernel_rfl) (ap (not_t h21) (ap (f35_ok (NovateTrade.mk bc3 bc4 bc5 bd6 bd7 false false 0) h23) (ap (not_t h24) (ap (len_cv (xs := ba2) (c := NovateTrade.cells)) (ap h25 an))))) rfl
      · obtain rfl := some_inj h
        exact run_end cfg_ok (rs := [([], [], []), ([], [(1, .call (.pl (.bool x22)) [])], []), ([], [], [(2, .val (.pl (.int .i64 (ba2.length : Int))))])]) (ps := [some false, some false, some false]) (tds := []) (m := [9, 10, 11]) (keep := [6, 12, 15, 16]) (r := (.norm, (f15r1n1E bd1 ba2 bc3 bc4 bc5 bd6 bd7 (.norm bd1)).2)) (by kernel_rfl) (ap (not_t h21) (ap (f35_ok (NovateTrade.mk bc3 bc4 bc5 bd6 bd7 false false 0) h23) (ap (not_t h24) (ap (len_cv (xs := ba2) (c := NovateTrade.cells)) (ap h25 an))))) rfl
    · obtain rfl := some_inj h
      exact run_end cfg_ok (rs := [([], [], []), ([], [(1, .call (.pl (.bool x22)) [])], []), ([], [], [])]) (ps := [some false, some true]) (tds := []) (m := [9, 10, 11]) (keep := [6, 12, 15, 16]) (r := (.norm, (f15r1n1E bd1 ba2 bc3 bc4 bc5 bd6 bd7 (.norm 2)).2)) (by kernel_rfl) (ap (not_t h21) (ap (f35_ok (NovateTrade.mk bc3 bc4 bc5 bd6 bd7 false false 0) h23) (ap (not_f h24) an))) rfl
  · obtain rfl := some_inj h
    exact run_end cfg_ok (rs := [([], [], [])]) (ps := [some true]) (tds := []) (m := [9, 10, 11]) (keep := [6, 12, 15, 16]) (r := (.norm, (f15r1n1E bd1 ba2 bc3 bc4 bc5 bd6 bd7 (.norm bd1)).2)) (by kernel_rfl) (ap (not_f h21) an) rfl
inductive f15r1n0O where
  | ret (v38 : Int) (v39 : Int) (v40 : List NovateTrade)
def f15r1n0E (a1 : ByteArray) (a2 : ByteArray) (a3 : ByteArray) (a4 : Int) (a5 : Int) (a6 : List NovateTrade) : f15r1n0O → Ex × Tr × Hp
  | .ret v38 v39 v40 => (.ret, mkS [(12, (.bp 9 0)), (13, (.pl (.int .i64 v38))), (14, (.pl (.int .i64 v39)))], [none, none, none, some (.row true 8 (a6.map NovateTrade.cells)), none, none, none, none, none, some (.box [(.own 10)]), some (.row false 8 (v40.map NovateTrade.cells))])
def f15r1n0S (a1 : ByteArray) (a2 : ByteArray) (a3 : ByteArray) (a4 : Int) (a5 : Int) (a6 : List NovateTrade) : Tr × Hp := (initS [(.agg [(.own 3)]), (.pl (.str a1)), (.pl (.str a2)), (.pl (.str a3)), (.pl (.int .i64 a4)), (.pl (.int .i64 a5))] 0 .leaf, [none, none, none, some (.row false 8 (a6.map NovateTrade.cells)), none, none, none, none, none])
def f15r1n0 (a1 : ByteArray) (a2 : ByteArray) (a3 : ByteArray) (a4 : Int) (a5 : Int) (a6 : List NovateTrade) : Option f15r1n0O :=
  (f13 (NovateBook.mk a6)).bind fun x9 =>
  (f15r1n1 x9 a6 a1 a2 a3 a4 a5).bind fun o27 => match o27 with
  | .norm v29 => bif (decide (v29 = 0)) then
      (f36r1 a6).bind fun x35 =>
      req (fit (x35.length + 1) 72) <|
      some (.ret ((x35 ++ [(NovateTrade.mk a1 a2 a3 a4 a5 false false 0)]).length : Int) 0 (x35 ++ [(NovateTrade.mk a1 a2 a3 a4 a5 false false 0)]))
    else
      some (.ret 0 v29 [])
theorem f15r1n0_ok (a1 : ByteArray) (a2 : ByteArray) (a3 : ByteArray) (a4 : Int) (a5 : Int) (a6 : List NovateTrade) {o : f15r1n0O} (h : (f15r1n0 a1 a2 a3 a4 a5 a6) = some o) : T Try.prog Try.f15.ntmps 9 c15 (f15r1n0S a1 a2 a3 a4 a5 a6) (fun r => r = f15r1n0E a1 a2 a3 a4 a5 a6 o) := by
  unfold f15r1n0 at h
  obtain ⟨x9, h10, h⟩ := bind_cases h
  refine runK_norm cfg_ok (k := 3) (rs := [([], [], []), ([], [], []), ([], [(1, .call (.pl (.int .i64 x9)) [])], [])]) (ps := []) (tds := []) (m := [9, 10, 11]) (keep := [6, 12, 15, 16]) (st' := (f15r1n1S x9 a6 a1 a2 a3 a4 a5)) (by kernel_rfl) (ap (f13_ok (NovateBook.mk a6) h10) an) ?_
  obtain ⟨o27, h28, h⟩ := bind_cases h
  cases o27 with
  | norm v29 =>
    refine T.oneN (by kernel_rfl) (f15r1n1_ok x9 a6 a1 a2 a3 a4 a5 h28) (st2 := (f15r1n1E x9 a6 a1 a2 a3 a4 a5 (.norm v29)).2) rfl ?_
    rcases cond_cases h with ⟨h31, h⟩ | ⟨h31, h⟩
    · obtain ⟨x35, h36, h⟩ := bind_cases h
      obtain ⟨h37, h⟩ := req_cases h
      obtain rfl := some_inj h
      exact run_end cfg_ok (rs := [([], [], []), ([], [(2, .call (.own 15) [none, none, none, some (.row true 8 (a6.map NovateTrade.cells)), none, none, none, none, none, none, none, none, none, none, none, some (.row false 8 (x35.map NovateTrade.cells))]), (5, .fits)], [(5, .row 13 ((x35 ++ [(NovateTrade.mk a1 a2 a3 a4 a5 false false 0)]).map NovateTrade.cells))]), ([], [], [(3, .val (.pl (.int .i64 ((x35 ++ [(NovateTrade.mk a1 a2 a3 a4 a5 false false 0)]).length : Int))))])]) (ps := [some false]) (tds := []) (m := [10, 13]) (keep := [12, 13, 14]) (r := (.ret, (f15r1n0E a1 a2 a3 a4 a5 a6 (.ret ((x35 ++ [(NovateTrade.mk a1 a2 a3 a4 a5 false false 0)]).length : Int) 0 (x35 ++ [(NovateTrade.mk a1 a2 a3 a4 a5 false false 0)]))).2)) (by kernel_rfl) (ap (not_t h31) (ap (fit_map (te := ti34) (xs := x35) (n := 1) (c := NovateTrade.cells) h37 rfl) (ap (app_cv (xs := x35) (ys := [(NovateTrade.mk a1 a2 a3 a4 a5 false false 0)]) (c := NovateTrade.cells)) (ap (f36r1_ok a6 h36) (ap (len_cv (xs := (x35 ++ [(NovateTrade.mk a1 a2 a3 a4 a5 false false 0)])) (c := NovateTrade.cells)) an))))) rfl
    · obtain rfl := some_inj h
      exact runK_end cfg_ok (k := 1) (rs := [([], [], []), ([], [], [])]) (ps := [some true]) (tds := [.matC 10 0 8]) (m := [10, 12]) (keep := [12, 13, 14]) (ex := .ret) (st' := (f15r1n0E a1 a2 a3 a4 a5 a6 (.ret 0 v29 [])).2) (by kernel_rfl) (ap (not_f h31) an) (fun h => nomatch h) rfl
def f15r1 (a1 : ByteArray) (a2 : ByteArray) (a3 : ByteArray) (a4 : Int) (a5 : Int) (a6 : List NovateTrade) : Option (Int × Int × (List NovateTrade)) := (f15r1n0 a1 a2 a3 a4 a5 a6).bind fun o => match o with
  | .ret v38 v39 v40 => some (v38, v39, v40)
theorem f15r1_ok (a1 : ByteArray) (a2 : ByteArray) (a3 : ByteArray) (a4 : Int) (a5 : Int) (a6 : List NovateTrade) {r : Int × Int × (List NovateTrade)} (h : (f15r1 a1 a2 a3 a4 a5 a6) = some r) : CallS Try.prog true 15 [(.agg [(.own 3)]), (.pl (.str a1)), (.pl (.str a2)), (.pl (.str a3)), (.pl (.int .i64 a4)), (.pl (.int .i64 a5))] [none, none, none, some (.row false 8 (a6.map NovateTrade.cells)), none, none, none, none, none] (.tup [(.agg [(.own 10)]), (.pl (.int .i64 r.1)), (.pl (.int .i64 r.2.1))]) [none, none, none, some (.row true 8 (a6.map NovateTrade.cells)), none, none, none, none, none, some (.box [(.own 10)]), some (.row false 8 (r.2.2.map NovateTrade.cells))] := by
  unfold f15r1 at h
  obtain ⟨o, ho, h⟩ := bind_cases h
  cases o with
  | ret v38 v39 v40 =>
    obtain rfl := some_inj h
    exact CallS.shared cfg_ok (f := Try.f15) (c := c15) (by kernel_rfl) (by kernel_rfl) (by kernel_rfl) ((f15r1n0_ok a1 a2 a3 a4 a5 a6 ho).mono fun r e => by subst e; exact ⟨.inl rfl, by kernel_rfl, by kernel_rfl⟩)
end Go.Proofs.Ytkimdlpfbojkgaa
