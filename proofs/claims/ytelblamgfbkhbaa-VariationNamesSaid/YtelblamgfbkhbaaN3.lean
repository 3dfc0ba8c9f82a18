/- Functions of the program, plainly, and that the machine computes them. No condition. -/
import Derived.Test.YtelblamgfbkhbaaN2
namespace Go.Proofs.Ytelblamgfbkhbaa
set_option linter.unusedVariables false
set_option linter.unusedSimpArgs false
set_option maxRecDepth 100000
open Go.RowKit
/-! ### novation/novationlaw37.paid -/
noncomputable def c25 : Code := Try.f25.body.getD .skip
inductive f25n0O where
  | ret
def f25n0E (a1 : Int) : f25n0O → Ex × Tr × Hp
  | .ret => (.ret, mkS [(2, (.own 0))], [some (.row false 2 ([(VariationPayment.mk str_a (wr64 (0 - a1))), (VariationPayment.mk str_b a1)].map VariationPayment.cells))])
def f25n0S (a1 : Int) : Tr × Hp := (initS [(.pl (.int .i64 a1))] 0 .leaf, [])
noncomputable def f25n0 (a1 : Int) : Option f25n0O :=
  some .ret
theorem f25n0_ok (a1 : Int) {o : f25n0O} (h : (f25n0 a1) = some o) : T Try.prog Try.f25.ntmps 0 c25 (f25n0S a1) (fun r => r = f25n0E a1 o) := by
  unfold f25n0 at h
  obtain rfl := some_inj h
  exact run_end cfg_ok (rs := [([], [], []), ([], [], [])]) (ps := []) (tds := []) (m := [0]) (keep := [2]) (r := (.ret, (f25n0E a1 .ret).2)) (by kernel_rfl) an rfl
noncomputable def f25 (a1 : Int) : Option (List VariationPayment) := (f25n0 a1).bind fun o => match o with
  | .ret => some [(VariationPayment.mk str_a (wr64 (0 - a1))), (VariationPayment.mk str_b a1)]
theorem f25_ok (a1 : Int) {r : List VariationPayment} (h : (f25 a1) = some r) : CallS Try.prog false 25 [(.pl (.int .i64 a1))] [] (.pl (.sl .any 2 (r.map VariationPayment.cells))) [] := by
  unfold f25 at h
  obtain ⟨o, ho, h⟩ := bind_cases h
  cases o with
  | ret =>
    obtain rfl := some_inj h
    exact CallS.plain cfg_ok (f := Try.f25) (c := c25) (by kernel_rfl) (by kernel_rfl) (by kernel_rfl) (by kernel_rfl) ((f25n0_ok a1 ho).mono fun r e => by subst e; exact ⟨.inl rfl, (.own 0), (.pl (.sl .any 2 ([(VariationPayment.mk str_a (wr64 (0 - a1))), (VariationPayment.mk str_b a1)].map VariationPayment.cells))), by kernel_rfl, by kernel_rfl, ((Wk.refl _) : Wk (.pl (.sl .any 2 ([(VariationPayment.mk str_a (wr64 (0 - a1))), (VariationPayment.mk str_b a1)].map VariationPayment.cells))) (.pl (.sl .any 2 ([(VariationPayment.mk str_a (wr64 (0 - a1))), (VariationPayment.mk str_b a1)].map VariationPayment.cells))))⟩)
/-! ### novation/novationref37.SamePaid -/
noncomputable def c19 : Code := Try.f19.body.getD .skip
inductive f19n2O where
  | exit0
  | ret
def f19n2E (bm1 : List VariationPayment) (bm2 : List VariationPayment) : f19n2O → Ex × Tr × Hp
  | .exit0 => ((.exit 0), mkS [], [])
  | .ret => (.ret, mkS [(4, (.pl (.bool false)))], [])
def f19n2S (bm1 : List VariationPayment) (bm2 : List VariationPayment) (v30 : Int) : Tr × Hp := (mkS [(0, (.pl (.sl .any 2 (bm1.map VariationPayment.cells)))), (1, (.pl (.sl .any 2 (bm2.map VariationPayment.cells)))), (5, (.pl (.int .i64 v30)))], [])
noncomputable def f19n2 : Nat → List VariationPayment → List VariationPayment → Int → Option f19n2O
  | 0, _, _, _ => none
  | f + 1, bm1, bm2, v30 =>
    bif (decide (v30 < (bm1.length : Int))) then
      (at? bm1 v30).bind fun x38 =>
      (at? bm2 v30).bind fun x40 =>
      bif (VariationPayment.eqb x38 x40) then
        (f19n2 f bm1 bm2 (wr64 (v30 + 1)))
      else
        some .ret
    else
      some .exit0
theorem f19n2_ok : ∀ (f : Nat) (bm1 : List VariationPayment) (bm2 : List VariationPayment) (v30 : Int) {o : f19n2O}, (f19n2 f bm1 bm2 v30) = some o → TL Try.prog Try.f19.ntmps 0 f (cL (cL (dropC 1 (cL (dropC 2 c19))))) (f19n2S bm1 bm2 v30) (fun r => r = f19n2E bm1 bm2 o)
  | 0, _, _, _, o, h => by rw [f19n2] at h; cases h
  | f + 1, bm1, bm2, v30, o, h => by
    rw [f19n2] at h
    refine TL.body (K := fun s => ∃ v30 : Int, s = (f19n2S bm1 bm2 v30) ∧ (f19n2 f bm1 bm2 v30) = some o) ?_ (by rintro _ ⟨v30, rfl, hk⟩; exact f19n2_ok f _ _ _ hk)
    rcases cond_cases h with ⟨h32, h⟩ | ⟨h32, h⟩
    · obtain ⟨x38, h39, h⟩ := bind_cases h
      obtain ⟨x40, h41, h⟩ := bind_cases h
      rcases cond_cases h with ⟨h42, h⟩ | ⟨h42, h⟩
      · exact run_end cfg_ok (rs := [([], [], [(2, .val (.pl (.int .i64 (bm1.length : Int))))]), ([], [(2, .idx (Int.toNat v30) (VariationPayment.cells x38)), (6, .idx (Int.toNat v30) (VariationPayment.cells x40)), (8, .bool (VariationPayment.eqb x38 x40))], []), ([], [], [])]) (ps := [some true, some false]) (tds := []) (m := []) (keep := [0, 1, 5]) (r := (.norm, (f19n2S bm1 bm2 (wr64 (v30 + 1))))) (by kernel_rfl) (ap (len_cv (xs := bm1) (c := VariationPayment.cells)) (ap h32 (ap (at_some h39).1 (ap (at_map VariationPayment.cells (at_some h39).2) (ap (at_some h41).1 (ap (at_map VariationPayment.cells (at_some h41).2) (ap (VariationPayment.eqb_ok x38 x40) (ap (not_t h42) an)))))))) (LoopQ.norm ⟨(wr64 (v30 + 1)), rfl, h⟩)
      · obtain rfl := some_inj h
        exact runK_end cfg_ok (k := 2) (rs := [([], [], [(2, .val (.pl (.int .i64 (bm1.length : Int))))]), ([], [(2, .idx (Int.toNat v30) (VariationPayment.cells x38)), (6, .idx (Int.toNat v30) (VariationPayment.cells x40)), (8, .bool (VariationPayment.eqb x38 x40))], []), ([], [], [])]) (ps := [some true, some true]) (tds := []) (m := []) (keep := [4]) (ex := .ret) (st' := (f19n2E bm1 bm2 .ret).2) (by kernel_rfl) (ap (len_cv (xs := bm1) (c := VariationPayment.cells)) (ap h32 (ap (at_some h39).1 (ap (at_map VariationPayment.cells (at_some h39).2) (ap (at_some h41).1 (ap (at_map VariationPayment.cells (at_some h41).2) (ap (VariationPayment.eqb_ok x38 x40) (ap (not_f h42) an)))))))) (fun h => nomatch h) (LoopQ.out rfl rfl)
    · obtain rfl := some_inj h
      exact runK_end cfg_ok (k := 1) (rs := [([], [], [(2, .val (.pl (.int .i64 (bm1.length : Int))))])]) (ps := [some false]) (tds := []) (m := []) (keep := []) (ex := (.exit 0)) (st' := (f19n2E bm1 bm2 .exit0).2) (by kernel_rfl) (ap (len_cv (xs := bm1) (c := VariationPayment.cells)) (ap h32 an)) (fun h => nomatch h) (LoopQ.out rfl rfl)
noncomputable def f19n2L (bm1 : List VariationPayment) (bm2 : List VariationPayment) : List VariationPayment → Int → Option f19n2O
  | [], v30 =>
    some .exit0
  | x0 :: rest, v30 =>
    (at? bm2 v30).bind fun x40 =>
    bif (VariationPayment.eqb x0 x40) then
      (f19n2L bm1 bm2 rest (v30 + 1))
    else
      some .ret
theorem f19n2L_eq (bm1 : List VariationPayment) (bm2 : List VariationPayment) : ∀ (rest : List VariationPayment) (f k : Nat), bm1.drop k = rest → bm1.length ≤ maxLen → rest.length < f → f19n2 f bm1 bm2 (k : Int) = f19n2L bm1 bm2 rest (k : Int)
  | _, 0, _, _, _, hf => absurd hf (Nat.not_lt_zero _)
  | [], f + 1, k, hd, hm, hf => by
    have hk : ¬ ((k : Int) < (bm1.length : Int)) := by have := drop_nil hd; omega
    rw [f19n2, f19n2L]
    simp only [decide_eq_false hk, cond_false]
  | x0 :: rest, f + 1, k, hd, hm, hf => by
    obtain ⟨hx, hlt, hd'⟩ := drop_cons hd
    have hk : (k : Int) < (bm1.length : Int) := by omega
    have hw : wr64 ((k : Int) + 1) = (k : Int) + 1 := wr64_of (by omega) (by unfold maxLen at hm; omega)
    have ih : f19n2 f bm1 bm2 ((k : Int) + 1) = f19n2L bm1 bm2 rest ((k : Int) + 1) := f19n2L_eq bm1 bm2 rest f (k + 1) hd' hm (by simpa using hf)
    rw [f19n2, f19n2L]
    simp only [decide_eq_true hk, cond_true, at_nat, hx, Option.bind_some, hw, ih]
theorem f19n2_run (bm1 : List VariationPayment) (bm2 : List VariationPayment) (hm : bm1.length ≤ maxLen) : f19n2 FUEL bm1 bm2 0 = f19n2L bm1 bm2 bm1 0 := f19n2L_eq bm1 bm2 bm1 FUEL 0 List.drop_zero hm (lt_FUEL hm)
inductive f19n1O where
  | norm
  | ret
def f19n1E (bm1 : List VariationPayment) (bm2 : List VariationPayment) : f19n1O → Ex × Tr × Hp
  | .norm => (.norm, mkS [], [])
  | .ret => (.ret, mkS [(4, (.pl (.bool false)))], [])
def f19n1S (bm1 : List VariationPayment) (bm2 : List VariationPayment) : Tr × Hp := (mkS [(0, (.pl (.sl .any 2 (bm1.map VariationPayment.cells)))), (1, (.pl (.sl .any 2 (bm2.map VariationPayment.cells))))], [])
noncomputable def f19n1 (bm1 : List VariationPayment) (bm2 : List VariationPayment) : Option f19n1O :=
  (f19n2 FUEL bm1 bm2 0).bind fun o43 => match o43 with
  | .exit0 => some .norm
  | .ret => some .ret
theorem f19n1_ok (bm1 : List VariationPayment) (bm2 : List VariationPayment) {o : f19n1O} (h : (f19n1 bm1 bm2) = some o) : T Try.prog Try.f19.ntmps 0 (cL (dropC 2 c19)) (f19n1S bm1 bm2) (fun r => r = f19n1E bm1 bm2 o) := by
  unfold f19n1 at h
  refine runK_norm cfg_ok (k := 1) (rs := [([], [], [])]) (ps := []) (tds := []) (m := []) (keep := [0, 1, 5]) (st' := (f19n2S bm1 bm2 0)) (by kernel_rfl) an ?_
  obtain ⟨o43, h44, h⟩ := bind_cases h
  cases o43 with
  | exit0 =>
    obtain rfl := some_inj h
    exact T.last' (T.bl (i := 0) (by kernel_rfl) (by kernel_rfl) (f19n2_ok FUEL bm1 bm2 0 h44)) (tds := []) (m := []) (keep := []) (st2 := (f19n1E bm1 bm2 .norm).2) (by kernel_rfl) an rfl
  | ret =>
    obtain rfl := some_inj h
    exact T.last' (T.bl (i := 0) (by kernel_rfl) (by kernel_rfl) (f19n2_ok FUEL bm1 bm2 0 h44)) (tds := []) (m := []) (keep := [4]) (st2 := (f19n1E bm1 bm2 .ret).2) (by kernel_rfl) an rfl
inductive f19n0O where
  | ret (v47 : Bool)
def f19n0E (a1 : List VariationPayment) (a2 : List VariationPayment) : f19n0O → Ex × Tr × Hp
  | .ret v47 => (.ret, mkS [(4, (.pl (.bool v47)))], [])
def f19n0S (a1 : List VariationPayment) (a2 : List VariationPayment) : Tr × Hp := (initS [(.pl (.sl .any 2 (a1.map VariationPayment.cells))), (.pl (.sl .any 2 (a2.map VariationPayment.cells)))] 0 .leaf, [])
noncomputable def f19n0 (a1 : List VariationPayment) (a2 : List VariationPayment) : Option f19n0O :=
  bif (decide ((a1.length : Int) = (a2.length : Int))) then
    (f19n1 a1 a2).bind fun o45 => match o45 with
    | .norm => some (.ret true)
    | .ret => some (.ret false)
  else
    some (.ret false)
theorem f19n0_ok (a1 : List VariationPayment) (a2 : List VariationPayment) {o : f19n0O} (h : (f19n0 a1 a2) = some o) : T Try.prog Try.f19.ntmps 0 c19 (f19n0S a1 a2) (fun r => r = f19n0E a1 a2 o) := by
  unfold f19n0 at h
  rcases cond_cases h with ⟨h4, h⟩ | ⟨h4, h⟩
  · refine runK_norm cfg_ok (k := 2) (rs := [([], [], []), ([], [], [(1, .val (.pl (.int .i64 (a1.length : Int)))), (3, .val (.pl (.int .i64 (a2.length : Int))))])]) (ps := [some false]) (tds := []) (m := []) (keep := [0, 1]) (st' := (f19n1S a1 a2)) (by kernel_rfl) (ap (len_cv (xs := a1) (c := VariationPayment.cells)) (ap (len_cv (xs := a2) (c := VariationPayment.cells)) (ap (not_t h4) an))) ?_
    obtain ⟨o45, h46, h⟩ := bind_cases h
    cases o45 with
    | norm =>
      refine T.oneN (by kernel_rfl) (f19n1_ok a1 a2 h46) (st2 := (f19n1E a1 a2 .norm).2) rfl ?_
      obtain rfl := some_inj h
      exact run_end cfg_ok (rs := [([], [], [])]) (ps := []) (tds := []) (m := []) (keep := [4]) (r := (.ret, (f19n0E a1 a2 (.ret true)).2)) (by kernel_rfl) an rfl
    | ret =>
      obtain rfl := some_inj h
      exact T.oneX' (by kernel_rfl) (f19n1_ok a1 a2 h46) (tds := []) (m := []) (keep := [4]) (st2 := (f19n0E a1 a2 (.ret false)).2) (by kernel_rfl) an rfl rfl
  · obtain rfl := some_inj h
    exact runK_end cfg_ok (k := 2) (rs := [([], [], []), ([], [], [(1, .val (.pl (.int .i64 (a1.length : Int)))), (3, .val (.pl (.int .i64 (a2.length : Int))))]), ([], [], [])]) (ps := [some true]) (tds := []) (m := []) (keep := [4]) (ex := .ret) (st' := (f19n0E a1 a2 (.ret false)).2) (by kernel_rfl) (ap (len_cv (xs := a1) (c := VariationPayment.cells)) (ap (len_cv (xs := a2) (c := VariationPayment.cells)) (ap (not_f h4) an))) (fun h => nomatch h) rfl
noncomputable def f19 (a1 : List VariationPayment) (a2 : List VariationPayment) : Option Bool := (f19n0 a1 a2).bind fun o => match o with
  | .ret v47 => some v47
theorem f19_ok (a1 : List VariationPayment) (a2 : List VariationPayment) {r : Bool} (h : (f19 a1 a2) = some r) : CallS Try.prog false 19 [(.pl (.sl .any 2 (a1.map VariationPayment.cells))), (.pl (.sl .any 2 (a2.map VariationPayment.cells)))] [] (.pl (.bool r)) [] := by
  unfold f19 at h
  obtain ⟨o, ho, h⟩ := bind_cases h
  cases o with
  | ret v47 =>
    obtain rfl := some_inj h
    exact CallS.plain cfg_ok (f := Try.f19) (c := c19) (by kernel_rfl) (by kernel_rfl) (by kernel_rfl) (by kernel_rfl) ((f19n0_ok a1 a2 ho).mono fun r e => by subst e; exact ⟨.inl rfl, (.pl (.bool v47)), (.pl (.bool v47)), by kernel_rfl, by kernel_rfl, ((Wk.refl _) : Wk (.pl (.bool v47)) (.pl (.bool v47)))⟩)
/-! ### novation/novationlaw37.alive -/
noncomputable def c10 : Code := Try.f10.body.getD .skip
inductive f10n0O where
  | ret (v71 : Bool)
def f10n0E : f10n0O → Ex × Tr × Hp
  | .ret v71 => (.ret, mkS [(0, (.pl (.bool v71)))], [])
def f10n0S : Tr × Hp := (initS [] 0 .leaf, [])
noncomputable def f10n0 : Option f10n0O :=
  (f12 0).bind fun x3 =>
  (f16 x3.1 str_b str_a str_p 3 10).bind fun x7 =>
  (f23r1 12).bind fun x13 =>
  (f14 x7.1 1 [(VariationPrice.mk str_p 12)]).bind fun x15 =>
  (f23r1 11).bind fun x21 =>
  (f14 x15.1 2 [(VariationPrice.mk str_p 11)]).bind fun x23 =>
  (f23r1 11).bind fun x29 =>
  (f14 x7.1 2 [(VariationPrice.mk str_p 11)]).bind fun x31 =>
  bif (decide (x3.2 = 0)) then
    bif (decide (x7.2 = 0)) then
      bif (decide (x15.2.2 = 0)) then
        (f25 6).bind fun x55 =>
        (f19 x15.2.1 x55).bind fun x57 =>
        bif x57 then
          bif (decide (x23.2.2 = 0)) then
            (f25 (-3)).bind fun x61 =>
            (f19 x23.2.1 x61).bind fun x63 =>
            bif x63 then
              bif (decide (x31.2.2 = 0)) then
                (f25 3).bind fun x67 =>
                (f19 x31.2.1 x67).bind fun x69 =>
                some (.ret x69)
              else
                some (.ret false)
            else
              some (.ret false)
          else
            some (.ret false)
        else
          some (.ret false)
      else
        some (.ret false)
    else
      some (.ret false)
  else
    some (.ret false)
theorem f10n0_ok {o : f10n0O} (h : f10n0 = some o) : T Try.prog Try.f10.ntmps 0 c10 f10n0S (fun r => r = f10n0E o) := by
  unfold f10n0 at h
  obtain ⟨x3, h4, h⟩ := bind_cases h
  obtain ⟨x7, h8, h⟩ := bind_cases h
  obtain ⟨x13, h14, h⟩ := bind_cases h
  obtain ⟨x15, h16, h⟩ := bind_cases h
  obtain ⟨x21, h22, h⟩ := bind_cases h
  obtain ⟨x23, h24, h⟩ := bind_cases h
  obtain ⟨x29, h30, h⟩ := bind_cases h
  obtain ⟨x31, h32, h⟩ := bind_cases h
  rcases cond_cases h with ⟨h52, h⟩ | ⟨h52, h⟩
  · rcases cond_cases h with ⟨h53, h⟩ | ⟨h53, h⟩
    · rcases cond_cases h with ⟨h54, h⟩ | ⟨h54, h⟩
      · obtain ⟨x55, h56, h⟩ := bind_cases h
        obtain ⟨x57, h58, h⟩ := bind_cases h
        rcases cond_cases h with ⟨h59, h⟩ | ⟨h59, h⟩
        · rcases cond_cases h with ⟨h60, h⟩ | ⟨h60, h⟩
          · obtain ⟨x61, h62, h⟩ := bind_cases h
            obtain ⟨x63, h64, h⟩ := bind_cases h
            rcases cond_cases h with ⟨h65, h⟩ | ⟨h65, h⟩
            · rcases cond_cases h with ⟨h66, h⟩ | ⟨h66, h⟩
              · obtain ⟨x67, h68, h⟩ := bind_cases h
                obtain ⟨x69, h70, h⟩ := bind_cases h
                obtain rfl := some_inj h
                exact run_end cfg_ok (rs := [([], [], []), ([], [(0, .call (.tup [(.pl (.agg (Variation.cells x3.1))), (.pl (.int .i64 x3.2))]) [])], []), ([], [(1, .call (.tup [(.pl (.agg (Variation.cells x7.1))), (.pl (.int .i64 x7.2))]) [])], []), ([], [(1, .call (.own 3) [none, none, none, some (.row false 2 ([(VariationPrice.mk str_p 12)].map VariationPrice.cells))]), (2, .call (.tup [(.pl (.agg (Variation.cells x15.1))), (.pl (.sl .any 2 (x15.2.1.map VariationPayment.cells))), (.pl (.int .i64 x15.2.2))]) [])], []), ([], [(1, .call (.own 6) [none, none, none, none, none, none, some (.row false 2 ([(VariationPrice.mk str_p 11)].map VariationPrice.cells))]), (2, .call (.tup [(.pl (.agg (Variation.cells x23.1))), (.pl (.sl .any 2 (x23.2.1.map VariationPayment.cells))), (.pl (.int .i64 x23.2.2))]) [])], []), ([], [(1, .call (.own 9) [none, none, none, none, none, none, none, none, none, some (.row false 2 ([(VariationPrice.mk str_p 11)].map VariationPrice.cells))]), (2, .call (.tup [(.pl (.agg (Variation.cells x31.1))), (.pl (.sl .any 2 (x31.2.1.map VariationPayment.cells))), (.pl (.int .i64 x31.2.2))]) [])], []), ([(3, true), (4, true), (7, true), (8, true), (11, true), (12, true), (13, true), (16, true), (17, true), (20, true), (21, true), (22, true), (25, true), (26, true), (29, true), (30, true), (31, true)], [(5, .bool true), (9, .bool true), (12, .call (.pl (.sl .any 2 (x55.map VariationPayment.cells))) []), (13, .call (.pl (.bool x57)) []), (14, .bool true), (18, .bool true), (21, .call (.pl (.sl .any 2 (x61.map VariationPayment.cells))) []), (22, .call (.pl (.bool x63)) []), (23, .bool true), (27, .bool true), (30, .call (.pl (.sl .any 2 (x67.map VariationPayment.cells))) []), (31, .call (.pl (.bool x69)) []), (32, .bool true)], [])]) (ps := []) (tds := []) (m := []) (keep := [0]) (r := (.ret, (f10n0E (.ret x69)).2)) (by kernel_rfl) (ap (f12_ok 0 h4) (ap (f16_ok x3.1 str_b str_a str_p 3 10 h8) (ap (CallS.ren (args' := [(.pl (.int .i64 12))]) (v' := (.own 3)) (B := [none, none, none]) (B' := [none, none, none, some (.row false 2 ([(VariationPrice.mk str_p 12)].map VariationPrice.cells))]) 3 [] (f23r1_ok 12 h14) (by kernel_rfl) (by kernel_rfl) (by kernel_rfl) (by kernel_rfl) (by kernel_rfl) (by kernel_rfl)) (ap (f14_ok x7.1 1 [(VariationPrice.mk str_p 12)] h16) (ap (CallS.ren (args' := [(.pl (.int .i64 11))]) (v' := (.own 6)) (B := [none, none, none, none, none, none]) (B' := [none, none, none, none, none, none, some (.row false 2 ([(VariationPrice.mk str_p 11)].map VariationPrice.cells))]) 6 [] (f23r1_ok 11 h22) (by kernel_rfl) (by kernel_rfl) (by kernel_rfl) (by kernel_rfl) (by kernel_rfl) (by kernel_rfl)) (ap (f14_ok x15.1 2 [(VariationPrice.mk str_p 11)] h24) (ap (CallS.ren (args' := [(.pl (.int .i64 11))]) (v' := (.own 9)) (B := [none, none, none, none, none, none, none, none, none]) (B' := [none, none, none, none, none, none, none, none, none, some (.row false 2 ([(VariationPrice.mk str_p 11)].map VariationPrice.cells))]) 9 [] (f23r1_ok 11 h30) (by kernel_rfl) (by kernel_rfl) (by kernel_rfl) (by kernel_rfl) (by kernel_rfl) (by kernel_rfl)) (ap (f14_ok x7.1 2 [(VariationPrice.mk str_p 11)] h32) (ap h52 (ap h52 (ap h52 (ap h53 (ap h53 (ap h53 (ap h54 (ap h54 (ap h54 (ap h54 (ap h59 (ap h59 (ap h59 (ap h60 (ap h60 (ap h60 (ap h60 (ap h65 (ap h65 (ap h65 (ap h66 (ap h66 (ap h66 (ap h66 (ap (f25_ok 6 h56) (ap (f19_ok x15.2.1 x55 h58) (ap (f25_ok (-3) h62) (ap (f19_ok x23.2.1 x61 h64) (ap (f25_ok 3 h68) (ap (f19_ok x31.2.1 x67 h70) an)))))))))))))))))))))))))))))))))))))) rfl
              · obtain rfl := some_inj h
                exact run_end cfg_ok (rs := [([], [], []), ([], [(0, .call (.tup [(.pl (.agg (Variation.cells x3.1))), (.pl (.int .i64 x3.2))]) [])], []), ([], [(1, .call (.tup [(.pl (.agg (Variation.cells x7.1))), (.pl (.int .i64 x7.2))]) [])], []), ([], [(1, .call (.own 3) [none, none, none, some (.row false 2 ([(VariationPrice.mk str_p 12)].map VariationPrice.cells))]), (2, .call (.tup [(.pl (.agg (Variation.cells x15.1))), (.pl (.sl .any 2 (x15.2.1.map VariationPayment.cells))), (.pl (.int .i64 x15.2.2))]) [])], []), ([], [(1, .call (.own 6) [none, none, none, none, none, none, some (.row false 2 ([(VariationPrice.mk str_p 11)].map VariationPrice.cells))]), (2, .call (.tup [(.pl (.agg (Variation.cells x23.1))), (.pl (.sl .any 2 (x23.2.1.map VariationPayment.cells))), (.pl (.int .i64 x23.2.2))]) [])], []), ([], [(1, .call (.own 9) [none, none, none, none, none, none, none, none, none, some (.row false 2 ([(VariationPrice.mk str_p 11)].map VariationPrice.cells))]), (2, .call (.tup [(.pl (.agg (Variation.cells x31.1))), (.pl (.sl .any 2 (x31.2.1.map VariationPayment.cells))), (.pl (.int .i64 x31.2.2))]) [])], []), ([(3, true), (4, true), (7, true), (8, true), (11, true), (12, true), (13, true), (16, true), (17, true), (20, true), (21, true), (22, true), (25, true), (26, true), (29, false), (30, false), (31, false)], [(5, .bool true), (9, .bool true), (12, .call (.pl (.sl .any 2 (x55.map VariationPayment.cells))) []), (13, .call (.pl (.bool x57)) []), (14, .bool true), (18, .bool true), (21, .call (.pl (.sl .any 2 (x61.map VariationPayment.cells))) []), (22, .call (.pl (.bool x63)) []), (23, .bool true), (27, .bool true), (32, .bool false)], [])]) (ps := []) (tds := []) (m := []) (keep := [0]) (r := (.ret, (f10n0E (.ret false)).2)) (by kernel_rfl) (ap (f12_ok 0 h4) (ap (f16_ok x3.1 str_b str_a str_p 3 10 h8) (ap (CallS.ren (args' := [(.pl (.int .i64 12))]) (v' := (.own 3)) (B := [none, none, none]) (B' := [none, none, none, some (.row false 2 ([(VariationPrice.mk str_p 12)].map VariationPrice.cells))]) 3 [] (f23r1_ok 12 h14) (by kernel_rfl) (by kernel_rfl) (by kernel_rfl) (by kernel_rfl) (by kernel_rfl) (by kernel_rfl)) (ap (f14_ok x7.1 1 [(VariationPrice.mk str_p 12)] h16) (ap (CallS.ren (args' := [(.pl (.int .i64 11))]) (v' := (.own 6)) (B := [none, none, none, none, none, none]) (B' := [none, none, none, none, none, none, some (.row false 2 ([(VariationPrice.mk str_p 11)].map VariationPrice.cells))]) 6 [] (f23r1_ok 11 h22) (by kernel_rfl) (by kernel_rfl) (by kernel_rfl) (by kernel_rfl) (by kernel_rfl) (by kernel_rfl)) (ap (f14_ok x15.1 2 [(VariationPrice.mk str_p 11)] h24) (ap (CallS.ren (args' := [(.pl (.int .i64 11))]) (v' := (.own 9)) (B := [none, none, none, none, none, none, none, none, none]) (B' := [none, none, none, none, none, none, none, none, none, some (.row false 2 ([(VariationPrice.mk str_p 11)].map VariationPrice.cells))]) 9 [] (f23r1_ok 11 h30) (by kernel_rfl) (by kernel_rfl) (by kernel_rfl) (by kernel_rfl) (by kernel_rfl) (by kernel_rfl)) (ap (f14_ok x7.1 2 [(VariationPrice.mk str_p 11)] h32) (ap h52 (ap h52 (ap h52 (ap h53 (ap h53 (ap h53 (ap h54 (ap h54 (ap h54 (ap h54 (ap h59 (ap h59 (ap h59 (ap h60 (ap h60 (ap h60 (ap h60 (ap h65 (ap h65 (ap h65 (ap h66 (ap h66 (ap h66 (ap h66 (ap (f25_ok 6 h56) (ap (f19_ok x15.2.1 x55 h58) (ap (f25_ok (-3) h62) (ap (f19_ok x23.2.1 x61 h64) an)))))))))))))))))))))))))))))))))))) rfl
            · obtain rfl := some_inj h
              exact run_end cfg_ok (rs := [([], [], []), ([], [(0, .call (.tup [(.pl (.agg (Variation.cells x3.1))), (.pl (.int .i64 x3.2))]) [])], []), ([], [(1, .call (.tup [(.pl (.agg (Variation.cells x7.1))), (.pl (.int .i64 x7.2))]) [])], []), ([], [(1, .call (.own 3) [none, none, none, some (.row false 2 ([(VariationPrice.mk str_p 12)].map VariationPrice.cells))]), (2, .call (.tup [(.pl (.agg (Variation.cells x15.1))), (.pl (.sl .any 2 (x15.2.1.map VariationPayment.cells))), (.pl (.int .i64 x15.2.2))]) [])], []), ([], [(1, .call (.own 6) [none, none, none, none, none, none, some (.row false 2 ([(VariationPrice.mk str_p 11)].map VariationPrice.cells))]), (2, .call (.tup [(.pl (.agg (Variation.cells x23.1))), (.pl (.sl .any 2 (x23.2.1.map VariationPayment.cells))), (.pl (.int .i64 x23.2.2))]) [])], []), ([], [(1, .call (.own 9) [none, none, none, none, none, none, none, none, none, some (.row false 2 ([(VariationPrice.mk str_p 11)].map VariationPrice.cells))]), (2, .call (.tup [(.pl (.agg (Variation.cells x31.1))), (.pl (.sl .any 2 (x31.2.1.map VariationPayment.cells))), (.pl (.int .i64 x31.2.2))]) [])], []), ([(3, true), (4, true), (7, true), (8, true), (11, true), (12, true), (13, true), (16, true), (17, true), (20, true), (21, true), (22, true), (25, false), (26, false)], [(5, .bool true), (9, .bool true), (12, .call (.pl (.sl .any 2 (x55.map VariationPayment.cells))) []), (13, .call (.pl (.bool x57)) []), (14, .bool true), (18, .bool true), (21, .call (.pl (.sl .any 2 (x61.map VariationPayment.cells))) []), (22, .call (.pl (.bool x63)) []), (23, .bool true), (27, .bool false)], [])]) (ps := []) (tds := []) (m := []) (keep := [0]) (r := (.ret, (f10n0E (.ret false)).2)) (by kernel_rfl) (ap (f12_ok 0 h4) (ap (f16_ok x3.1 str_b str_a str_p 3 10 h8) (ap (CallS.ren (args' := [(.pl (.int .i64 12))]) (v' := (.own 3)) (B := [none, none, none]) (B' := [none, none, none, some (.row false 2 ([(VariationPrice.mk str_p 12)].map VariationPrice.cells))]) 3 [] (f23r1_ok 12 h14) (by kernel_rfl) (by kernel_rfl) (by kernel_rfl) (by kernel_rfl) (by kernel_rfl) (by kernel_rfl)) (ap (f14_ok x7.1 1 [(VariationPrice.mk str_p 12)] h16) (ap (CallS.ren (args' := [(.pl (.int .i64 11))]) (v' := (.own 6)) (B := [none, none, none, none, none, none]) (B' := [none, none, none, none, none, none, some (.row false 2 ([(VariationPrice.mk str_p 11)].map VariationPrice.cells))]) 6 [] (f23r1_ok 11 h22) (by kernel_rfl) (by kernel_rfl) (by kernel_rfl) (by kernel_rfl) (by kernel_rfl) (by kernel_rfl)) (ap (f14_ok x15.1 2 [(VariationPrice.mk str_p 11)] h24) (ap (CallS.ren (args' := [(.pl (.int .i64 11))]) (v' := (.own 9)) (B := [none, none, none, none, none, none, none, none, none]) (B' := [none, none, none, none, none, none, none, none, none, some (.row false 2 ([(VariationPrice.mk str_p 11)].map VariationPrice.cells))]) 9 [] (f23r1_ok 11 h30) (by kernel_rfl) (by kernel_rfl) (by kernel_rfl) (by kernel_rfl) (by kernel_rfl) (by kernel_rfl)) (ap (f14_ok x7.1 2 [(VariationPrice.mk str_p 11)] h32) (ap h52 (ap h52 (ap h52 (ap h53 (ap h53 (ap h53 (ap h54 (ap h54 (ap h54 (ap h54 (ap h59 (ap h59 (ap h59 (ap h60 (ap h60 (ap h60 (ap h60 (ap h65 (ap h65 (ap h65 (ap (f25_ok 6 h56) (ap (f19_ok x15.2.1 x55 h58) (ap (f25_ok (-3) h62) (ap (f19_ok x23.2.1 x61 h64) an)))))))))))))))))))))))))))))))) rfl
          · obtain rfl := some_inj h
            exact run_end cfg_ok (rs := [([], [], []), ([], [(0, .call (.tup [(.pl (.agg (Variation.cells x3.1))), (.pl (.int .i64 x3.2))]) [])], []), ([], [(1, .call (.tup [(.pl (.agg (Variation.cells x7.1))), (.pl (.int .i64 x7.2))]) [])], []), ([], [(1, .call (.own 3) [none, none, none, some (.row false 2 ([(VariationPrice.mk str_p 12)].map VariationPrice.cells))]), (2, .call (.tup [(.pl (.agg (Variation.cells x15.1))), (.pl (.sl .any 2 (x15.2.1.map VariationPayment.cells))), (.pl (.int .i64 x15.2.2))]) [])], []), ([], [(1, .call (.own 6) [none, none, none, none, none, none, some (.row false 2 ([(VariationPrice.mk str_p 11)].map VariationPrice.cells))]), (2, .call (.tup [(.pl (.agg (Variation.cells x23.1))), (.pl (.sl .any 2 (x23.2.1.map VariationPayment.cells))), (.pl (.int .i64 x23.2.2))]) [])], []), ([], [(1, .call (.own 9) [none, none, none, none, none, none, none, none, none, some (.row false 2 ([(VariationPrice.mk str_p 11)].map VariationPrice.cells))]), (2, .call (.tup [(.pl (.agg (Variation.cells x31.1))), (.pl (.sl .any 2 (x31.2.1.map VariationPayment.cells))), (.pl (.int .i64 x31.2.2))]) [])], []), ([(3, true), (4, true), (7, true), (8, true), (11, true), (12, true), (13, true), (16, true), (17, true), (20, false), (21, false), (22, false)], [(5, .bool true), (9, .bool true), (12, .call (.pl (.sl .any 2 (x55.map VariationPayment.cells))) []), (13, .call (.pl (.bool x57)) []), (14, .bool true), (18, .bool true), (23, .bool false)], [])]) (ps := []) (tds := []) (m := []) (keep := [0]) (r := (.ret, (f10n0E (.ret false)).2)) (by kernel_rfl) (ap (f12_ok 0 h4) (ap (f16_ok x3.1 str_b str_a str_p 3 10 h8) (ap (CallS.ren (args' := [(.pl (.int .i64 12))]) (v' := (.own 3)) (B := [none, none, none]) (B' := [none, none, none, some (.row false 2 ([(VariationPrice.mk str_p 12)].map VariationPrice.cells))]) 3 [] (f23r1_ok 12 h14) (by kernel_rfl) (by kernel_rfl) (by kernel_rfl) (by kernel_rfl) (by kernel_rfl) (by kernel_rfl)) (ap (f14_ok x7.1 1 [(VariationPrice.mk str_p 12)] h16) (ap (CallS.ren (args' := [(.pl (.int .i64 11))]) (v' := (.own 6)) (B := [none, none, none, none, none, none]) (B' := [none, none, none, none, none, none, some (.row false 2 ([(VariationPrice.mk str_p 11)].map VariationPrice.cells))]) 6 [] (f23r1_ok 11 h22) (by kernel_rfl) (by kernel_rfl) (by kernel_rfl) (by kernel_rfl) (by kernel_rfl) (by kernel_rfl)) (ap (f14_ok x15.1 2 [(VariationPrice.mk str_p 11)] h24) (ap (CallS.ren (args' := [(.pl (.int .i64 11))]) (v' := (.own 9)) (B := [none, none, none, none, none, none, none, none, none]) (B' := [none, none, none, none, none, none, none, none, none, some (.row false 2 ([(VariationPrice.mk str_p 11)].map VariationPrice.cells))]) 9 [] (f23r1_ok 11 h30) (by kernel_rfl) (by kernel_rfl) (by kernel_rfl) (by kernel_rfl) (by kernel_rfl) (by kernel_rfl)) (ap (f14_ok x7.1 2 [(VariationPrice.mk str_p 11)] h32) (ap h52 (ap h52 (ap h52 (ap h53 (ap h53 (ap h53 (ap h54 (ap h54 (ap h54 (ap h54 (ap h59 (ap h59 (ap h59 (ap h60 (ap h60 (ap h60 (ap h60 (ap (f25_ok 6 h56) (ap (f19_ok x15.2.1 x55 h58) an))))))))))))))))))))))))))) rfl
        · obtain rfl := some_inj h
          exact run_end cfg_ok (rs := [([], [], []), ([], [(0, .call (.tup [(.pl (.agg (Variation.cells x3.1))), (.pl (.int .i64 x3.2))]) [])], []), ([], [(1, .call (.tup [(.pl (.agg (Variation.cells x7.1))), (.pl (.int .i64 x7.2))]) [])], []), ([], [(1, .call (.own 3) [none, none, none, some (.row false 2 ([(VariationPrice.mk str_p 12)].map VariationPrice.cells))]), (2, .call (.tup [(.pl (.agg (Variation.cells x15.1))), (.pl (.sl .any 2 (x15.2.1.map VariationPayment.cells))), (.pl (.int .i64 x15.2.2))]) [])], []), ([], [(1, .call (.own 6) [none, none, none, none, none, none, some (.row false 2 ([(VariationPrice.mk str_p 11)].map VariationPrice.cells))]), (2, .call (.tup [(.pl (.agg (Variation.cells x23.1))), (.pl (.sl .any 2 (x23.2.1.map VariationPayment.cells))), (.pl (.int .i64 x23.2.2))]) [])], []), ([], [(1, .call (.own 9) [none, none, none, none, none, none, none, none, none, some (.row false 2 ([(VariationPrice.mk str_p 11)].map VariationPrice.cells))]), (2, .call (.tup [(.pl (.agg (Variation.cells x31.1))), (.pl (.sl .any 2 (x31.2.1.map VariationPayment.cells))), (.pl (.int .i64 x31.2.2))]) [])], []), ([(3, true), (4, true), (7, true), (8, true), (11, true), (12, true), (13, true), (16, false), (17, false)], [(5, .bool true), (9, .bool true), (12, .call (.pl (.sl .any 2 (x55.map VariationPayment.cells))) []), (13, .call (.pl (.bool x57)) []), (14, .bool true), (18, .bool false)], [])]) (ps := []) (tds := []) (m := []) (keep := [0]) (r := (.ret, (f10n0E (.ret false)).2)) (by kernel_rfl) (ap (f12_ok 0 h4) (ap (f16_ok x3.1 str_b str_a str_p 3 10 h8) (ap (CallS.ren (args' := [(.pl (.int .i64 12))]) (v' := (.own 3)) (B := [none, none, none]) (B' := [none, none, none, some (.row false 2 ([(VariationPrice.mk str_p 12)].map VariationPrice.cells))]) 3 [] (f23r1_ok 12 h14) (by kernel_rfl) (by kernel_rfl) (by kernel_rfl) (by kernel_rfl) (by kernel_rfl) (by kernel_rfl)) (ap (f14_ok x7.1 1 [(VariationPrice.mk str_p 12)] h16) (ap (CallS.ren (args' := [(.pl (.int .i64 11))]) (v' := (.own 6)) (B := [none, none, none, none, none, none]) (B' := [none, none, none, none, none, none, some (.row false 2 ([(VariationPrice.mk str_p 11)].map VariationPrice.cells))]) 6 [] (f23r1_ok 11 h22) (by kernel_rfl) (by kernel_rfl) (by kernel_rfl) (by kernel_rfl) (by kernel_rfl) (by kernel_rfl)) (ap (f14_ok x15.1 2 [(VariationPrice.mk str_p 11)] h24) (ap (CallS.ren (args' := [(.pl (.int .i64 11))]) (v' := (.own 9)) (B := [none, none, none, none, none, none, none, none, none]) (B' := [none, none, none, none, none, none, none, none, none, some (.row false 2 ([(VariationPrice.mk str_p 11)].map VariationPrice.cells))]) 9 [] (f23r1_ok 11 h30) (by kernel_rfl) (by kernel_rfl) (by kernel_rfl) (by kernel_rfl) (by kernel_rfl) (by kernel_rfl)) (ap (f14_ok x7.1 2 [(VariationPrice.mk str_p 11)] h32) (ap h52 (ap h52 (ap h52 (ap h53 (ap h53 (ap h53 (ap h54 (ap h54 (ap h54 (ap h54 (ap h59 (ap h59 (ap h59 (ap (f25_ok 6 h56) (ap (f19_ok x15.2.1 x55 h58) an))))))))))))))))))))))) rfl
      · obtain rfl := some_inj h
        exact run_end cfg_ok (rs := [([], [], []), ([], [(0, .call (.tup [(.pl (.agg (Variation.cells x3.1))), (.pl (.int .i64 x3.2))]) [])], []), ([], [(1, .call (.tup [(.pl (.agg (Variation.cells x7.1))), (.pl (.int .i64 x7.2))]) [])], []), ([], [(1, .call (.own 3) [none, none, none, some (.row false 2 ([(VariationPrice.mk str_p 12)].map VariationPrice.cells))]), (2, .call (.tup [(.pl (.agg (Variation.cells x15.1))), (.pl (.sl .any 2 (x15.2.1.map VariationPayment.cells))), (.pl (.int .i64 x15.2.2))]) [])], []), ([], [(1, .call (.own 6) [none, none, none, none, none, none, some (.row false 2 ([(VariationPrice.mk str_p 11)].map VariationPrice.cells))]), (2, .call (.tup [(.pl (.agg (Variation.cells x23.1))), (.pl (.sl .any 2 (x23.2.1.map VariationPayment.cells))), (.pl (.int .i64 x23.2.2))]) [])], []), ([], [(1, .call (.own 9) [none, none, none, none, none, none, none, none, none, some (.row false 2 ([(VariationPrice.mk str_p 11)].map VariationPrice.cells))]), (2, .call (.tup [(.pl (.agg (Variation.cells x31.1))), (.pl (.sl .any 2 (x31.2.1.map VariationPayment.cells))), (.pl (.int .i64 x31.2.2))]) [])], []), ([(3, true), (4, true), (7, true), (8, true), (11, false), (12, false), (13, false)], [(5, .bool true), (9, .bool true), (14, .bool false)], [])]) (ps := []) (tds := []) (m := []) (keep := [0]) (r := (.ret, (f10n0E (.ret false)).2)) (by kernel_rfl) (ap (f12_ok 0 h4) (ap (f16_ok x3.1 str_b str_a str_p 3 10 h8) (ap (CallS.ren (args' := [(.pl (.int .i64 12))]) (v' := (.own 3)) (B := [none, none, none]) (B' := [none, none, none, some (.row false 2 ([(VariationPrice.mk str_p 12)].map VariationPrice.cells))]) 3 [] (f23r1_ok 12 h14) (by kernel_rfl) (by kernel_rfl) (by kernel_rfl) (by kernel_rfl) (by kernel_rfl) (by kernel_rfl)) (ap (f14_ok x7.1 1 [(VariationPrice.mk str_p 12)] h16) (ap (CallS.ren (args' := [(.pl (.int .i64 11))]) (v' := (.own 6)) (B := [none, none, none, none, none, none]) (B' := [none, none, none, none, none, none, some (.row false 2 ([(VariationPrice.mk str_p 11)].map VariationPrice.cells))]) 6 [] (f23r1_ok 11 h22) (by kernel_rfl) (by kernel_rfl) (by kernel_rfl) (by kernel_rfl) (by kernel_rfl) (by kernel_rfl)) (ap (f14_ok x15.1 2 [(VariationPrice.mk str_p 11)] h24) (ap (CallS.ren (args' := [(.pl (.int .i64 11))]) (v' := (.own 9)) (B := [none, none, none, none, none, none, none, none, none]) (B' := [none, none, none, none, none, none, none, none, none, some (.row false 2 ([(VariationPrice.mk str_p 11)].map VariationPrice.cells))]) 9 [] (f23r1_ok 11 h30) (by kernel_rfl) (by kernel_rfl) (by kernel_rfl) (by kernel_rfl) (by kernel_rfl) (by kernel_rfl)) (ap (f14_ok x7.1 2 [(VariationPrice.mk str_p 11)] h32) (ap h52 (ap h52 (ap h52 (ap h53 (ap h53 (ap h53 (ap h54 (ap h54 (ap h54 (ap h54 an)))))))))))))))))) rfl
    · obtain rfl := some_inj h
      exact run_end cfg_ok (rs := [([], [], []), ([], [(0, .call (.tup [(.pl (.agg (Variation.cells x3.1))), (.pl (.int .i64 x3.2))]) [])], []), ([], [(1, .call (.tup [(.pl (.agg (Variation.cells x7.1))), (.pl (.int .i64 x7.2))]) [])], []), ([], [(1, .call (.own 3) [none, none, none, some (.row false 2 ([(VariationPrice.mk str_p 12)].map VariationPrice.cells))]), (2, .call (.tup [(.pl (.agg (Variation.cells x15.1))), (.pl (.sl .any 2 (x15.2.1.map VariationPayment.cells))), (.pl (.int .i64 x15.2.2))]) [])], []), ([], [(1, .call (.own 6) [none, none, none, none, none, none, some (.row false 2 ([(VariationPrice.mk str_p 11)].map VariationPrice.cells))]), (2, .call (.tup [(.pl (.agg (Variation.cells x23.1))), (.pl (.sl .any 2 (x23.2.1.map VariationPayment.cells))), (.pl (.int .i64 x23.2.2))]) [])], []), ([], [(1, .call (.own 9) [none, none, none, none, none, none, none, none, none, some (.row false 2 ([(VariationPrice.mk str_p 11)].map VariationPrice.cells))]), (2, .call (.tup [(.pl (.agg (Variation.cells x31.1))), (.pl (.sl .any 2 (x31.2.1.map VariationPayment.cells))), (.pl (.int .i64 x31.2.2))]) [])], []), ([(3, true), (4, true), (7, false), (8, false)], [(5, .bool true), (9, .bool false)], [])]) (ps := []) (tds := []) (m := []) (keep := [0]) (r := (.ret, (f10n0E (.ret false)).2)) (by kernel_rfl) (ap (f12_ok 0 h4) (ap (f16_ok x3.1 str_b str_a str_p 3 10 h8) (ap (CallS.ren (args' := [(.pl (.int .i64 12))]) (v' := (.own 3)) (B := [none, none, none]) (B' := [none, none, none, some (.row false 2 ([(VariationPrice.mk str_p 12)].map VariationPrice.cells))]) 3 [] (f23r1_ok 12 h14) (by kernel_rfl) (by kernel_rfl) (by kernel_rfl) (by kernel_rfl) (by kernel_rfl) (by kernel_rfl)) (ap (f14_ok x7.1 1 [(VariationPrice.mk str_p 12)] h16) (ap (CallS.ren (args' := [(.pl (.int .i64 11))]) (v' := (.own 6)) (B := [none, none, none, none, none, none]) (B' := [none, none, none, none, none, none, some (.row false 2 ([(VariationPrice.mk str_p 11)].map VariationPrice.cells))]) 6 [] (f23r1_ok 11 h22) (by kernel_rfl) (by kernel_rfl) (by kernel_rfl) (by kernel_rfl) (by kernel_rfl) (by kernel_rfl)) (ap (f14_ok x15.1 2 [(VariationPrice.mk str_p 11)] h24) (ap (CallS.ren (args' := [(.pl (.int .i64 11))]) (v' := (.own 9)) (B := [none, none, none, none, none, none, none, none, none]) (B' := [none, none, none, none, none, none, none, none, none, some (.row false 2 ([(VariationPrice.mk str_p 11)].map VariationPrice.cells))]) 9 [] (f23r1_ok 11 h30) (by kernel_rfl) (by kernel_rfl) (by kernel_rfl) (by kernel_rfl) (by kernel_rfl) (by kernel_rfl)) (ap (f14_ok x7.1 2 [(VariationPrice.mk str_p 11)] h32) (ap h52 (ap h52 (ap h52 (ap h53 (ap h53 (ap h53 an)))))))))))))) rfl
  · obtain rfl := some_inj h
    exact run_end cfg_ok (rs := [([], [], []), ([], [(0, .call (.tup [(.pl (.agg (Variation.cells x3.1))), (.pl (.int .i64 x3.2))]) [])], []), ([], [(1, .call (.tup [(.pl (.agg (Variation.cells x7.1))), (.pl (.int .i64 x7.2))]) [])], []), ([], [(1, .call (.own 3) [none, none, none, some (.row false 2 ([(VariationPrice.mk str_p 12)].map VariationPrice.cells))]), (2, .call (.tup [(.pl (.agg (Variation.cells x15.1))), (.pl (.sl .any 2 (x15.2.1.map VariationPayment.cells))), (.pl (.int .i64 x15.2.2))]) [])], []), ([], [(1, .call (.own 6) [none, none, none, none, none, none, some (.row false 2 ([(VariationPrice.mk str_p 11)].map VariationPrice.cells))]), (2, .call (.tup [(.pl (.agg (Variation.cells x23.1))), (.pl (.sl .any 2 (x23.2.1.map VariationPayment.cells))), (.pl (.int .i64 x23.2.2))]) [])], []), ([], [(1, .call (.own 9) [none, none, none, none, none, none, none, none, none, some (.row false 2 ([(VariationPrice.mk str_p 11)].map VariationPrice.cells))]), (2, .call (.tup [(.pl (.agg (Variation.cells x31.1))), (.pl (.sl .any 2 (x31.2.1.map VariationPayment.cells))), (.pl (.int .i64 x31.2.2))]) [])], []), ([(3, false), (4, false)], [(5, .bool false)], [])]) (ps := []) (tds := []) (m := []) (keep := [0]) (r := (.ret, (f10n0E (.ret false)).2)) (by kernel_rfl) (ap (f12_ok 0 h4) (ap (f16_ok x3.1 str_b str_a str_p 3 10 h8) (ap (CallS.ren (args' := [(.pl (.int .i64 12))]) (v' := (.own 3)) (B := [none, none, none]) (B' := [none, none, none, some (.row false 2 ([(VariationPrice.mk str_p 12)].map VariationPrice.cells))]) 3 [] (f23r1_ok 12 h14) (by kernel_rfl) (by kernel_rfl) (by kernel_rfl) (by kernel_rfl) (by kernel_rfl) (by kernel_rfl)) (ap (f14_ok x7.1 1 [(VariationPrice.mk str_p 12)] h16) (ap (CallS.ren (args' := [(.pl (.int .i64 11))]) (v' := (.own 6)) (B := [none, none, none, none, none, none]) (B' := [none, none, none, none, none, none, some (.row false 2 ([(VariationPrice.mk str_p 11)].map VariationPrice.cells))]) 6 [] (f23r1_ok 11 h22) (by kernel_rfl) (by kernel_rfl) (by kernel_rfl) (by kernel_rfl) (by kernel_rfl) (by kernel_rfl)) (ap (f14_ok x15.1 2 [(VariationPrice.mk str_p 11)] h24) (ap (CallS.ren (args' := [(.pl (.int .i64 11))]) (v' := (.own 9)) (B := [none, none, none, none, none, none, none, none, none]) (B' := [none, none, none, none, none, none, none, none, none, some (.row false 2 ([(VariationPrice.mk str_p 11)].map VariationPrice.cells))]) 9 [] (f23r1_ok 11 h30) (by kernel_rfl) (by kernel_rfl) (by kernel_rfl) (by kernel_rfl) (by kernel_rfl) (by kernel_rfl)) (ap (f14_ok x7.1 2 [(VariationPrice.mk str_p 11)] h32) (ap h52 (ap h52 (ap h52 an))))))))))) rfl
noncomputable def f10 : Option Bool := f10n0.bind fun o => match o with
  | .ret v71 => some v71
theorem f10_ok {r : Bool} (h : f10 = some r) : CallS Try.prog false 10 [] [] (.pl (.bool r)) [] := by
  unfold f10 at h
  obtain ⟨o, ho, h⟩ := bind_cases h
  cases o with
  | ret v71 =>
    obtain rfl := some_inj h
    exact CallS.plain cfg_ok (f := Try.f10) (c := c10) (by kernel_rfl) (by kernel_rfl) (by kernel_rfl) (by kernel_rfl) ((f10n0_ok  ho).mono fun r e => by subst e; exact ⟨.inl rfl, (.pl (.bool v71)), (.pl (.bool v71)), by kernel_rfl, by kernel_rfl, ((Wk.refl _) : Wk (.pl (.bool v71)) (.pl (.bool v71)))⟩)
/-! ### novation/novationlaw37.VariationNames -/
noncomputable def c7 : Code := Try.f7.body.getD .skip
inductive f7n1O where
  | norm (v115 : Bool)
def f7n1E (bj1 : Variation × Int) (bj2 : Variation × Int) (bj3 : Variation × Int) (bj4 : Variation × Int) (bj5 : Variation × Int) (bj6 : Variation × Int) (bj7 : Variation × Int) (bj8 : Variation × Int) (bj9 : Variation × Int) (bj10 : Variation × Int) (bj11 : Variation × Int) (bj12 : Variation × Int) (bk13 : Variation × (List VariationPayment) × Int) (bk14 : Variation × (List VariationPayment) × Int) (bk15 : Variation × (List VariationPayment) × Int) (bk16 : Variation × (List VariationPayment) × Int) (bl17 : Int × Int) (bl18 : Int × Int) : f7n1O → Ex × Tr × Hp
  | .norm v115 => (.norm, mkS [(21, (.bp 0 0)), (22, (.pl (.int .i64 bj11.2))), (23, (.bp 1 0)), (24, (.pl (.int .i64 bj12.2))), (27, (.pl (.int .i64 bk13.2.2))), (30, (.pl (.int .i64 bk14.2.2))), (33, (.pl (.int .i64 bk15.2.2))), (34, (.bp 2 0)), (35, (.pl (.sl .any 2 (bk16.2.1.map VariationPayment.cells)))), (36, (.pl (.int .i64 bk16.2.2))), (38, (.pl (.int .i64 bl17.2))), (39, (.pl (.int .i64 bl18.1))), (40, (.pl (.int .i64 bl18.2))), (41, (.pl (.bool v115)))], [some (.box ((Variation.cells bj11.1).map .pl)), some (.box ((Variation.cells bj12.1).map .pl)), some (.box ((Variation.cells bk16.1).map .pl))])
def f7n1S (bj1 : Variation × Int) (bj2 : Variation × Int) (bj3 : Variation × Int) (bj4 : Variation × Int) (bj5 : Variation × Int) (bj6 : Variation × Int) (bj7 : Variation × Int) (bj8 : Variation × Int) (bj9 : Variation × Int) (bj10 : Variation × Int) (bj11 : Variation × Int) (bj12 : Variation × Int) (bk13 : Variation × (List VariationPayment) × Int) (bk14 : Variation × (List VariationPayment) × Int) (bk15 : Variation × (List VariationPayment) × Int) (bk16 : Variation × (List VariationPayment) × Int) (bl17 : Int × Int) (bl18 : Int × Int) : Tr × Hp := (mkS [(2, (.pl (.int .i64 bj1.2))), (4, (.pl (.int .i64 bj2.2))), (6, (.pl (.int .i64 bj3.2))), (8, (.pl (.int .i64 bj4.2))), (10, (.pl (.int .i64 bj5.2))), (12, (.pl (.int .i64 bj6.2))), (14, (.pl (.int .i64 bj7.2))), (16, (.pl (.int .i64 bj8.2))), (18, (.pl (.int .i64 bj9.2))), (19, (.bp 0 0)), (20, (.pl (.int .i64 bj10.2))), (21, (.bp 1 0)), (22, (.pl (.int .i64 bj11.2))), (23, (.bp 2 0)), (24, (.pl (.int .i64 bj12.2))), (27, (.pl (.int .i64 bk13.2.2))), (30, (.pl (.int .i64 bk14.2.2))), (33, (.pl (.int .i64 bk15.2.2))), (34, (.bp 3 0)), (35, (.pl (.sl .any 2 (bk16.2.1.map VariationPayment.cells)))), (36, (.pl (.int .i64 bk16.2.2))), (38, (.pl (.int .i64 bl17.2))), (39, (.pl (.int .i64 bl18.1))), (40, (.pl (.int .i64 bl18.2)))], [some (.box ((Variation.cells bj10.1).map .pl)), some (.box ((Variation.cells bj11.1).map .pl)), some (.box ((Variation.cells bj12.1).map .pl)), some (.box ((Variation.cells bk16.1).map .pl))])
noncomputable def f7n1 (bj1 : Variation × Int) (bj2 : Variation × Int) (bj3 : Variation × Int) (bj4 : Variation × Int) (bj5 : Variation × Int) (bj6 : Variation × Int) (bj7 : Variation × Int) (bj8 : Variation × Int) (bj9 : Variation × Int) (bj10 : Variation × Int) (bj11 : Variation × Int) (bj12 : Variation × Int) (bk13 : Variation × (List VariationPayment) × Int) (bk14 : Variation × (List VariationPayment) × Int) (bk15 : Variation × (List VariationPayment) × Int) (bk16 : Variation × (List VariationPayment) × Int) (bl17 : Int × Int) (bl18 : Int × Int) : Option f7n1O :=
  bif (decide (bj1.2 = 2)) then
    bif (decide (bj2.2 = 2)) then
      bif (decide (bj3.2 = 0)) then
        bif (decide (bj4.2 = 2)) then
          bif (decide (bj5.2 = 2)) then
            bif (decide (bj6.2 = 2)) then
              bif (decide (bj7.2 = 2)) then
                bif (decide (bj8.2 = 0)) then
                  bif (decide (bj9.2 = 52)) then
                    bif (decide (bj10.2 = 0)) then
                      some (.norm (decide ((bj10.1.Positions.length : Int) = 0)))
                    else
                      some (.norm false)
                  else
                    some (.norm false)
                else
                  some (.norm false)
              else
                some (.norm false)
            else
              some (.norm false)
          else
            some (.norm false)
        else
          some (.norm false)
      else
        some (.norm false)
    else
      some (.norm false)
  else
    some (.norm false)
theorem f7n1_ok (bj1 : Variation × Int) (bj2 : Variation × Int) (bj3 : Variation × Int) (bj4 : Variation × Int) (bj5 : Variation × Int) (bj6 : Variation × Int) (bj7 : Variation × Int) (bj8 : Variation × Int) (bj9 : Variation × Int) (bj10 : Variation × Int) (bj11 : Variation × Int) (bj12 : Variation × Int) (bk13 : Variation × (List VariationPayment) × Int) (bk14 : Variation × (List VariationPayment) × Int) (bk15 : Variation × (List VariationPayment) × Int) (bk16 : Variation × (List VariationPayment) × Int) (bl17 : Int × Int) (bl18 : Int × Int) {o : f7n1O} (h : (f7n1 bj1 bj2 bj3 bj4 bj5 bj6 bj7 bj8 bj9 bj10 bj11 bj12 bk13 bk14 bk15 bk16 bl17 bl18) = some o) : T Try.prog Try.f7.ntmps 0 (cL (dropC 19 c7)) (f7n1S bj1 bj2 bj3 bj4 bj5 bj6 bj7 bj8 bj9 bj10 bj11 bj12 bk13 bk14 bk15 bk16 bl17 bl18) (fun r => r = f7n1E bj1 bj2 bj3 bj4 bj5 bj6 bj7 bj8 bj9 bj10 bj11 bj12 bk13 bk14 bk15 bk16 bl17 bl18 o) := by
  unfold f7n1 at h
  rcases cond_cases h with ⟨h105, h⟩ | ⟨h105, h⟩
  · rcases cond_cases h with ⟨h106, h⟩ | ⟨h106, h⟩
    · rcases cond_cases h with ⟨h107, h⟩ | ⟨h107, h⟩
      · rcases cond_cases h with ⟨h108, h⟩ | ⟨h108, h⟩
        · rcases cond_cases h with ⟨h109, h⟩ | ⟨h109, h⟩
          · rcases cond_cases h with ⟨h110, h⟩ | ⟨h110, h⟩
            · rcases cond_cases h with ⟨h111, h⟩ | ⟨h111, h⟩
              · rcases cond_cases h with ⟨h112, h⟩ | ⟨h112, h⟩
                · rcases cond_cases h with ⟨h113, h⟩ | ⟨h113, h⟩
                  · rcases cond_cases h with ⟨h114, h⟩ | ⟨h114, h⟩
                    · obtain rfl := some_inj h
                      exact run_end cfg_ok (rs := [([(3, true), (4, true), (7, true), (8, true), (11, true), (12, true), (15, true), (16, true), (19, true), (20, true), (23, true), (24, true), (27, true), (28, true), (31, true), (32, true), (35, true), (36, true), (39, true), (40, true), (41, true), (42, true)], [(5, .bool true), (9, .bool true), (13, .bool true), (17, .bool true), (21, .bool true), (25, .bool true), (29, .bool true), (33, .bool true), (37, .bool true), (43, .bool true)], [(41, .val (.pl (.int .i64 (bj10.1.Positions.length : Int))))])]) (ps := []) (tds := []) (m := [1, 2, 3]) (keep := [21, 22, 23, 24, 27, 30, 33, 34, 35, 36, 38, 39, 40, 41]) (r := (.norm, (f7n1E bj1 bj2 bj3 bj4 bj5 bj6 bj7 bj8 bj9 bj10 bj11 bj12 bk13 bk14 bk15 bk16 bl17 bl18 (.norm (decide ((bj10.1.Positions.length : Int) = 0)))).2)) (by kernel_rfl) (ap h105 (ap h105 (ap h105 (ap h106 (ap h106 (ap h106 (ap h107 (ap h107 (ap h107 (ap h108 (ap h108 (ap h108 (ap h109 (ap h109 (ap h109 (ap h110 (ap h110 (ap h110 (ap h111 (ap h111 (ap h111 (ap h112 (ap h112 (ap h112 (ap h113 (ap h113 (ap h113 (ap h114 (ap h114 (ap h114 (ap (len_cv (xs := bj10.1.Positions) (c := VariationPosition.cells)) (ap h114 (ap h114 an))))))))))))))))))))))))))))))))) rfl
                    · obtain rfl := some_inj h
                      exact run_end cfg_ok (rs := [([(3, true), (4, true), (7, true), (8, true), (11, true), (12, true), (15, true), (16, true), (19, true), (20, true), (23, true), (24, true), (27, true), (28, true), (31, true), (32, true), (35, true), (36, true), (39, false), (40, false), (41, false), (42, false)], [(5, .bool true), (9, .bool true), (13, .bool true), (17, .bool true), (21, .bool true), (25, .bool true), (29, .bool true), (33, .bool true), (37, .bool true), (43, .bool false)], [])]) (ps := []) (tds := []) (m := [1, 2, 3]) (keep := [21, 22, 23, 24, 27, 30, 33, 34, 35, 36, 38, 39, 40, 41]) (r := (.norm, (f7n1E bj1 bj2 bj3 bj4 bj5 bj6 bj7 bj8 bj9 bj10 bj11 bj12 bk13 bk14 bk15 bk16 bl17 bl18 (.norm false)).2)) (by kernel_rfl) (ap h105 (ap h105 (ap h105 (ap h106 (ap h106 (ap h106 (ap h107 (ap h107 (ap h107 (ap h108 (ap h108 (ap h108 (ap h109 (ap h109 (ap h109 (ap h110 (ap h110 (ap h110 (ap h111 (ap h111 (ap h111 (ap h112 (ap h112 (ap h112 (ap h113 (ap h113 (ap h113 (ap h114 (ap h114 (ap h114 (ap h114 (ap h114 an)))))))))))))))))))))))))))))))) rfl
                  · obtain rfl := some_inj h
                    exact run_end cfg_ok (rs := [([(3, true), (4, true), (7, true), (8, true), (11, true), (12, true), (15, true), (16, true), (19, true), (20, true), (23, true), (24, true), (27, true), (28, true), (31, true), (32, true), (35, false), (36, false)], [(5, .bool true), (9, .bool true), (13, .bool true), (17, .bool true), (21, .bool true), (25, .bool true), (29, .bool true), (33, .bool true), (37, .bool false)], [])]) (ps := []) (tds := []) (m := [1, 2, 3]) (keep := [21, 22, 23, 24, 27, 30, 33, 34, 35, 36, 38, 39, 40, 41]) (r := (.norm, (f7n1E bj1 bj2 bj3 bj4 bj5 bj6 bj7 bj8 bj9 bj10 bj11 bj12 bk13 bk14 bk15 bk16 bl17 bl18 (.norm false)).2)) (by kernel_rfl) (ap h105 (ap h105 (ap h105 (ap h106 (ap h106 (ap h106 (ap h107 (ap h107 (ap h107 (ap h108 (ap h108 (ap h108 (ap h109 (ap h109 (ap h109 (ap h110 (ap h110 (ap h110 (ap h111 (ap h111 (ap h111 (ap h112 (ap h112 (ap h112 (ap h113 (ap h113 (ap h113 an))))))))))))))))))))))))))) rfl
                · obtain rfl := some_inj h
                  exact run_end cfg_ok (rs := [([(3, true), (4, true), (7, true), (8, true), (11, true), (12, true), (15, true), (16, true), (19, true), (20, true), (23, true), (24, true), (27, true), (28, true), (31, false), (32, false)], [(5, .bool true), (9, .bool true), (13, .bool true), (17, .bool true), (21, .bool true), (25, .bool true), (29, .bool true), (33, .bool false)], [])]) (ps := []) (tds := []) (m := [1, 2, 3]) (keep := [21, 22, 23, 24, 27, 30, 33, 34, 35, 36, 38, 39, 40, 41]) (r := (.norm, (f7n1E bj1 bj2 bj3 bj4 bj5 bj6 bj7 bj8 bj9 bj10 bj11 bj12 bk13 bk14 bk15 bk16 bl17 bl18 (.norm false)).2)) (by kernel_rfl) (ap h105 (ap h105 (ap h105 (ap h106 (ap h106 (ap h106 (ap h107 (ap h107 (ap h107 (ap h108 (ap h108 (ap h108 (ap h109 (ap h109 (ap h109 (ap h110 (ap h110 (ap h110 (ap h111 (ap h111 (ap h111 (ap h112 (ap h112 (ap h112 an)))))))))))))))))))))))) rfl
              · obtain rfl := some_inj h
                exact run_end cfg_ok (rs := [([(3, true), (4, true), (7, true), (8, true), (11, true), (12, true), (15, true), (16, true), (19, true), (20, true), (23, true), (24, true), (27, false), (28, false)], [(5, .bool true), (9, .bool true), (13, .bool true), (17, .bool true), (21, .bool true), (25, .bool true), (29, .bool false)], [])]) (ps := []) (tds := []) (m := [1, 2, 3]) (keep := [21, 22, 23, 24, 27, 30, 33, 34, 35, 36, 38, 39, 40, 41]) (r := (.norm, (f7n1E bj1 bj2 bj3 bj4 bj5 bj6 bj7 bj8 bj9 bj10 bj11 bj12 bk13 bk14 bk15 bk16 bl17 bl18 (.norm false)).2)) (by kernel_rfl) (ap h105 (ap h105 (ap h105 (ap h106 (ap h106 (ap h106 (ap h107 (ap h107 (ap h107 (ap h108 (ap h108 (ap h108 (ap h109 (ap h109 (ap h109 (ap h110 (ap h110 (ap h110 (ap h111 (ap h111 (ap h111 an))))))))))))))))))))) rfl
            · obtain rfl := some_inj h
              exact run_end cfg_ok (rs := [([(3, true), (4, true), (7, true), (8, true), (11, true), (12, true), (15, true), (16, true), (19, true), (20, true), (23, false), (24, false)], [(5, .bool true), (9, .bool true), (13, .bool true), (17, .bool true), (21, .bool true), (25, .bool false)], [])]) (ps := []) (tds := []) (m := [1, 2, 3]) (keep := [21, 22, 23, 24, 27, 30, 33, 34, 35, 36, 38, 39, 40, 41]) (r := (.norm, (f7n1E bj1 bj2 bj3 bj4 bj5 bj6 bj7 bj8 bj9 bj10 bj11 bj12 bk13 bk14 bk15 bk16 bl17 bl18 (.norm false)).2)) (by kernel_rfl) (ap h105 (ap h105 (ap h105 (ap h106 (ap h106 (ap h106 (ap h107 (ap h107 (ap h107 (ap h108 (ap h108 (ap h108 (ap h109 (ap h109 (ap h109 (ap h110 (ap h110 (ap h110 an)))))))))))))))))) rfl
          · obtain rfl := some_inj h
            exact run_end cfg_ok (rs := [([(3, true), (4, true), (7, true), (8, true), (11, true), (12, true), (15, true), (16, true), (19, false), (20, false)], [(5, .bool true), (9, .bool true), (13, .bool true), (17, .bool true), (21, .bool false)], [])]) (ps := []) (tds := []) (m := [1, 2, 3]) (keep := [21, 22, 23, 24, 27, 30, 33, 34, 35, 36, 38, 39, 40, 41]) (r := (.norm, (f7n1E bj1 bj2 bj3 bj4 bj5 bj6 bj7 bj8 bj9 bj10 bj11 bj12 bk13 bk14 bk15 bk16 bl17 bl18 (.norm false)).2)) (by kernel_rfl) (ap h105 (ap h105 (ap h105 (ap h106 (ap h106 (ap h106 (ap h107 (ap h107 (ap h107 (ap h108 (ap h108 (ap h108 (ap h109 (ap h109 (ap h109 an))))))))))))))) rfl
        · obtain rfl := some_inj h
          exact run_end cfg_ok (rs := [([(3, true), (4, true), (7, true), (8, true), (11, true), (12, true), (15, false), (16, false)], [(5, .bool true), (9, .bool true), (13, .bool true), (17, .bool false)], [])]) (ps := []) (tds := []) (m := [1, 2, 3]) (keep := [21, 22, 23, 24, 27, 30, 33, 34, 35, 36, 38, 39, 40, 41]) (r := (.norm, (f7n1E bj1 bj2 bj3 bj4 bj5 bj6 bj7 bj8 bj9 bj10 bj11 bj12 bk13 bk14 bk15 bk16 bl17 bl18 (.norm false)).2)) (by kernel_rfl) (ap h105 (ap h105 (ap h105 (ap h106 (ap h106 (ap h106 (ap h107 (ap h107 (ap h107 (ap h108 (ap h108 (ap h108 an)))))))))))) rfl
      · obtain rfl := some_inj h
        exact run_end cfg_ok (rs := [([(3, true), (4, true), (7, true), (8, true), (11, false), (12, false)], [(5, .bool true), (9, .bool true), (13, .bool false)], [])]) (ps := []) (tds := []) (m := [1, 2, 3]) (keep := [21, 22, 23, 24, 27, 30, 33, 34, 35, 36, 38, 39, 40, 41]) (r := (.norm, (f7n1E bj1 bj2 bj3 bj4 bj5 bj6 bj7 bj8 bj9 bj10 bj11 bj12 bk13 bk14 bk15 bk16 bl17 bl18 (.norm false)).2)) (by kernel_rfl) (ap h105 (ap h105 (ap h105 (ap h106 (ap h106 (ap h106 (ap h107 (ap h107 (ap h107 an))))))))) rfl
    · obtain rfl := some_inj h
      exact run_end cfg_ok (rs := [([(3, true), (4, true), (7, false), (8, false)], [(5, .bool true), (9, .bool false)], [])]) (ps := []) (tds := []) (m := [1, 2, 3]) (keep := [21, 22, 23, 24, 27, 30, 33, 34, 35, 36, 38, 39, 40, 41]) (r := (.norm, (f7n1E bj1 bj2 bj3 bj4 bj5 bj6 bj7 bj8 bj9 bj10 bj11 bj12 bk13 bk14 bk15 bk16 bl17 bl18 (.norm false)).2)) (by kernel_rfl) (ap h105 (ap h105 (ap h105 (ap h106 (ap h106 (ap h106 an)))))) rfl
  · obtain rfl := some_inj h
    exact run_end cfg_ok (rs := [([(3, false), (4, false)], [(5, .bool false)], [])]) (ps := []) (tds := []) (m := [1, 2, 3]) (keep := [21, 22, 23, 24, 27, 30, 33, 34, 35, 36, 38, 39, 40, 41]) (r := (.norm, (f7n1E bj1 bj2 bj3 bj4 bj5 bj6 bj7 bj8 bj9 bj10 bj11 bj12 bk13 bk14 bk15 bk16 bl17 bl18 (.norm false)).2)) (by kernel_rfl) (ap h105 (ap h105 (ap h105 an))) rfl
inductive f7n2O where
  | norm (v167 : Bool)
def f7n2E (bj1 : Variation × Int) (bj2 : Variation × Int) (bk3 : Variation × (List VariationPayment) × Int) (bk4 : Variation × (List VariationPayment) × Int) (bk5 : Variation × (List VariationPayment) × Int) (bk6 : Variation × (List VariationPayment) × Int) (bl7 : Int × Int) (bl8 : Int × Int) (bn9 : Bool) : f7n2O → Ex × Tr × Hp
  | .norm v167 => (.norm, mkS [(41, (.pl (.bool bn9))), (42, (.pl (.bool v167)))], [])
def f7n2S (bj1 : Variation × Int) (bj2 : Variation × Int) (bk3 : Variation × (List VariationPayment) × Int) (bk4 : Variation × (List VariationPayment) × Int) (bk5 : Variation × (List VariationPayment) × Int) (bk6 : Variation × (List VariationPayment) × Int) (bl7 : Int × Int) (bl8 : Int × Int) (bn9 : Bool) : Tr × Hp := (mkS [(21, (.bp 0 0)), (22, (.pl (.int .i64 bj1.2))), (23, (.bp 1 0)), (24, (.pl (.int .i64 bj2.2))), (27, (.pl (.int .i64 bk3.2.2))), (30, (.pl (.int .i64 bk4.2.2))), (33, (.pl (.int .i64 bk5.2.2))), (34, (.bp 2 0)), (35, (.pl (.sl .any 2 (bk6.2.1.map VariationPayment.cells)))), (36, (.pl (.int .i64 bk6.2.2))), (38, (.pl (.int .i64 bl7.2))), (39, (.pl (.int .i64 bl8.1))), (40, (.pl (.int .i64 bl8.2))), (41, (.pl (.bool bn9)))], [some (.box ((Variation.cells bj1.1).map .pl)), some (.box ((Variation.cells bj2.1).map .pl)), some (.box ((Variation.cells bk6.1).map .pl))])
noncomputable def f7n2 (bj1 : Variation × Int) (bj2 : Variation × Int) (bk3 : Variation × (List VariationPayment) × Int) (bk4 : Variation × (List VariationPayment) × Int) (bk5 : Variation × (List VariationPayment) × Int) (bk6 : Variation × (List VariationPayment) × Int) (bl7 : Int × Int) (bl8 : Int × Int) (bn9 : Bool) : Option f7n2O :=
  bif (decide (bj1.2 = 0)) then
    bif (decide ((bj1.1.Positions.length : Int) = 2)) then
      bif (decide (bj2.2 = 14)) then
        bif (decide ((bj2.1.Positions.length : Int) = 0)) then
          bif (decide (bk3.2.2 = 21)) then
            bif (decide (bk4.2.2 = 30)) then
              bif (decide (bk5.2.2 = 2)) then
                bif (decide (bk6.2.2 = 0)) then
                  bif (decide ((bk6.1.Positions.length : Int) = 0)) then
                    (f25 (-1125899906842624)).bind fun x160 =>
                    (f19 bk6.2.1 x160).bind fun x162 =>
                    bif x162 then
                      bif (decide (bl7.2 = 30)) then
                        bif (decide (bl8.2 = 0)) then
                          some (.norm (decide (bl8.1 = 0)))
                        else
                          some (.norm false)
                      else
                        some (.norm false)
                    else
                      some (.norm false)
                  else
                    some (.norm false)
                else
                  some (.norm false)
              else
                some (.norm false)
            else
              some (.norm false)
          else
            some (.norm false)
        else
          some (.norm false)
      else
        some (.norm false)
    else
      some (.norm false)
  else
    some (.norm false)
theorem f7n2_ok (bj1 : Variation × Int) (bj2 : Variation × Int) (bk3 : Variation × (List VariationPayment) × Int) (bk4 : Variation × (List VariationPayment) × Int) (bk5 : Variation × (List VariationPayment) × Int) (bk6 : Variation × (List VariationPayment) × Int) (bl7 : Int × Int) (bl8 : Int × Int) (bn9 : Bool) {o : f7n2O} (h : (f7n2 bj1 bj2 bk3 bk4 bk5 bk6 bl7 bl8 bn9) = some o) : T Try.prog Try.f7.ntmps 0 (cL (dropC 0 (dropC 1 (dropC 19 c7)))) (f7n2S bj1 bj2 bk3 bk4 bk5 bk6 bl7 bl8 bn9) (fun r => r = f7n2E bj1 bj2 bk3 bk4 bk5 bk6 bl7 bl8 bn9 o) := by
  unfold f7n2 at h
  rcases cond_cases h with ⟨h151, h⟩ | ⟨h151, h⟩
  · rcases cond_cases h with ⟨h152, h⟩ | ⟨h152, h⟩
    · rcases cond_cases h with ⟨h153, h⟩ | ⟨h153, h⟩
      · rcases cond_cases h with ⟨h154, h⟩ | ⟨h154, h⟩
        · rcases cond_cases h with ⟨h155, h⟩ | ⟨h155, h⟩
          · rcases cond_cases h with ⟨h156, h⟩ | ⟨h156, h⟩
            · rcases cond_cases h with ⟨h157, h⟩ | ⟨h157, h⟩
              · rcases cond_cases h with ⟨h158, h⟩ | ⟨h158, h⟩
                · rcases cond_cases h with ⟨h159, h⟩ | ⟨h159, h⟩
                  · obtain ⟨x160, h161, h⟩ := bind_cases h
                    obtain ⟨x162, h163, h⟩ := bind_cases h
                    rcases cond_cases h with ⟨h164, h⟩ | ⟨h164, h⟩
                    · rcases cond_cases h with ⟨h165, h⟩ | ⟨h165, h⟩
                      · rcases cond_cases h with ⟨h166, h⟩ | ⟨h166, h⟩
                        · obtain rfl := some_inj h
                          exact run_end cfg_ok (rs := [([(3, true), (4, true), (5, true), (6, true), (9, true), (10, true), (13, true), (14, true), (15, true), (16, true), (19, true), (20, true), (23, true), (24, true), (27, true), (28, true), (31, true), (32, true), (35, true), (36, true), (37, true), (38, true), (41, true), (42, true), (43, true), (46, true), (47, true), (50, true), (51, true), (54, true), (55, true)], [(7, .bool true), (11, .bool true), (17, .bool true), (21, .bool true), (25, .bool true), (29, .bool true), (33, .bool true), (39, .bool true), (42, .call (.pl (.sl .any 2 (x160.map VariationPayment.cells))) []), (43, .call (.pl (.bool x162)) []), (44, .bool true), (48, .bool true), (52, .bool true), (56, .bool true)], [(5, .val (.pl (.int .i64 (bj1.1.Positions.length : Int)))), (15, .val (.pl (.int .i64 (bj2.1.Positions.length : Int)))), (37, .val (.pl (.int .i64 (bk6.1.Positions.length : Int))))])]) (ps := []) (tds := []) (m := []) (keep := [41, 42]) (r := (.norm, (f7n2E bj1 bj2 bk3 bk4 bk5 bk6 bl7 bl8 bn9 (.norm (decide (bl8.1 = 0)))).2)) (by kernel_rfl) (ap h151 (ap h151 (ap h151 (ap (len_cv (xs := bj1.1.Positions) (c := VariationPosition.cells)) (ap h151 (ap h151 (ap h152 (ap h152 (ap h152 (ap h153 (ap h153 (ap h153 (ap (len_cv (xs := bj2.1.Positions) (c := VariationPosition.cells)) (ap h153 (ap h153 (ap h154 (ap h154 (ap h154 (ap h155 (ap h155 (ap h155 (ap h156 (ap h156 (ap h156 (ap h157 (ap h157 (ap h157 (ap h158 (ap h158 (ap h158 (ap (len_cv (xs := bk6.1.Positions) (c := VariationPosition.cells)) (ap h158 (ap h158 (ap h159 (ap h159 (ap h159 (ap h159 (ap h164 (ap h164 (ap h164 (ap h165 (ap h165 (ap h165 (ap h166 (ap h166 (ap h166 (ap (f25_ok (-1125899906842624) h161) (ap (f19_ok bk6.2.1 x160 h163) an)))))))))))))))))))))))))))))))))))))))))))))))) rfl
                        · obtain rfl := some_inj h
                          exact run_end cfg_ok (rs := [([(3, true), (4, true), (5, true), (6, true), (9, true), (10, true), (13, true), (14, true), (15, true), (16, true), (19, true), (20, true), (23, true), (24, true), (27, true), (28, true), (31, true), (32, true), (35, true), (36, true), (37, true), (38, true), (41, true), (42, true), (43, true), (46, true), (47, true), (50, true), (51, true), (54, false), (55, false)], [(7, .bool true), (11, .bool true), (17, .bool true), (21, .bool true), (25, .bool true), (29, .bool true), (33, .bool true), (39, .bool true), (42, .call (.pl (.sl .any 2 (x160.map VariationPayment.cells))) []), (43, .call (.pl (.bool x162)) []), (44, .bool true), (48, .bool true), (52, .bool true), (56, .bool false)], [(5, .val (.pl (.int .i64 (bj1.1.Positions.length : Int)))), (15, .val (.pl (.int .i64 (bj2.1.Positions.length : Int)))), (37, .val (.pl (.int .i64 (bk6.1.Positions.length : Int))))])]) (ps := []) (tds := []) (m := []) (keep := [41, 42]) (r := (.norm, (f7n2E bj1 bj2 bk3 bk4 bk5 bk6 bl7 bl8 bn9 (.norm false)).2)) (by kernel_rfl) (ap h151 (ap h151 (ap h151 (ap (len_cv (xs := bj1.1.Positions) (c := VariationPosition.cells)) (ap h151 (ap h151 (ap h152 (ap h152 (ap h152 (ap h153 (ap h153 (ap h153 (ap (len_cv (xs := bj2.1.Positions) (c := VariationPosition.cells)) (ap h153 (ap h153 (ap h154 (ap h154 (ap h154 (ap h155 (ap h155 (ap h155 (ap h156 (ap h156 (ap h156 (ap h157 (ap h157 (ap h157 (ap h158 (ap h158 (ap h158 (ap (len_cv (xs := bk6.1.Positions) (c := VariationPosition.cells)) (ap h158 (ap h158 (ap h159 (ap h159 (ap h159 (ap h159 (ap h164 (ap h164 (ap h164 (ap h165 (ap h165 (ap h165 (ap h166 (ap h166 (ap h166 (ap (f25_ok (-1125899906842624) h161) (ap (f19_ok bk6.2.1 x160 h163) an)))))))))))))))))))))))))))))))))))))))))))))))) rfl
                      · obtain rfl := some_inj h
                        exact run_end cfg_ok (rs := [([(3, true), (4, true), (5, true), (6, true), (9, true), (10, true), (13, true), (14, true), (15, true), (16, true), (19, true), (20, true), (23, true), (24, true), (27, true), (28, true), (31, true), (32, true), (35, true), (36, true), (37, true), (38, true), (41, true), (42, true), (43, true), (46, true), (47, true), (50, false), (51, false)], [(7, .bool true), (11, .bool true), (17, .bool true), (21, .bool true), (25, .bool true), (29, .bool true), (33, .bool true), (39, .bool true), (42, .call (.pl (.sl .any 2 (x160.map VariationPayment.cells))) []), (43, .call (.pl (.bool x162)) []), (44, .bool true), (48, .bool true), (52, .bool false)], [(5, .val (.pl (.int .i64 (bj1.1.Positions.length : Int)))), (15, .val (.pl (.int .i64 (bj2.1.Positions.length : Int)))), (37, .val (.pl (.int .i64 (bk6.1.Positions.length : Int))))])]) (ps := []) (tds := []) (m := []) (keep := [41, 42]) (r := (.norm, (f7n2E bj1 bj2 bk3 bk4 bk5 bk6 bl7 bl8 bn9 (.norm false)).2)) (by kernel_rfl) (ap h151 (ap h151 (ap h151 (ap (len_cv (xs := bj1.1.Positions) (c := VariationPosition.cells)) (ap h151 (ap h151 (ap h152 (ap h152 (ap h152 (ap h153 (ap h153 (ap h153 (ap (len_cv (xs := bj2.1.Positions) (c := VariationPosition.cells)) (ap h153 (ap h153 (ap h154 (ap h154 (ap h154 (ap h155 (ap h155 (ap h155 (ap h156 (ap h156 (ap h156 (ap h157 (ap h157 (ap h157 (ap h158 (ap h158 (ap h158 (ap (len_cv (xs := bk6.1.Positions) (c := VariationPosition.cells)) (ap h158 (ap h158 (ap h159 (ap h159 (ap h159 (ap h159 (ap h164 (ap h164 (ap h164 (ap h165 (ap h165 (ap h165 (ap (f25_ok (-1125899906842624) h161) (ap (f19_ok bk6.2.1 x160 h163) an))))))))))))))))))))))))))))))))))))))))))))) rfl
                    · obtain rfl := some_inj h
                      exact run_end cfg_ok (rs := [([(3, true), (4, true), (5, true), (6, true), (9, true), (10, true), (13, true), (14, true), (15, true), (16, true), (19, true), (20, true), (23, true), (24, true), (27, true), (28, true), (31, true), (32, true), (35, true), (36, true), (37, true), (38, true), (41, true), (42, true), (43, true), (46, false), (47, false)], [(7, .bool true), (11, .bool true), (17, .bool true), (21, .bool true), (25, .bool true), (29, .bool true), (33, .bool true), (39, .bool true), (42, .call (.pl (.sl .any 2 (x160.map VariationPayment.cells))) []), (43, .call (.pl (.bool x162)) []), (44, .bool true), (48, .bool false)], [(5, .val (.pl (.int .i64 (bj1.1.Positions.length : Int)))), (15, .val (.pl (.int .i64 (bj2.1.Positions.length : Int)))), (37, .val (.pl (.int .i64 (bk6.1.Positions.length : Int))))])]) (ps := []) (tds := []) (m := []) (keep := [41, 42]) (r := (.norm, (f7n2E bj1 bj2 bk3 bk4 bk5 bk6 bl7 bl8 bn9 (.norm false)).2)) (by kernel_rfl) (ap h151 (ap h151 (ap h151 (ap (len_cv (xs := bj1.1.Positions) (c := VariationPosition.cells)) (ap h151 (ap h151 (ap h152 (ap h152 (ap h152 (ap h153 (ap h153 (ap h153 (ap (len_cv (xs := bj2.1.Positions) (c := VariationPosition.cells)) (ap h153 (ap h153 (ap h154 (ap h154 (ap h154 (ap h155 (ap h155 (ap h155 (ap h156 (ap h156 (ap h156 (ap h157 (ap h157 (ap h157 (ap h158 (ap h158 (ap h158 (ap (len_cv (xs := bk6.1.Positions) (c := VariationPosition.cells)) (ap h158 (ap h158 (ap h159 (ap h159 (ap h159 (ap h159 (ap h164 (ap h164 (ap h164 (ap (f25_ok (-1125899906842624) h161) (ap (f19_ok bk6.2.1 x160 h163) an)))))))))))))))))))))))))))))))))))))))))) rfl
                  · obtain rfl := some_inj h
                    exact run_end cfg_ok (rs := [([(3, true), (4, true), (5, true), (6, true), (9, true), (10, true), (13, true), (14, true), (15, true), (16, true), (19, true), (20, true), (23, true), (24, true), (27, true), (28, true), (31, true), (32, true), (35, true), (36, true), (37, true), (38, true), (41, false), (42, false), (43, false)], [(7, .bool true), (11, .bool true), (17, .bool true), (21, .bool true), (25, .bool true), (29, .bool true), (33, .bool true), (39, .bool true), (44, .bool false)], [(5, .val (.pl (.int .i64 (bj1.1.Positions.length : Int)))), (15, .val (.pl (.int .i64 (bj2.1.Positions.length : Int)))), (37, .val (.pl (.int .i64 (bk6.1.Positions.length : Int))))])]) (ps := []) (tds := []) (m := []) (keep := [41, 42]) (r := (.norm, (f7n2E bj1 bj2 bk3 bk4 bk5 bk6 bl7 bl8 bn9 (.norm false)).2)) (by kernel_rfl) (ap h151 (ap h151 (ap h151 (ap (len_cv (xs := bj1.1.Positions) (c := VariationPosition.cells)) (ap h151 (ap h151 (ap h152 (ap h152 (ap h152 (ap h153 (ap h153 (ap h153 (ap (len_cv (xs := bj2.1.Positions) (c := VariationPosition.cells)) (ap h153 (ap h153 (ap h154 (ap h154 (ap h154 (ap h155 (ap h155 (ap h155 (ap h156 (ap h156 (ap h156 (ap h157 (ap h157 (ap h157 (ap h158 (ap h158 (ap h158 (ap (len_cv (xs := bk6.1.Positions) (c := VariationPosition.cells)) (ap h158 (ap h158 (ap h159 (ap h159 (ap h159 (ap h159 an))))))))))))))))))))))))))))))))))))) rfl
                · obtain rfl := some_inj h
                  exact run_end cfg_ok (rs := [([(3, true), (4, true), (5, true), (6, true), (9, true), (10, true), (13, true), (14, true), (15, true), (16, true), (19, true), (20, true), (23, true), (24, true), (27, true), (28, true), (31, true), (32, true), (35, false), (36, false), (37, false), (38, false)], [(7, .bool true), (11, .bool true), (17, .bool true), (21, .bool true), (25, .bool true), (29, .bool true), (33, .bool true), (39, .bool false)], [(5, .val (.pl (.int .i64 (bj1.1.Positions.length : Int)))), (15, .val (.pl (.int .i64 (bj2.1.Positions.length : Int))))])]) (ps := []) (tds := []) (m := []) (keep := [41, 42]) (r := (.norm, (f7n2E bj1 bj2 bk3 bk4 bk5 bk6 bl7 bl8 bn9 (.norm false)).2)) (by kernel_rfl) (ap h151 (ap h151 (ap h151 (ap (len_cv (xs := bj1.1.Positions) (c := VariationPosition.cells)) (ap h151 (ap h151 (ap h152 (ap h152 (ap h152 (ap h153 (ap h153 (ap h153 (ap (len_cv (xs := bj2.1.Positions) (c := VariationPosition.cells)) (ap h153 (ap h153 (ap h154 (ap h154 (ap h154 (ap h155 (ap h155 (ap h155 (ap h156 (ap h156 (ap h156 (ap h157 (ap h157 (ap h157 (ap h158 (ap h158 (ap h158 (ap h158 (ap h158 an)))))))))))))))))))))))))))))))) rfl
              · obtain rfl := some_inj h
                exact run_end cfg_ok (rs := [([(3, true), (4, true), (5, true), (6, true), (9, true), (10, true), (13, true), (14, true), (15, true), (16, true), (19, true), (20, true), (23, true), (24, true), (27, true), (28, true), (31, false), (32, false)], [(7, .bool true), (11, .bool true), (17, .bool true), (21, .bool true), (25, .bool true), (29, .bool true), (33, .bool false)], [(5, .val (.pl (.int .i64 (bj1.1.Positions.length : Int)))), (15, .val (.pl (.int .i64 (bj2.1.Positions.length : Int))))])]) (ps := []) (tds := []) (m := []) (keep := [41, 42]) (r := (.norm, (f7n2E bj1 bj2 bk3 bk4 bk5 bk6 bl7 bl8 bn9 (.norm false)).2)) (by kernel_rfl) (ap h151 (ap h151 (ap h151 (ap (len_cv (xs := bj1.1.Positions) (c := VariationPosition.cells)) (ap h151 (ap h151 (ap h152 (ap h152 (ap h152 (ap h153 (ap h153 (ap h153 (ap (len_cv (xs := bj2.1.Positions) (c := VariationPosition.cells)) (ap h153 (ap h153 (ap h154 (ap h154 (ap h154 (ap h155 (ap h155 (ap h155 (ap h156 (ap h156 (ap h156 (ap h157 (ap h157 (ap h157 an))))))))))))))))))))))))))) rfl
            · obtain rfl := some_inj h
              exact run_end cfg_ok (rs := [([(3, true), (4, true), (5, true), (6, true), (9, true), (10, true), (13, true), (14, true), (15, true), (16, true), (19, true), (20, true), (23, true), (24, true), (27, false), (28, false)], [(7, .bool true), (11, .bool true), (17, .bool true), (21, .bool true), (25, .bool true), (29, .bool false)], [(5, .val (.pl (.int .i64 (bj1.1.Positions.length : Int)))), (15, .val (.pl (.int .i64 (bj2.1.Positions.length : Int))))])]) (ps := []) (tds := []) (m := []) (keep := [41, 42]) (r := (.norm, (f7n2E bj1 bj2 bk3 bk4 bk5 bk6 bl7 bl8 bn9 (.norm false)).2)) (by kernel_rfl) (ap h151 (ap h151 (ap h151 (ap (len_cv (xs := bj1.1.Positions) (c := VariationPosition.cells)) (ap h151 (ap h151 (ap h152 (ap h152 (ap h152 (ap h153 (ap h153 (ap h153 (ap (len_cv (xs := bj2.1.Positions) (c := VariationPosition.cells)) (ap h153 (ap h153 (ap h154 (ap h154 (ap h154 (ap h155 (ap h155 (ap h155 (ap h156 (ap h156 (ap h156 an)))))))))))))))))))))))) rfl
          · obtain rfl := some_inj h
            exact run_end cfg_ok (rs := [([(3, true), (4, true), (5, true), (6, true), (9, true), (10, true), (13, true), (14, true), (15, true), (16, true), (19, true), (20, true), (23, false), (24, false)], [(7, .bool true), (11, .bool true), (17, .bool true), (21, .bool true), (25, .bool false)], [(5, .val (.pl (.int .i64 (bj1.1.Positions.length : Int)))), (15, .val (.pl (.int .i64 (bj2.1.Positions.length : Int))))])]) (ps := []) (tds := []) (m := []) (keep := [41, 42]) (r := (.norm, (f7n2E bj1 bj2 bk3 bk4 bk5 bk6 bl7 bl8 bn9 (.norm false)).2)) (by kernel_rfl) (ap h151 (ap h151 (ap h151 (ap (len_cv (xs := bj1.1.Positions) (c := VariationPosition.cells)) (ap h151 (ap h151 (ap h152 (ap h152 (ap h152 (ap h153 (ap h153 (ap h153 (ap (len_cv (xs := bj2.1.Positions) (c := VariationPosition.cells)) (ap h153 (ap h153 (ap h154 (ap h154 (ap h154 (ap h155 (ap h155 (ap h155 an))))))))))))))))))))) rfl
        · obtain rfl := some_inj h
          exact run_end cfg_ok (rs := [([(3, true), (4, true), (5, true), (6, true), (9, true), (10, true), (13, true), (14, true), (15, true), (16, true), (19, false), (20, false)], [(7, .bool true), (11, .bool true), (17, .bool true), (21, .bool false)], [(5, .val (.pl (.int .i64 (bj1.1.Positions.length : Int)))), (15, .val (.pl (.int .i64 (bj2.1.Positions.length : Int))))])]) (ps := []) (tds := []) (m := []) (keep := [41, 42]) (r := (.norm, (f7n2E bj1 bj2 bk3 bk4 bk5 bk6 bl7 bl8 bn9 (.norm false)).2)) (by kernel_rfl) (ap h151 (ap h151 (ap h151 (ap (len_cv (xs := bj1.1.Positions) (c := VariationPosition.cells)) (ap h151 (ap h151 (ap h152 (ap h152 (ap h152 (ap h153 (ap h153 (ap h153 (ap (len_cv (xs := bj2.1.Positions) (c := VariationPosition.cells)) (ap h153 (ap h153 (ap h154 (ap h154 (ap h154 an)))))))))))))))))) rfl
      · obtain rfl := some_inj h
        exact run_end cfg_ok (rs := [([(3, true), (4, true), (5, true), (6, true), (9, true), (10, true), (13, false), (14, false), (15, false), (16, false)], [(7, .bool true), (11, .bool true), (17, .bool false)], [(5, .val (.pl (.int .i64 (bj1.1.Positions.length : Int))))])]) (ps := []) (tds := []) (m := []) (keep := [41, 42]) (r := (.norm, (f7n2E bj1 bj2 bk3 bk4 bk5 bk6 bl7 bl8 bn9 (.norm false)).2)) (by kernel_rfl) (ap h151 (ap h151 (ap h151 (ap (len_cv (xs := bj1.1.Positions) (c := VariationPosition.cells)) (ap h151 (ap h151 (ap h152 (ap h152 (ap h152 (ap h153 (ap h153 (ap h153 (ap h153 (ap h153 an)))))))))))))) rfl
    · obtain rfl := some_inj h
      exact run_end cfg_ok (rs := [([(3, true), (4, true), (5, true), (6, true), (9, false), (10, false)], [(7, .bool true), (11, .bool false)], [(5, .val (.pl (.int .i64 (bj1.1.Positions.length : Int))))])]) (ps := []) (tds := []) (m := []) (keep := [41, 42]) (r := (.norm, (f7n2E bj1 bj2 bk3 bk4 bk5 bk6 bl7 bl8 bn9 (.norm false)).2)) (by kernel_rfl) (ap h151 (ap h151 (ap h151 (ap (len_cv (xs := bj1.1.Positions) (c := VariationPosition.cells)) (ap h151 (ap h151 (ap h152 (ap h152 (ap h152 an))))))))) rfl
  · obtain rfl := some_inj h
    exact run_end cfg_ok (rs := [([(3, false), (4, false), (5, false), (6, false)], [(7, .bool false)], [])]) (ps := []) (tds := []) (m := []) (keep := [41, 42]) (r := (.norm, (f7n2E bj1 bj2 bk3 bk4 bk5 bk6 bl7 bl8 bn9 (.norm false)).2)) (by kernel_rfl) (ap h151 (ap h151 (ap h151 (ap h151 (ap h151 an))))) rfl
inductive f7n0O where
  | ret (v185 : Bool)
def f7n0E : f7n0O → Ex × Tr × Hp
  | .ret v185 => (.ret, mkS [(0, (.pl (.bool v185)))], [])
def f7n0S : Tr × Hp := (initS [] 0 .leaf, [])
noncomputable def f7n0 : Option f7n0O :=
  (f12 (-1)).bind fun x3 =>
  (f12 100000).bind fun x7 =>
  (f12 7).bind fun x11 =>
  (f16 x11.1 str_a str_a str_p 1 1).bind fun x15 =>
  (f16 x11.1 str_house str_a str_p 1 1).bind fun x19 =>
  (f16 x11.1 str_b str_a str_p 0 1).bind fun x23 =>
  (f16 x11.1 str_b str_a str_p 1 536870913).bind fun x27 =>
  (f16 x11.1 str_b str_a str_p 1048576 536870912).bind fun x31 =>
  (f16 x31.1 str_b str_c str_p 1 0).bind fun x35 =>
  (f16 x31.1 str_a str_b str_p 1048576 536870912).bind fun x39 =>
  (f16 x31.1 str_a str_b str_p 1048576 (-536870912)).bind fun x43 =>
  (f16 x43.1 str_b str_a str_p 1 1).bind fun x47 =>
  (f23r1 1).bind fun x53 =>
  (f14 x31.1 7 [(VariationPrice.mk str_p 1)]).bind fun x55 =>
  (f14 x31.1 8 []).bind fun x59 =>
  (f23r1 1).bind fun x67 =>
  (f23r1 1).bind fun x69 =>
  (f14 x31.1 8 [(VariationPrice.mk str_p 1), (VariationPrice.mk str_p 1)]).bind fun x71 =>
  (f14 x43.1 8 []).bind fun x75 =>
  (f24 x31.1 str_b []).bind fun x79 =>
  (f24 x31.1 str_c []).bind fun x83 =>
  (f7n1 x3 x7 x11 x15 x19 x23 x27 x31 x35 x39 x43 x47 x55 x59 x71 x75 x79 x83).bind fun o116 => match o116 with
  | .norm v118 => (f7n2 x43 x47 x55 x59 x71 x75 x79 x83 v118).bind fun o168 => match o168 with
    | .norm v170 => f10.bind fun x178 =>
      bif x178 then
        bif v118 then
          bif v170 then
            (f26 (Variation.mk 0 [(VariationPosition.mk str_a str_p 1 0)])).bind fun x183 =>
            some (.ret (decide (x183 = 8)))
          else
            some (.ret false)
        else
          some (.ret false)
      else
        some (.ret false)
theorem f7n0_ok {o : f7n0O} (h : f7n0 = some o) : T Try.prog Try.f7.ntmps 0 c7 f7n0S (fun r => r = f7n0E o) := by
  unfold f7n0 at h
  obtain ⟨x3, h4, h⟩ := bind_cases h
  obtain ⟨x7, h8, h⟩ := bind_cases h
  obtain ⟨x11, h12, h⟩ := bind_cases h
  obtain ⟨x15, h16, h⟩ := bind_cases h
  obtain ⟨x19, h20, h⟩ := bind_cases h
  obtain ⟨x23, h24, h⟩ := bind_cases h
  obtain ⟨x27, h28, h⟩ := bind_cases h
  obtain ⟨x31, h32, h⟩ := bind_cases h
  obtain ⟨x35, h36, h⟩ := bind_cases h
  obtain ⟨x39, h40, h⟩ := bind_cases h
  obtain ⟨x43, h44, h⟩ := bind_cases h
  obtain ⟨x47, h48, h⟩ := bind_cases h
  obtain ⟨x53, h54, h⟩ := bind_cases h
  obtain ⟨x55, h56, h⟩ := bind_cases h
  obtain ⟨x59, h60, h⟩ := bind_cases h
  obtain ⟨x67, h68, h⟩ := bind_cases h
  obtain ⟨x69, h70, h⟩ := bind_cases h
  obtain ⟨x71, h72, h⟩ := bind_cases h
  obtain ⟨x75, h76, h⟩ := bind_cases h
  obtain ⟨x79, h80, h⟩ := bind_cases h
  obtain ⟨x83, h84, h⟩ := bind_cases h
  refine runK_norm cfg_ok (k := 19) (rs := [([], [], []), ([], [(0, .call (.tup [(.pl (.agg (Variation.cells x3.1))), (.pl (.int .i64 x3.2))]) [])], []), ([], [(0, .call (.tup [(.pl (.agg (Variation.cells x7.1))), (.pl (.int .i64 x7.2))]) [])], []), ([], [(0, .call (.tup [(.pl (.agg (Variation.cells x11.1))), (.pl (.int .i64 x11.2))]) [])], []), ([], [(1, .call (.tup [(.pl (.agg (Variation.cells x15.1))), (.pl (.int .i64 x15.2))]) [])], []), ([], [(1, .call (.tup [(.pl (.agg (Variation.cells x19.1))), (.pl (.int .i64 x19.2))]) [])], []), ([], [(1, .call (.tup [(.pl (.agg (Variation.cells x23.1))), (.pl (.int .i64 x23.2))]) [])], []), ([], [(1, .call (.tup [(.pl (.agg (Variation.cells x27.1))), (.pl (.int .i64 x27.2))]) [])], []), ([], [(1, .call (.tup [(.pl (.agg (Variation.cells x31.1))), (.pl (.int .i64 x31.2))]) [])], []), ([], [(1, .call (.tup [(.pl (.agg (Variation.cells x35.1))), (.pl (.int .i64 x35.2))]) [])], []), ([], [(1, .call (.tup [(.pl (.agg (Variation.cells x39.1))), (.pl (.int .i64 x39.2))]) [])], []), ([], [(1, .call (.tup [(.pl (.agg (Variation.cells x43.1))), (.pl (.int .i64 x43.2))]) [])], []), ([], [(1, .call (.tup [(.pl (.agg (Variation.cells x47.1))), (.pl (.int .i64 x47.2))]) [])], []), ([], [(1, .call (.own 14) [none, none, none, none, none, none, none, none, none, none, none, none, none, none, some (.row false 2 ([(VariationPrice.mk str_p 1)].map VariationPrice.cells))]), (2, .call (.tup [(.pl (.agg (Variation.cells x55.1))), (.pl (.sl .any 2 (x55.2.1.map VariationPayment.cells))), (.pl (.int .i64 x55.2.2))]) [])], []), ([], [(1, .call (.tup [(.pl (.agg (Variation.cells x59.1))), (.pl (.sl .any 2 (x59.2.1.map VariationPayment.cells))), (.pl (.int .i64 x59.2.2))]) [])], []), ([], [(1, .call (.own 19) [none, none, none, none, none, none, none, none, none, none, none, none, none, none, none, none, none, none, none, some (.row false 2 ([(VariationPrice.mk str_p 1)].map VariationPrice.cells))]), (2, .call (.own 20) [none, none, none, none, none, none, none, none, none, none, none, none, none, none, none, none, none, none, none, none, some (.row false 2 ([(VariationPrice.mk str_p 1)].map VariationPrice.cells))]), (3, .fits), (4, .call (.tup [(.pl (.agg (Variation.cells x71.1))), (.pl (.sl .any 2 (x71.2.1.map VariationPayment.cells))), (.pl (.int .i64 x71.2.2))]) [])], []), ([], [(1, .call (.tup [(.pl (.agg (Variation.cells x75.1))), (.pl (.sl .any 2 (x75.2.1.map VariationPayment.cells))), (.pl (.int .i64 x75.2.2))]) [])], []), ([], [(1, .call (.tup [(.pl (.int .i64 x79.1)), (.pl (.int .i64 x79.2))]) [])], []), ([], [(1, .call (.tup [(.pl (.int .i64 x83.1)), (.pl (.int .i64 x83.2))]) [])], [])]) (ps := []) (tds := []) (m := [9, 10, 11, 21]) (keep := [2, 4, 6, 8, 10, 12, 14, 16, 18, 19, 20, 21, 22, 23, 24, 27, 30, 33, 34, 35, 36, 38, 39, 40]) (st' := (f7n1S x3 x7 x11 x15 x19 x23 x27 x31 x35 x39 x43 x47 x55 x59 x71 x75 x79 x83)) (by kernel_rfl) (ap (f12_ok (-1) h4) (ap (f12_ok 100000 h8) (ap (f12_ok 7 h12) (ap (f16_ok x11.1 str_a str_a str_p 1 1 h16) (ap (f16_ok x11.1 str_house str_a str_p 1 1 h20) (ap (f16_ok x11.1 str_b str_a str_p 0 1 h24) (ap (f16_ok x11.1 str_b str_a str_p 1 536870913 h28) (ap (f16_ok x11.1 str_b str_a str_p 1048576 536870912 h32) (ap (f16_ok x31.1 str_b str_c str_p 1 0 h36) (ap (f16_ok x31.1 str_a str_b str_p 1048576 536870912 h40) (ap (f16_ok x31.1 str_a str_b str_p 1048576 (-536870912) h44) (ap (f16_ok x43.1 str_b str_a str_p 1 1 h48) (ap (CallS.ren (args' := [(.pl (.int .i64 1))]) (v' := (.own 14)) (B := [none, none, none, none, none, none, none, none, none, none, none, none, none, none]) (B' := [none, none, none, none, none, none, none, none, none, none, none, none, none, none, some (.row false 2 ([(VariationPrice.mk str_p 1)].map VariationPrice.cells))]) 14 [] (f23r1_ok 1 h54) (by kernel_rfl) (by kernel_rfl) (by kernel_rfl) (by kernel_rfl) (by kernel_rfl) (by kernel_rfl)) (ap (f14_ok x31.1 7 [(VariationPrice.mk str_p 1)] h56) (ap (CallS.wk (args' := [(.pl (.agg (Variation.cells x31.1))), (.pl (.int .i64 8)), (.pl (.sl .nil 0 []))]) (f14_ok x31.1 8 [] h60) (wlc (Wk.refl _) (wlc (Wk.refl _) (wlc (Wk.pl (WkP.nil (f := .nil) (sz := 0) (sz' := 2))) wln))) (Wk.refl _) rfl) (ap (rfl : fitsB 2 ti72 = true) (ap (same_hlen (e := ⟨true, 23, [(.pl (.int .i64 1))], [none, none, none, none, none, none, none, none, none, none, none, none, none, none, none, none, none, none, none], (.own 19), [none, none, none, none, none, none, none, none, none, none, none, none, none, none, none, none, none, none, none, some (.row false 2 ([(VariationPrice.mk str_p 1)].map VariationPrice.cells))]⟩) (f := ⟨true, 23, [(.pl (.int .i64 1))], [none, none, none, none, none, none, none, none, none, none, none, none, none, none, none, none, none, none, none, none], (.own 20), [none, none, none, none, none, none, none, none, none, none, none, none, none, none, none, none, none, none, none, none, some (.row false 2 ([(VariationPrice.mk str_p 1)].map VariationPrice.cells))]⟩) (by kernel_rfl)) (ap (CallS.ren (args' := [(.pl (.int .i64 1))]) (v' := (.own 19)) (B := [none, none, none, none, none, none, none, none, none, none, none, none, none, none, none, none, none, none, none]) (B' := [none, none, none, none, none, none, none, none, none, none, none, none, none, none, none, none, none, none, none, some (.row false 2 ([(VariationPrice.mk str_p 1)].map VariationPrice.cells))]) 19 [] (f23r1_ok 1 h68) (by kernel_rfl) (by kernel_rfl) (by kernel_rfl) (by kernel_rfl) (by kernel_rfl) (by kernel_rfl)) (ap (CallS.ren (args' := [(.pl (.int .i64 1))]) (v' := (.own 20)) (B := [none, none, none, none, none, none, none, none, none, none, none, none, none, none, none, none, none, none, none, none]) (B' := [none, none, none, none, none, none, none, none, none, none, none, none, none, none, none, none, none, none, none, none, some (.row false 2 ([(VariationPrice.mk str_p 1)].map VariationPrice.cells))]) 20 [] (f23r1_ok 1 h70) (by kernel_rfl) (by kernel_rfl) (by kernel_rfl) (by kernel_rfl) (by kernel_rfl) (by kernel_rfl)) (ap (f14_ok x31.1 8 [(VariationPrice.mk str_p 1), (VariationPrice.mk str_p 1)] h72) (ap (CallS.wk (args' := [(.pl (.agg (Variation.cells x43.1))), (.pl (.int .i64 8)), (.pl (.sl .nil 0 []))]) (f14_ok x43.1 8 [] h76) (wlc (Wk.refl _) (wlc (Wk.refl _) (wlc (Wk.pl (WkP.nil (f := .nil) (sz := 0) (sz' := 2))) wln))) (Wk.refl _) rfl) (ap (CallS.wk (args' := [(.pl (.agg (Variation.cells x31.1))), (.pl (.str str_b)), (.pl (.sl .nil 0 []))]) (f24_ok x31.1 str_b [] h80) (wlc (Wk.refl _) (wlc (Wk.refl _) (wlc (Wk.pl (WkP.nil (f := .nil) (sz := 0) (sz' := 2))) wln))) (Wk.refl _) rfl) (ap (CallS.wk (args' := [(.pl (.agg (Variation.cells x31.1))), (.pl (.str str_c)), (.pl (.sl .nil 0 []))]) (f24_ok x31.1 str_c [] h84) (wlc (Wk.refl _) (wlc (Wk.refl _) (wlc (Wk.pl (WkP.nil (f := .nil) (sz := 0) (sz' := 2))) wln))) (Wk.refl _) rfl) an))))))))))))))))))))))) ?_
  obtain ⟨o116, h117, h⟩ := bind_cases h
  cases o116 with
  | norm v118 =>
    refine T.oneN (by kernel_rfl) (f7n1_ok x3 x7 x11 x15 x19 x23 x27 x31 x35 x39 x43 x47 x55 x59 x71 x75 x79 x83 h117) (st2 := (f7n1E x3 x7 x11 x15 x19 x23 x27 x31 x35 x39 x43 x47 x55 x59 x71 x75 x79 x83 (.norm v118)).2) rfl ?_
    refine runK_norm cfg_ok (k := 0) (rs := []) (ps := []) (tds := []) (m := [0, 1, 2]) (keep := [21, 22, 23, 24, 27, 30, 33, 34, 35, 36, 38, 39, 40, 41]) (st' := (f7n2S x43 x47 x55 x59 x71 x75 x79 x83 v118)) (by kernel_rfl) an ?_
    obtain ⟨o168, h169, h⟩ := bind_cases h
    cases o168 with
    | norm v170 =>
      refine T.oneN (by kernel_rfl) (f7n2_ok x43 x47 x55 x59 x71 x75 x79 x83 v118 h169) (st2 := (f7n2E x43 x47 x55 x59 x71 x75 x79 x83 v118 (.norm v170)).2) rfl ?_
      obtain ⟨x178, h179, h⟩ := bind_cases h
      rcases cond_cases h with ⟨h180, h⟩ | ⟨h180, h⟩
      · rcases cond_cases h with ⟨h181, h⟩ | ⟨h181, h⟩
        · rcases cond_cases h with ⟨h182, h⟩ | ⟨h182, h⟩
          · obtain ⟨x183, h184, h⟩ := bind_cases h
            obtain rfl := some_inj h
            exact run_end cfg_ok (rs := [([(4, true), (7, true), (10, true), (11, true), (12, true), (13, true), (14, true)], [(1, .call (.pl (.bool x178)) []), (5, .bool true), (8, .bool true), (13, .call (.pl (.int .i64 x183)) []), (15, .bool true)], [])]) (ps := []) (tds := []) (m := []) (keep := [0]) (r := (.ret, (f7n0E (.ret (decide (x183 = 8)))).2)) (by kernel_rfl) (ap h180 (ap h180 (ap h181 (ap h181 (ap h182 (ap h182 (ap h182 (ap h182 (ap h182 (ap h182 (ap (f10_ok h179) (ap (f26_ok (Variation.mk 0 [(VariationPosition.mk str_a str_p 1 0)]) h184) an)))))))))))) rfl
          · obtain rfl := some_inj h
            exact run_end cfg_ok (rs := [([(4, true), (7, true), (10, false), (11, false), (12, false), (13, false), (14, false)], [(1, .call (.pl (.bool x178)) []), (5, .bool true), (8, .bool true), (15, .bool false)], [])]) (ps := []) (tds := []) (m := []) (keep := [0]) (r := (.ret, (f7n0E (.ret false)).2)) (by kernel_rfl) (ap h180 (ap h180 (ap h181 (ap h181 (ap h182 (ap h182 (ap h182 (ap h182 (ap h182 (ap h182 (ap (f10_ok h179) an))))))))))) rfl
        · obtain rfl := some_inj h
          exact run_end cfg_ok (rs := [([(4, true), (7, false)], [(1, .call (.pl (.bool x178)) []), (5, .bool true), (8, .bool false)], [])]) (ps := []) (tds := []) (m := []) (keep := [0]) (r := (.ret, (f7n0E (.ret false)).2)) (by kernel_rfl) (ap h180 (ap h180 (ap h181 (ap h181 (ap (f10_ok h179) an))))) rfl
      · obtain rfl := some_inj h
        exact run_end cfg_ok (rs := [([(4, false)], [(1, .call (.pl (.bool x178)) []), (5, .bool false)], [])]) (ps := []) (tds := []) (m := []) (keep := [0]) (r := (.ret, (f7n0E (.ret false)).2)) (by kernel_rfl) (ap h180 (ap h180 (ap (f10_ok h179) an))) rfl
noncomputable def f7 : Option Bool := f7n0.bind fun o => match o with
  | .ret v185 => some v185
theorem f7_ok {r : Bool} (h : f7 = some r) : CallS Try.prog false 7 [] [] (.pl (.bool r)) [] := by
  unfold f7 at h
  obtain ⟨o, ho, h⟩ := bind_cases h
  cases o with
  | ret v185 =>
    obtain rfl := some_inj h
    exact CallS.plain cfg_ok (f := Try.f7) (c := c7) (by kernel_rfl) (by kernel_rfl) (by kernel_rfl) (by kernel_rfl) ((f7n0_ok  ho).mono fun r e => by subst e; exact ⟨.inl rfl, (.pl (.bool v185)), (.pl (.bool v185)), by kernel_rfl, by kernel_rfl, ((Wk.refl _) : Wk (.pl (.bool v185)) (.pl (.bool v185)))⟩)
end Go.Proofs.Ytelblamgfbkhbaa
