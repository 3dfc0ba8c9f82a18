/- Functions of the program, plainly, and that the machine computes them. No condition. -/
import Derived.Test.YtkimdlpfbojkgaaG5
namespace Go.Proofs.Ytkimdlpfbojkgaa
set_option linter.unusedVariables false
set_option maxRecDepth 100000
open Go.RowKit
/-! ### novation/novationref34.SameLegs -/
noncomputable def c24 : Code := Try.f24.body.getD .skip
inductive f24n2O where
  | exit0
  | ret
def f24n2E (bj1 : List NovateLeg) (bj2 : List NovateLeg) : f24n2O → Ex × Tr × Hp
  | .exit0 => ((.exit 0), mkS [], [])
  | .ret => (.ret, mkS [(4, (.pl (.bool false)))], [])
def f24n2S (bj1 : List NovateLeg) (bj2 : List NovateLeg) (v30 : Int) : Tr × Hp := (mkS [(0, (.pl (.sl .any 6 (bj1.map NovateLeg.cells)))), (1, (.pl (.sl .any 6 (bj2.map NovateLeg.cells)))), (5, (.pl (.int .i64 v30)))], [])
def f24n2 : Nat → List NovateLeg → List NovateLeg → Int → Option f24n2O
  | 0, _, _, _ => none
  | f + 1, bj1, bj2, v30 =>
    bif (decide (v30 < (bj1.length : Int))) then
      (at? bj1 v30).bind fun x38 =>
      (at? bj2 v30).bind fun x40 =>
      bif (NovateLeg.eqb x38 x40) then
        (f24n2 f bj1 bj2 (wr64 (v30 + 1)))
      else
        some .ret
    else
      some .exit0
theorem f24n2_ok : ∀ (f : Nat) (bj1 : List NovateLeg) (bj2 : List NovateLeg) (v30 : Int) {o : f24n2O}, (f24n2 f bj1 bj2 v30) = some o → TL Try.prog Try.f24.ntmps 0 f (cL (cL (dropC 1 (cL (dropC 2 c24))))) (f24n2S bj1 bj2 v30) (fun r => r = f24n2E bj1 bj2 o)
  | 0, _, _, _, o, h => by rw [f24n2] at h; cases h
  | f + 1, bj1, bj2, v30, o, h => by
    rw [f24n2] at h
    refine TL.body (K := fun s => ∃ v30 : Int, s = (f24n2S bj1 bj2 v30) ∧ (f24n2 f bj1 bj2 v30) = some o) ?_ (by rintro _ ⟨v30, rfl, hk⟩; exact f24n2_ok f _ _ _ hk)
    rcases cond_cases h with ⟨h32, h⟩ | ⟨h32, h⟩
    · obtain ⟨x38, h39, h⟩ := bind_cases h
      obtain ⟨x40, h41, h⟩ := bind_cases h
      rcases cond_cases h with ⟨h42, h⟩ | ⟨h42, h⟩
      · exact run_end cfg_ok (rs := [([], [], [(2, .val (.pl (.int .i64 (bj1.length : Int))))]), ([], [(2, .idx (Int.toNat v30) (NovateLeg.cells x38)), (6, .idx (Int.toNat v30) (NovateLeg.cells x40)), (8, .bool (NovateLeg.eqb x38 x40))], []), ([], [], [])]) (ps := [some true, some false]) (tds := []) (m := []) (keep := [0, 1, 5]) (r := (.norm, (f24n2S bj1 bj2 (wr64 (v30 + 1))))) (by kernel_rfl) (ap (len_cv (xs := bj1) (c := NovateLeg.cells)) (ap h32 (ap (at_some h39).1 (ap (at_map NovateLeg.cells (at_some h39).2) (ap (at_some h41).1 (ap (at_map NovateLeg.cells (at_some h41).2) (ap (NovateLeg.eqb_ok x38 x40) (ap (not_t h42) an)))))))) (LoopQ.norm ⟨(wr64 (v30 + 1)), rfl, h⟩)
      · obtain rfl := some_inj h
        exact runK_end cfg_ok (k := 2) (rs := [([], [], [(2, .val (.pl (.int .i64 (bj1.length : Int))))]), ([], [(2, .idx (Int.toNat v30) (NovateLeg.cells x38)), (6, .idx (Int.toNat v30) (NovateLeg.cells x40)), (8, .bool (NovateLeg.eqb x38 x40))], []), ([], [], [])]) (ps := [some true, some true]) (tds := []) (m := []) (keep := [4]) (ex := .ret) (st' := (f24n2E bj1 bj2 .ret).2) (by kernel_rfl) (ap (len_cv (xs := bj1) (c := NovateLeg.cells)) (ap h32 (ap (at_some h39).1 (ap (at_map NovateLeg.cells (at_some h39).2) (ap (at_some h41).1 (ap (at_map NovateLeg.cells (at_some h41).2) (ap (NovateLeg.eqb_ok x38 x40) (ap (not_f h42) an)))))))) (fun h => nomatch h) (LoopQ.out rfl rfl)
    · obtain rfl := some_inj h
      exact runK_end cfg_ok (k := 1) (rs := [([], [], [(2, .val (.pl (.int .i64 (bj1.length : Int))))])]) (ps := [some false]) (tds := []) (m := []) (keep := []) (ex := (.exit 0)) (st' := (f24n2E bj1 bj2 .exit0).2) (by kernel_rfl) (ap (len_cv (xs := bj1) (c := NovateLeg.cells)) (ap h32 an)) (fun h => nomatch h) (LoopQ.out rfl rfl)
def f24n2L (bj1 : List NovateLeg) (bj2 : List NovateLeg) : List NovateLeg → Int → Option f24n2O
  | [], v30 =>
    some .exit0
  | x0 :: rest, v30 =>
    (at? bj2 v30).bind fun x40 =>
    bif (NovateLeg.eqb x0 x40) then
      (f24n2L bj1 bj2 rest (v30 + 1))
    else
      some .ret
theorem f24n2L_eq (bj1 : List NovateLeg) (bj2 : List NovateLeg) : ∀ (rest : List NovateLeg) (f k : Nat), bj1.drop k = rest → bj1.length ≤ maxLen → rest.length < f → f24n2 f bj1 bj2 (k : Int) = f24n2L bj1 bj2 rest (k : Int)
  | _, 0, _, _, _, hf => absurd hf (Nat.not_lt_zero _)
  | [], f + 1, k, hd, hm, hf => by
    have hk : ¬ ((k : Int) < (bj1.length : Int)) := by have := drop_nil hd; omega
    rw [f24n2, f24n2L]
    simp only [decide_eq_false hk, cond_false]
  | x0 :: rest, f + 1, k, hd, hm, hf => by
    obtain ⟨hx, hlt, hd'⟩ := drop_cons hd
    have hk : (k : Int) < (bj1.length : Int) := by omega
    have hw : wr64 ((k : Int) + 1) = (k : Int) + 1 := wr64_of (by omega) (by unfold maxLen at hm; omega)
    have ih : f24n2 f bj1 bj2 ((k : Int) + 1) = f24n2L bj1 bj2 rest ((k : Int) + 1) := f24n2L_eq bj1 bj2 rest f (k + 1) hd' hm (by simpa using hf)
    rw [f24n2, f24n2L]
    simp only [decide_eq_true hk, cond_true, at_nat, hx, Option.bind_some, hw, ih]
theorem f24n2_run (bj1 : List NovateLeg) (bj2 : List NovateLeg) (hm : bj1.length ≤ maxLen) : f24n2 FUEL bj1 bj2 0 = f24n2L bj1 bj2 bj1 0 := f24n2L_eq bj1 bj2 bj1 FUEL 0 List.drop_zero hm (lt_FUEL hm)
inductive f24n1O where
  | norm
  | ret
def f24n1E (bj1 : List NovateLeg) (bj2 : List NovateLeg) : f24n1O → Ex × Tr × Hp
  | .norm => (.norm, mkS [], [])
  | .ret => (.ret, mkS [(4, (.pl (.bool false)))], [])
def f24n1S (bj1 : List NovateLeg) (bj2 : List NovateLeg) : Tr × Hp := (mkS [(0, (.pl (.sl .any 6 (bj1.map NovateLeg.cells)))), (1, (.pl (.sl .any 6 (bj2.map NovateLeg.cells))))], [])
def f24n1 (bj1 : List NovateLeg) (bj2 : List NovateLeg) : Option f24n1O :=
  (f24n2 FUEL bj1 bj2 0).bind fun o43 => match o43 with
  | .exit0 => some .norm
  | .ret => some .ret
theorem f24n1_ok (bj1 : List NovateLeg) (bj2 : List NovateLeg) {o : f24n1O} (h : (f24n1 bj1 bj2) = some o) : T Try.prog Try.f24.ntmps 0 (cL (dropC 2 c24)) (f24n1S bj1 bj2) (fun r => r = f24n1E bj1 bj2 o) := by
  unfold f24n1 at h
  refine runK_norm cfg_ok (k := 1) (rs := [([], [], [])]) (ps := []) (tds := []) (m := []) (keep := [0, 1, 5]) (st' := (f24n2S bj1 bj2 0)) (by kernel_rfl) an ?_
  obtain ⟨o43, h44, h⟩ := bind_cases h
  cases o43 with
  | exit0 =>
    obtain rfl := some_inj h
    exact T.last' (T.bl (i := 0) (by kernel_rfl) (by kernel_rfl) (f24n2_ok FUEL bj1 bj2 0 h44)) (tds := []) (m := []) (keep := []) (st2 := (f24n1E bj1 bj2 .norm).2) (by kernel_rfl) an rfl
  | ret =>
    obtain rfl := some_inj h
    exact T.last' (T.bl (i := 0) (by kernel_rfl) (by kernel_rfl) (f24n2_ok FUEL bj1 bj2 0 h44)) (tds := []) (m := []) (keep := [4]) (st2 := (f24n1E bj1 bj2 .ret).2) (by kernel_rfl) an rfl
inductive f24n0O where
  | ret (v47 : Bool)
def f24n0E (a1 : List NovateLeg) (a2 : List NovateLeg) : f24n0O → Ex × Tr × Hp
  | .ret v47 => (.ret, mkS [(4, (.pl (.bool v47)))], [])
def f24n0S (a1 : List NovateLeg) (a2 : List NovateLeg) : Tr × Hp := (initS [(.pl (.sl .any 6 (a1.map NovateLeg.cells))), (.pl (.sl .any 6 (a2.map NovateLeg.cells)))] 0 .leaf, [])
def f24n0 (a1 : List NovateLeg) (a2 : List NovateLeg) : Option f24n0O :=
  bif (decide ((a1.length : Int) = (a2.length : Int))) then
    (f24n1 a1 a2).bind fun o45 => match o45 with
    | .norm => some (.ret true)
    | .ret => some (.ret false)
  else
    some (.ret false)
theorem f24n0_ok (a1 : List NovateLeg) (a2 : List NovateLeg) {o : f24n0O} (h : (f24n0 a1 a2) = some o) : T Try.prog Try.f24.ntmps 0 c24 (f24n0S a1 a2) (fun r => r = f24n0E a1 a2 o) := by
  unfold f24n0 at h
  rcases cond_cases h with ⟨h4, h⟩ | ⟨h4, h⟩
  · refine runK_norm cfg_ok (k := 2) (rs := [([], [], []), ([], [], [(1, .val (.pl (.int .i64 (a1.length : Int)))), (3, .val (.pl (.int .i64 (a2.length : Int))))])]) (ps := [some false]) (tds := []) (m := []) (keep := [0, 1]) (st' := (f24n1S a1 a2)) (by kernel_rfl) (ap (len_cv (xs := a1) (c := NovateLeg.cells)) (ap (len_cv (xs := a2) (c := NovateLeg.cells)) (ap (not_t h4) an))) ?_
    obtain ⟨o45, h46, h⟩ := bind_cases h
    cases o45 with
    | norm =>
      refine T.oneN (by kernel_rfl) (f24n1_ok a1 a2 h46) (st2 := (f24n1E a1 a2 .norm).2) rfl ?_
      obtain rfl := some_inj h
      exact run_end cfg_ok (rs := [([], [], [])]) (ps := []) (tds := []) (m := []) (keep := [4]) (r := (.ret, (f24n0E a1 a2 (.ret true)).2)) (by kernel_rfl) an rfl
    | ret =>
      obtain rfl := some_inj h
      exact T.oneX' (by kernel_rfl) (f24n1_ok a1 a2 h46) (tds := []) (m := []) (keep := [4]) (st2 := (f24n0E a1 a2 (.ret false)).2) (by kernel_rfl) an rfl rfl
  · obtain rfl := some_inj h
    exact runK_end cfg_ok (k := 2) (rs := [([], [], []), ([], [], [(1, .val (.pl (.int .i64 (a1.length : Int)))), (3, .val (.pl (.int .i64 (a2.length : Int))))]), ([], [], [])]) (ps := [some true]) (tds := []) (m := []) (keep := [4]) (ex := .ret) (st' := (f24n0E a1 a2 (.ret false)).2) (by kernel_rfl) (ap (len_cv (xs := a1) (c := NovateLeg.cells)) (ap (len_cv (xs := a2) (c := NovateLeg.cells)) (ap (not_f h4) an))) (fun h => nomatch h) rfl
def f24 (a1 : List NovateLeg) (a2 : List NovateLeg) : Option Bool := (f24n0 a1 a2).bind fun o => match o with
  | .ret v47 => some v47
theorem f24_ok (a1 : List NovateLeg) (a2 : List NovateLeg) {r : Bool} (h : (f24 a1 a2) = some r) : CallS Try.prog false 24 [(.pl (.sl .any 6 (a1.map NovateLeg.cells))), (.pl (.sl .any 6 (a2.map NovateLeg.cells)))] [] (.pl (.bool r)) [] := by
  unfold f24 at h
  obtain ⟨o, ho, h⟩ := bind_cases h
  cases o with
  | ret v47 =>
    obtain rfl := some_inj h
    exact CallS.plain cfg_ok (f := Try.f24) (c := c24) (by kernel_rfl) (by kernel_rfl) (by kernel_rfl) (by kernel_rfl) ((f24n0_ok a1 a2 ho).mono fun r e => by subst e; exact ⟨.inl rfl, (.pl (.bool v47)), (.pl (.bool v47)), by kernel_rfl, by kernel_rfl, ((Wk.refl _) : Wk (.pl (.bool v47)) (.pl (.bool v47)))⟩)
/-! ### novation/novationref34.Same -/
inductive f22r2n2O where
  | exit0
  | ret
def f22r2n2E (ba1 : List NovateTrade) (bf2 : NovateBook) : f22r2n2O → Ex × Tr × Hp
  | .exit0 => ((.exit 0), mkS [], [none, none, none, none, some (.row false 8 (ba1.map NovateTrade.cells)), none])
  | .ret => (.ret, mkS [(4, (.pl (.bool false)))], [none, none, none, none, some (.row false 8 (ba1.map NovateTrade.cells)), none])
def f22r2n2S (ba1 : List NovateTrade) (bf2 : NovateBook) (v30 : Int) : Tr × Hp := (mkS [(2, (.bp 6 0)), (3, (.bp 7 0)), (5, (.pl (.int .i64 v30)))], [none, none, none, none, some (.row false 8 (ba1.map NovateTrade.cells)), none, some (.box [(.own 4)]), some (.box ((NovateBook.cells bf2).map .pl))])
def f22r2n2 : Nat → List NovateTrade → NovateBook → Int → Option f22r2n2O
  | 0, _, _, _ => none
  | f + 1, ba1, bf2, v30 =>
    bif (decide (v30 < (ba1.length : Int))) then
      (at? ba1 v30).bind fun x38 =>
      (at? bf2.Trades v30).bind fun x40 =>
      bif (NovateTrade.eqb x38 x40) then
        (f22r2n2 f ba1 bf2 (wr64 (v30 + 1)))
      else
        some .ret
    else
      some .exit0
theorem f22r2n2_ok : ∀ (f : Nat) (ba1 : List NovateTrade) (bf2 : NovateBook) (v30 : Int) {o : f22r2n2O}, (f22r2n2 f ba1 bf2 v30) = some o → TL Try.prog Try.f22.ntmps 6 f (cL (cL (dropC 1 (cL (dropC 2 c22))))) (f22r2n2S ba1 bf2 v30) (fun r => r = f22r2n2E ba1 bf2 o)
  | 0, _, _, _, o, h => by rw [f22r2n2] at h; cases h
  | f + 1, ba1, bf2, v30, o, h => by
    rw [f22r2n2] at h
    refine TL.body (K := fun s => ∃ v30 : Int, s = (f22r2n2S ba1 bf2 v30) ∧ (f22r2n2 f ba1 bf2 v30) = some o) ?_ (by rintro _ ⟨v30, rfl, hk⟩; exact f22r2n2_ok f _ _ _ hk)
    rcases cond_cases h with ⟨h32, h⟩ | ⟨h32, h⟩
    · obtain ⟨x38, h39, h⟩ := bind_cases h
      obtain ⟨x40, h41, h⟩ := bind_cases h
      rcases cond_cases h with ⟨h42, h⟩ | ⟨h42, h⟩
      · exact run_end cfg_ok (rs := [([], [], [(3, .val (.pl (.int .i64 (ba1.length : Int))))]), ([], [(3, .at_ (Int.toNat v30)), (4, .idx 0 (NovateTrade.cells x38)), (8, .idx (Int.toNat v30) (NovateTrade.cells x40)), (10, .bool (NovateTrade.eqb x38 x40))], []), ([], [], [])]) (ps := [some true, some false]) (tds := []) (m := [6, 7]) (keep := [2, 3, 5]) (r := (.norm, (f22r2n2S ba1 bf2 (wr64 (v30 + 1))))) (by kernel_rfl) (ap (len_cv (xs := ba1) (c := NovateTrade.cells)) (ap h32 (ap (at_some h39).1 (ap (lt_map NovateTrade.cells (at_some h39).2) (ap (at_map NovateTrade.cells (at_some h39).2) (ap (at_some h41).1 (ap (at_map NovateTrade.cells (at_some h41).2) (ap (NovateTrade.eqb_ok x38 x40) (ap (not_t h42) an))))))))) (LoopQ.norm ⟨(wr64 (v30 + 1)), rfl, h⟩)
      · obtain rfl := some_inj h
        exact runK_end cfg_ok (k := 2) (rs := [([], [], [(3, .val (.pl (.int .i64 (ba1.length : Int))))]), ([], [(3, .at_ (Int.toNat v30)), (4, .idx 0 (NovateTrade.cells x38)), (8, .idx (Int.toNat v30) (NovateTrade.cells x40)), (10, .bool (NovateTrade.eqb x38 x40))], []), ([], [], [])]) (ps := [some true, some true]) (tds := []) (m := []) (keep := [4]) (ex := .ret) (st' := (f22r2n2E ba1 bf2 .ret).2) (by kernel_rfl) (ap (len_cv (xs := ba1) (c := NovateTrade.cells)) (ap h32 (ap (at_some h39).1 (ap (lt_map NovateTrade.cells (at_some h39).2) (ap (at_map NovateTrade.cells (at_some h39).2) (ap (at_some h41).1 (ap (at_map NovateTrade.cells (at_some h41).2) (ap (NovateTrade.eqb_ok x38 x40) (ap (not_f h42) an))))))))) (fun h => nomatch h) (LoopQ.out rfl rfl)
    · obtain rfl := some_inj h
      exact runK_end cfg_ok (k := 1) (rs := [([], [], [(3, .val (.pl (.int .i64 (ba1.length : Int))))])]) (ps := [some false]) (tds := []) (m := []) (keep := []) (ex := (.exit 0)) (st' := (f22r2n2E ba1 bf2 .exit0).2) (by kernel_rfl) (ap (len_cv (xs := ba1) (c := NovateTrade.cells)) (ap h32 an)) (fun h => nomatch h) (LoopQ.out rfl rfl)
def f22r2n2L (ba1 : List NovateTrade) (bf2 : NovateBook) : List NovateTrade → Int → Option f22r2n2O
  | [], v30 =>
    some .exit0
  | x0 :: rest, v30 =>
    (at? bf2.Trades v30).bind fun x40 =>
    bif (NovateTrade.eqb x0 x40) then
      (f22r2n2L ba1 bf2 rest (v30 + 1))
    else
      some .ret
theorem f22r2n2L_eq (ba1 : List NovateTrade) (bf2 : NovateBook) : ∀ (rest : List NovateTrade) (f k : Nat), ba1.drop k = rest → ba1.length ≤ maxLen → rest.length < f → f22r2n2 f ba1 bf2 (k : Int) = f22r2n2L ba1 bf2 rest (k : Int)
  | _, 0, _, _, _, hf => absurd hf (Nat.not_lt_zero _)
  | [], f + 1, k, hd, hm, hf => by
    have hk : ¬ ((k : Int) < (ba1.length : Int)) := by have := drop_nil hd; omega
    rw [f22r2n2, f22r2n2L]
    simp only [decide_eq_false hk, cond_false]
  | x0 :: rest, f + 1, k, hd, hm, hf => by
    obtain ⟨hx, hlt, hd'⟩ := drop_cons hd
    have hk : (k : Int) < (ba1.length : Int) := by omega
    have hw : wr64 ((k : Int) + 1) = (k : Int) + 1 := wr64_of (by omega) (by unfold maxLen at hm; omega)
    have ih : f22r2n2 f ba1 bf2 ((k : Int) + 1) = f22r2n2L ba1 bf2 rest ((k : Int) + 1) := f22r2n2L_eq ba1 bf2 rest f (k + 1) hd' hm (by simpa using hf)
    rw [f22r2n2, f22r2n2L]
    simp only [decide_eq_true hk, cond_true, at_nat, hx, Option.bind_some, hw, ih]
theorem f22r2n2_run (ba1 : List NovateTrade) (bf2 : NovateBook) (hm : ba1.length ≤ maxLen) : f22r2n2 FUEL ba1 bf2 0 = f22r2n2L ba1 bf2 ba1 0 := f22r2n2L_eq ba1 bf2 ba1 FUEL 0 List.drop_zero hm (lt_FUEL hm)
inductive f22r2n1O where
  | norm
  | ret
def f22r2n1E (ba1 : List NovateTrade) (bf2 : NovateBook) : f22r2n1O → Ex × Tr × Hp
  | .norm => (.norm, mkS [], [none, none, none, none, some (.row false 8 (ba1.map NovateTrade.cells)), none])
  | .ret => (.ret, mkS [(4, (.pl (.bool false)))], [none, none, none, none, some (.row false 8 (ba1.map NovateTrade.cells)), none])
def f22r2n1S (ba1 : List NovateTrade) (bf2 : NovateBook) : Tr × Hp := (mkS [(2, (.bp 6 0)), (3, (.bp 7 0))], [none, none, none, none, some (.row false 8 (ba1.map NovateTrade.cells)), none, some (.box [(.own 4)]), some (.box ((NovateBook.cells bf2).map .pl))])
def f22r2n1 (ba1 : List NovateTrade) (bf2 : NovateBook) : Option f22r2n1O :=
  (f22r2n2 FUEL ba1 bf2 0).bind fun o43 => match o43 with
  | .exit0 => some .norm
  | .ret => some .ret
theorem f22r2n1_ok (ba1 : List NovateTrade) (bf2 : NovateBook) {o : f22r2n1O} (h : (f22r2n1 ba1 bf2) = some o) : T Try.prog Try.f22.ntmps 6 (cL (dropC 2 c22)) (f22r2n1S ba1 bf2) (fun r => r = f22r2n1E ba1 bf2 o) := by
  unfold f22r2n1 at h
  refine runK_norm cfg_ok (k := 1) (rs := [([], [], [])]) (ps := []) (tds := []) (m := [6, 7]) (keep := [2, 3, 5]) (st' := (f22r2n2S ba1 bf2 0)) (by kernel_rfl) an ?_
  obtain ⟨o43, h44, h⟩ := bind_cases h
  cases o43 with
  | exit0 =>
    obtain rfl := some_inj h
    exact T.last' (T.bl (i := 0) (by kernel_rfl) (by kernel_rfl) (f22r2n2_ok FUEL ba1 bf2 0 h44)) (tds := []) (m := []) (keep := []) (st2 := (f22r2n1E ba1 bf2 .norm).2) (by kernel_rfl) an rfl
  | ret =>
    obtain rfl := some_inj h
    exact T.last' (T.bl (i := 0) (by kernel_rfl) (by kernel_rfl) (f22r2n2_ok FUEL ba1 bf2 0 h44)) (tds := []) (m := []) (keep := [4]) (st2 := (f22r2n1E ba1 bf2 .ret).2) (by kernel_rfl) an rfl
inductive f22r2n0O where
  | ret (v47 : Bool)
def f22r2n0E (a1 : NovateBook) (a2 : List NovateTrade) : f22r2n0O → Ex × Tr × Hp
  | .ret v47 => (.ret, mkS [(4, (.pl (.bool v47)))], [none, none, none, none, some (.row false 8 (a2.map NovateTrade.cells)), none])
def f22r2n0S (a1 : NovateBook) (a2 : List NovateTrade) : Tr × Hp := (initS [(.agg [(.own 4)]), (.pl (.agg (NovateBook.cells a1)))] 0 .leaf, [none, none, none, none, some (.row false 8 (a2.map NovateTrade.cells)), none])
def f22r2n0 (a1 : NovateBook) (a2 : List NovateTrade) : Option f22r2n0O :=
  bif (decide ((a2.length : Int) = (a1.Trades.length : Int))) then
    (f22r2n1 a2 a1).bind fun o45 => match o45 with
    | .norm => some (.ret true)
    | .ret => some (.ret false)
  else
    some (.ret false)
theorem f22r2n0_ok (a1 : NovateBook) (a2 : List NovateTrade) {o : f22r2n0O} (h : (f22r2n0 a1 a2) = some o) : T Try.prog Try.f22.ntmps 6 c22 (f22r2n0S a1 a2) (fun r => r = f22r2n0E a1 a2 o) := by
  unfold f22r2n0 at h
  rcases cond_cases h with ⟨h4, h⟩ | ⟨h4, h⟩
  · refine runK_norm cfg_ok (k := 2) (rs := [([], [], []), ([], [], [(2, .val (.pl (.int .i64 (a2.length : Int)))), (5, .val (.pl (.int .i64 (a1.Trades.length : Int))))])]) (ps := [some false]) (tds := []) (m := [6, 7]) (keep := [2, 3]) (st' := (f22r2n1S a2 a1)) (by kernel_rfl) (ap (len_cv (xs := a2) (c := NovateTrade.cells)) (ap (len_cv (xs := a1.Trades) (c := NovateTrade.cells)) (ap (not_t h4) an))) ?_
    obtain ⟨o45, h46, h⟩ := bind_cases h
    cases o45 with
    | norm =>
      refine T.oneN (by kernel_rfl) (f22r2n1_ok a2 a1 h46) (st2 := (f22r2n1E a2 a1 .norm).2) rfl ?_
      obtain rfl := some_inj h
      exact run_end cfg_ok (rs := [([], [], [])]) (ps := []) (tds := []) (m := []) (keep := [4]) (r := (.ret, (f22r2n0E a1 a2 (.ret true)).2)) (by kernel_rfl) an rfl
    | ret =>
      obtain rfl := some_inj h
      exact T.oneX' (by kernel_rfl) (f22r2n1_ok a2 a1 h46) (tds := []) (m := []) (keep := [4]) (st2 := (f22r2n0E a1 a2 (.ret false)).2) (by kernel_rfl) an rfl rfl
  · obtain rfl := some_inj h
    exact runK_end cfg_ok (k := 2) (rs := [([], [], []), ([], [], [(2, .val (.pl (.int .i64 (a2.length : Int)))), (5, .val (.pl (.int .i64 (a1.Trades.length : Int))))]), ([], [], [])]) (ps := [some true]) (tds := []) (m := []) (keep := [4]) (ex := .ret) (st' := (f22r2n0E a1 a2 (.ret false)).2) (by kernel_rfl) (ap (len_cv (xs := a2) (c := NovateTrade.cells)) (ap (len_cv (xs := a1.Trades) (c := NovateTrade.cells)) (ap (not_f h4) an))) (fun h => nomatch h) rfl
def f22r2 (a1 : NovateBook) (a2 : List NovateTrade) : Option Bool := (f22r2n0 a1 a2).bind fun o => match o with
  | .ret v47 => some v47
theorem f22r2_ok (a1 : NovateBook) (a2 : List NovateTrade) {r : Bool} (h : (f22r2 a1 a2) = some r) : CallS Try.prog true 22 [(.agg [(.own 4)]), (.pl (.agg (NovateBook.cells a1)))] [none, none, none, none, some (.row false 8 (a2.map NovateTrade.cells)), none] (.pl (.bool r)) [none, none, none, none, some (.row false 8 (a2.map NovateTrade.cells)), none] := by
  unfold f22r2 at h
  obtain ⟨o, ho, h⟩ := bind_cases h
  cases o with
  | ret v47 =>
    obtain rfl := some_inj h
    exact CallS.shared cfg_ok (f := Try.f22) (c := c22) (by kernel_rfl) (by kernel_rfl) (by kernel_rfl) ((f22r2n0_ok a1 a2 ho).mono fun r e => by subst e; exact ⟨.inl rfl, by kernel_rfl, by kernel_rfl⟩)
/-! ### novation/novationlaw34.touch -/
noncomputable def c29 : Code := Try.f29.body.getD .skip
inductive f29r1n1O where
  | exit0 (v24 : List NovateTrade)
def f29r1n1E : f29r1n1O → Ex × Tr × Hp
  | .exit0 v24 => ((.exit 0), mkS [], [none, none, none, none, some (.row false 8 (v24.map NovateTrade.cells))])
def f29r1n1S (v16 : Int) (v17 : List NovateTrade) : Tr × Hp := (mkS [(1, (.bp 5 0)), (2, (.pl (.int .i64 v16)))], [none, none, none, none, some (.row false 8 (v17.map NovateTrade.cells)), some (.box [(.own 4)])])
def f29r1n1 : Nat → Int → List NovateTrade → Option f29r1n1O
  | 0, _, _ => none
  | f + 1, v16, v17 =>
    bif (decide (v16 < (v17.length : Int))) then
      (at? v17 v16).bind fun x22 =>
      (f29r1n1 f (wr64 (v16 + 1)) (v17.set (Int.toNat v16) (NovateTrade.mk x22.Buyer x22.Seller x22.Product x22.Quantity (-77) x22.Bought x22.Sold x22.Stage)))
    else
      some (.exit0 v17)
theorem f29r1n1_ok : ∀ (f : Nat) (v16 : Int) (v17 : List NovateTrade) {o : f29r1n1O}, (f29r1n1 f v16 v17) = some o → TL Try.prog Try.f29.ntmps 5 f (cL (cL (dropC 2 c29))) (f29r1n1S v16 v17) (fun r => r = f29r1n1E o)
  | 0, _, _, o, h => by rw [f29r1n1] at h; cases h
  | f + 1, v16, v17, o, h => by
    rw [f29r1n1] at h
    refine TL.body (K := fun s => ∃ v16 : Int, ∃ v17 : List NovateTrade, s = (f29r1n1S v16 v17) ∧ (f29r1n1 f v16 v17) = some o) ?_ (by rintro _ ⟨v16, v17, rfl, hk⟩; exact f29r1n1_ok f _ _ hk)
    rcases cond_cases h with ⟨h19, h⟩ | ⟨h19, h⟩
    · obtain ⟨x22, h23, h⟩ := bind_cases h
      exact run_end cfg_ok (rs := [([], [], [(3, .val (.pl (.int .i64 (v17.length : Int))))]), ([], [(3, .at_ (Int.toNat v16)), (5, .idx 0 (NovateTrade.cells x22))], [(5, .row 4 ((v17.set (Int.toNat v16) (NovateTrade.mk x22.Buyer x22.Seller x22.Product x22.Quantity (-77) x22.Bought x22.Sold x22.Stage)).map NovateTrade.cells))]), ([], [], [])]) (ps := [some true]) (tds := []) (m := [5]) (keep := [1, 2]) (r := (.norm, (f29r1n1S (wr64 (v16 + 1)) (v17.set (Int.toNat v16) (NovateTrade.mk x22.Buyer x22.Seller x22.Product x22.Quantity (-77) x22.Bought x22.Sold x22.Stage))))) (by kernel_rfl) (ap (len_cv (xs := v17) (c := NovateTrade.cells)) (ap h19 (ap (at_some h23).1 (ap (lt_map NovateTrade.cells (at_some h23).2) (ap (at_map NovateTrade.cells (at_some h23).2) (ap (set_cv (xs := v17) (c := NovateTrade.cells) (k := (Int.toNat v16)) (x := (NovateTrade.mk x22.Buyer x22.Seller x22.Product x22.Quantity (-77) x22.Bought x22.Sold x22.Stage))) an)))))) (LoopQ.norm ⟨(wr64 (v16 + 1)), (v17.set (Int.toNat v16) (NovateTrade.mk x22.Buyer x22.Seller x22.Product x22.Quantity (-77) x22.Bought x22.Sold x22.Stage)), rfl, h⟩)
    · obtain rfl := some_inj h
      exact runK_end cfg_ok (k := 1) (rs := [([], [], [(3, .val (.pl (.int .i64 (v17.length : Int))))])]) (ps := [some false]) (tds := []) (m := []) (keep := []) (ex := (.exit 0)) (st' := (f29r1n1E (.exit0 v17)).2) (by kernel_rfl) (ap (len_cv (xs := v17) (c := NovateTrade.cells)) (ap h19 an)) (fun h => nomatch h) (LoopQ.out rfl rfl)
inductive f29r1n0O where
  | norm (v28 : List NovateTrade)
def f29r1n0E (a1 : List NovateTrade) : f29r1n0O → Ex × Tr × Hp
  | .norm v28 => (.norm, mkS [], [none, none, none, none, some (.row false 8 (v28.map NovateTrade.cells))])
def f29r1n0S (a1 : List NovateTrade) : Tr × Hp := (initS [(.agg [(.own 4)])] 0 .leaf, [none, none, none, none, some (.row false 8 (a1.map NovateTrade.cells))])
def f29r1n0 (a1 : List NovateTrade) : Option f29r1n0O :=
  (f29r1n1 FUEL 0 a1).bind fun o25 => match o25 with
  | .exit0 v27 => some (.norm v27)
theorem f29r1n0_ok (a1 : List NovateTrade) {o : f29r1n0O} (h : (f29r1n0 a1) = some o) : T Try.prog Try.f29.ntmps 5 c29 (f29r1n0S a1) (fun r => r = f29r1n0E a1 o) := by
  unfold f29r1n0 at h
  refine runK_norm cfg_ok (k := 2) (rs := [([], [], []), ([], [], [])]) (ps := []) (tds := []) (m := [5]) (keep := [1, 2]) (st' := (f29r1n1S 0 a1)) (by kernel_rfl) an ?_
  obtain ⟨o25, h26, h⟩ := bind_cases h
  cases o25 with
  | exit0 v27 =>
    obtain rfl := some_inj h
    exact T.last' (T.bl (i := 0) (by kernel_rfl) (by kernel_rfl) (f29r1n1_ok FUEL 0 a1 h26)) (tds := []) (m := []) (keep := []) (st2 := (f29r1n0E a1 (.norm v27)).2) (by kernel_rfl) an rfl
def f29r1 (a1 : List NovateTrade) : Option (List NovateTrade) := (f29r1n0 a1).bind fun o => match o with
  | .norm v28 => some v28
theorem f29r1_ok (a1 : List NovateTrade) {r : List NovateTrade} (h : (f29r1 a1) = some r) : CallS Try.prog true 29 [(.agg [(.own 4)])] [none, none, none, none, some (.row false 8 (a1.map NovateTrade.cells))] (.tup []) [none, none, none, none, some (.row false 8 (r.map NovateTrade.cells))] := by
  unfold f29r1 at h
  obtain ⟨o, ho, h⟩ := bind_cases h
  cases o with
  | norm v28 =>
    obtain rfl := some_inj h
    exact CallS.shared cfg_ok (f := Try.f29) (c := c29) (by kernel_rfl) (by kernel_rfl) (by kernel_rfl) ((f29r1n0_ok a1 ho).mono fun r e => by subst e; exact ⟨.inr rfl, by kernel_rfl, by kernel_rfl⟩)
/-! ### novation/novationref34.Same -/
inductive f22r3n2O where
  | exit0
  | ret
def f22r3n2E (ba1 : List NovateTrade) (bf2 : NovateBook) : f22r3n2O → Ex × Tr × Hp
  | .exit0 => ((.exit 0), mkS [], [none, none, some (.row true 8 (ba1.map NovateTrade.cells)), none, none, none])
  | .ret => (.ret, mkS [(4, (.pl (.bool false)))], [none, none, some (.row true 8 (ba1.map NovateTrade.cells)), none, none, none])
def f22r3n2S (ba1 : List NovateTrade) (bf2 : NovateBook) (v30 : Int) : Tr × Hp := (mkS [(2, (.bp 6 0)), (3, (.bp 7 0)), (5, (.pl (.int .i64 v30)))], [none, none, some (.row true 8 (ba1.map NovateTrade.cells)), none, none, none, some (.box [(.own 2)]), some (.box ((NovateBook.cells bf2).map .pl))])
def f22r3n2 : Nat → List NovateTrade → NovateBook → Int → Option f22r3n2O
  | 0, _, _, _ => none
  | f + 1, ba1, bf2, v30 =>
    bif (decide (v30 < (ba1.length : Int))) then
      (at? ba1 v30).bind fun x38 =>
      (at? bf2.Trades v30).bind fun x40 =>
      bif (NovateTrade.eqb x38 x40) then
        (f22r3n2 f ba1 bf2 (wr64 (v30 + 1)))
      else
        some .ret
    else
      some .exit0
theorem f22r3n2_ok : ∀ (f : Nat) (ba1 : List NovateTrade) (bf2 : NovateBook) (v30 : Int) {o : f22r3n2O}, (f22r3n2 f ba1 bf2 v30) = some o → TL Try.prog Try.f22.ntmps 6 f (cL (cL (dropC 1 (cL (dropC 2 c22))))) (f22r3n2S ba1 bf2 v30) (fun r => r = f22r3n2E ba1 bf2 o)
  | 0, _, _, _, o, h => by rw [f22r3n2] at h; cases h
  | f + 1, ba1, bf2, v30, o, h => by
    rw [f22r3n2] at h
    refine TL.body (K := fun s => ∃ v30 : Int, s = (f22r3n2S ba1 bf2 v30) ∧ (f22r3n2 f ba1 bf2 v30) = some o) ?_ (by rintro _ ⟨v30, rfl, hk⟩; exact f22r3n2_ok f _ _ _ hk)
    rcases cond_cases h with ⟨h32, h⟩ | ⟨h32, h⟩
    · obtain ⟨x38, h39, h⟩ := bind_cases h
      obtain ⟨x40, h41, h⟩ := bind_cases h
      rcases cond_cases h with ⟨h42, h⟩ | ⟨h42, h⟩
      · exact run_end cfg_ok (rs := [([], [], [(3, .val (.pl (.int .i64 (ba1.length : Int))))]), ([], [(3, .at_ (Int.toNat v30)), (4, .idx 0 (NovateTrade.cells x38)), (8, .idx (Int.toNat v30) (NovateTrade.cells x40)), (10, .bool (NovateTrade.eqb x38 x40))], []), ([], [], [])]) (ps := [some true, some false]) (tds := []) (m := [6, 7]) (keep := [2, 3, 5]) (r := (.norm, (f22r3n2S ba1 bf2 (wr64 (v30 + 1))))) (by kernel_rfl) (ap (len_cv (xs := ba1) (c := NovateTrade.cells)) (ap h32 (ap (at_some h39).1 (ap (lt_map NovateTrade.cells (at_some h39).2) (ap (at_map NovateTrade.cells (at_some h39).2) (ap (at_some h41).1 (ap (at_map NovateTrade.cells (at_some h41).2) (ap (NovateTrade.eqb_ok x38 x40) (ap (not_t h42) an))))))))) (LoopQ.norm ⟨(wr64 (v30 + 1)), rfl, h⟩)
      · obtain rfl := some_inj h
        exact runK_end cfg_ok (k := 2) (rs := [([], [], [(3, .val (.pl (.int .i64 (ba1.length : Int))))]), ([], [(3, .at_ (Int.toNat v30)), (4, .idx 0 (NovateTrade.cells x38)), (8, .idx (Int.toNat v30) (NovateTrade.cells x40)), (10, .bool (NovateTrade.eqb x38 x40))], []), ([], [], [])]) (ps := [some true, some true]) (tds := []) (m := []) (keep := [4]) (ex := .ret) (st' := (f22r3n2E ba1 bf2 .ret).2) (by kernel_rfl) (ap (len_cv (xs := ba1) (c := NovateTrade.cells)) (ap h32 (ap (at_some h39).1 (ap (lt_map NovateTrade.cells (at_some h39).2) (ap (at_map NovateTrade.cells (at_some h39).2) (ap (at_some h41).1 (ap (at_map NovateTrade.cells (at_some h41).2) (ap (NovateTrade.eqb_ok x38 x40) (ap (not_f h42) an))))))))) (fun h => nomatch h) (LoopQ.out rfl rfl)
    · obtain rfl := some_inj h
      exact runK_end cfg_ok (k := 1) (rs := [([], [], [(3, .val (.pl (.int .i64 (ba1.length : Int))))])]) (ps := [some false]) (tds := []) (m := []) (keep := []) (ex := (.exit 0)) (st' := (f22r3n2E ba1 bf2 .exit0).2) (by kernel_rfl) (ap (len_cv (xs := ba1) (c := NovateTrade.cells)) (ap h32 an)) (fun h => nomatch h) (LoopQ.out rfl rfl)
def f22r3n2L (ba1 : List NovateTrade) (bf2 : NovateBook) : List NovateTrade → Int → Option f22r3n2O
  | [], v30 =>
    some .exit0
  | x0 :: rest, v30 =>
    (at? bf2.Trades v30).bind fun x40 =>
    bif (NovateTrade.eqb x0 x40) then
      (f22r3n2L ba1 bf2 rest (v30 + 1))
    else
      some .ret
theorem f22r3n2L_eq (ba1 : List NovateTrade) (bf2 : NovateBook) : ∀ (rest : List NovateTrade) (f k : Nat), ba1.drop k = rest → ba1.length ≤ maxLen → rest.length < f → f22r3n2 f ba1 bf2 (k : Int) = f22r3n2L ba1 bf2 rest (k : Int)
  | _, 0, _, _, _, hf => absurd hf (Nat.not_lt_zero _)
  | [], f + 1, k, hd, hm, hf => by
    have hk : ¬ ((k : Int) < (ba1.length : Int)) := by have := drop_nil hd; omega
    rw [f22r3n2, f22r3n2L]
    simp only [decide_eq_false hk, cond_false]
  | x0 :: rest, f + 1, k, hd, hm, hf => by
    obtain ⟨hx, hlt, hd'⟩ := drop_cons hd
    have hk : (k : Int) < (ba1.length : Int) := by omega
    have hw : wr64 ((k : Int) + 1) = (k : Int) + 1 := wr64_of (by omega) (by unfold maxLen at hm; omega)
    have ih : f22r3n2 f ba1 bf2 ((k : Int) + 1) = f22r3n2L ba1 bf2 rest ((k : Int) + 1) := f22r3n2L_eq ba1 bf2 rest f (k + 1) hd' hm (by simpa using hf)
    rw [f22r3n2, f22r3n2L]
    simp only [decide_eq_true hk, cond_true, at_nat, hx, Option.bind_some, hw, ih]
theorem f22r3n2_run (ba1 : List NovateTrade) (bf2 : NovateBook) (hm : ba1.length ≤ maxLen) : f22r3n2 FUEL ba1 bf2 0 = f22r3n2L ba1 bf2 ba1 0 := f22r3n2L_eq ba1 bf2 ba1 FUEL 0 List.drop_zero hm (lt_FUEL hm)
inductive f22r3n1O where
  | norm
  | ret
def f22r3n1E (ba1 : List NovateTrade) (bf2 : NovateBook) : f22r3n1O → Ex × Tr × Hp
  | .norm => (.norm, mkS [], [none, none, some (.row true 8 (ba1.map NovateTrade.cells)), none, none, none])
  | .ret => (.ret, mkS [(4, (.pl (.bool false)))], [none, none, some (.row true 8 (ba1.map NovateTrade.cells)), none, none, none])
def f22r3n1S (ba1 : List NovateTrade) (bf2 : NovateBook) : Tr × Hp := (mkS [(2, (.bp 6 0)), (3, (.bp 7 0))], [none, none, some (.row true 8 (ba1.map NovateTrade.cells)), none, none, none, some (.box [(.own 2)]), some (.box ((NovateBook.cells bf2).map .pl))])
def f22r3n1 (ba1 : List NovateTrade) (bf2 : NovateBook) : Option f22r3n1O :=
  (f22r3n2 FUEL ba1 bf2 0).bind fun o43 => match o43 with
  | .exit0 => some .norm
  | .ret => some .ret
theorem f22r3n1_ok (ba1 : List NovateTrade) (bf2 : NovateBook) {o : f22r3n1O} (h : (f22r3n1 ba1 bf2) = some o) : T Try.prog Try.f22.ntmps 6 (cL (dropC 2 c22)) (f22r3n1S ba1 bf2) (fun r => r = f22r3n1E ba1 bf2 o) := by
  unfold f22r3n1 at h
  refine runK_norm cfg_ok (k := 1) (rs := [([], [], [])]) (ps := []) (tds := []) (m := [6, 7]) (keep := [2, 3, 5]) (st' := (f22r3n2S ba1 bf2 0)) (by kernel_rfl) an ?_
  obtain ⟨o43, h44, h⟩ := bind_cases h
  cases o43 with
  | exit0 =>
    obtain rfl := some_inj h
    exact T.last' (T.bl (i := 0) (by kernel_rfl) (by kernel_rfl) (f22r3n2_ok FUEL ba1 bf2 0 h44)) (tds := []) (m := []) (keep := []) (st2 := (f22r3n1E ba1 bf2 .norm).2) (by kernel_rfl) an rfl
  | ret =>
    obtain rfl := some_inj h
    exact T.last' (T.bl (i := 0) (by kernel_rfl) (by kernel_rfl) (f22r3n2_ok FUEL ba1 bf2 0 h44)) (tds := []) (m := []) (keep := [4]) (st2 := (f22r3n1E ba1 bf2 .ret).2) (by kernel_rfl) an rfl
inductive f22r3n0O where
  | ret (v47 : Bool)
def f22r3n0E (a1 : NovateBook) (a2 : List NovateTrade) : f22r3n0O → Ex × Tr × Hp
  | .ret v47 => (.ret, mkS [(4, (.pl (.bool v47)))], [none, none, some (.row true 8 (a2.map NovateTrade.cells)), none, none, none])
def f22r3n0S (a1 : NovateBook) (a2 : List NovateTrade) : Tr × Hp := (initS [(.agg [(.own 2)]), (.pl (.agg (NovateBook.cells a1)))] 0 .leaf, [none, none, some (.row true 8 (a2.map NovateTrade.cells)), none, none, none])
def f22r3n0 (a1 : NovateBook) (a2 : List NovateTrade) : Option f22r3n0O :=
  bif (decide ((a2.length : Int) = (a1.Trades.length : Int))) then
    (f22r3n1 a2 a1).bind fun o45 => match o45 with
    | .norm => some (.ret true)
    | .ret => some (.ret false)
  else
    some (.ret false)
theorem f22r3n0_ok (a1 : NovateBook) (a2 : List NovateTrade) {o : f22r3n0O} (h : (f22r3n0 a1 a2) = some o) : T Try.prog Try.f22.ntmps 6 c22 (f22r3n0S a1 a2) (fun r => r = f22r3n0E a1 a2 o) := by
  unfold f22r3n0 at h
  rcases cond_cases h with ⟨h4, h⟩ | ⟨h4, h⟩
  · refine runK_norm cfg_ok (k := 2) (rs := [([], [], []), ([], [], [(2, .val (.pl (.int .i64 (a2.length : Int)))), (5, .val (.pl (.int .i64 (a1.Trades.length : Int))))])]) (ps := [some false]) (tds := []) (m := [6, 7]) (keep := [2, 3]) (st' := (f22r3n1S a2 a1)) (by kernel_rfl) (ap (len_cv (xs := a2) (c := NovateTrade.cells)) (ap (len_cv (xs := a1.Trades) (c := NovateTrade.cells)) (ap (not_t h4) an))) ?_
    obtain ⟨o45, h46, h⟩ := bind_cases h
    cases o45 with
    | norm =>
      refine T.oneN (by kernel_rfl) (f22r3n1_ok a2 a1 h46) (st2 := (f22r3n1E a2 a1 .norm).2) rfl ?_
      obtain rfl := some_inj h
      exact run_end cfg_ok (rs := [([], [], [])]) (ps := []) (tds := []) (m := []) (keep := [4]) (r := (.ret, (f22r3n0E a1 a2 (.ret true)).2)) (by kernel_rfl) an rfl
    | ret =>
      obtain rfl := some_inj h
      exact T.oneX' (by kernel_rfl) (f22r3n1_ok a2 a1 h46) (tds := []) (m := []) (keep := [4]) (st2 := (f22r3n0E a1 a2 (.ret false)).2) (by kernel_rfl) an rfl rfl
  · obtain rfl := some_inj h
    exact runK_end cfg_ok (k := 2) (rs := [([], [], []), ([], [], [(2, .val (.pl (.int .i64 (a2.length : Int)))), (5, .val (.pl (.int .i64 (a1.Trades.length : Int))))]), ([], [], [])]) (ps := [some true]) (tds := []) (m := []) (keep := [4]) (ex := .ret) (st' := (f22r3n0E a1 a2 (.ret false)).2) (by kernel_rfl) (ap (len_cv (xs := a2) (c := NovateTrade.cells)) (ap (len_cv (xs := a1.Trades) (c := NovateTrade.cells)) (ap (not_f h4) an))) (fun h => nomatch h) rfl
def f22r3 (a1 : NovateBook) (a2 : List NovateTrade) : Option Bool := (f22r3n0 a1 a2).bind fun o => match o with
  | .ret v47 => some v47
theorem f22r3_ok (a1 : NovateBook) (a2 : List NovateTrade) {r : Bool} (h : (f22r3 a1 a2) = some r) : CallS Try.prog true 22 [(.agg [(.own 2)]), (.pl (.agg (NovateBook.cells a1)))] [none, none, some (.row true 8 (a2.map NovateTrade.cells)), none, none, none] (.pl (.bool r)) [none, none, some (.row true 8 (a2.map NovateTrade.cells)), none, none, none] := by
  unfold f22r3 at h
  obtain ⟨o, ho, h⟩ := bind_cases h
  cases o with
  | ret v47 =>
    obtain rfl := some_inj h
    exact CallS.shared cfg_ok (f := Try.f22) (c := c22) (by kernel_rfl) (by kernel_rfl) (by kernel_rfl) ((f22r3n0_ok a1 a2 ho).mono fun r e => by subst e; exact ⟨.inl rfl, by kernel_rfl, by kernel_rfl⟩)
/-! ### novation/novationlaw34.NovateMatches -/
noncomputable def c9 : Code := Try.f9.body.getD .skip
inductive f9n1O where
  | norm (v71 : Bool)
def f9n1E (bh1 : Bool) (bk2 : Int × Int × (List NovateTrade)) (bl3 : NovateBook × Int × Int) (bi4 : (List NovateLeg) × Int) (bi5 : (List NovateLeg) × Int) (bm6 : Int × Int × Int) (bm7 : Int × Int × Int) (bm8 : Int × Int × Int) (bm9 : Int × Int × Int) (bf10 : NovateBook) (ba11 : List NovateTrade) : f9n1O → Ex × Tr × Hp
  | .norm v71 => (.norm, mkS [(2, (.bp 0 0)), (5, (.pl (.bool bh1))), (6, (.bp 1 0)), (7, (.bp 3 0)), (17, (.pl (.int .i64 bm6.1))), (18, (.pl (.int .i64 bm6.2.1))), (19, (.pl (.int .i64 bm6.2.2))), (20, (.pl (.int .i64 bm7.1))), (21, (.pl (.int .i64 bm7.2.1))), (22, (.pl (.int .i64 bm7.2.2))), (23, (.pl (.int .i64 bm8.1))), (24, (.pl (.int .i64 bm8.2.1))), (25, (.pl (.int .i64 bm8.2.2))), (26, (.pl (.int .i64 bm9.1))), (27, (.pl (.int .i64 bm9.2.1))), (28, (.pl (.int .i64 bm9.2.2))), (29, (.pl (.bool v71)))], [some (.box ((NovateBook.cells bf10).map .pl)), some (.box [(.own 2)]), some (.row true 8 (ba11.map NovateTrade.cells)), some (.box [(.own 4)]), some (.row false 8 (bk2.2.2.map NovateTrade.cells))])
def f9n1S (bh1 : Bool) (bk2 : Int × Int × (List NovateTrade)) (bl3 : NovateBook × Int × Int) (bi4 : (List NovateLeg) × Int) (bi5 : (List NovateLeg) × Int) (bm6 : Int × Int × Int) (bm7 : Int × Int × Int) (bm8 : Int × Int × Int) (bm9 : Int × Int × Int) (bf10 : NovateBook) (ba11 : List NovateTrade) : Tr × Hp := (mkS [(2, (.bp 0 0)), (5, (.pl (.bool bh1))), (6, (.bp 1 0)), (7, (.bp 3 0)), (8, (.pl (.int .i64 bk2.1))), (9, (.pl (.int .i64 bk2.2.1))), (10, (.bp 5 0)), (11, (.pl (.int .i64 bl3.2.1))), (12, (.pl (.int .i64 bl3.2.2))), (13, (.pl (.sl .any 6 (bi4.1.map NovateLeg.cells)))), (14, (.pl (.int .i64 bi4.2))), (15, (.pl (.sl .any 6 (bi5.1.map NovateLeg.cells)))), (16, (.pl (.int .i64 bi5.2))), (17, (.pl (.int .i64 bm6.1))), (18, (.pl (.int .i64 bm6.2.1))), (19, (.pl (.int .i64 bm6.2.2))), (20, (.pl (.int .i64 bm7.1))), (21, (.pl (.int .i64 bm7.2.1))), (22, (.pl (.int .i64 bm7.2.2))), (23, (.pl (.int .i64 bm8.1))), (24, (.pl (.int .i64 bm8.2.1))), (25, (.pl (.int .i64 bm8.2.2))), (26, (.pl (.int .i64 bm9.1))), (27, (.pl (.int .i64 bm9.2.1))), (28, (.pl (.int .i64 bm9.2.2)))], [some (.box ((NovateBook.cells bf10).map .pl)), some (.box [(.own 2)]), some (.row true 8 (ba11.map NovateTrade.cells)), some (.box [(.own 4)]), some (.row false 8 (bk2.2.2.map NovateTrade.cells)), some (.box ((NovateBook.cells bl3.1).map .pl))])
def f9n1 (bh1 : Bool) (bk2 : Int × Int × (List NovateTrade)) (bl3 : NovateBook × Int × Int) (bi4 : (List NovateLeg) × Int) (bi5 : (List NovateLeg) × Int) (bm6 : Int × Int × Int) (bm7 : Int × Int × Int) (bm8 : Int × Int × Int) (bm9 : Int × Int × Int) (bf10 : NovateBook) (ba11 : List NovateTrade) : Option f9n1O :=
  (f22r2 bl3.1 bk2.2.2).bind fun x63 =>
  bif x63 then
    bif (decide (bk2.1 = bl3.2.1)) then
      bif (decide (bk2.2.1 = bl3.2.2)) then
        (f24 bi4.1 bi5.1).bind fun x68 =>
        bif x68 then
          some (.norm (decide (bi4.2 = bi5.2)))
        else
          some (.norm false)
      else
        some (.norm false)
    else
      some (.norm false)
  else
    some (.norm false)
theorem f9n1_ok (bh1 : Bool) (bk2 : Int × Int × (List NovateTrade)) (bl3 : NovateBook × Int × Int) (bi4 : (List NovateLeg) × Int) (bi5 : (List NovateLeg) × Int) (bm6 : Int × Int × Int) (bm7 : Int × Int × Int) (bm8 : Int × Int × Int) (bm9 : Int × Int × Int) (bf10 : NovateBook) (ba11 : List NovateTrade) {o : f9n1O} (h : (f9n1 bh1 bk2 bl3 bi4 bi5 bm6 bm7 bm8 bm9 bf10 ba11) = some o) : T Try.prog Try.f9.ntmps 0 (cL (dropC 12 c9)) (f9n1S bh1 bk2 bl3 bi4 bi5 bm6 bm7 bm8 bm9 bf10 ba11) (fun r => r = f9n1E bh1 bk2 bl3 bi4 bi5 bm6 bm7 bm8 bm9 bf10 ba11 o) := by
  unfold f9n1 at h
  obtain ⟨x63, h64, h⟩ := bind_cases h
  rcases cond_cases h with ⟨h65, h⟩ | ⟨h65, h⟩
  · rcases cond_cases h with ⟨h66, h⟩ | ⟨h66, h⟩
    · rcases cond_cases h with ⟨h67, h⟩ | ⟨h67, h⟩
      · obtain ⟨x68, h69, h⟩ := bind_cases h
        rcases cond_cases h with ⟨h70, h⟩ | ⟨h70, h⟩
        · obtain rfl := some_inj h
          exact run_end cfg_ok (rs := [([(4, true), (5, true), (6, true), (9, true), (10, true), (11, true), (14, true), (15, true), (16, true), (19, true), (20, true), (21, true)], [(2, .call (.pl (.bool x63)) [none, none, none, none, some (.row false 8 (bk2.2.2.map NovateTrade.cells)), none]), (7, .bool true), (12, .bool true), (16, .call (.pl (.bool x68)) []), (17, .bool true), (22, .bool true)], [])]) (ps := []) (tds := []) (m := [0, 1, 2, 3, 4]) (keep := [2, 5, 6, 7, 17, 18, 19, 20, 21, 22, 23, 24, 25, 26, 27, 28, 29]) (r := (.norm, (f9n1E bh1 bk2 bl3 bi4 bi5 bm6 bm7 bm8 bm9 bf10 ba11 (.norm (decide (bi4.2 = bi5.2)))).2)) (by kernel_rfl) (ap h65 (ap h65 (ap h65 (ap h65 (ap h66 (ap h66 (ap h66 (ap h66 (ap h67 (ap h67 (ap h67 (ap h67 (ap h70 (ap h70 (ap h70 (ap h70 (ap (f22r2_ok bl3.1 bk2.2.2 h64) (ap (f24_ok bi4.1 bi5.1 h69) an)))))))))))))))))) rfl
        · obtain rfl := some_inj h
          exact run_end cfg_ok (rs := [([(4, true), (5, true), (6, true), (9, true), (10, true), (11, true), (14, true), (15, true), (16, true), (19, false), (20, false), (21, false)], [(2, .call (.pl (.bool x63)) [none, none, none, none, some (.row false 8 (bk2.2.2.map NovateTrade.cells)), none]), (7, .bool true), (12, .bool true), (16, .call (.pl (.bool x68)) []), (17, .bool true), (22, .bool false)], [])]) (ps := []) (tds := []) (m := [0, 1, 2, 3, 4]) (keep := [2, 5, 6, 7, 17, 18, 19, 20, 21, 22, 23, 24, 25, 26, 27, 28, 29]) (r := (.norm, (f9n1E bh1 bk2 bl3 bi4 bi5 bm6 bm7 bm8 bm9 bf10 ba11 (.norm false)).2)) (by kernel_rfl) (ap h65 (ap h65 (ap h65 (ap h65 (ap h66 (ap h66 (ap h66 (ap h66 (ap h67 (ap h67 (ap h67 (ap h67 (ap h70 (ap h70 (ap h70 (ap h70 (ap (f22r2_ok bl3.1 bk2.2.2 h64) (ap (f24_ok bi4.1 bi5.1 h69) an)))))))))))))))))) rfl
      · obtain rfl := some_inj h
        exact run_end cfg_ok (rs := [([(4, true), (5, true), (6, true), (9, true), (10, true), (11, true), (14, false), (15, false), (16, false)], [(2, .call (.pl (.bool x63)) [none, none, none, none, some (.row false 8 (bk2.2.2.map NovateTrade.cells)), none]), (7, .bool true), (12, .bool true), (17, .bool false)], [])]) (ps := []) (tds := []) (m := [0, 1, 2, 3, 4]) (keep := [2, 5, 6, 7, 17, 18, 19, 20, 21, 22, 23, 24, 25, 26, 27, 28, 29]) (r := (.norm, (f9n1E bh1 bk2 bl3 bi4 bi5 bm6 bm7 bm8 bm9 bf10 ba11 (.norm false)).2)) (by kernel_rfl) (ap h65 (ap h65 (ap h65 (ap h65 (ap h66 (ap h66 (ap h66 (ap h66 (ap h67 (ap h67 (ap h67 (ap h67 (ap (f22r2_ok bl3.1 bk2.2.2 h64) an))))))))))))) rfl
    · obtain rfl := some_inj h
      exact run_end cfg_ok (rs := [([(4, true), (5, true), (6, true), (9, false), (10, false), (11, false)], [(2, .call (.pl (.bool x63)) [none, none, none, none, some (.row false 8 (bk2.2.2.map NovateTrade.cells)), none]), (7, .bool true), (12, .bool false)], [])]) (ps := []) (tds := []) (m := [0, 1, 2, 3, 4]) (keep := [2, 5, 6, 7, 17, 18, 19, 20, 21, 22, 23, 24, 25, 26, 27, 28, 29]) (r := (.norm, (f9n1E bh1 bk2 bl3 bi4 bi5 bm6 bm7 bm8 bm9 bf10 ba11 (.norm false)).2)) (by kernel_rfl) (ap h65 (ap h65 (ap h65 (ap h65 (ap h66 (ap h66 (ap h66 (ap h66 (ap (f22r2_ok bl3.1 bk2.2.2 h64) an))))))))) rfl
  · obtain rfl := some_inj h
    exact run_end cfg_ok (rs := [([(4, false), (5, false), (6, false)], [(2, .call (.pl (.bool x63)) [none, none, none, none, some (.row false 8 (bk2.2.2.map NovateTrade.cells)), none]), (7, .bool false)], [])]) (ps := []) (tds := []) (m := [0, 1, 2, 3, 4]) (keep := [2, 5, 6, 7, 17, 18, 19, 20, 21, 22, 23, 24, 25, 26, 27, 28, 29]) (r := (.norm, (f9n1E bh1 bk2 bl3 bi4 bi5 bm6 bm7 bm8 bm9 bf10 ba11 (.norm false)).2)) (by kernel_rfl) (ap h65 (ap h65 (ap h65 (ap h65 (ap (f22r2_ok bl3.1 bk2.2.2 h64) an))))) rfl
inductive f9n0O where
  | ret (v107 : Bool)
def f9n0E (a1 : NovateBook) (a2 : Op_) : f9n0O → Ex × Tr × Hp
  | .ret v107 => (.ret, mkS [(4, (.pl (.bool v107)))], [])
def f9n0S (a1 : NovateBook) (a2 : Op_) : Tr × Hp := (initS [(.pl (.agg (NovateBook.cells a1))), (.pl (.agg (Op_.cells a2)))] 0 .leaf, [])
def f9n0 (a1 : NovateBook) (a2 : Op_) : Option f9n0O :=
  f11.bind fun x5 =>
  bif (decide (220 < (a1.Trades.length : Int))) then
    some (.ret x5)
  else
    bif x5 then
      (f16r1 a1).bind fun x13 =>
      (f20r1 a2 x13).bind fun x17 =>
      (f21 a1 a2).bind fun x21 =>
      (f12 (NovateBook.mk x13)).bind fun x25 =>
      (f25 a1).bind fun x29 =>
      (f14 (NovateBook.mk x13) a2.By a2.Product).bind fun x33 =>
      (f26 a1 a2.By a2.Product).bind fun x37 =>
      (f27 (NovateBook.mk x13) a2.By a2.Product).bind fun x41 =>
      (f28 a1 a2.By a2.Product).bind fun x45 =>
      (f9n1 x5 x17 x21 x25 x29 x33 x37 x41 x45 a1 x13).bind fun o72 => match o72 with
      | .norm v74 => (f29r1 x17.2.2).bind fun x77 =>
        bif v74 then
          bif (decide (x33.1 = x37.1)) then
            bif (decide (x33.2.1 = x37.2.1)) then
              bif (decide (x33.2.2 = x37.2.2)) then
                bif (decide (x41.1 = x45.1)) then
                  bif (decide (x41.2.1 = x45.2.1)) then
                    bif (decide (x41.2.2 = x45.2.2)) then
                      (f13 (NovateBook.mk x13)).bind fun x100 =>
                      (f30 a1).bind fun x102 =>
                      bif (decide (x100 = x102)) then
                        (f22r3 a1 x13).bind fun x105 =>
                        some (.ret x105)
                      else
                        some (.ret false)
                    else
                      some (.ret false)
                  else
                    some (.ret false)
                else
                  some (.ret false)
              else
                some (.ret false)
            else
              some (.ret false)
          else
            some (.ret false)
        else
          some (.ret false)
    else
      some (.ret x5)
theorem f9n0_ok (a1 : NovateBook) (a2 : Op_) {o : f9n0O} (h : (f9n0 a1 a2) = some o) : T Try.prog Try.f9.ntmps 0 c9 (f9n0S a1 a2) (fun r => r = f9n0E a1 a2 o) := by
  unfold f9n0 at h
  obtain ⟨x5, h6, h⟩ := bind_cases h
  rcases cond_cases h with ⟨h9, h⟩ | ⟨h9, h⟩
  · obtain rfl := some_inj h
    exact runK_end cfg_ok (k := 3) (rs := [([], [], []), ([], [(0, .call (.pl (.bool x5)) [])], []), ([(5, true), (6, true)], [(7, .bool true)], [(2, .val (.pl (.int .i64 (a1.Trades.length : Int))))]), ([], [], [])]) (ps := [none]) (tds := []) (m := []) (keep := [4]) (ex := .ret) (st' := (f9n0E a1 a2 (.ret x5)).2) (by kernel_rfl) (ap (f11_ok h6) (ap (len_cv (xs := a1.Trades) (c := NovateTrade.cells)) (ap h9 (ap h9 (ap h9 an))))) (fun h => nomatch h) rfl
  · rcases cond_cases h with ⟨h10, h⟩ | ⟨h10, h⟩
    · obtain ⟨x13, h14, h⟩ := bind_cases h
      obtain ⟨x17, h18, h⟩ := bind_cases h
      obtain ⟨x21, h22, h⟩ := bind_cases h
      obtain ⟨x25, h26, h⟩ := bind_cases h
      obtain ⟨x29, h30, h⟩ := bind_cases h
      obtain ⟨x33, h34, h⟩ := bind_cases h
      obtain ⟨x37, h38, h⟩ := bind_cases h
      obtain ⟨x41, h42, h⟩ := bind_cases h
      obtain ⟨x45, h46, h⟩ := bind_cases h
      refine runK_norm cfg_ok (k := 12) (rs := [([], [], []), ([], [(0, .call (.pl (.bool x5)) [])], []), ([(5, false), (6, false)], [(7, .bool false)], [(2, .val (.pl (.int .i64 (a1.Trades.length : Int))))]), ([], [(1, .call (.agg [(.own 3)]) [none, none, some (.box [(.own 3)]), some (.row false 8 (x13.map NovateTrade.cells))])], []), ([], [(2, .call (.tup [(.agg [(.own 6)]), (.pl (.int .i64 x17.1)), (.pl (.int .i64 x17.2.1))]) [none, none, none, some (.row true 8 (x13.map NovateTrade.cells)), none, some (.box [(.own 6)]), some (.row false 8 (x17.2.2.map NovateTrade.cells))])], []), ([], [(2, .call (.tup [(.pl (.agg (NovateBook.cells x21.1))), (.pl (.int .i64 x21.2.1)), (.pl (.int .i64 x21.2.2))]) [])], []), ([], [(1, .call (.tup [(.pl (.sl .any 6 (x25.1.map NovateLeg.cells))), (.pl (.int .i64 x25.2))]) [])], []), ([], [(1, .call (.tup [(.pl (.sl .any 6 (x29.1.map NovateLeg.cells))), (.pl (.int .i64 x29.2))]) [])], []), ([], [(5, .call (.tup [(.pl (.int .i64 x33.1)), (.pl (.int .i64 x33.2.1)), (.pl (.int .i64 x33.2.2))]) [])], []), ([], [(5, .call (.tup [(.pl (.int .i64 x37.1)), (.pl (.int .i64 x37.2.1)), (.pl (.int .i64 x37.2.2))]) [])], []), ([], [(5, .call (.tup [(.pl (.int .i64 x41.1)), (.pl (.int .i64 x41.2.1)), (.pl (.int .i64 x41.2.2))]) [])], []), ([], [(5, .call (.tup [(.pl (.int .i64 x45.1)), (.pl (.int .i64 x45.2.1)), (.pl (.int .i64 x45.2.2))]) [])], [])]) (ps := [some false]) (tds := []) (m := [0, 4, 3, 7, 6, 8]) (keep := [2, 5, 6, 7, 8, 9, 10, 11, 12, 13, 14, 15, 16, 17, 18, 19, 20, 21, 22, 23, 24, 25, 26, 27, 28]) (st' := (f9n1S x5 x17 x21 x25 x29 x33 x37 x41 x45 a1 x13)) (by kernel_rfl) (ap (f11_ok h6) (ap (len_cv (xs := a1.Trades) (c := NovateTrade.cells)) (ap h9 (ap h9 (ap h9 (ap (not_t h10) (ap (CallS.shift (ps := [(.agg (NovateBook.cells a1))]) (v2 := (.agg [(.own 3)])) (H3 := [none, none, some (.box [(.own 3)]), some (.row false 8 (x13.map NovateTrade.cells))]) 2 (f16r1_ok a1 h14) (by kernel_rfl) (by kernel_rfl)) (ap (f20r1_ok a2 x13 h18) (ap (f21_ok a1 a2 h22) (ap (f12_ok (NovateBook.mk x13) h26) (ap (f25_ok a1 h30) (ap (f14_ok (NovateBook.mk x13) a2.By a2.Product h34) (ap (f26_ok a1 a2.By a2.Product h38) (ap (f27_ok (NovateBook.mk x13) a2.By a2.Product h42) (ap (f28_ok a1 a2.By a2.Product h46) an))))))))))))))) ?_
      obtain ⟨o72, h73, h⟩ := bind_cases h
      cases o72 with
      | norm v74 =>
        refine T.oneN (by kernel_rfl) (f9n1_ok x5 x17 x21 x25 x29 x33 x37 x41 x45 a1 x13 h73) (st2 := (f9n1E x5 x17 x21 x25 x29 x33 x37 x41 x45 a1 x13 (.norm v74)).2) rfl ?_
        obtain ⟨x77, h78, h⟩ := bind_cases h
        rcases cond_cases h with ⟨h93, h⟩ | ⟨h93, h⟩
        · rcases cond_cases h with ⟨h94, h⟩ | ⟨h94, h⟩
          · rcases cond_cases h with ⟨h95, h⟩ | ⟨h95, h⟩
            · rcases cond_cases h with ⟨h96, h⟩ | ⟨h96, h⟩
              · rcases cond_cases h with ⟨h97, h⟩ | ⟨h97, h⟩
                · rcases cond_cases h with ⟨h98, h⟩ | ⟨h98, h⟩
                  · rcases cond_cases h with ⟨h99, h⟩ | ⟨h99, h⟩
                    · obtain ⟨x100, h101, h⟩ := bind_cases h
                      obtain ⟨x102, h103, h⟩ := bind_cases h
                      rcases cond_cases h with ⟨h104, h⟩ | ⟨h104, h⟩
                      · obtain ⟨x105, h106, h⟩ := bind_cases h
                        obtain rfl := some_inj h
                        exact run_end cfg_ok (rs := [([], [(1, .call (.tup []) [none, none, none, none, some (.row false 8 (x77.map NovateTrade.cells))])], []), ([(2, true), (5, true), (6, true), (7, true), (10, true), (11, true), (12, true), (15, true), (16, true), (17, true), (20, true), (21, true), (22, true), (25, true), (26, true), (27, true), (30, true), (31, true), (32, true), (35, true), (36, true), (37, true), (38, true), (39, true), (42, true), (43, true), (44, true)], [(3, .bool true), (8, .bool true), (13, .bool true), (18, .bool true), (23, .bool true), (28, .bool true), (33, .bool true), (36, .call (.pl (.int .i64 x100)) []), (38, .call (.pl (.int .i64 x102)) []), (40, .bool true), (44, .call (.pl (.bool x105)) [none, none, some (.row true 8 (x13.map NovateTrade.cells)), none, none, none]), (45, .bool true)], [])]) (ps := []) (tds := []) (m := []) (keep := [4]) (r := (.ret, (f9n0E a1 a2 (.ret x105)).2)) (by kernel_rfl) (ap (f29r1_ok x17.2.2 h78) (ap h10 (ap h10 (ap h93 (ap h93 (ap h93 (ap h93 (ap h94 (ap h94 (ap h94 (ap h94 (ap h95 (ap h95 (ap h95 (ap h95 (ap h96 (ap h96 (ap h96 (ap h96 (ap h97 (ap h97 (ap h97 (ap h97 (ap h98 (ap h98 (ap h98 (ap h98 (ap h99 (ap h99 (ap h99 (ap h99 (ap h99 (ap h99 (ap h104 (ap h104 (ap h104 (ap h104 (ap (f13_ok (NovateBook.mk x13) h101) (ap (f30_ok a1 h103) (ap (f22r3_ok a1 x13 h106) an)))))))))))))))))))))))))))))))))))))))) rfl
                      · obtain rfl := some_inj h
                        exact run_end cfg_ok (rs := [([], [(1, .call (.tup []) [none, none, none, none, some (.row false 8 (x77.map NovateTrade.cells))])], []), ([(2, true), (5, true), (6, true), (7, true), (10, true), (11, true), (12, true), (15, true), (16, true), (17, true), (20, true), (21, true), (22, true), (25, true), (26, true), (27, true), (30, true), (31, true), (32, true), (35, true), (36, true), (37, true), (38, true), (39, true), (42, false), (43, false), (44, false)], [(3, .bool true), (8, .bool true), (13, .bool true), (18, .bool true), (23, .bool true), (28, .bool true), (33, .bool true), (36, .call (.pl (.int .i64 x100)) []), (38, .call (.pl (.int .i64 x102)) []), (40, .bool true), (45, .bool false)], [])]) (ps := []) (tds := []) (m := []) (keep := [4]) (r := (.ret, (f9n0E a1 a2 (.ret false)).2)) (by kernel_rfl) (ap (f29r1_ok x17.2.2 h78) (ap h10 (ap h10 (ap h93 (ap h93 (ap h93 (ap h93 (ap h94 (ap h94 (ap h94 (ap h94 (ap h95 (ap h95 (ap h95 (ap h95 (ap h96 (ap h96 (ap h96 (ap h96 (ap h97 (ap h97 (ap h97 (ap h97 (ap h98 (ap h98 (ap h98 (ap h98 (ap h99 (ap h99 (ap h99 (ap h99 (ap h99 (ap h99 (ap h104 (ap h104 (ap h104 (ap h104 (ap (f13_ok (NovateBook.mk x13) h101) (ap (f30_ok a1 h103) an))))))))))))))))))))))))))))))))))))))) rfl
                    · obtain rfl := some_inj h
                      exact run_end cfg_ok (rs := [([], [(1, .call (.tup []) [none, none, none, none, some (.row false 8 (x77.map NovateTrade.cells))])], []), ([(2, true), (5, true), (6, true), (7, true), (10, true), (11, true), (12, true), (15, true), (16, true), (17, true), (20, true), (21, true), (22, true), (25, true), (26, true), (27, true), (30, true), (31, true), (32, true), (35, false), (36, false), (37, false), (38, false), (39, false)], [(3, .bool true), (8, .bool true), (13, .bool true), (18, .bool true), (23, .bool true), (28, .bool true), (33, .bool true), (40, .bool false)], [])]) (ps := []) (tds := []) (m := []) (keep := [4]) (r := (.ret, (f9n0E a1 a2 (.ret false)).2)) (by kernel_rfl) (ap (f29r1_ok x17.2.2 h78) (ap h10 (ap h10 (ap h93 (ap h93 (ap h93 (ap h93 (ap h94 (ap h94 (ap h94 (ap h94 (ap h95 (ap h95 (ap h95 (ap h95 (ap h96 (ap h96 (ap h96 (ap h96 (ap h97 (ap h97 (ap h97 (ap h97 (ap h98 (ap h98 (ap h98 (ap h98 (ap h99 (ap h99 (ap h99 (ap h99 (ap h99 (ap h99 an))))))))))))))))))))))))))))))))) rfl
                  · obtain rfl := some_inj h
                    exact run_end cfg_ok (rs := [([], [(1, .call (.tup []) [none, none, none, none, some (.row false 8 (x77.map NovateTrade.cells))])], []), ([(2, true), (5, true), (6, true), (7, true), (10, true), (11, true), (12, true), (15, true), (16, true), (17, true), (20, true), (21, true), (22, true), (25, true), (26, true), (27, true), (30, false), (31, false), (32, false)], [(3, .bool true), (8, .bool true), (13, .bool true), (18, .bool true), (23, .bool true), (28, .bool true), (33, .bool false)], [])]) (ps := []) (tds := []) (m := []) (keep := [4]) (r := (.ret, (f9n0E a1 a2 (.ret false)).2)) (by kernel_rfl) (ap (f29r1_ok x17.2.2 h78) (ap h10 (ap h10 (ap h93 (ap h93 (ap h93 (ap h93 (ap h94 (ap h94 (ap h94 (ap h94 (ap h95 (ap h95 (ap h95 (ap h95 (ap h96 (ap h96 (ap h96 (ap h96 (ap h97 (ap h97 (ap h97 (ap h97 (ap h98 (ap h98 (ap h98 (ap h98 an))))))))))))))))))))))))))) rfl
                · obtain rfl := some_inj h
                  exact run_end cfg_ok (rs := [([], [(1, .call (.tup []) [none, none, none, none, some (.row false 8 (x77.map NovateTrade.cells))])], []), ([(2, true), (5, true), (6, true), (7, true), (10, true), (11, true), (12, true), (15, true), (16, true), (17, true), (20, true), (21, true), (22, true), (25, false), (26, false), (27, false)], [(3, .bool true), (8, .bool true), (13, .bool true), (18, .bool true), (23, .bool true), (28, .bool false)], [])]) (ps := []) (tds := []) (m := []) (keep := [4]) (r := (.ret, (f9n0E a1 a2 (.ret false)).2)) (by kernel_rfl) (ap (f29r1_ok x17.2.2 h78) (ap h10 (ap h10 (ap h93 (ap h93 (ap h93 (ap h93 (ap h94 (ap h94 (ap h94 (ap h94 (ap h95 (ap h95 (ap h95 (ap h95 (ap h96 (ap h96 (ap h96 (ap h96 (ap h97 (ap h97 (ap h97 (ap h97 an))))))))))))))))))))))) rfl
              · obtain rfl := some_inj h
                exact run_end cfg_ok (rs := [([], [(1, .call (.tup []) [none, none, none, none, some (.row false 8 (x77.map NovateTrade.cells))])], []), ([(2, true), (5, true), (6, true), (7, true), (10, true), (11, true), (12, true), (15, true), (16, true), (17, true), (20, false), (21, false), (22, false)], [(3, .bool true), (8, .bool true), (13, .bool true), (18, .bool true), (23, .bool false)], [])]) (ps := []) (tds := []) (m := []) (keep := [4]) (r := (.ret, (f9n0E a1 a2 (.ret false)).2)) (by kernel_rfl) (ap (f29r1_ok x17.2.2 h78) (ap h10 (ap h10 (ap h93 (ap h93 (ap h93 (ap h93 (ap h94 (ap h94 (ap h94 (ap h94 (ap h95 (ap h95 (ap h95 (ap h95 (ap h96 (ap h96 (ap h96 (ap h96 an))))))))))))))))))) rfl
            · obtain rfl := some_inj h
              exact run_end cfg_ok (rs := [([], [(1, .call (.tup []) [none, none, none, none, some (.row false 8 (x77.map NovateTrade.cells))])], []), ([(2, true), (5, true), (6, true), (7, true), (10, true), (11, true), (12, true), (15, false), (16, false), (17, false)], [(3, .bool true), (8, .bool true), (13, .bool true), (18, .bool false)], [])]) (ps := []) (tds := []) (m := []) (keep := [4]) (r := (.ret, (f9n0E a1 a2 (.ret false)).2)) (by kernel_rfl) (ap (f29r1_ok x17.2.2 h78) (ap h10 (ap h10 (ap h93 (ap h93 (ap h93 (ap h93 (ap h94 (ap h94 (ap h94 (ap h94 (ap h95 (ap h95 (ap h95 (ap h95 an))))))))))))))) rfl
          · obtain rfl := some_inj h
            exact run_end cfg_ok (rs := [([], [(1, .call (.tup []) [none, none, none, none, some (.row false 8 (x77.map NovateTrade.cells))])], []), ([(2, true), (5, true), (6, true), (7, true), (10, false), (11, false), (12, false)], [(3, .bool true), (8, .bool true), (13, .bool false)], [])]) (ps := []) (tds := []) (m := []) (keep := [4]) (r := (.ret, (f9n0E a1 a2 (.ret false)).2)) (by kernel_rfl) (ap (f29r1_ok x17.2.2 h78) (ap h10 (ap h10 (ap h93 (ap h93 (ap h93 (ap h93 (ap h94 (ap h94 (ap h94 (ap h94 an))))))))))) rfl
        · obtain rfl := some_inj h
          exact run_end cfg_ok (rs := [([], [(1, .call (.tup []) [none, none, none, none, some (.row false 8 (x77.map NovateTrade.cells))])], []), ([(2, true), (5, false), (6, false), (7, false)], [(3, .bool true), (8, .bool false)], [])]) (ps := []) (tds := []) (m := []) (keep := [4]) (r := (.ret, (f9n0E a1 a2 (.ret false)).2)) (by kernel_rfl) (ap (f29r1_ok x17.2.2 h78) (ap h10 (ap h10 (ap h93 (ap h93 (ap h93 (ap h93 an))))))) rfl
    · obtain rfl := some_inj h
      exact runK_end cfg_ok (k := 3) (rs := [([], [], []), ([], [(0, .call (.pl (.bool x5)) [])], []), ([(5, false), (6, false)], [(7, .bool false)], [(2, .val (.pl (.int .i64 (a1.Trades.length : Int))))]), ([], [], [])]) (ps := [some true]) (tds := []) (m := []) (keep := [4]) (ex := .ret) (st' := (f9n0E a1 a2 (.ret x5)).2) (by kernel_rfl) (ap (f11_ok h6) (ap (len_cv (xs := a1.Trades) (c := NovateTrade.cells)) (ap h9 (ap h9 (ap h9 (ap (not_f h10) an)))))) (fun h => nomatch h) rfl
def f9 (a1 : NovateBook) (a2 : Op_) : Option Bool := (f9n0 a1 a2).bind fun o => match o with
  | .ret v107 => some v107
theorem f9_ok (a1 : NovateBook) (a2 : Op_) {r : Bool} (h : (f9 a1 a2) = some r) : CallS Try.prog false 9 [(.pl (.agg (NovateBook.cells a1))), (.pl (.agg (Op_.cells a2)))] [] (.pl (.bool r)) [] := by
  unfold f9 at h
  obtain ⟨o, ho, h⟩ := bind_cases h
  cases o with
  | ret v107 =>
    obtain rfl := some_inj h
    exact CallS.plain cfg_ok (f := Try.f9) (c := c9) (by kernel_rfl) (by kernel_rfl) (by kernel_rfl) (by kernel_rfl) ((f9n0_ok a1 a2 ho).mono fun r e => by subst e; exact ⟨.inl rfl, (.pl (.bool v107)), (.pl (.bool v107)), by kernel_rfl, by kernel_rfl, ((Wk.refl _) : Wk (.pl (.bool v107)) (.pl (.bool v107)))⟩)
end Go.Proofs.Ytkimdlpfbojkgaa
