/- Several texts in one. No condition. -/
import Derived.Test.YtelblamgfbkhbaaA3
namespace Go.Proofs.Ytelblamgfbkhbaa
set_option linter.unusedVariables false
set_option linter.unusedSimpArgs false
set_option maxRecDepth 100000
open Go.RowKit



noncomputable def c18 : Code := Try.f18.body.getD .skip
inductive f18n2O where
  | exit0
  | ret
def f18n2E (ba1 : Variation) (ba2 : Variation) : f18n2O → Ex × Tr × Hp
  | .exit0 => ((.exit 0), mkS [], [])
  | .ret => (.ret, mkS [(4, (.pl (.bool false)))], [])
def f18n2S (ba1 : Variation) (ba2 : Variation) (v32 : Int) : Tr × Hp := (mkS [(2, (.bp 0 0)), (3, (.bp 1 0)), (5, (.pl (.int .i64 v32)))], [some (.box ((Variation.cells ba1).map .pl)), some (.box ((Variation.cells ba2).map .pl))])
noncomputable def f18n2 : Nat → Variation → Variation → Int → Option f18n2O
  | 0, _, _, _ => none
  | f + 1, ba1, ba2, v32 =>
    bif (decide (v32 < (ba1.Positions.length : Int))) then
      (at? ba1.Positions v32).bind fun x40 =>
      (at? ba2.Positions v32).bind fun x42 =>
      bif (VariationPosition.eqb x40 x42) then
        (f18n2 f ba1 ba2 (wr64 (v32 + 1)))
      else
        some .ret
    else
      some .exit0
theorem f18n2_ok : ∀ (f : Nat) (ba1 : Variation) (ba2 : Variation) (v32 : Int) {o : f18n2O}, (f18n2 f ba1 ba2 v32) = some o → TL Try.prog Try.f18.ntmps 0 f (cL (cL (dropC 1 (cL (dropC 2 c18))))) (f18n2S ba1 ba2 v32) (fun r => r = f18n2E ba1 ba2 o)
  | 0, _, _, _, o, h => by rw [f18n2] at h; cases h
  | f + 1, ba1, ba2, v32, o, h => by
    rw [f18n2] at h
    refine TL.body (K := fun s => ∃ v32 : Int, s = (f18n2S ba1 ba2 v32) ∧ (f18n2 f ba1 ba2 v32) = some o) ?_ (by rintro _ ⟨v32, rfl, hk⟩; exact f18n2_ok f _ _ _ hk)
    rcases cond_cases h with ⟨h34, h⟩ | ⟨h34, h⟩
    · obtain ⟨x40, h41, h⟩ := bind_cases h
      obtain ⟨x42, h43, h⟩ := bind_cases h
      rcases cond_cases h with ⟨h44, h⟩ | ⟨h44, h⟩
      · exact run_end cfg_ok (rs := [([], [], [(3, .val (.pl (.int .i64 (ba1.Positions.length : Int))))]), ([], [(3, .idx (Int.toNat v32) (VariationPosition.cells x40)), (8, .idx (Int.toNat v32) (VariationPosition.cells x42)), (10, .bool (VariationPosition.eqb x40 x42))], []), ([], [], [])]) (ps := [some true, some false]) (tds := []) (m := [0, 1]) (keep := [2, 3, 5]) (r := (.norm, (f18n2S ba1 ba2 (wr64 (v32 + 1))))) (by kernel_rfl) (ap (len_cv (xs := ba1.Positions) (c := VariationPosition.cells)) (ap h34 (ap (at_some h41).1 (ap (at_map VariationPosition.cells (at_some h41).2) (ap (at_some h43).1 (ap (at_map VariationPosition.cells (at_some h43).2) (ap (VariationPosition.eqb_ok x40 x42) (ap (not_t h44) an)))))))) (LoopQ.norm ⟨(wr64 (v32 + 1)), rfl, h⟩)
      · obtain rfl := some_inj h
        exact runK_end cfg_ok (k := 2) (rs := [([], [], [(3, .val (.pl (.int .i64 (ba1.Positions.length : Int))))]), ([], [(3, .idx (Int.toNat v32) (VariationPosition.cells x40)), (8, .idx (Int.toNat v32) (VariationPosition.cells x42)), (10, .bool (VariationPosition.eqb x40 x42))], []), ([], [], [])]) (ps := [some true, some true]) (tds := []) (m := []) (keep := [4]) (ex := .ret) (st' := (f18n2E ba1 ba2 .ret).2) (by kernel_rfl) (ap (len_cv (xs := ba1.Positions) (c := VariationPosition.cells)) (ap h34 (ap (at_some h41).1 (ap (at_map VariationPosition.cells (at_some h41).2) (ap (at_some h43).1 (ap (at_map VariationPosition.cells (at_some h43).2) (ap (VariationPosition.eqb_ok x40 x42) (ap (not_f h44) an)))))))) (fun h => nomatch h) (LoopQ.out rfl rfl)
    · obtain rfl := some_inj h
      exact runK_end cfg_ok (k := 1) (rs := [([], [], [(3, .val (.pl (.int .i64 (ba1.Positions.length : Int))))])]) (ps := [some false]) (tds := []) (m := []) (keep := []) (ex := (.exit 0)) (st' := (f18n2E ba1 ba2 .exit0).2) (by kernel_rfl) (ap (len_cv (xs := ba1.Positions) (c := VariationPosition.cells)) (ap h34 an)) (fun h => nomatch h) (LoopQ.out rfl rfl)
noncomputable def f18n2L (ba1 : Variation) (ba2 : Variation) : List VariationPosition → Int → Option f18n2O
  | [], v32 =>
    some .exit0
  | x0 :: rest, v32 =>
    (at? ba2.Positions v32).bind fun x42 =>
    bif (VariationPosition.eqb x0 x42) then
      (f18n2L ba1 ba2 rest (v32 + 1))
    else
      some .ret
theorem f18n2L_eq (ba1 : Variation) (ba2 : Variation) : ∀ (rest : List VariationPosition) (f k : Nat), ba1.Positions.drop k = rest → ba1.Positions.length ≤ maxLen → rest.length < f → f18n2 f ba1 ba2 (k : Int) = f18n2L ba1 ba2 rest (k : Int)
  | _, 0, _, _, _, hf => absurd hf (Nat.not_lt_zero _)
  | [], f + 1, k, hd, hm, hf => by
    have hk : ¬ ((k : Int) < (ba1.Positions.length : Int)) := by have := drop_nil hd; omega
    rw [f18n2, f18n2L]
    simp only [decide_eq_false hk, cond_false]
  | x0 :: rest, f + 1, k, hd, hm, hf => by
    obtain ⟨hx, hlt, hd'⟩ := drop_cons hd
    have hk : (k : Int) < (ba1.Positions.length : Int) := by omega
    have hw : wr64 ((k : Int) + 1) = (k : Int) + 1 := wr64_of (by omega) (by unfold maxLen at hm; omega)
    have ih : f18n2 f ba1 ba2 ((k : Int) + 1) = f18n2L ba1 ba2 rest ((k : Int) + 1) := f18n2L_eq ba1 ba2 rest f (k + 1) hd' hm (by simpa using hf)
    rw [f18n2, f18n2L]
    simp only [decide_eq_true hk, cond_true, at_nat, hx, Option.bind_some, hw, ih]
theorem f18n2_run (ba1 : Variation) (ba2 : Variation) (hm : ba1.Positions.length ≤ maxLen) : f18n2 FUEL ba1 ba2 0 = f18n2L ba1 ba2 ba1.Positions 0 := f18n2L_eq ba1 ba2 ba1.Positions FUEL 0 List.drop_zero hm (lt_FUEL hm)
inductive f18n1O where
  | norm
  | ret
def f18n1E (ba1 : Variation) (ba2 : Variation) : f18n1O → Ex × Tr × Hp
  | .norm => (.norm, mkS [], [])
  | .ret => (.ret, mkS [(4, (.pl (.bool false)))], [])
def f18n1S (ba1 : Variation) (ba2 : Variation) : Tr × Hp := (mkS [(2, (.bp 0 0)), (3, (.bp 1 0))], [some (.box ((Variation.cells ba1).map .pl)), some (.box ((Variation.cells ba2).map .pl))])
noncomputable def f18n1 (ba1 : Variation) (ba2 : Variation) : Option f18n1O :=
  (f18n2 FUEL ba1 ba2 0).bind fun o45 => match o45 with
  | .exit0 => some .norm
  | .ret => some .ret
theorem f18n1_ok (ba1 : Variation) (ba2 : Variation) {o : f18n1O} (h : (f18n1 ba1 ba2) = some o) : T Try.prog Try.f18.ntmps 0 (cL (dropC 2 c18)) (f18n1S ba1 ba2) (fun r => r = f18n1E ba1 ba2 o) := by
  unfold f18n1 at h
  refine runK_norm cfg_ok (k := 1) (rs := [([], [], [])]) (ps := []) (tds := []) (m := [0, 1]) (keep := [2, 3, 5]) (st' := (f18n2S ba1 ba2 0)) (by kernel_rfl) an ?_
  obtain ⟨o45, h46, h⟩ := bind_cases h
  cases o45 with
  | exit0 =>
    obtain rfl := some_inj h
    exact T.last' (T.bl (i := 0) (by kernel_rfl) (by kernel_rfl) (f18n2_ok FUEL ba1 ba2 0 h46)) (tds := []) (m := []) (keep := []) (st2 := (f18n1E ba1 ba2 .norm).2) (by kernel_rfl) an rfl
  | ret =>
    obtain rfl := some_inj h
    exact T.last' (T.bl (i := 0) (by kernel_rfl) (by kernel_rfl) (f18n2_ok FUEL ba1 ba2 0 h46)) (tds := []) (m := []) (keep := [4]) (st2 := (f18n1E ba1 ba2 .ret).2) (by kernel_rfl) an rfl
inductive f18n0O where
  | ret (v49 : Bool)
def f18n0E (a1 : Variation) (a2 : Variation) : f18n0O → Ex × Tr × Hp
  | .ret v49 => (.ret, mkS [(4, (.pl (.bool v49)))], [])
def f18n0S (a1 : Variation) (a2 : Variation) : Tr × Hp := (initS [(.pl (.agg (Variation.cells a1))), (.pl (.agg (Variation.cells a2)))] 0 .leaf, [])
noncomputable def f18n0 (a1 : Variation) (a2 : Variation) : Option f18n0O :=
  bif (decide (a1.Day = a2.Day)) then
    bif (decide ((a1.Positions.length : Int) = (a2.Positions.length : Int))) then
      (f18n1 a1 a2).bind fun o47 => match o47 with
      | .norm => some (.ret true)
      | .ret => some (.ret false)
    else
      some (.ret false)
  else
    some (.ret false)
theorem f18n0_ok (a1 : Variation) (a2 : Variation) {o : f18n0O} (h : (f18n0 a1 a2) = some o) : T Try.prog Try.f18.ntmps 0 c18 (f18n0S a1 a2) (fun r => r = f18n0E a1 a2 o) := by
  unfold f18n0 at h
  rcases cond_cases h with ⟨h5, h⟩ | ⟨h5, h⟩
  · rcases cond_cases h with ⟨h6, h⟩ | ⟨h6, h⟩
    · refine runK_norm cfg_ok (k := 2) (rs := [([], [], []), ([(6, false), (7, false), (8, false), (9, false), (10, false), (11, false), (12, false)], [(13, .bool false)], [(8, .val (.pl (.int .i64 (a1.Positions.length : Int)))), (11, .val (.pl (.int .i64 (a2.Positions.length : Int))))])]) (ps := [some false]) (tds := []) (m := [0, 1]) (keep := [2, 3]) (st' := (f18n1S a1 a2)) (by kernel_rfl) (ap (not_t h5) (ap (not_t h5) (ap (not_t h5) (ap (len_cv (xs := a1.Positions) (c := VariationPosition.cells)) (ap (not_t h5) (ap (not_t h5) (ap (not_t h5) (ap (len_cv (xs := a2.Positions) (c := VariationPosition.cells)) (ap (not_t h5) (ap (not_t h5) (ap (not_t h6) an))))))))))) ?_
      obtain ⟨o47, h48, h⟩ := bind_cases h
      cases o47 with
      | norm =>
        refine T.oneN (by kernel_rfl) (f18n1_ok a1 a2 h48) (st2 := (f18n1E a1 a2 .norm).2) rfl ?_
        obtain rfl := some_inj h
        exact run_end cfg_ok (rs := [([], [], [])]) (ps := []) (tds := []) (m := []) (keep := [4]) (r := (.ret, (f18n0E a1 a2 (.ret true)).2)) (by kernel_rfl) an rfl
      | ret =>
        obtain rfl := some_inj h
        exact T.oneX' (by kernel_rfl) (f18n1_ok a1 a2 h48) (tds := []) (m := []) (keep := [4]) (st2 := (f18n0E a1 a2 (.ret false)).2) (by kernel_rfl) an rfl rfl
    · obtain rfl := some_inj h
      exact runK_end cfg_ok (k := 2) (rs := [([], [], []), ([(6, false), (7, false), (8, false), (9, false), (10, false), (11, false), (12, false)], [(13, .bool false)], [(8, .val (.pl (.int .i64 (a1.Positions.length : Int)))), (11, .val (.pl (.int .i64 (a2.Positions.length : Int))))]), ([], [], [])]) (ps := [some true]) (tds := []) (m := []) (keep := [4]) (ex := .ret) (st' := (f18n0E a1 a2 (.ret false)).2) (by kernel_rfl) (ap (not_t h5) (ap (not_t h5) (ap (not_t h5) (ap (len_cv (xs := a1.Positions) (c := VariationPosition.cells)) (ap (not_t h5) (ap (not_t h5) (ap (not_t h5) (ap (len_cv (xs := a2.Positions) (c := VariationPosition.cells)) (ap (not_t h5) (ap (not_t h5) (ap (not_f h6) an))))))))))) (fun h => nomatch h) rfl
  · obtain rfl := some_inj h
    exact runK_end cfg_ok (k := 2) (rs := [([], [], []), ([(6, true), (7, true), (8, true), (9, true), (10, true), (11, true), (12, true)], [(13, .bool true)], []), ([], [], [])]) (ps := [none]) (tds := []) (m := []) (keep := [4]) (ex := .ret) (st' := (f18n0E a1 a2 (.ret false)).2) (by kernel_rfl) (ap (not_f h5) (ap (not_f h5) (ap (not_f h5) (ap (not_f h5) (ap (not_f h5) (ap (not_f h5) (ap (not_f h5) (ap (not_f h5) an)))))))) (fun h => nomatch h) rfl
noncomputable def f18 (a1 : Variation) (a2 : Variation) : Option Bool := (f18n0 a1 a2).bind fun o => match o with
  | .ret v49 => some v49
theorem f18_ok (a1 : Variation) (a2 : Variation) {r : Bool} (h : (f18 a1 a2) = some r) : CallS Try.prog false 18 [(.pl (.agg (Variation.cells a1))), (.pl (.agg (Variation.cells a2)))] [] (.pl (.bool r)) [] := by
  unfold f18 at h
  obtain ⟨o, ho, h⟩ := bind_cases h
  cases o with
  | ret v49 =>
    obtain rfl := some_inj h
    exact CallS.plain cfg_ok (f := Try.f18) (c := c18) (by kernel_rfl) (by kernel_rfl) (by kernel_rfl) (by kernel_rfl) ((f18n0_ok a1 a2 ho).mono fun r e => by subst e; exact ⟨.inl rfl, (.pl (.bool v49)), (.pl (.bool v49)), by kernel_rfl, by kernel_rfl, ((Wk.refl _) : Wk (.pl (.bool v49)) (.pl (.bool v49)))⟩)


end Go.Proofs.Ytelblamgfbkhbaa
namespace Go.Proofs.Ytelblamgfbkhbaa
set_option linter.unusedVariables false
set_option linter.unusedSimpArgs false
set_option maxRecDepth 100000
open Go.RowKit
noncomputable def c3 : Code := Try.f3.body.getD .skip

noncomputable def c20 : Code := Try.f20.body.getD .skip
inductive f20r1n0O where
  | ret (v6 : List VariationPosition)
def f20r1n0E (a1 : Variation) : f20r1n0O → Ex × Tr × Hp
  | .ret v6 => (.ret, mkS [(2, (.bp 0 0))], [some (.box [(.pl (.int .i64 a1.Day)), (.own 1)]), some (.row false 4 (v6.map VariationPosition.cells))])
def f20r1n0S (a1 : Variation) : Tr × Hp := (initS [(.pl (.agg (Variation.cells a1)))] 0 .leaf, [])
noncomputable def f20r1n0 (a1 : Variation) : Option f20r1n0O :=
  bif (a1.Positions.isEmpty) then
    some (.ret [])
  else
    req (fit a1.Positions.length 48) <|
    some (.ret a1.Positions)
theorem f20r1n0_ok (a1 : Variation) {o : f20r1n0O} (h : (f20r1n0 a1) = some o) : T Try.prog Try.f20.ntmps 0 c20 (f20r1n0S a1) (fun r => r = f20r1n0E a1 o) := by
  unfold f20r1n0 at h
  rcases cond_cases h with ⟨h4, h⟩ | ⟨h4, h⟩
  · obtain rfl := some_inj h
    exact run_end cfg_ok (rs := [([], [], []), ([], [(3, .app false)], []), ([], [], [])]) (ps := []) (tds := []) (m := [1, 2]) (keep := [2]) (r := (.ret, (f20r1n0E a1 (.ret [])).2)) (by kernel_rfl) (ap (nil_map (c := VariationPosition.cells) h4) an) rfl
  · obtain ⟨h5, h⟩ := req_cases h
    obtain rfl := some_inj h
    exact run_end cfg_ok (rs := [([], [], []), ([], [(3, .app true)], []), ([], [], [])]) (ps := []) (tds := []) (m := [1, 3]) (keep := [2]) (r := (.ret, (f20r1n0E a1 (.ret a1.Positions)).2)) (by kernel_rfl) (ap (fit_map0z (te := ti52) (xs := a1.Positions) (c := VariationPosition.cells) h5 rfl) (ap (ne_map (c := VariationPosition.cells) h4) (ap (len_all (c := VariationPosition.cells) (xs := a1.Positions) (n := 4) (fun _ => rfl)) an))) rfl
noncomputable def f20r1 (a1 : Variation) : Option (List VariationPosition) := (f20r1n0 a1).bind fun o => match o with
  | .ret v6 => some v6
theorem f20r1_ok (a1 : Variation) {r : List VariationPosition} (h : (f20r1 a1) = some r) : CallS Try.prog true 20 [(.pl (.agg (Variation.cells a1)))] [] (.agg [(.pl (.int .i64 a1.Day)), (.own 1)]) [some (.box [(.pl (.int .i64 a1.Day)), (.own 1)]), some (.row false 4 (r.map VariationPosition.cells))] := by
  unfold f20r1 at h
  obtain ⟨o, ho, h⟩ := bind_cases h
  cases o with
  | ret v6 =>
    obtain rfl := some_inj h
    exact CallS.shared cfg_ok (f := Try.f20) (c := c20) (by kernel_rfl) (by kernel_rfl) (by kernel_rfl) ((f20r1n0_ok a1 ho).mono fun r e => by subst e; exact ⟨.inl rfl, by kernel_rfl, by kernel_rfl⟩)



end Go.Proofs.Ytelblamgfbkhbaa
namespace Go.Proofs.Ytelblamgfbkhbaa
set_option linter.unusedVariables false
set_option linter.unusedSimpArgs false
set_option maxRecDepth 100000
open Go.RowKit
noncomputable def c52 : Code := Try.f52.body.getD .skip
inductive f52r1n0O where
  | ret (v6 : Bool)
def f52r1n0E (a1 : VariationPosition) (a2 : ByteArray) (a3 : ByteArray) : f52r1n0O → Ex × Tr × Hp
  | .ret v6 => (.ret, mkS [(4, (.pl (.bool v6)))], [some (.box ((cStr a2).map .pl)), some (.box ((cStr a3).map .pl))])
def f52r1n0S (a1 : VariationPosition) (a2 : ByteArray) (a3 : ByteArray) : Tr × Hp := (initS [(.pl (.agg (VariationPosition.cells a1))), (.bp 0 0), (.bp 1 0)] 0 .leaf, [some (.box ((cStr a2).map .pl)), some (.box ((cStr a3).map .pl))])
noncomputable def f52r1n0 (a1 : VariationPosition) (a2 : ByteArray) (a3 : ByteArray) : Option f52r1n0O :=
  bif (seq a1.Member a2) then
    some (.ret (seq a1.Product a3))
  else
    some (.ret false)
theorem f52r1n0_ok (a1 : VariationPosition) (a2 : ByteArray) (a3 : ByteArray) {o : f52r1n0O} (h : (f52r1n0 a1 a2 a3) = some o) : T Try.prog Try.f52.ntmps 2 c52 (f52r1n0S a1 a2 a3) (fun r => r = f52r1n0E a1 a2 a3 o) := by
  unfold f52r1n0 at h
  rcases cond_cases h with ⟨h5, h⟩ | ⟨h5, h⟩
  · obtain rfl := some_inj h
    exact run_end cfg_ok (rs := [([], [], []), ([(5, true), (6, true), (7, true), (8, true)], [(9, .bool true)], [])]) (ps := []) (tds := []) (m := []) (keep := [4]) (r := (.ret, (f52r1n0E a1 a2 a3 (.ret (seq a1.Product a3))).2)) (by kernel_rfl) (ap h5 (ap h5 (ap h5 (ap h5 (ap h5 an))))) rfl
  · obtain rfl := some_inj h
    exact run_end cfg_ok (rs := [([], [], []), ([(5, false), (6, false), (7, false), (8, false)], [(9, .bool false)], [])]) (ps := []) (tds := []) (m := []) (keep := [4]) (r := (.ret, (f52r1n0E a1 a2 a3 (.ret false)).2)) (by kernel_rfl) (ap h5 (ap h5 (ap h5 (ap h5 (ap h5 an))))) rfl
noncomputable def f52r1 (a1 : VariationPosition) (a2 : ByteArray) (a3 : ByteArray) : Option Bool := (f52r1n0 a1 a2 a3).bind fun o => match o with
  | .ret v6 => some v6
theorem f52r1_ok (a1 : VariationPosition) (a2 : ByteArray) (a3 : ByteArray) {r : Bool} (h : (f52r1 a1 a2 a3) = some r) : CallS Try.prog true 52 [(.pl (.agg (VariationPosition.cells a1))), (.bp 0 0), (.bp 1 0)] [some (.box ((cStr a2).map .pl)), some (.box ((cStr a3).map .pl))] (.pl (.bool r)) [some (.box ((cStr a2).map .pl)), some (.box ((cStr a3).map .pl))] := by
  unfold f52r1 at h
  obtain ⟨o, ho, h⟩ := bind_cases h
  cases o with
  | ret v6 =>
    obtain rfl := some_inj h
    exact CallS.shared cfg_ok (f := Try.f52) (c := c52) (by kernel_rfl) (by kernel_rfl) (by kernel_rfl) ((f52r1n0_ok a1 a2 a3 ho).mono fun r e => by subst e; exact ⟨.inl rfl, by kernel_rfl, by kernel_rfl⟩)

noncomputable def c51 : Code := Try.f51.body.getD .skip
inductive f51r1n2O where
  | exit0
  | ret (v42 : Int)
def f51r1n2E (bg1 : List VariationPosition) (bb2 : ByteArray) (bb3 : ByteArray) : f51r1n2O → Ex × Tr × Hp
  | .exit0 => ((.exit 0), mkS [], [some (.box ((cStr bb2).map .pl)), some (.box ((cStr bb3).map .pl))])
  | .ret v42 => (.ret, mkS [(4, (.pl (.int .i64 v42)))], [some (.box ((cStr bb2).map .pl)), some (.box ((cStr bb3).map .pl))])
def f51r1n2S (bg1 : List VariationPosition) (bb2 : ByteArray) (bb3 : ByteArray) (v29 : Int) : Tr × Hp := (mkS [(0, (.pl (.sl .any 4 (bg1.map VariationPosition.cells)))), (1, (.clo 52 [(.bp 0 0), (.bp 1 0)])), (7, (.pl (.int .i64 (bg1.length : Int)))), (8, (.pl (.int .i64 v29)))], [some (.box ((cStr bb2).map .pl)), some (.box ((cStr bb3).map .pl))])
noncomputable def f51r1n2 : Nat → List VariationPosition → ByteArray → ByteArray → Int → Option f51r1n2O
  | 0, _, _, _, _ => none
  | f + 1, bg1, bb2, bb3, v29 =>
    bif (decide (v29 < (bg1.length : Int))) then
      (at? bg1 v29).bind fun x37 =>
      (f52r1 x37 bb2 bb3).bind fun x39 =>
      bif x39 then
        some (.ret v29)
      else
        (f51r1n2 f bg1 bb2 bb3 (wr64 (v29 + 1)))
    else
      some .exit0
theorem f51r1n2_ok : ∀ (f : Nat) (bg1 : List VariationPosition) (bb2 : ByteArray) (bb3 : ByteArray) (v29 : Int) {o : f51r1n2O}, (f51r1n2 f bg1 bb2 bb3 v29) = some o → TL Try.prog Try.f51.ntmps 2 f (cL (cL (dropC 1 (cL (dropC 1 c51))))) (f51r1n2S bg1 bb2 bb3 v29) (fun r => r = f51r1n2E bg1 bb2 bb3 o)
  | 0, _, _, _, _, o, h => by rw [f51r1n2] at h; cases h
  | f + 1, bg1, bb2, bb3, v29, o, h => by
    rw [f51r1n2] at h
    refine TL.body (K := fun s => ∃ v29 : Int, s = (f51r1n2S bg1 bb2 bb3 v29) ∧ (f51r1n2 f bg1 bb2 bb3 v29) = some o) ?_ (by rintro _ ⟨v29, rfl, hk⟩; exact f51r1n2_ok f _ _ _ _ hk)
    rcases cond_cases h with ⟨h31, h⟩ | ⟨h31, h⟩
    · obtain ⟨x37, h38, h⟩ := bind_cases h
      obtain ⟨x39, h40, h⟩ := bind_cases h
      rcases cond_cases h with ⟨h41, h⟩ | ⟨h41, h⟩
      · obtain rfl := some_inj h
        exact runK_end cfg_ok (k := 3) (rs := [([], [], []), ([], [], []), ([], [(3, .idx (Int.toNat v29) (VariationPosition.cells x37)), (5, .call (.pl (.bool x39)) [some (.box ((cStr bb2).map .pl)), some (.box ((cStr bb3).map .pl))])], []), ([], [], [])]) (ps := [some true, some true]) (tds := []) (m := []) (keep := [4]) (ex := .ret) (st' := (f51r1n2E bg1 bb2 bb3 (.ret v29)).2) (by kernel_rfl) (ap h31 (ap (at_some h38).1 (ap (at_map VariationPosition.cells (at_some h38).2) (ap (f52r1_ok x37 bb2 bb3 h40) (ap h41 an))))) (fun h => nomatch h) (LoopQ.out rfl rfl)
      · exact run_end cfg_ok (rs := [([], [], []), ([], [], []), ([], [(3, .idx (Int.toNat v29) (VariationPosition.cells x37)), (5, .call (.pl (.bool x39)) [some (.box ((cStr bb2).map .pl)), some (.box ((cStr bb3).map .pl))])], []), ([], [], [])]) (ps := [some true, some false]) (tds := []) (m := []) (keep := [0, 1, 7, 8]) (r := (.norm, (f51r1n2S bg1 bb2 bb3 (wr64 (v29 + 1))))) (by kernel_rfl) (ap h31 (ap (at_some h38).1 (ap (at_map VariationPosition.cells (at_some h38).2) (ap (f52r1_ok x37 bb2 bb3 h40) (ap h41 an))))) (LoopQ.norm ⟨(wr64 (v29 + 1)), rfl, h⟩)
    · obtain rfl := some_inj h
      exact runK_end cfg_ok (k := 2) (rs := [([], [], [])]) (ps := [some false]) (tds := []) (m := []) (keep := []) (ex := (.exit 0)) (st' := (f51r1n2E bg1 bb2 bb3 .exit0).2) (by kernel_rfl) (ap h31 an) (fun h => nomatch h) (LoopQ.out rfl rfl)
noncomputable def f51r1n2L (bg1 : List VariationPosition) (bb2 : ByteArray) (bb3 : ByteArray) : List VariationPosition → Int → Option f51r1n2O
  | [], v29 =>
    some .exit0
  | x0 :: rest, v29 =>
    (f52r1 x0 bb2 bb3).bind fun x39 =>
    bif x39 then
      some (.ret v29)
    else
      (f51r1n2L bg1 bb2 bb3 rest (v29 + 1))
theorem f51r1n2L_eq (bg1 : List VariationPosition) (bb2 : ByteArray) (bb3 : ByteArray) : ∀ (rest : List VariationPosition) (f k : Nat), bg1.drop k = rest → bg1.length ≤ maxLen → rest.length < f → f51r1n2 f bg1 bb2 bb3 (k : Int) = f51r1n2L bg1 bb2 bb3 rest (k : Int)
  | _, 0, _, _, _, hf => absurd hf (Nat.not_lt_zero _)
  | [], f + 1, k, hd, hm, hf => by
    have hk : ¬ ((k : Int) < (bg1.length : Int)) := by have := drop_nil hd; omega
    rw [f51r1n2, f51r1n2L]
    simp only [decide_eq_false hk, cond_false]
  | x0 :: rest, f + 1, k, hd, hm, hf => by
    obtain ⟨hx, hlt, hd'⟩ := drop_cons hd
    have hk : (k : Int) < (bg1.length : Int) := by omega
    have hw : wr64 ((k : Int) + 1) = (k : Int) + 1 := wr64_of (by omega) (by unfold maxLen at hm; omega)
    have ih : f51r1n2 f bg1 bb2 bb3 ((k : Int) + 1) = f51r1n2L bg1 bb2 bb3 rest ((k : Int) + 1) := f51r1n2L_eq bg1 bb2 bb3 rest f (k + 1) hd' hm (by simpa using hf)
    rw [f51r1n2, f51r1n2L]
    simp only [decide_eq_true hk, cond_true, at_nat, hx, Option.bind_some, hw, ih]
theorem f51r1n2_run (bg1 : List VariationPosition) (bb2 : ByteArray) (bb3 : ByteArray) (hm : bg1.length ≤ maxLen) : f51r1n2 FUEL bg1 bb2 bb3 0 = f51r1n2L bg1 bb2 bb3 bg1 0 := f51r1n2L_eq bg1 bb2 bb3 bg1 FUEL 0 List.drop_zero hm (lt_FUEL hm)
inductive f51r1n1O where
  | norm
  | ret (v46 : Int)
def f51r1n1E (bg1 : List VariationPosition) (bb2 : ByteArray) (bb3 : ByteArray) : f51r1n1O → Ex × Tr × Hp
  | .norm => (.norm, mkS [], [some (.box ((cStr bb2).map .pl)), some (.box ((cStr bb3).map .pl))])
  | .ret v46 => (.ret, mkS [(4, (.pl (.int .i64 v46)))], [some (.box ((cStr bb2).map .pl)), some (.box ((cStr bb3).map .pl))])
def f51r1n1S (bg1 : List VariationPosition) (bb2 : ByteArray) (bb3 : ByteArray) : Tr × Hp := (mkS [(0, (.pl (.sl .any 4 (bg1.map VariationPosition.cells)))), (1, (.clo 52 [(.bp 0 0), (.bp 1 0)]))], [some (.box ((cStr bb2).map .pl)), some (.box ((cStr bb3).map .pl))])
noncomputable def f51r1n1 (bg1 : List VariationPosition) (bb2 : ByteArray) (bb3 : ByteArray) : Option f51r1n1O :=
  (f51r1n2 FUEL bg1 bb2 bb3 0).bind fun o43 => match o43 with
  | .exit0 => some .norm
  | .ret v45 => some (.ret v45)
theorem f51r1n1_ok (bg1 : List VariationPosition) (bb2 : ByteArray) (bb3 : ByteArray) {o : f51r1n1O} (h : (f51r1n1 bg1 bb2 bb3) = some o) : T Try.prog Try.f51.ntmps 2 (cL (dropC 1 c51)) (f51r1n1S bg1 bb2 bb3) (fun r => r = f51r1n1E bg1 bb2 bb3 o) := by
  unfold f51r1n1 at h
  refine runK_norm cfg_ok (k := 1) (rs := [([], [], [(1, .val (.pl (.int .i64 (bg1.length : Int))))])]) (ps := []) (tds := []) (m := []) (keep := [0, 1, 7, 8]) (st' := (f51r1n2S bg1 bb2 bb3 0)) (by kernel_rfl) (ap (len_cv (xs := bg1) (c := VariationPosition.cells)) an) ?_
  obtain ⟨o43, h44, h⟩ := bind_cases h
  cases o43 with
  | exit0 =>
    obtain rfl := some_inj h
    exact T.last' (T.bl (i := 0) (by kernel_rfl) (by kernel_rfl) (f51r1n2_ok FUEL bg1 bb2 bb3 0 h44)) (tds := []) (m := []) (keep := []) (st2 := (f51r1n1E bg1 bb2 bb3 .norm).2) (by kernel_rfl) an rfl
  | ret v45 =>
    obtain rfl := some_inj h
    exact T.last' (T.bl (i := 0) (by kernel_rfl) (by kernel_rfl) (f51r1n2_ok FUEL bg1 bb2 bb3 0 h44)) (tds := []) (m := []) (keep := [4]) (st2 := (f51r1n1E bg1 bb2 bb3 (.ret v45)).2) (by kernel_rfl) an rfl
inductive f51r1n0O where
  | ret (v50 : Int)
def f51r1n0E (a1 : List VariationPosition) (a2 : ByteArray) (a3 : ByteArray) : f51r1n0O → Ex × Tr × Hp
  | .ret v50 => (.ret, mkS [(4, (.pl (.int .i64 v50)))], [some (.box ((cStr a2).map .pl)), some (.box ((cStr a3).map .pl))])
def f51r1n0S (a1 : List VariationPosition) (a2 : ByteArray) (a3 : ByteArray) : Tr × Hp := (initS [(.pl (.sl .any 4 (a1.map VariationPosition.cells))), (.clo 52 [(.bp 0 0), (.bp 1 0)])] 0 .leaf, [some (.box ((cStr a2).map .pl)), some (.box ((cStr a3).map .pl))])
noncomputable def f51r1n0 (a1 : List VariationPosition) (a2 : ByteArray) (a3 : ByteArray) : Option f51r1n0O :=
  (f51r1n1 a1 a2 a3).bind fun o47 => match o47 with
  | .norm => some (.ret (-1))
  | .ret v49 => some (.ret v49)
theorem f51r1n0_ok (a1 : List VariationPosition) (a2 : ByteArray) (a3 : ByteArray) {o : f51r1n0O} (h : (f51r1n0 a1 a2 a3) = some o) : T Try.prog Try.f51.ntmps 2 c51 (f51r1n0S a1 a2 a3) (fun r => r = f51r1n0E a1 a2 a3 o) := by
  unfold f51r1n0 at h
  refine runK_norm cfg_ok (k := 1) (rs := [([], [], [])]) (ps := []) (tds := []) (m := []) (keep := [0, 1]) (st' := (f51r1n1S a1 a2 a3)) (by kernel_rfl) an ?_
  obtain ⟨o47, h48, h⟩ := bind_cases h
  cases o47 with
  | norm =>
    refine T.oneN (by kernel_rfl) (f51r1n1_ok a1 a2 a3 h48) (st2 := (f51r1n1E a1 a2 a3 .norm).2) rfl ?_
    obtain rfl := some_inj h
    exact run_end cfg_ok (rs := [([], [], [])]) (ps := []) (tds := []) (m := []) (keep := [4]) (r := (.ret, (f51r1n0E a1 a2 a3 (.ret (-1))).2)) (by kernel_rfl) an rfl
  | ret v49 =>
    obtain rfl := some_inj h
    exact T.oneX' (by kernel_rfl) (f51r1n1_ok a1 a2 a3 h48) (tds := []) (m := []) (keep := [4]) (st2 := (f51r1n0E a1 a2 a3 (.ret v49)).2) (by kernel_rfl) an rfl rfl
noncomputable def f51r1 (a1 : List VariationPosition) (a2 : ByteArray) (a3 : ByteArray) : Option Int := (f51r1n0 a1 a2 a3).bind fun o => match o with
  | .ret v50 => some v50
theorem f51r1_ok (a1 : List VariationPosition) (a2 : ByteArray) (a3 : ByteArray) {r : Int} (h : (f51r1 a1 a2 a3) = some r) : CallS Try.prog true 51 [(.pl (.sl .any 4 (a1.map VariationPosition.cells))), (.clo 52 [(.bp 0 0), (.bp 1 0)])] [some (.box ((cStr a2).map .pl)), some (.box ((cStr a3).map .pl))] (.pl (.int .i64 r)) [some (.box ((cStr a2).map .pl)), some (.box ((cStr a3).map .pl))] := by
  unfold f51r1 at h
  obtain ⟨o, ho, h⟩ := bind_cases h
  cases o with
  | ret v50 =>
    obtain rfl := some_inj h
    exact CallS.shared cfg_ok (f := Try.f51) (c := c51) (by kernel_rfl) (by kernel_rfl) (by kernel_rfl) ((f51r1n0_ok a1 a2 a3 ho).mono fun r e => by subst e; exact ⟨.inl rfl, by kernel_rfl, by kernel_rfl⟩)

noncomputable def c22 : Code := Try.f22.body.getD .skip
inductive f22n0O where
  | ret (v14 : Bool) (v15 : VariationPosition)
def f22n0E (a1 : Variation) (a2 : ByteArray) (a3 : ByteArray) : f22n0O → Ex × Tr × Hp
  | .ret v14 v15 => (.ret, mkS [(6, (.bp 0 0)), (7, (.pl (.bool v14)))], [some (.box ((VariationPosition.cells v15).map .pl))])
def f22n0S (a1 : Variation) (a2 : ByteArray) (a3 : ByteArray) : Tr × Hp := (initS [(.pl (.agg (Variation.cells a1))), (.pl (.str a2)), (.pl (.str a3))] 0 .leaf, [])
noncomputable def f22n0 (a1 : Variation) (a2 : ByteArray) (a3 : ByteArray) : Option f22n0O :=
  (f51r1 a1.Positions a2 a3).bind fun x6 =>
  bif (decide (x6 < 0)) then
    some (.ret false (VariationPosition.mk str_x str_x 0 0))
  else
    (at? a1.Positions x6).bind fun x12 =>
    some (.ret true x12)
theorem f22n0_ok (a1 : Variation) (a2 : ByteArray) (a3 : ByteArray) {o : f22n0O} (h : (f22n0 a1 a2 a3) = some o) : T Try.prog Try.f22.ntmps 0 c22 (f22n0S a1 a2 a3) (fun r => r = f22n0E a1 a2 a3 o) := by
  unfold f22n0 at h
  obtain ⟨x6, h7, h⟩ := bind_cases h
  rcases cond_cases h with ⟨h9, h⟩ | ⟨h9, h⟩
  · obtain rfl := some_inj h
    exact runK_end cfg_ok (k := 3) (rs := [([], [], []), ([], [(3, .call (.pl (.int .i64 x6)) [none, some (.box ((cStr a2).map .pl)), some (.box ((cStr a3).map .pl)), none])], []), ([], [], []), ([], [], [])]) (ps := [some true]) (tds := []) (m := [3]) (keep := [6, 7]) (ex := .ret) (st' := (f22n0E a1 a2 a3 (.ret false (VariationPosition.mk str_x str_x 0 0))).2) (by kernel_rfl) (ap (CallS.ren (args' := [(.pl (.sl .any 4 (a1.Positions.map VariationPosition.cells))), (.clo 52 [(.bp 1 0), (.bp 2 0)])]) (v' := (.pl (.int .i64 x6))) (B := [none, some (.box ((cStr a2).map .pl)), some (.box ((cStr a3).map .pl)), none]) (B' := [none, some (.box ((cStr a2).map .pl)), some (.box ((cStr a3).map .pl)), none]) 4 [1, 2] (f51r1_ok a1.Positions a2 a3 h7) (by kernel_rfl) (by kernel_rfl) (by kernel_rfl) (by kernel_rfl) (by kernel_rfl) (by kernel_rfl)) (ap h9 an)) (fun h => nomatch h) rfl
  · obtain ⟨x12, h13, h⟩ := bind_cases h
    obtain rfl := some_inj h
    exact run_end cfg_ok (rs := [([], [], []), ([], [(3, .call (.pl (.int .i64 x6)) [none, some (.box ((cStr a2).map .pl)), some (.box ((cStr a3).map .pl)), none])], []), ([], [], []), ([], [(3, .idx (Int.toNat x6) (VariationPosition.cells x12))], [])]) (ps := [some false]) (tds := []) (m := [3]) (keep := [6, 7]) (r := (.ret, (f22n0E a1 a2 a3 (.ret true x12)).2)) (by kernel_rfl) (ap (CallS.ren (args' := [(.pl (.sl .any 4 (a1.Positions.map VariationPosition.cells))), (.clo 52 [(.bp 1 0), (.bp 2 0)])]) (v' := (.pl (.int .i64 x6))) (B := [none, some (.box ((cStr a2).map .pl)), some (.box ((cStr a3).map .pl)), none]) (B' := [none, some (.box ((cStr a2).map .pl)), some (.box ((cStr a3).map .pl)), none]) 4 [1, 2] (f51r1_ok a1.Positions a2 a3 h7) (by kernel_rfl) (by kernel_rfl) (by kernel_rfl) (by kernel_rfl) (by kernel_rfl) (by kernel_rfl)) (ap h9 (ap (at_some h13).1 (ap (at_map VariationPosition.cells (at_some h13).2) an)))) rfl
noncomputable def f22 (a1 : Variation) (a2 : ByteArray) (a3 : ByteArray) : Option (VariationPosition × Bool) := (f22n0 a1 a2 a3).bind fun o => match o with
  | .ret v14 v15 => some (v15, v14)
theorem f22_ok (a1 : Variation) (a2 : ByteArray) (a3 : ByteArray) {r : VariationPosition × Bool} (h : (f22 a1 a2 a3) = some r) : CallS Try.prog false 22 [(.pl (.agg (Variation.cells a1))), (.pl (.str a2)), (.pl (.str a3))] [] (.tup [(.pl (.agg (VariationPosition.cells r.1))), (.pl (.bool r.2))]) [] := by
  unfold f22 at h
  obtain ⟨o, ho, h⟩ := bind_cases h
  cases o with
  | ret v14 v15 =>
    obtain rfl := some_inj h
    exact CallS.plain cfg_ok (f := Try.f22) (c := c22) (by kernel_rfl) (by kernel_rfl) (by kernel_rfl) (by kernel_rfl) ((f22n0_ok a1 a2 a3 ho).mono fun r e => by subst e; exact ⟨.inl rfl, (.tup [(.pl (.agg (VariationPosition.cells v15))), (.pl (.bool v14))]), (.tup [(.pl (.agg (VariationPosition.cells v15))), (.pl (.bool v14))]), by kernel_rfl, by kernel_rfl, ((Wk.refl _) : Wk (.tup [(.pl (.agg (VariationPosition.cells v15))), (.pl (.bool v14))]) (.tup [(.pl (.agg (VariationPosition.cells v15))), (.pl (.bool v14))]))⟩)

noncomputable def c6 : Code := Try.f6.body.getD .skip
inductive f6n2O where
  | exit0
  | ret
def f6n2E (bl1 : Bool) (ba2 : Variation) (br3 : Op_) (bm4 : Variation × Int) : f6n2O → Ex × Tr × Hp
  | .exit0 => ((.exit 0), mkS [(2, (.bp 0 0)), (3, (.bp 1 0)), (5, (.pl (.bool bl1))), (6, (.bp 2 0))], [some (.box ((Variation.cells ba2).map .pl)), some (.box ((Op_.cells br3).map .pl)), some (.box ((Variation.cells bm4.1).map .pl))])
  | .ret => (.ret, mkS [(4, (.pl (.bool false)))], [])
def f6n2S (bl1 : Bool) (ba2 : Variation) (br3 : Op_) (bm4 : Variation × Int) (v78 : Int) : Tr × Hp := (mkS [(2, (.bp 0 0)), (3, (.bp 1 0)), (5, (.pl (.bool bl1))), (6, (.bp 2 0)), (8, (.pl (.int .i64 v78)))], [some (.box ((Variation.cells ba2).map .pl)), some (.box ((Op_.cells br3).map .pl)), some (.box ((Variation.cells bm4.1).map .pl))])
noncomputable def f6n2 : Nat → Bool → Variation → Op_ → Variation × Int → Int → Option f6n2O
  | 0, _, _, _, _, _ => none
  | f + 1, bl1, ba2, br3, bm4, v78 =>
    bif (decide (v78 < (ba2.Positions.length : Int))) then
      (at? ba2.Positions v78).bind fun x94 =>
      bif (seq x94.Product br3.Product) then
        bif (seq x94.Member br3.Buyer) then
          (f6n2 f bl1 ba2 br3 bm4 (wr64 (v78 + 1)))
        else
          bif (seq x94.Member br3.Seller) then
            (f6n2 f bl1 ba2 br3 bm4 (wr64 (v78 + 1)))
          else
            (f22 bm4.1 x94.Member x94.Product).bind fun x99 =>
            bif x99.2 then
              bif (VariationPosition.eqb x94 x99.1) then
                (f6n2 f bl1 ba2 br3 bm4 (wr64 (v78 + 1)))
              else
                some .ret
            else
              some .ret
      else
        (f22 bm4.1 x94.Member x94.Product).bind fun x103 =>
        bif x103.2 then
          bif (VariationPosition.eqb x94 x103.1) then
            (f6n2 f bl1 ba2 br3 bm4 (wr64 (v78 + 1)))
          else
            some .ret
        else
          some .ret
    else
      some .exit0
theorem f6n2_ok : ∀ (f : Nat) (bl1 : Bool) (ba2 : Variation) (br3 : Op_) (bm4 : Variation × Int) (v78 : Int) {o : f6n2O}, (f6n2 f bl1 ba2 br3 bm4 v78) = some o → TL Try.prog Try.f6.ntmps 0 f (cL (cL (dropC 1 (cL (dropC 5 c6))))) (f6n2S bl1 ba2 br3 bm4 v78) (fun r => r = f6n2E bl1 ba2 br3 bm4 o)
  | 0, _, _, _, _, _, o, h => by rw [f6n2] at h; cases h
  | f + 1, bl1, ba2, br3, bm4, v78, o, h => by
    rw [f6n2] at h
    refine TL.body (K := fun s => ∃ v78 : Int, s = (f6n2S bl1 ba2 br3 bm4 v78) ∧ (f6n2 f bl1 ba2 br3 bm4 v78) = some o) ?_ (by rintro _ ⟨v78, rfl, hk⟩; exact f6n2_ok f _ _ _ _ _ hk)
    rcases cond_cases h with ⟨h80, h⟩ | ⟨h80, h⟩
    · obtain ⟨x94, h95, h⟩ := bind_cases h
      rcases cond_cases h with ⟨h96, h⟩ | ⟨h96, h⟩
      · rcases cond_cases h with ⟨h97, h⟩ | ⟨h97, h⟩
        · exact run_end cfg_ok (rs := [([], [], [(3, .val (.pl (.int .i64 (ba2.Positions.length : Int))))]), ([], [(3, .idx (Int.toNat v78) (VariationPosition.cells x94))], []), ([(6, true), (7, true), (8, true), (9, true), (10, true), (11, true), (12, true), (13, true), (14, true), (15, true), (16, true), (17, true)], [(17, .bool true), (18, .bool true)], []), ([], [], [])]) (ps := [some true, none]) (tds := []) (m := [0, 1, 2]) (keep := [2, 3, 5, 6, 8]) (r := (.norm, (f6n2S bl1 ba2 br3 bm4 (wr64 (v78 + 1))))) (by kernel_rfl) (ap (len_cv (xs := ba2.Positions) (c := VariationPosition.cells)) (ap h80 (ap (at_some h95).1 (ap (at_map VariationPosition.cells (at_some h95).2) (ap h96 (ap h96 (ap h96 (ap h96 (ap h96 (ap h96 (ap h97 (ap h97 (ap h97 (ap h97 (ap h97 (ap h96 (ap h97 (ap h96 an)))))))))))))))))) (LoopQ.norm ⟨(wr64 (v78 + 1)), rfl, h⟩)
        · rcases cond_cases h with ⟨h98, h⟩ | ⟨h98, h⟩
          · exact run_end cfg_ok (rs := [([], [], [(3, .val (.pl (.int .i64 (ba2.Positions.length : Int))))]), ([], [(3, .idx (Int.toNat v78) (VariationPosition.cells x94))], []), ([(6, true), (7, true), (8, true), (9, true), (10, true), (11, true), (12, false), (13, false), (14, false), (15, false), (16, false), (17, true)], [(17, .bool false), (18, .bool true)], []), ([], [], [])]) (ps := [some true, some true]) (tds := []) (m := [0, 1, 2]) (keep := [2, 3, 5, 6, 8]) (r := (.norm, (f6n2S bl1 ba2 br3 bm4 (wr64 (v78 + 1))))) (by kernel_rfl) (ap (len_cv (xs := ba2.Positions) (c := VariationPosition.cells)) (ap h80 (ap (at_some h95).1 (ap (at_map VariationPosition.cells (at_some h95).2) (ap h96 (ap h96 (ap h96 (ap h96 (ap h96 (ap h96 (ap h97 (ap h97 (ap h97 (ap h97 (ap h97 (ap h96 (ap h97 (ap h96 (ap h98 an))))))))))))))))))) (LoopQ.norm ⟨(wr64 (v78 + 1)), rfl, h⟩)
          · obtain ⟨x99, h100, h⟩ := bind_cases h
            rcases cond_cases h with ⟨h101, h⟩ | ⟨h101, h⟩
            · rcases cond_cases h with ⟨h102, h⟩ | ⟨h102, h⟩
              · exact run_end cfg_ok (rs := [([], [], [(3, .val (.pl (.int .i64 (ba2.Positions.length : Int))))]), ([], [(3, .idx (Int.toNat v78) (VariationPosition.cells x94))], []), ([(6, true), (7, true), (8, true), (9, true), (10, true), (11, true), (12, false), (13, false), (14, false), (15, false), (16, false), (17, true)], [(17, .bool false), (18, .bool true)], []), ([], [(5, .call (.tup [(.pl (.agg (VariationPosition.cells x99.1))), (.pl (.bool x99.2))]) [])], []), ([(3, false), (4, false), (5, false)], [(5, .bool (VariationPosition.eqb x94 x99.1)), (6, .bool false)], []), ([], [], [])]) (ps := [some true, some false, some false]) (tds := []) (m := [0, 1, 2]) (keep := [2, 3, 5, 6, 8]) (r := (.norm, (f6n2S bl1 ba2 br3 bm4 (wr64 (v78 + 1))))) (by kernel_rfl) (ap (len_cv (xs := ba2.Positions) (c := VariationPosition.cells)) (ap h80 (ap (at_some h95).1 (ap (at_map VariationPosition.cells (at_some h95).2) (ap h96 (ap h96 (ap h96 (ap h96 (ap h96 (ap h96 (ap h97 (ap h97 (ap h97 (ap h97 (ap h97 (ap h96 (ap h97 (ap h96 (ap h98 (ap (f22_ok bm4.1 x94.Member x94.Product h100) (ap (not_t h101) (ap (not_t h101) (ap (not_t h101) (ap (VariationPosition.eqb_ok x94 x99.1) (ap (not_t h101) (ap (not_t h102) an)))))))))))))))))))))))))) (LoopQ.norm ⟨(wr64 (v78 + 1)), rfl, h⟩)
              · obtain rfl := some_inj h
                exact runK_end cfg_ok (k := 2) (rs := [([], [], [(3, .val (.pl (.int .i64 (ba2.Positions.length : Int))))]), ([], [(3, .idx (Int.toNat v78) (VariationPosition.cells x94))], []), ([(6, true), (7, true), (8, true), (9, true), (10, true), (11, true), (12, false), (13, false), (14, false), (15, false), (16, false), (17, true)], [(17, .bool false), (18, .bool true)], []), ([], [(5, .call (.tup [(.pl (.agg (VariationPosition.cells x99.1))), (.pl (.bool x99.2))]) [])], []), ([(3, false), (4, false), (5, false)], [(5, .bool (VariationPosition.eqb x94 x99.1)), (6, .bool false)], []), ([], [], [])]) (ps := [some true, some false, some true]) (tds := []) (m := []) (keep := [4]) (ex := .ret) (st' := (f6n2E bl1 ba2 br3 bm4 .ret).2) (by kernel_rfl) (ap (len_cv (xs := ba2.Positions) (c := VariationPosition.cells)) (ap h80 (ap (at_some h95).1 (ap (at_map VariationPosition.cells (at_some h95).2) (ap h96 (ap h96 (ap h96 (ap h96 (ap h96 (ap h96 (ap h97 (ap h97 (ap h97 (ap h97 (ap h97 (ap h96 (ap h97 (ap h96 (ap h98 (ap (f22_ok bm4.1 x94.Member x94.Product h100) (ap (not_t h101) (ap (not_t h101) (ap (not_t h101) (ap (VariationPosition.eqb_ok x94 x99.1) (ap (not_t h101) (ap (not_f h102) an)))))))))))))))))))))))))) (fun h => nomatch h) (LoopQ.out rfl rfl)
            · obtain rfl := some_inj h
              exact runK_end cfg_ok (k := 2) (rs := [([], [], [(3, .val (.pl (.int .i64 (ba2.Positions.length : Int))))]), ([], [(3, .idx (Int.toNat v78) (VariationPosition.cells x94))], []), ([(6, true), (7, true), (8, true), (9, true), (10, true), (11, true), (12, false), (13, false), (14, false), (15, false), (16, false), (17, true)], [(17, .bool false), (18, .bool true)], []), ([], [(5, .call (.tup [(.pl (.agg (VariationPosition.cells x99.1))), (.pl (.bool x99.2))]) [])], []), ([(3, true), (4, true), (5, true)], [(6, .bool true)], []), ([], [], [])]) (ps := [some true, some false, none]) (tds := []) (m := []) (keep := [4]) (ex := .ret) (st' := (f6n2E bl1 ba2 br3 bm4 .ret).2) (by kernel_rfl) (ap (len_cv (xs := ba2.Positions) (c := VariationPosition.cells)) (ap h80 (ap (at_some h95).1 (ap (at_map VariationPosition.cells (at_some h95).2) (ap h96 (ap h96 (ap h96 (ap h96 (ap h96 (ap h96 (ap h97 (ap h97 (ap h97 (ap h97 (ap h97 (ap h96 (ap h97 (ap h96 (ap h98 (ap (f22_ok bm4.1 x94.Member x94.Product h100) (ap (not_f h101) (ap (not_f h101) (ap (not_f h101) (ap (not_f h101) an)))))))))))))))))))))))) (fun h => nomatch h) (LoopQ.out rfl rfl)
      · obtain ⟨x103, h104, h⟩ := bind_cases h
        rcases cond_cases h with ⟨h105, h⟩ | ⟨h105, h⟩
        · rcases cond_cases h with ⟨h106, h⟩ | ⟨h106, h⟩
          · exact run_end cfg_ok (rs := [([], [], [(3, .val (.pl (.int .i64 (ba2.Positions.length : Int))))]), ([], [(3, .idx (Int.toNat v78) (VariationPosition.cells x94))], []), ([(6, false), (7, false), (8, false), (9, false), (10, false), (11, false), (17, false)], [(18, .bool false)], []), ([], [(5, .call (.tup [(.pl (.agg (VariationPosition.cells x103.1))), (.pl (.bool x103.2))]) [])], []), ([(3, false), (4, false), (5, false)], [(5, .bool (VariationPosition.eqb x94 x103.1)), (6, .bool false)], []), ([], [], [])]) (ps := [some true, none, some false]) (tds := []) (m := [0, 1, 2]) (keep := [2, 3, 5, 6, 8]) (r := (.norm, (f6n2S bl1 ba2 br3 bm4 (wr64 (v78 + 1))))) (by kernel_rfl) (ap (len_cv (xs := ba2.Positions) (c := VariationPosition.cells)) (ap h80 (ap (at_some h95).1 (ap (at_map VariationPosition.cells (at_some h95).2) (ap h96 (ap h96 (ap h96 (ap h96 (ap h96 (ap h96 (ap h96 (ap h96 (ap (f22_ok bm4.1 x94.Member x94.Product h104) (ap (not_t h105) (ap (not_t h105) (ap (not_t h105) (ap (VariationPosition.eqb_ok x94 x103.1) (ap (not_t h105) (ap (not_t h106) an))))))))))))))))))) (LoopQ.norm ⟨(wr64 (v78 + 1)), rfl, h⟩)
          · obtain rfl := some_inj h
            exact runK_end cfg_ok (k := 2) (rs := [([], [], [(3, .val (.pl (.int .i64 (ba2.Positions.length : Int))))]), ([], [(3, .idx (Int.toNat v78) (VariationPosition.cells x94))], []), ([(6, false), (7, false), (8, false), (9, false), (10, false), (11, false), (17, false)], [(18, .bool false)], []), ([], [(5, .call (.tup [(.pl (.agg (VariationPosition.cells x103.1))), (.pl (.bool x103.2))]) [])], []), ([(3, false), (4, false), (5, false)], [(5, .bool (VariationPosition.eqb x94 x103.1)), (6, .bool false)], []), ([], [], [])]) (ps := [some true, none, some true]) (tds := []) (m := []) (keep := [4]) (ex := .ret) (st' := (f6n2E bl1 ba2 br3 bm4 .ret).2) (by kernel_rfl) (ap (len_cv (xs := ba2.Positions) (c := VariationPosition.cells)) (ap h80 (ap (at_some h95).1 (ap (at_map VariationPosition.cells (at_some h95).2) (ap h96 (ap h96 (ap h96 (ap h96 (ap h96 (ap h96 (ap h96 (ap h96 (ap (f22_ok bm4.1 x94.Member x94.Product h104) (ap (not_t h105) (ap (not_t h105) (ap (not_t h105) (ap (VariationPosition.eqb_ok x94 x103.1) (ap (not_t h105) (ap (not_f h106) an))))))))))))))))))) (fun h => nomatch h) (LoopQ.out rfl rfl)
        · obtain rfl := some_inj h
          exact runK_end cfg_ok (k := 2) (rs := [([], [], [(3, .val (.pl (.int .i64 (ba2.Positions.length : Int))))]), ([], [(3, .idx (Int.toNat v78) (VariationPosition.cells x94))], []), ([(6, false), (7, false), (8, false), (9, false), (10, false), (11, false), (17, false)], [(18, .bool false)], []), ([], [(5, .call (.tup [(.pl (.agg (VariationPosition.cells x103.1))), (.pl (.bool x103.2))]) [])], []), ([(3, true), (4, true), (5, true)], [(6, .bool true)], []), ([], [], [])]) (ps := [some true, none, none]) (tds := []) (m := []) (keep := [4]) (ex := .ret) (st' := (f6n2E bl1 ba2 br3 bm4 .ret).2) (by kernel_rfl) (ap (len_cv (xs := ba2.Positions) (c := VariationPosition.cells)) (ap h80 (ap (at_some h95).1 (ap (at_map VariationPosition.cells (at_some h95).2) (ap h96 (ap h96 (ap h96 (ap h96 (ap h96 (ap h96 (ap h96 (ap h96 (ap (f22_ok bm4.1 x94.Member x94.Product h104) (ap (not_f h105) (ap (not_f h105) (ap (not_f h105) (ap (not_f h105) an))))))))))))))))) (fun h => nomatch h) (LoopQ.out rfl rfl)
    · obtain rfl := some_inj h
      exact runK_end cfg_ok (k := 1) (rs := [([], [], [(3, .val (.pl (.int .i64 (ba2.Positions.length : Int))))])]) (ps := [some false]) (tds := []) (m := [0, 1, 2]) (keep := [2, 3, 5, 6]) (ex := (.exit 0)) (st' := (f6n2E bl1 ba2 br3 bm4 .exit0).2) (by kernel_rfl) (ap (len_cv (xs := ba2.Positions) (c := VariationPosition.cells)) (ap h80 an)) (fun h => nomatch h) (LoopQ.out rfl rfl)
noncomputable def f6n2L (bl1 : Bool) (ba2 : Variation) (br3 : Op_) (bm4 : Variation × Int) : List VariationPosition → Int → Option f6n2O
  | [], v78 =>
    some .exit0
  | x0 :: rest, v78 =>
    bif (seq x0.Product br3.Product) then
      bif (seq x0.Member br3.Buyer) then
        (f6n2L bl1 ba2 br3 bm4 rest (v78 + 1))
      else
        bif (seq x0.Member br3.Seller) then
          (f6n2L bl1 ba2 br3 bm4 rest (v78 + 1))
        else
          (f22 bm4.1 x0.Member x0.Product).bind fun x99 =>
          bif x99.2 then
            bif (VariationPosition.eqb x0 x99.1) then
              (f6n2L bl1 ba2 br3 bm4 rest (v78 + 1))
            else
              some .ret
          else
            some .ret
    else
      (f22 bm4.1 x0.Member x0.Product).bind fun x103 =>
      bif x103.2 then
        bif (VariationPosition.eqb x0 x103.1) then
          (f6n2L bl1 ba2 br3 bm4 rest (v78 + 1))
        else
          some .ret
      else
        some .ret
theorem f6n2L_eq (bl1 : Bool) (ba2 : Variation) (br3 : Op_) (bm4 : Variation × Int) : ∀ (rest : List VariationPosition) (f k : Nat), ba2.Positions.drop k = rest → ba2.Positions.length ≤ maxLen → rest.length < f → f6n2 f bl1 ba2 br3 bm4 (k : Int) = f6n2L bl1 ba2 br3 bm4 rest (k : Int)
  | _, 0, _, _, _, hf => absurd hf (Nat.not_lt_zero _)
  | [], f + 1, k, hd, hm, hf => by
    have hk : ¬ ((k : Int) < (ba2.Positions.length : Int)) := by have := drop_nil hd; omega
    rw [f6n2, f6n2L]
    simp only [decide_eq_false hk, cond_false]
  | x0 :: rest, f + 1, k, hd, hm, hf => by
    obtain ⟨hx, hlt, hd'⟩ := drop_cons hd
    have hk : (k : Int) < (ba2.Positions.length : Int) := by omega
    have hw : wr64 ((k : Int) + 1) = (k : Int) + 1 := wr64_of (by omega) (by unfold maxLen at hm; omega)
    have ih : f6n2 f bl1 ba2 br3 bm4 ((k : Int) + 1) = f6n2L bl1 ba2 br3 bm4 rest ((k : Int) + 1) := f6n2L_eq bl1 ba2 br3 bm4 rest f (k + 1) hd' hm (by simpa using hf)
    rw [f6n2, f6n2L]
    simp only [decide_eq_true hk, cond_true, at_nat, hx, Option.bind_some, hw, ih]
theorem f6n2_run (bl1 : Bool) (ba2 : Variation) (br3 : Op_) (bm4 : Variation × Int) (hm : ba2.Positions.length ≤ maxLen) : f6n2 FUEL bl1 ba2 br3 bm4 0 = f6n2L bl1 ba2 br3 bm4 ba2.Positions 0 := f6n2L_eq bl1 ba2 br3 bm4 ba2.Positions FUEL 0 List.drop_zero hm (lt_FUEL hm)
inductive f6n1O where
  | norm
  | ret
def f6n1E (bl1 : Bool) (ba2 : Variation) (br3 : Op_) (bm4 : Variation × Int) : f6n1O → Ex × Tr × Hp
  | .norm => (.norm, mkS [(2, (.bp 0 0)), (3, (.bp 1 0)), (5, (.pl (.bool bl1))), (6, (.bp 2 0))], [some (.box ((Variation.cells ba2).map .pl)), some (.box ((Op_.cells br3).map .pl)), some (.box ((Variation.cells bm4.1).map .pl))])
  | .ret => (.ret, mkS [(4, (.pl (.bool false)))], [])
def f6n1S (bl1 : Bool) (ba2 : Variation) (br3 : Op_) (bm4 : Variation × Int) : Tr × Hp := (mkS [(2, (.bp 0 0)), (3, (.bp 1 0)), (5, (.pl (.bool bl1))), (6, (.bp 2 0))], [some (.box ((Variation.cells ba2).map .pl)), some (.box ((Op_.cells br3).map .pl)), some (.box ((Variation.cells bm4.1).map .pl))])
noncomputable def f6n1 (bl1 : Bool) (ba2 : Variation) (br3 : Op_) (bm4 : Variation × Int) : Option f6n1O :=
  (f6n2 FUEL bl1 ba2 br3 bm4 0).bind fun o107 => match o107 with
  | .exit0 => some .norm
  | .ret => some .ret
theorem f6n1_ok (bl1 : Bool) (ba2 : Variation) (br3 : Op_) (bm4 : Variation × Int) {o : f6n1O} (h : (f6n1 bl1 ba2 br3 bm4) = some o) : T Try.prog Try.f6.ntmps 0 (cL (dropC 5 c6)) (f6n1S bl1 ba2 br3 bm4) (fun r => r = f6n1E bl1 ba2 br3 bm4 o) := by
  unfold f6n1 at h
  refine runK_norm cfg_ok (k := 1) (rs := [([], [], [])]) (ps := []) (tds := []) (m := [0, 1, 2]) (keep := [2, 3, 5, 6, 8]) (st' := (f6n2S bl1 ba2 br3 bm4 0)) (by kernel_rfl) an ?_
  obtain ⟨o107, h108, h⟩ := bind_cases h
  cases o107 with
  | exit0 =>
    obtain rfl := some_inj h
    exact T.last' (T.bl (i := 0) (by kernel_rfl) (by kernel_rfl) (f6n2_ok FUEL bl1 ba2 br3 bm4 0 h108)) (tds := []) (m := [0, 1, 2]) (keep := [2, 3, 5, 6]) (st2 := (f6n1E bl1 ba2 br3 bm4 .norm).2) (by kernel_rfl) an rfl
  | ret =>
    obtain rfl := some_inj h
    exact T.last' (T.bl (i := 0) (by kernel_rfl) (by kernel_rfl) (f6n2_ok FUEL bl1 ba2 br3 bm4 0 h108)) (tds := []) (m := []) (keep := [4]) (st2 := (f6n1E bl1 ba2 br3 bm4 .ret).2) (by kernel_rfl) an rfl
inductive f6n0O where
  | ret (v121 : Bool)
def f6n0E (a1 : Variation) (a2 : Op_) : f6n0O → Ex × Tr × Hp
  | .ret v121 => (.ret, mkS [(4, (.pl (.bool v121)))], [])
def f6n0S (a1 : Variation) (a2 : Op_) : Tr × Hp := (initS [(.pl (.agg (Variation.cells a1))), (.pl (.agg (Op_.cells a2)))] 0 .leaf, [])
noncomputable def f6n0 (a1 : Variation) (a2 : Op_) : Option f6n0O :=
  f10.bind fun x5 =>
  bif (decide (220 < (a1.Positions.length : Int))) then
    some (.ret x5)
  else
    bif x5 then
      (f20r1 a1).bind fun x15 =>
      (f16 (Variation.mk a1.Day x15) a2.Buyer a2.Seller a2.Product a2.Quantity a2.Price).bind fun x17 =>
      bif (decide (x17.2 = 0)) then
        (f6n1 x5 a1 a2 x17).bind fun o109 => match o109 with
        | .norm => (f16 x17.1 a2.Seller a2.Buyer a2.Product a2.Quantity a2.Price).bind fun x113 =>
          bif (decide (x113.2 = 0)) then
            (f18 x113.1 a1).bind fun x119 =>
            some (.ret x119)
          else
            some (.ret false)
        | .ret => some (.ret false)
      else
        some (.ret x5)
    else
      some (.ret x5)
theorem f6n0_ok (a1 : Variation) (a2 : Op_) {o : f6n0O} (h : (f6n0 a1 a2) = some o) : T Try.prog Try.f6.ntmps 0 c6 (f6n0S a1 a2) (fun r => r = f6n0E a1 a2 o) := by
  unfold f6n0 at h
  obtain ⟨x5, h6, h⟩ := bind_cases h
  rcases cond_cases h with ⟨h9, h⟩ | ⟨h9, h⟩
  · obtain rfl := some_inj h
    exact runK_end cfg_ok (k := 3) (rs := [([], [], []), ([], [(0, .call (.pl (.bool x5)) [])], []), ([(5, true), (6, true)], [(7, .bool true)], [(2, .val (.pl (.int .i64 (a1.Positions.length : Int))))]), ([], [], [])]) (ps := [none]) (tds := []) (m := []) (keep := [4]) (ex := .ret) (st' := (f6n0E a1 a2 (.ret x5)).2) (by kernel_rfl) (ap (f10_ok h6) (ap (len_cv (xs := a1.Positions) (c := VariationPosition.cells)) (ap h9 (ap h9 (ap h9 an))))) (fun h => nomatch h) rfl
  · rcases cond_cases h with ⟨h10, h⟩ | ⟨h10, h⟩
    · obtain ⟨x15, h16, h⟩ := bind_cases h
      obtain ⟨x17, h18, h⟩ := bind_cases h
      rcases cond_cases h with ⟨h20, h⟩ | ⟨h20, h⟩
      · refine runK_norm cfg_ok (k := 5) (rs := [([], [], []), ([], [(0, .call (.pl (.bool x5)) [])], []), ([(5, false), (6, false)], [(7, .bool false)], [(2, .val (.pl (.int .i64 (a1.Positions.length : Int))))]), ([], [(1, .call (.agg [(.pl (.int .i64 a1.Day)), (.own 5)]) [none, none, none, none, some (.box [(.pl (.int .i64 a1.Day)), (.own 5)]), some (.row false 4 (x15.map VariationPosition.cells))]), (12, .call (.tup [(.pl (.agg (Variation.cells x17.1))), (.pl (.int .i64 x17.2))]) [])], []), ([], [], [])]) (ps := [some false, some false]) (tds := []) (m := [0, 1, 2]) (keep := [2, 3, 5, 6]) (st' := (f6n1S x5 a1 a2 x17)) (by kernel_rfl) (ap (f10_ok h6) (ap (len_cv (xs := a1.Positions) (c := VariationPosition.cells)) (ap h9 (ap h9 (ap h9 (ap (not_t h10) (ap (CallS.ren (args' := [(.pl (.agg (Variation.cells a1)))]) (v' := (.agg [(.pl (.int .i64 a1.Day)), (.own 5)])) (B := [none, none, none, none]) (B' := [none, none, none, none, some (.box [(.pl (.int .i64 a1.Day)), (.own 5)]), some (.row false 4 (x15.map VariationPosition.cells))]) 4 [] (f20r1_ok a1 h16) (by kernel_rfl) (by kernel_rfl) (by kernel_rfl) (by kernel_rfl) (by kernel_rfl) (by kernel_rfl)) (ap (f16_ok (Variation.mk a1.Day x15) a2.Buyer a2.Seller a2.Product a2.Quantity a2.Price h18) (ap (not_t h20) an))))))))) ?_
        obtain ⟨o109, h110, h⟩ := bind_cases h
        cases o109 with
        | norm =>
          refine T.oneN (by kernel_rfl) (f6n1_ok x5 a1 a2 x17 h110) (st2 := (f6n1E x5 a1 a2 x17 .norm).2) rfl ?_
          obtain ⟨x113, h114, h⟩ := bind_cases h
          rcases cond_cases h with ⟨h118, h⟩ | ⟨h118, h⟩
          · obtain ⟨x119, h120, h⟩ := bind_cases h
            obtain rfl := some_inj h
            exact run_end cfg_ok (rs := [([], [(11, .call (.tup [(.pl (.agg (Variation.cells x113.1))), (.pl (.int .i64 x113.2))]) [])], []), ([(2, true), (3, true), (6, true), (7, true), (8, true)], [(4, .bool true), (8, .call (.pl (.bool x119)) []), (9, .bool true)], [])]) (ps := []) (tds := []) (m := []) (keep := [4]) (r := (.ret, (f6n0E a1 a2 (.ret x119)).2)) (by kernel_rfl) (ap (f16_ok x17.1 a2.Seller a2.Buyer a2.Product a2.Quantity a2.Price h114) (ap h10 (ap h10 (ap h10 (ap h118 (ap h118 (ap h118 (ap h118 (ap (f18_ok x113.1 a1 h120) an))))))))) rfl
          · obtain rfl := some_inj h
            exact run_end cfg_ok (rs := [([], [(11, .call (.tup [(.pl (.agg (Variation.cells x113.1))), (.pl (.int .i64 x113.2))]) [])], []), ([(2, true), (3, true), (6, false), (7, false), (8, false)], [(4, .bool true), (9, .bool false)], [])]) (ps := []) (tds := []) (m := []) (keep := [4]) (r := (.ret, (f6n0E a1 a2 (.ret false)).2)) (by kernel_rfl) (ap (f16_ok x17.1 a2.Seller a2.Buyer a2.Product a2.Quantity a2.Price h114) (ap h10 (ap h10 (ap h10 (ap h118 (ap h118 (ap h118 (ap h118 an)))))))) rfl
        | ret =>
          obtain rfl := some_inj h
          exact T.oneX' (by kernel_rfl) (f6n1_ok x5 a1 a2 x17 h110) (tds := []) (m := []) (keep := [4]) (st2 := (f6n0E a1 a2 (.ret false)).2) (by kernel_rfl) an rfl rfl
      · obtain rfl := some_inj h
        exact runK_end cfg_ok (k := 5) (rs := [([], [], []), ([], [(0, .call (.pl (.bool x5)) [])], []), ([(5, false), (6, false)], [(7, .bool false)], [(2, .val (.pl (.int .i64 (a1.Positions.length : Int))))]), ([], [(1, .call (.agg [(.pl (.int .i64 a1.Day)), (.own 5)]) [none, none, none, none, some (.box [(.pl (.int .i64 a1.Day)), (.own 5)]), some (.row false 4 (x15.map VariationPosition.cells))]), (12, .call (.tup [(.pl (.agg (Variation.cells x17.1))), (.pl (.int .i64 x17.2))]) [])], []), ([], [], []), ([], [], [])]) (ps := [some false, some true]) (tds := []) (m := []) (keep := [4]) (ex := .ret) (st' := (f6n0E a1 a2 (.ret x5)).2) (by kernel_rfl) (ap (f10_ok h6) (ap (len_cv (xs := a1.Positions) (c := VariationPosition.cells)) (ap h9 (ap h9 (ap h9 (ap (not_t h10) (ap (CallS.ren (args' := [(.pl (.agg (Variation.cells a1)))]) (v' := (.agg [(.pl (.int .i64 a1.Day)), (.own 5)])) (B := [none, none, none, none]) (B' := [none, none, none, none, some (.box [(.pl (.int .i64 a1.Day)), (.own 5)]), some (.row false 4 (x15.map VariationPosition.cells))]) 4 [] (f20r1_ok a1 h16) (by kernel_rfl) (by kernel_rfl) (by kernel_rfl) (by kernel_rfl) (by kernel_rfl) (by kernel_rfl)) (ap (f16_ok (Variation.mk a1.Day x15) a2.Buyer a2.Seller a2.Product a2.Quantity a2.Price h18) (ap (not_f h20) an))))))))) (fun h => nomatch h) rfl
    · obtain rfl := some_inj h
      exact runK_end cfg_ok (k := 3) (rs := [([], [], []), ([], [(0, .call (.pl (.bool x5)) [])], []), ([(5, false), (6, false)], [(7, .bool false)], [(2, .val (.pl (.int .i64 (a1.Positions.length : Int))))]), ([], [], [])]) (ps := [some true]) (tds := []) (m := []) (keep := [4]) (ex := .ret) (st' := (f6n0E a1 a2 (.ret x5)).2) (by kernel_rfl) (ap (f10_ok h6) (ap (len_cv (xs := a1.Positions) (c := VariationPosition.cells)) (ap h9 (ap h9 (ap h9 (ap (not_f h10) an)))))) (fun h => nomatch h) rfl
noncomputable def f6 (a1 : Variation) (a2 : Op_) : Option Bool := (f6n0 a1 a2).bind fun o => match o with
  | .ret v121 => some v121
theorem f6_ok (a1 : Variation) (a2 : Op_) {r : Bool} (h : (f6 a1 a2) = some r) : CallS Try.prog false 6 [(.pl (.agg (Variation.cells a1))), (.pl (.agg (Op_.cells a2)))] [] (.pl (.bool r)) [] := by
  unfold f6 at h
  obtain ⟨o, ho, h⟩ := bind_cases h
  cases o with
  | ret v121 =>
    obtain rfl := some_inj h
    exact CallS.plain cfg_ok (f := Try.f6) (c := c6) (by kernel_rfl) (by kernel_rfl) (by kernel_rfl) (by kernel_rfl) ((f6n0_ok a1 a2 ho).mono fun r e => by subst e; exact ⟨.inl rfl, (.pl (.bool v121)), (.pl (.bool v121)), by kernel_rfl, by kernel_rfl, ((Wk.refl _) : Wk (.pl (.bool v121)) (.pl (.bool v121)))⟩)


noncomputable def c7 : Code := Try.f7.body.getD .skip

end Go.Proofs.Ytelblamgfbkhbaa
namespace Go.Proofs.Ytelblamgfbkhbaa
set_option linter.unusedVariables false
set_option linter.unusedSimpArgs false
set_option maxRecDepth 100000
open Go.RowKit

end Go.Proofs.Ytelblamgfbkhbaa
namespace Go.Proofs.Ytelblamgfbkhbaa
set_option linter.unusedVariables false
theorem perm_two {α : Type} {a b : α} {p : List α} (h : p.Perm [a, b]) : p = [a, b] ∨ p = [b, a] := by
  match p, h with
  | [], h => exact absurd h.length_eq (by simp)
  | [_], h => exact absurd h.length_eq (by simp)
  | _ :: _ :: _ :: _, h => exact absurd h.length_eq (by simp)
  | [x, y], h =>
    rcases List.mem_cons.1 (h.mem_iff.1 (List.mem_cons_self)) with rfl | hx
    · left
      have := List.Perm.cons_inv h
      rw [List.perm_singleton.1 this]
    · right
      obtain rfl := List.mem_singleton.1 hx
      have h2 : [x, y].Perm [x, a] := h.trans (List.Perm.swap _ _ _)
      have := List.Perm.cons_inv h2
      rw [List.perm_singleton.1 this]
theorem f14_two {s : Variation} {d : Int} {ps : List VariationPrice} {a b : ByteArray × Int} {out : List VariationPosition} {o : f14n0O} (h1 : f26 s = some 0) (h2 : f14n1 d ps 0 s = some (.norm 0)) (h3 : f14n2 ps s d = some (.norm [a, b] out))
    (h4 : ((f14n4 d [a, b] out [a, b]).bind fun o143 => match o143 with
        | .norm v145 => (so38_39 v145).bind fun x148 => some (.ret 0 d x148 out)
        | .ret => some (.ret 14 0 [] [])) = some o)
    (h5 : ((f14n4 d [a, b] out [b, a]).bind fun o143 => match o143 with
        | .norm v145 => (so38_39 v145).bind fun x148 => some (.ret 0 d x148 out)
        | .ret => some (.ret 14 0 [] [])) = some o) : f14n0 s d ps = some o := by
  unfold f14n0
  rw [h1]
  simp only [Option.bind_some]
  rw [h2]
  simp only [Option.bind_some, decide_true, cond_true]
  rw [h3]
  simp only [Option.bind_some]
  refine anyOrder_of fun p hp => ?_
  rcases perm_two hp with rfl | rfl
  · exact h4
  · exact h5
theorem f14_of {s : Variation} {d : Int} {ps : List VariationPrice} {v150 v151 : Int} {v152 : List VariationPayment} {v153 : List VariationPosition} (h : f14n0 s d ps = some (.ret v150 v151 v152 v153)) : f14 s d ps = some ((Variation.mk v151 v153), v152, v150) := by
  unfold f14; rw [h]; rfl
def exS : Variation := ⟨0, [⟨str_a, str_p, -3, -30⟩, ⟨str_b, str_p, 3, 30⟩]⟩
def exT : Variation := ⟨1, [⟨str_a, str_p, -3, -36⟩, ⟨str_b, str_p, 3, 36⟩]⟩
theorem ex1 : f16 (Variation.mk 0 []) str_b str_a str_p 3 10 = some (exS, 0) := by kernel_rfl
theorem ex2 : f14 exS 1 [(VariationPrice.mk str_p 12)] = some (exT, [⟨str_a, -6⟩, ⟨str_b, 6⟩], 0) :=
  f14_of (f14_two (a := (str_a, -6)) (b := (str_b, 6)) (out := exT.Positions) (by kernel_rfl) (by kernel_rfl) (by kernel_rfl) (by kernel_rfl) (by kernel_rfl))
theorem ex3 : f14 exT 2 [(VariationPrice.mk str_p 11)] = some (⟨2, [⟨str_a, str_p, -3, -33⟩, ⟨str_b, str_p, 3, 33⟩]⟩, [⟨str_a, 3⟩, ⟨str_b, -3⟩], 0) :=
  f14_of (f14_two (a := (str_a, 3)) (b := (str_b, -3)) (out := [⟨str_a, str_p, -3, -33⟩, ⟨str_b, str_p, 3, 33⟩]) (by kernel_rfl) (by kernel_rfl) (by kernel_rfl) (by kernel_rfl) (by kernel_rfl))
theorem ex4 : f14 exS 2 [(VariationPrice.mk str_p 11)] = some (⟨2, [⟨str_a, str_p, -3, -33⟩, ⟨str_b, str_p, 3, 33⟩]⟩, [⟨str_a, -3⟩, ⟨str_b, 3⟩], 0) :=
  f14_of (f14_two (a := (str_a, -3)) (b := (str_b, 3)) (out := [⟨str_a, str_p, -3, -33⟩, ⟨str_b, str_p, 3, 33⟩]) (by kernel_rfl) (by kernel_rfl) (by kernel_rfl) (by kernel_rfl) (by kernel_rfl))
theorem ex0 : f12 0 = some (Variation.mk 0 [], 0) := by kernel_rfl
theorem alive_t : f10 = some true := by
  have k1 : f25 6 = some [⟨str_a, -6⟩, ⟨str_b, 6⟩] := by kernel_rfl
  have k2 : f25 (-3) = some [⟨str_a, 3⟩, ⟨str_b, -3⟩] := by kernel_rfl
  have k3 : f25 3 = some [⟨str_a, -3⟩, ⟨str_b, 3⟩] := by kernel_rfl
  have m1 : f19 [⟨str_a, -6⟩, ⟨str_b, 6⟩] [⟨str_a, -6⟩, ⟨str_b, 6⟩] = some true := by kernel_rfl
  have m2 : f19 [⟨str_a, 3⟩, ⟨str_b, -3⟩] [⟨str_a, 3⟩, ⟨str_b, -3⟩] = some true := by kernel_rfl
  have m3 : f19 [⟨str_a, -3⟩, ⟨str_b, 3⟩] [⟨str_a, -3⟩, ⟨str_b, 3⟩] = some true := by kernel_rfl
  have r1 : f23r1 12 = some () := rfl
  have r2 : f23r1 11 = some () := rfl
  unfold f10 f10n0
  simp only [ex0, ex1, ex2, ex3, ex4, k1, k2, k3, m1, m2, m3, r1, r2, Option.bind_some, decide_true, cond_true]
end Go.Proofs.Ytelblamgfbkhbaa
namespace Go.Proofs.Ytelblamgfbkhbaa
set_option linter.unusedVariables false
set_option linter.unusedSimpArgs false
open Go.RowKit
abbrev VP := VariationPosition
theorem fit_small {n b : Nat} (h : n ≤ 1000000) (hb : b ≤ 1000000) : fit n b = true := by
  unfold fit
  have : n * b ≤ 1000000 * 1000000 := Nat.mul_le_mul h hb
  simp only [Bool.and_eq_true, Nat.ble_eq]
  omega
theorem lt_not (a b : Int) : decide (a < b) = !decide (b ≤ a) := by
  by_cases h : a < b
  · rw [decide_eq_true h, decide_eq_false (by omega)]; rfl
  · rw [decide_eq_false h, decide_eq_true (by omega)]; rfl
theorem dec_nat (a b : Nat) : decide ((a : Int) ≤ (b : Int)) = decide (a ≤ b) := by congr 1; apply propext; omega
theorem wr_in {n : Int} (h1 : -9223372036854775808 ≤ n) (h2 : n ≤ 9223372036854775807) : wr64 n = n := w64 rfl h1 h2

def letterI (c : Int) : Bool := (decide (97 ≤ c) && decide (c ≤ 122)) || (decide (65 ≤ c) && decide (c ≤ 90))
def otherI (c : Int) : Bool := (decide (48 ≤ c) && decide (c ≤ 57)) || (decide (c = 95) || decide (c = 45))
theorem f62_eq (c : Int) : f62 c = some (letterI c) := by
  unfold f62 f62n0 letterI
  cases decide (97 ≤ c) <;> cases decide (c ≤ 122) <;> cases decide (65 ≤ c) <;> cases decide (c ≤ 90) <;> rfl
def charB (b : UInt8) : Bool := letterI b.toNat || otherI b.toNat
def isName (l : List UInt8) : Bool := match l with
  | [] => false
  | b :: r => decide (l.length ≤ 40) && (letterI b.toNat && r.all charB)
theorem f45n2L_at (bc : ByteArray) : ∀ (l : List UInt8) (v : Int), f45n2L bc l v = some (bif l.all charB then .exit0 else .ret)
  | [], v => rfl
  | b :: r, v => by
    rw [f45n2L, f62_eq]
    simp only [Option.bind_some, f45n2L_at bc r, lt_not, List.all_cons, charB, otherI]
    cases letterI b.toNat <;> cases decide ((48 : Int) ≤ (b.toNat : Int)) <;> cases decide ((b.toNat : Int) ≤ 57) <;> cases decide ((b.toNat : Int) = 95) <;> cases decide ((b.toNat : Int) = 45) <;> rfl
theorem size_list' (s : ByteArray) : s.size = s.data.toList.length := rfl
theorem f45_eq (s : ByteArray) : f45 s = some (isName s.data.toList) := by
  unfold f45 f45n0 f45n1
  rw [size_list']
  by_cases hs : s.data.toList.length ≤ 40
  · have hm : s.data.toList.length ≤ maxLen := Nat.le_trans hs (by unfold maxLen; decide)
    rw [f45n2_run s hm, f45n2L_at]
    generalize s.data.toList = l at hs hm
    cases l with
    | nil => rfl
    | cons b r =>
      have h1 : ¬ (((b :: r).length : Nat) : Int) < 1 := by simp; omega
      have h2 : ¬ (40 : Int) < (((b :: r).length : Nat) : Int) := by omega
      rw [decide_eq_false h1, decide_eq_false h2]
      have h0 : at? (b :: r) 0 = some b := rfl
      simp only [cond_false, h0, Option.bind_some, f62_eq, isName, List.all_cons, charB, decide_eq_true hs]
      cases letterI b.toNat <;> cases r.all charB <;> cases otherI b.toNat <;> rfl
  · have h1 : ¬ ((s.data.toList.length : Nat) : Int) < 1 := by omega
    have h2 : (40 : Int) < ((s.data.toList.length : Nat) : Int) := by omega
    rw [decide_eq_false h1, decide_eq_true h2]
    have : isName s.data.toList = false := by
      generalize s.data.toList = l at hs
      cases l with
      | nil => rfl
      | cons b r => simp only [isName, decide_eq_false hs, Bool.false_and]
    rw [this]; rfl
def nameB (s : ByteArray) : Bool := isName s.data.toList
def partyB (s : ByteArray) : Bool := !(seq s str_house) && nameB s
theorem f44_eq (s : ByteArray) : f44 s = some (partyB s) := by
  unfold f44 f44n0 partyB nameB
  rw [f45_eq]
  cases seq s str_house <;> rfl

def inR (n lim : Int) : Bool := decide (-lim ≤ n) && decide (n ≤ lim)
theorem f37_eq (n : Int) {lim : Int} (h0 : 0 ≤ lim) (h : lim ≤ 9223372036854775807) : f37 n lim = some (inR n lim) := by
  unfold f37 f37n0 inR
  rw [show wr64 (0 - lim) = -lim from w64 (by omega) (by omega) (by omega)]
  cases decide (-lim ≤ n) <;> rfl
theorem f37_q (n : Int) : f37 n 1048576 = some (inR n 1048576) := f37_eq n (by decide) (by decide)
theorem f37_b (n : Int) : f37 n 1125899906842624 = some (inR n 1125899906842624) := f37_eq n (by decide) (by decide)
theorem f37_p (n : Int) : f37 n 536870912 = some (inR n 536870912) := f37_eq n (by decide) (by decide)
theorem inR_iff {n lim : Int} : inR n lim = true ↔ -lim ≤ n ∧ n ≤ lim := by simp [inR]
def zeroP (x : VP) : Bool := decide (x.Quantity = 0) && decide (x.Basis = 0)
theorem eqb_zero (x : VP) : VariationPosition.eqb x (VariationPosition.mk x.Member x.Product 0 0) = zeroP x := by
  unfold VariationPosition.eqb zeroP
  rw [seq_refl, seq_refl]; rfl
def keyLt (a b : VP) : Bool := slt a.Member b.Member || (seq a.Member b.Member && slt a.Product b.Product)
def cmpK (a b : VP) : Int := bif decide (cmpB a.Member b.Member = 0) then cmpB a.Product b.Product else cmpB a.Member b.Member
theorem f66_two (x y : Int) : f66 [x, y] = some (bif decide (x = 0) then y else x) := by
  unfold f66 f66n0 f66n1
  rw [f66n2_run [x, y] (by show (2 : Nat) ≤ maxLen; unfold maxLen; decide)]
  by_cases hx : x = 0
  · by_cases hy : y = 0
    · subst hx; subst hy; rfl
    · simp only [f66n2L, decide_eq_true hx, decide_eq_false hy, cond_true, cond_false, Option.bind_some]
  · simp only [f66n2L, decide_eq_false hx, cond_false, Option.bind_some]
theorem f53_eq (a b : VP) : f53 a b = some (cmpK a b) := by
  unfold f53 f53n0
  rw [f40_val, f40_val]
  simp only [Option.bind_some]
  rw [f66_two]
  rfl
theorem cmpK_neg (a b : VP) : decide (cmpK a b < 0) = keyLt a b := by
  unfold cmpK keyLt
  cases h : slt a.Member b.Member with
  | true =>
    have h1 := cmpB_neg.2 h
    rw [decide_eq_false (by omega : ¬ cmpB a.Member b.Member = 0)]
    simp [h1]
  | false =>
    cases k : seq a.Member b.Member with
    | true =>
      rw [decide_eq_true (cmpB_zero.2 (seq_iff.1 k))]
      simp only [cond_true, Bool.false_or, Bool.true_and]
      cases h2 : slt a.Product b.Product with
      | true => exact decide_eq_true (cmpB_neg.2 h2)
      | false => exact decide_eq_false fun h3 => by rw [cmpB_neg.1 h3] at h2; cases h2
    | false =>
      have h1 : ¬ cmpB a.Member b.Member = 0 := fun e => by rw [seq_iff.2 (cmpB_zero.1 e)] at k; cases k
      have h2 : ¬ cmpB a.Member b.Member < 0 := fun e => by rw [cmpB_neg.1 e] at h; cases h
      rw [decide_eq_false h1]
      simp only [cond_false, decide_eq_false h2, Bool.false_and, Bool.or_self]
theorem cmpK_zero {a b : VP} : cmpK a b = 0 ↔ a.Member = b.Member ∧ a.Product = b.Product := by
  unfold cmpK
  by_cases h : cmpB a.Member b.Member = 0
  · rw [decide_eq_true h]; simp only [cond_true, cmpB_zero]; exact ⟨fun k => ⟨cmpB_zero.1 h, k⟩, fun k => k.2⟩
  · rw [decide_eq_false h]; simp only [cond_false]; exact ⟨fun k => absurd k h, fun k => absurd (cmpB_zero.2 k.1) h⟩

def goodP (x : VP) : Bool := inR x.Quantity 1048576 && (inR x.Basis 1125899906842624 && (!zeroP x && (partyB x.Member && nameB x.Product)))
def ordAt : Option VP → VP → Bool
  | none, _ => true
  | some y, x => keyLt y x
def okL : Option VP → List VP → Bool
  | _, [] => true
  | p, x :: r => ordAt p x && (goodP x && okL (some x) r)
def accL : List VP → List (ByteArray × Sums_) → List (ByteArray × Sums_)
  | [], m => m
  | x :: r, m => accL r (mPut seq x.Product (Sums_.mk (wr64 ((mGet seq (Sums_.mk 0 0) x.Product m).quantity + x.Quantity)) (wr64 ((mGet seq (Sums_.mk 0 0) x.Product m).basis + x.Basis))) m)
theorem f26n2L_at (s : Variation) : ∀ (l pre : List VP) (m : List (ByteArray × Sums_)), s.Positions = pre ++ l → s.Positions.length ≤ 1000 → f26n2L s l ((pre.length : Nat) : Int) m = some (bif okL pre.getLast? l then .exit0 (accL l m) else .ret)
  | [], pre, m, _, _ => rfl
  | x :: r, pre, m, h, hb => by
    have ih := f26n2L_at s r (pre ++ [x]) (mPut seq x.Product (Sums_.mk (wr64 ((mGet seq (Sums_.mk 0 0) x.Product m).quantity + x.Quantity)) (wr64 ((mGet seq (Sums_.mk 0 0) x.Product m).basis + x.Basis))) m) (by rw [h]; simp) hb
    rw [List.length_append, List.getLast?_concat, show (((pre.length + [x].length : Nat)) : Int) = (pre.length : Int) + 1 from by simp] at ih
    have e45 : f45 x.Product = some (nameB x.Product) := f45_eq _
    rw [f26n2L]
    simp only [f37_q, f37_b, Option.bind_some, eqb_zero, f44_eq, e45, ih, okL, goodP]
    rcases List.eq_nil_or_concat pre with rfl | ⟨q, y, rfl⟩
    · simp only [List.length_nil, Int.natCast_zero, decide_true, cond_true, List.getLast?_nil, ordAt, Bool.true_and]
      cases inR x.Quantity 1048576 <;> cases inR x.Basis 1125899906842624 <;> cases zeroP x <;> cases partyB x.Member <;> cases nameB x.Product <;> cases okL (some x) r <;> rfl
    · rw [List.concat_eq_append] at h ⊢
      have hne : ¬ (((q ++ [y]).length : Nat) : Int) = 0 := by simp; omega
      have hlen : q.length + 1 ≤ 1000 := by rw [h] at hb; simp at hb; omega
      have hw : wr64 ((((q ++ [y]).length : Nat) : Int) - 1) = ((q.length : Nat) : Int) := w64 (by simp) (by omega) (by omega)
      have hat : at? s.Positions ((q.length : Nat) : Int) = some y := by rw [at_nat, h]; simp
      rw [decide_eq_false hne, hw, hat, List.getLast?_concat]
      simp only [cond_false, Option.bind_some, f53_eq, cmpK_neg, ordAt]
      cases inR x.Quantity 1048576 <;> cases inR x.Basis 1125899906842624 <;> cases zeroP x <;> cases partyB x.Member <;> cases nameB x.Product <;> cases okL (some x) r <;> cases keyLt y x <;> rfl
def zeroM (m : List (ByteArray × Sums_)) : Bool := m.all fun x => Sums_.eqb x.2 (Sums_.mk 0 0)
theorem f26n4_eq (bd : List (ByteArray × Sums_)) : ∀ l : List (ByteArray × Sums_), f26n4 bd l = some (bif zeroM l then .exit2 else .ret)
  | [] => rfl
  | x :: r => by
    rw [f26n4, f26n4_eq bd r, zeroM, zeroM, List.all_cons]
    cases Sums_.eqb x.2 (Sums_.mk 0 0) <;> rfl
theorem f26n3_eq (bd : List (ByteArray × Sums_)) : f26n3 bd = some (bif zeroM bd then .norm else .ret) := by
  unfold f26n3
  have hp : ∀ p, p.Perm bd → f26n4 bd p = some (bif zeroM bd then .exit2 else .ret) := fun p hp => by
    rw [f26n4_eq, zeroM, hp.all_eq]; rfl
  rw [anyOrder_of hp]
  cases zeroM bd <;> rfl
def checkB (s : Variation) : Bool := decide (0 ≤ s.Day) && (decide (s.Day ≤ 99999) && (decide (s.Positions.length ≤ 200) && (okL none s.Positions && zeroM (accL s.Positions []))))
theorem f26_eq (s : Variation) : f26 s = some (bif checkB s then 0 else 8) := by
  unfold f26 f26n0 f26n1 checkB
  rw [lt_not, lt_not, lt_not, show decide ((s.Positions.length : Int) ≤ 200) = decide (s.Positions.length ≤ 200) from dec_nat _ 200]
  by_cases hl : s.Positions.length ≤ 200
  · have hm : s.Positions.length ≤ maxLen := Nat.le_trans hl (by unfold maxLen; decide)
    rw [f26n2_run s [] hm]
    have := f26n2L_at s s.Positions [] [] rfl (by omega)
    rw [show (((([] : List VP).length : Nat)) : Int) = 0 from rfl, List.getLast?_nil] at this
    rw [this, decide_eq_true hl]
    cases decide (0 ≤ s.Day) with
    | false => rfl
    | true => cases decide (s.Day ≤ 99999) with
      | false => rfl
      | true => cases okL none s.Positions with
        | false => rfl
        | true =>
          simp only [Bool.not_true, cond_false, cond_true, Option.bind_some, f26n3_eq, Bool.true_and]
          cases zeroM (accL s.Positions []) <;> rfl
  · rw [decide_eq_false hl]
    cases decide (0 ≤ s.Day) <;> cases decide (s.Day ≤ 99999) <;> rfl
end Go.Proofs.Ytelblamgfbkhbaa
namespace Go.Proofs.Ytelblamgfbkhbaa
set_option linter.unusedVariables false
set_option linter.unusedSimpArgs false
open Go.RowKit
theorem wr_l (a b : Int) : wr64 (wr64 a + b) = wr64 (a + b) := by
  show IntKind.i64.wrap (IntKind.i64.wrap a + b) = IntKind.i64.wrap (a + b)
  simp only [IntKind.wrap_i64]; omega

theorem keyLt_iff {a b : VP} : keyLt a b = true ↔ slt a.Member b.Member = true ∨ (a.Member = b.Member ∧ slt a.Product b.Product = true) := by
  unfold keyLt
  rw [Bool.or_eq_true, Bool.and_eq_true, seq_iff]
theorem keyLt_trans {a b c : VP} (h : keyLt a b = true) (k : keyLt b c = true) : keyLt a c = true := by
  rw [keyLt_iff] at *
  rcases h with h | ⟨h, h'⟩ <;> rcases k with k | ⟨k, k'⟩
  · exact .inl (slt_trans h k)
  · exact .inl (by rw [← k]; exact h)
  · exact .inl (by rw [h]; exact k)
  · exact .inr ⟨h.trans k, slt_trans h' k'⟩
def sameK (a b : VP) : Bool := seq a.Member b.Member && seq a.Product b.Product
theorem sameK_iff {a b : VP} : sameK a b = true ↔ a.Member = b.Member ∧ a.Product = b.Product := by
  unfold sameK
  rw [Bool.and_eq_true, seq_iff, seq_iff]
theorem cmpK_same (a b : VP) : decide (cmpK a b = 0) = sameK a b := by
  cases h : sameK a b with
  | true => exact decide_eq_true (cmpK_zero.2 (sameK_iff.1 h))
  | false => exact decide_eq_false fun e => by rw [sameK_iff.2 (cmpK_zero.1 e)] at h; cases h
theorem keyLt_total {a b : VP} (h : keyLt a b = false) (k : sameK a b = false) : keyLt b a = true := by
  rw [keyLt_iff]
  unfold keyLt sameK at *
  rw [Bool.or_eq_false_iff] at h
  cases m : slt b.Member a.Member with
  | true => exact .inl rfl
  | false =>
    have e := slt_total h.1 m
    rw [e, seq_refl, Bool.true_and] at k h
    have h2 : slt a.Product b.Product = false := h.2
    cases n : slt b.Product a.Product with
    | true => exact .inr ⟨e.symm, rfl⟩
    | false => rw [slt_total h2 n, seq_refl] at k; cases k
theorem keyLt_same {a b : VP} (h : keyLt a b = true) : sameK a b = false := by
  cases k : sameK a b with
  | false => rfl
  | true =>
    obtain ⟨h1, h2⟩ := sameK_iff.1 k
    unfold keyLt at h
    rw [h1, h2, slt_irrefl, slt_irrefl] at h
    simp at h
theorem keyLt_l {a b c : VP} (h : sameK a b = true) : keyLt a c = keyLt b c := by
  obtain ⟨h1, h2⟩ := sameK_iff.1 h
  unfold keyLt; rw [h1, h2]
theorem keyLt_r {a b c : VP} (h : sameK a b = true) : keyLt c a = keyLt c b := by
  obtain ⟨h1, h2⟩ := sameK_iff.1 h
  unfold keyLt; rw [h1, h2]
abbrev Srt (l : List VP) : Prop := l.Pairwise fun a b => keyLt a b = true
theorem okL_some : ∀ {l : List VP} {p : VP}, okL (some p) l = true ↔ (p :: l).Pairwise (fun a b => keyLt a b = true) ∧ ∀ x ∈ l, goodP x = true
  | [], p => by simp [okL]
  | y :: r, p => by
    rw [okL, ordAt, Bool.and_eq_true, Bool.and_eq_true, okL_some (l := r)]
    constructor
    · rintro ⟨h1, h2, h3, h4⟩
      refine ⟨List.pairwise_cons.2 ⟨fun z hz => ?_, h3⟩, fun z hz => ?_⟩
      · rcases List.mem_cons.1 hz with rfl | hz
        · exact h1
        · exact keyLt_trans h1 ((List.pairwise_cons.1 h3).1 z hz)
      · rcases List.mem_cons.1 hz with rfl | hz
        · exact h2
        · exact h4 z hz
    · rintro ⟨h1, h2⟩
      have h3 := List.pairwise_cons.1 h1
      exact ⟨h3.1 y List.mem_cons_self, h2 y List.mem_cons_self, h3.2, fun z hz => h2 z (List.mem_cons_of_mem _ hz)⟩
theorem okL_none {l : List VP} : okL none l = true ↔ Srt l ∧ ∀ x ∈ l, goodP x = true := by
  cases l with
  | nil => simp [okL]
  | cons y r =>
    rw [okL, ordAt, Bool.and_eq_true, Bool.and_eq_true, okL_some]
    constructor
    · rintro ⟨_, h2, h3, h4⟩
      refine ⟨h3, fun z hz => ?_⟩
      rcases List.mem_cons.1 hz with rfl | hz
      · exact h2
      · exact h4 z hz
    · rintro ⟨h1, h2⟩
      exact ⟨rfl, h2 y List.mem_cons_self, h1, fun z hz => h2 z (List.mem_cons_of_mem _ hz)⟩
section
variable {V : Type}
theorem get_put (z v : V) (k q : ByteArray) : ∀ m : List (ByteArray × V), mGet seq z q (mPut seq k v m) = bif seq q k then v else mGet seq z q m
  | [] => by simp [mPut, mGet]
  | (a, w) :: r => by
    simp only [mPut, mGet]
    cases hk : seq k a with
    | true =>
      have := seq_iff.1 hk; subst this
      simp only [cond_true, mGet]
      cases seq q k <;> rfl
    | false =>
      simp only [cond_false, mGet]
      cases hq : seq q a with
      | true =>
        have := seq_iff.1 hq; subst this
        simp only [cond_true]
        cases h : seq q k with
        | true => have := seq_iff.1 h; subst this; rw [seq_refl] at hk; cases hk
        | false => rfl
      | false => simp only [cond_false]; exact get_put z v k q r
abbrev ndM (m : List (ByteArray × V)) : Prop := m.Pairwise fun a b => a.1 ≠ b.1
theorem put_mem {k : ByteArray} {v : V} {x : ByteArray × V} : ∀ {m : List (ByteArray × V)}, x ∈ mPut seq k v m → x = (k, v) ∨ x ∈ m
  | [], h => by left; simpa [mPut] using h
  | (a, w) :: r, h => by
    rw [mPut] at h
    cases hk : seq k a with
    | true =>
      rw [hk, cond_true] at h
      have := seq_iff.1 hk; subst this
      rcases List.mem_cons.1 h with h | h
      · exact .inl h
      · exact .inr (List.mem_cons_of_mem _ h)
    | false =>
      rw [hk, cond_false] at h
      rcases List.mem_cons.1 h with h | h
      · exact .inr (by rw [h]; exact List.mem_cons_self)
      · rcases put_mem h with h | h
        · exact .inl h
        · exact .inr (List.mem_cons_of_mem _ h)
theorem put_nd {k : ByteArray} {v : V} : ∀ {m : List (ByteArray × V)}, ndM m → ndM (mPut seq k v m)
  | [], _ => by simp [mPut, ndM]
  | (a, w) :: r, h => by
    have h' := List.pairwise_cons.1 h
    rw [mPut]
    cases hk : seq k a with
    | true => exact List.pairwise_cons.2 ⟨fun y hy => h'.1 y hy, h'.2⟩
    | false =>
      refine List.pairwise_cons.2 ⟨fun y hy => ?_, put_nd h'.2⟩
      rcases put_mem hy with rfl | hy
      · intro e
        have e' : a = k := e
        rw [e', seq_refl] at hk; cases hk
      · exact h'.1 y hy
theorem get_mem {z : V} {k : ByteArray} {v : V} : ∀ {m : List (ByteArray × V)}, ndM m → (k, v) ∈ m → mGet seq z k m = v
  | (a, w) :: r, h, hm => by
    have h' := List.pairwise_cons.1 h
    rw [mGet]
    rcases List.mem_cons.1 hm with e | hm
    · have e1 : k = a := congrArg Prod.fst e
      have e2 : v = w := congrArg Prod.snd e
      rw [e1, e2, seq_refl]; rfl
    · cases hk : seq k a with
      | true => exact absurd (seq_iff.1 hk).symm (h'.1 _ hm)
      | false => exact get_mem h'.2 hm
end
def sm (w : VP → Int) : List VP → Int
  | [] => 0
  | x :: r => w x + sm w r
theorem sm_app (w : VP → Int) : ∀ l r : List VP, sm w (l ++ r) = sm w l + sm w r
  | [], r => by simp [sm]
  | x :: l, r => by simp only [List.cons_append, sm, sm_app w l r]; omega
theorem sm_bound (w : VP → Int) (b : Int) : ∀ l : List VP, (∀ x ∈ l, -b ≤ w x ∧ w x ≤ b) → -(b * l.length) ≤ sm w l ∧ sm w l ≤ b * l.length
  | [], _ => by simp [sm]
  | x :: r, h => by
    have h1 := h x List.mem_cons_self
    have h2 := sm_bound w b r fun y hy => h y (List.mem_cons_of_mem _ hy)
    simp only [sm, List.length_cons, Int.natCast_add, Int.mul_add]
    simp only [Int.natCast_one, Int.mul_one]
    omega
def wq (p : ByteArray) (x : VP) : Int := bif seq x.Product p then x.Quantity else 0
def wb (p : ByteArray) (x : VP) : Int := bif seq x.Product p then x.Basis else 0
theorem acc_get (p : ByteArray) : ∀ (l : List VP) (m : List (ByteArray × Sums_)) (a b : Int), mGet seq (Sums_.mk 0 0) p m = ⟨wr64 a, wr64 b⟩ → mGet seq (Sums_.mk 0 0) p (accL l m) = ⟨wr64 (a + sm (wq p) l), wr64 (b + sm (wb p) l)⟩
  | [], m, a, b, h => by simpa [accL, sm] using h
  | x :: r, m, a, b, h => by
    rw [accL, acc_get p r _ (a + wq p x) (b + wb p x)]
    · simp only [sm, Int.add_assoc]
    · rw [get_put]
      cases hk : seq p x.Product with
      | true =>
        have := seq_iff.1 hk; subst this
        simp only [cond_true, h, wr_l, wq, wb, seq_refl]
      | false =>
        have : seq x.Product p = false := by
          cases k : seq x.Product p with
          | false => rfl
          | true => rw [seq_iff.1 k, seq_refl] at hk; cases hk
        simp only [cond_false, h, wq, wb, this, Int.add_zero]
theorem acc_nd : ∀ (l : List VP) {m : List (ByteArray × Sums_)}, ndM m → ndM (accL l m)
  | [], m, h => h
  | x :: r, m, h => acc_nd r (put_nd h)
theorem acc_nil (p : ByteArray) (l : List VP) : mGet seq (Sums_.mk 0 0) p (accL l []) = ⟨wr64 (sm (wq p) l), wr64 (sm (wb p) l)⟩ := by
  have := acc_get p l [] 0 0 rfl
  simpa using this
theorem zget {m : List (ByteArray × Sums_)} (h : zeroM m = true) (p : ByteArray) : mGet seq (Sums_.mk 0 0) p m = ⟨0, 0⟩ := by
  induction m with
  | nil => rfl
  | cons x r ih =>
    obtain ⟨k, ⟨a, b⟩⟩ := x
    unfold zeroM at h
    rw [List.all_cons, Bool.and_eq_true] at h
    have h1 := h.1
    simp only [Sums_.eqb, Bool.and_eq_true, decide_eq_true_eq] at h1
    rw [mGet, ih h.2, h1.1, h1.2]
    cases seq p k <;> rfl
def Flat (l : List VP) : Prop := ∀ p, sm (wq p) l = 0 ∧ sm (wb p) l = 0
theorem good_q {x : VP} (h : goodP x = true) : -1048576 ≤ x.Quantity ∧ x.Quantity ≤ 1048576 := by
  unfold goodP at h; rw [Bool.and_eq_true] at h; exact inR_iff.1 h.1
theorem good_b {x : VP} (h : goodP x = true) : -1125899906842624 ≤ x.Basis ∧ x.Basis ≤ 1125899906842624 := by
  unfold goodP at h; rw [Bool.and_eq_true, Bool.and_eq_true] at h; exact inR_iff.1 h.2.1
theorem wq_bound {l : List VP} (h : ∀ x ∈ l, goodP x = true) (hl : l.length ≤ 200) (p : ByteArray) : -209715200 ≤ sm (wq p) l ∧ sm (wq p) l ≤ 209715200 := by
  have := sm_bound (wq p) 1048576 l fun x hx => by
    have := good_q (h x hx)
    unfold wq
    cases seq x.Product p <;> simp only [cond_true, cond_false] <;> omega
  omega
theorem wb_bound {l : List VP} (h : ∀ x ∈ l, goodP x = true) (hl : l.length ≤ 200) (p : ByteArray) : -225179981368524800 ≤ sm (wb p) l ∧ sm (wb p) l ≤ 225179981368524800 := by
  have := sm_bound (wb p) 1125899906842624 l fun x hx => by
    have := good_b (h x hx)
    unfold wb
    cases seq x.Product p <;> simp only [cond_true, cond_false] <;> omega
  omega
theorem zeroM_iff {l : List VP} (h : ∀ x ∈ l, goodP x = true) (hl : l.length ≤ 200) : zeroM (accL l []) = true ↔ Flat l := by
  constructor
  · intro hz p
    have h1 := acc_nil p l
    rw [zget hz p, Sums_.mk.injEq] at h1
    have h2 := wq_bound h hl p
    have h3 := wb_bound h hl p
    rw [wr_in (by omega) (by omega), wr_in (by omega) (by omega)] at h1
    exact ⟨h1.1.symm, h1.2.symm⟩
  · intro hf
    unfold zeroM
    rw [List.all_eq_true]
    rintro ⟨k, v⟩ hx
    have h1 := get_mem (z := Sums_.mk 0 0) (acc_nd l (m := []) List.Pairwise.nil) hx
    rw [acc_nil, (hf k).1, (hf k).2] at h1
    rw [← h1]; rfl
structure Ok (s : Variation) : Prop where
  d0 : 0 ≤ s.Day
  d1 : s.Day ≤ 99999
  len : s.Positions.length ≤ 200
  srt : Srt s.Positions
  good : ∀ x ∈ s.Positions, goodP x = true
  flat : Flat s.Positions
theorem check_iff {s : Variation} : checkB s = true ↔ Ok s := by
  unfold checkB
  simp only [Bool.and_eq_true, decide_eq_true_eq, okL_none]
  constructor
  · rintro ⟨h1, h2, h3, ⟨h4, h5⟩, h6⟩
    exact ⟨h1, h2, h3, h4, h5, (zeroM_iff h5 h3).1 h6⟩
  · rintro ⟨h1, h2, h3, h4, h5, h6⟩
    exact ⟨h1, h2, h3, ⟨h4, h5⟩, (zeroM_iff h5 h3).2 h6⟩

abbrev midI (lo hi : Int) : Int := wr64 (shrK .u64 (wru64 (wr64 (lo + hi))) 1)
theorem mid_eq {lo hi : Nat} (h : lo + hi ≤ 1000000) : midI lo hi = (((lo + hi) / 2 : Nat) : Int) := by
  have h1 : wr64 ((lo : Int) + (hi : Int)) = ((lo + hi : Nat) : Int) := by rw [wr_in (by omega) (by omega)]; omega
  have h2 : wru64 ((lo + hi : Nat) : Int) = ((lo + hi : Nat) : Int) := by
    show IntKind.u64.wrap _ = _
    rw [IntKind.wrap_u64]; omega
  unfold midI
  rw [h1, h2]
  have h3 : shrK .u64 ((lo + hi : Nat) : Int) 1 = (((lo + hi) / 2 : Nat) : Int) := by
    show Int.fdiv _ (2 ^ (min (1 : Int).toNat IntKind.u64.bits)) = _
    have : (2 : Int) ^ (min (1 : Int).toNat IntKind.u64.bits) = 2 := by decide
    rw [this, Int.fdiv_eq_ediv_of_nonneg _ (by omega)]
    omega
  rw [h3, wr_in (by omega) (by omega)]
def bsr {α : Type} (c : α → Int) (l : List α) : Nat → Int → Int → Option Int
  | 0, _, _ => none
  | f + 1, lo, hi => bif decide (lo < hi) then (at? l (midI lo hi)).bind fun x => bif decide (c x < 0) then bsr c l f (wr64 (midI lo hi + 1)) hi else bsr c l f lo (midI lo hi) else some lo
theorem bsr_ok {α : Type} (c : α → Int) (l : List α) (hl : l.length ≤ 400000) (mono : ∀ (i j : Nat) (x y : α), i ≤ j → l[i]? = some x → l[j]? = some y → c y < 0 → c x < 0) :
    ∀ (f lo hi : Nat), lo ≤ hi → hi ≤ l.length → hi - lo < f → (∀ (j : Nat) (x : α), j < lo → l[j]? = some x → c x < 0) → (∀ (j : Nat) (x : α), hi ≤ j → l[j]? = some x → ¬ c x < 0) →
      ∃ i : Nat, bsr c l f lo hi = some (i : Int) ∧ i ≤ l.length ∧ (∀ (j : Nat) (x : α), j < i → l[j]? = some x → c x < 0) ∧ (∀ (j : Nat) (x : α), i ≤ j → l[j]? = some x → ¬ c x < 0)
  | 0, lo, hi, _, _, h, _, _ => by omega
  | f + 1, lo, hi, h1, h2, h3, h4, h5 => by
    rw [bsr]
    by_cases h : lo < hi
    · have hm : (lo + hi) / 2 < l.length := by omega
      obtain ⟨x, hx⟩ : ∃ x, l[(lo + hi) / 2]? = some x := ⟨l[(lo + hi) / 2], List.getElem?_eq_getElem hm⟩
      rw [decide_eq_true (by omega : (lo : Int) < (hi : Int)), mid_eq (by omega), at_nat, hx]
      simp only [cond_true, Option.bind_some]
      by_cases hc : c x < 0
      · rw [decide_eq_true hc, cond_true, wr_in (by omega) (by omega)]
        have := bsr_ok c l hl mono f ((lo + hi) / 2 + 1) hi (by omega) h2 (by omega) (fun j y hj hy => mono j _ y x (by omega) hy hx hc) h5
        simpa using this
      · rw [decide_eq_false hc, cond_false]
        exact bsr_ok c l hl mono f lo ((lo + hi) / 2) (by omega) (by omega) (by omega) h4 fun j y hj hy e => hc (mono _ j x y hj hx hy e)
    · rw [decide_eq_false (by omega : ¬ (lo : Int) < (hi : Int)), cond_false]
      have : lo = hi := by omega
      subst this
      exact ⟨lo, rfl, h2, h4, h5⟩
theorem bsr_split {α : Type} (c : α → Int) (l : List α) (hl : l.length ≤ 400000) (mono : ∀ (i j : Nat) (x y : α), i ≤ j → l[i]? = some x → l[j]? = some y → c y < 0 → c x < 0) :
    ∃ pre post : List α, l = pre ++ post ∧ bsr c l FUEL 0 l.length = some (pre.length : Int) ∧ (∀ x ∈ pre, c x < 0) ∧ (∀ x ∈ post, ¬ c x < 0) := by
  obtain ⟨i, h1, h2, h3, h4⟩ := bsr_ok c l hl mono FUEL 0 l.length (by omega) (by omega) (by unfold FUEL; omega) (fun j x hj => by omega) (fun j x hj hx => by have := lt_of_at hx; omega)
  refine ⟨l.take i, l.drop i, (List.take_append_drop i l).symm, ?_, fun x hx => ?_, fun x hx => ?_⟩
  · rw [List.length_take, Nat.min_eq_left h2]; exact h1
  · obtain ⟨j, hj⟩ := List.mem_iff_getElem?.1 hx
    have := lt_of_at hj
    rw [List.length_take] at this
    rw [List.getElem?_take_of_lt (by omega)] at hj
    exact h3 j x (by omega) hj
  · obtain ⟨j, hj⟩ := List.mem_iff_getElem?.1 hx
    rw [List.getElem?_drop] at hj
    exact h4 (i + j) x (by omega) hj
theorem f63_53n1_eq (l : List VP) (k : VP) : ∀ (f : Nat) (lo hi : Int), f63_53n1 f l k lo hi = (bsr (fun x => cmpK x k) l f lo hi).map .exit0
  | 0, lo, hi => rfl
  | f + 1, lo, hi => by
    rw [f63_53n1, bsr]
    cases decide (lo < hi) with
    | false => rfl
    | true =>
      simp only [cond_true]
      cases at? l (midI lo hi) with
      | none => rfl
      | some x =>
        simp only [Option.bind_some, f53_eq, f63_53n1_eq l k f]
        cases decide (cmpK x k < 0) <;> rfl
def headB (g : VP → Bool) : List VP → Bool
  | [] => false
  | x :: _ => g x
theorem f63_53_eq {l : List VP} (hs : Srt l) (hl : l.length ≤ 400000) (k : VP) : ∃ pre post : List VP, l = pre ++ post ∧ f63_53 l k = some ((pre.length : Int), headB (fun x => sameK x k) post) ∧ (∀ x ∈ pre, keyLt x k = true) ∧ (∀ x ∈ post, keyLt x k = false) := by
  obtain ⟨pre, post, h1, h2, h3, h4⟩ := bsr_split (fun x => cmpK x k) l hl fun i j x y hij hx hy hc => by
    rcases Nat.lt_or_ge i j with h | h
    · have h1 := List.pairwise_iff_getElem.1 hs i j (lt_of_at hx) (lt_of_at hy) h
      rw [(List.getElem?_eq_some_iff.1 hx).2, (List.getElem?_eq_some_iff.1 hy).2] at h1
      have h2 : keyLt y k = true := by rw [← cmpK_neg]; exact decide_eq_true hc
      have := keyLt_trans h1 h2
      rw [← cmpK_neg] at this
      exact of_decide_eq_true this
    · have : i = j := by omega
      subst this
      rw [hx] at hy; obtain rfl := Option.some.inj hy; exact hc
  refine ⟨pre, post, h1, ?_, fun x hx => by rw [← cmpK_neg]; exact decide_eq_true (h3 x hx), fun x hx => by rw [← cmpK_neg]; exact decide_eq_false (h4 x hx)⟩
  unfold f63_53 f63_53n0
  rw [f63_53n1_eq, h2]
  simp only [Option.map_some, Option.bind_some]
  cases post with
  | nil =>
    rw [h1, decide_eq_false (by simp)]; rfl
  | cons x r =>
    have hx : l[pre.length]? = some x := by rw [h1]; simp
    rw [decide_eq_true (by have := lt_of_at hx; omega), at_nat, hx]
    simp only [cond_true, Option.bind_some, f53_eq, cmpK_same]
    rfl
end Go.Proofs.Ytelblamgfbkhbaa
namespace Go.Proofs.Ytelblamgfbkhbaa
set_option linter.unusedVariables false
set_option linter.unusedSimpArgs false
open Go.RowKit
def nz (x : VP) : List VP := bif zeroP x then [] else [x]
def upd (x : VP) (q b : Int) : VP := ⟨x.Member, x.Product, wr64 (x.Quantity + q), wr64 (x.Basis + b)⟩
def putL (k : VP) (q b : Int) : List VP → List VP
  | [] => nz (upd k q b)
  | x :: r => bif keyLt x k then x :: putL k q b r else bif sameK x k then nz (upd x q b) ++ r else nz (upd k q b) ++ x :: r
def putP (k : VP) (q b : Int) : List VP → VP
  | [] => upd k q b
  | x :: r => bif keyLt x k then putP k q b r else bif sameK x k then upd x q b else upd k q b
theorem putL_pre {k : VP} {q b : Int} : ∀ {pre post : List VP}, (∀ x ∈ pre, keyLt x k = true) → putL k q b (pre ++ post) = pre ++ putL k q b post ∧ putP k q b (pre ++ post) = putP k q b post
  | [], post, _ => ⟨rfl, rfl⟩
  | x :: pre, post, h => by
    have h1 := h x List.mem_cons_self
    have h2 := putL_pre (q := q) (b := b) (pre := pre) (post := post) fun y hy => h y (List.mem_cons_of_mem _ hy)
    simp only [List.cons_append, putL, putP, h1, cond_true, h2]
    exact ⟨trivial, trivial⟩
theorem f46r1_at {l pre r : List VP} {x : VP} {m p : ByteArray} {q b : Int} {f : Bool} (hl : pre.length ≤ 100000) (h1 : f63_53 l ⟨m, p, 0, 0⟩ = some ((pre.length : Int), f)) (h2 : f46r1n1 q b ((pre.length : Int), f) l m p = some (.norm (pre ++ x :: r))) (hm : x.Member = m) (hp : x.Product = p) :
    f46r1 m p q b l = some (pre ++ (nz (upd x q b) ++ r), upd x q b) := by
  subst hm hp
  have hat : at? (pre ++ x :: r) ((pre.length : Nat) : Int) = some x := by rw [at_nat]; simp
  have e := eqb_zero (upd x q b)
  simp only [upd] at e
  unfold f46r1 f46r1n0
  rw [h1]
  simp only [Option.bind_some]
  rw [h2]
  simp only [Option.bind_some]
  rw [hat]
  simp only [Option.bind_some, e, Int.toNat_natCast]
  unfold nz upd
  cases zeroP ⟨x.Member, x.Product, wr64 (x.Quantity + q), wr64 (x.Basis + b)⟩ with
  | false => simp
  | true =>
    have hw : wr64 ((pre.length : Int) + 1) = (pre.length : Int) + 1 := wr_in (by omega) (by omega)
    unfold de65
    rw [hw, decide_eq_true (by omega : (0 : Int) ≤ (pre.length : Int)), decide_eq_true (rfl : (pre.length : Int) + 1 = (pre.length : Int) + 1), decide_eq_true (by simp; omega : (pre.length : Int) < _)]
    simp
theorem fits52 {n : Nat} (h : n ≤ 1000000) : fitsB n te52 = true := by
  have : fit n 48 = true := fit_small h (by omega)
  exact fit_of this rfl
theorem f46r1_eq {l : List VP} (hs : Srt l) (hl : l.length ≤ 100000) (m p : ByteArray) (q b : Int) : f46r1 m p q b l = some (putL ⟨m, p, 0, 0⟩ q b l, putP ⟨m, p, 0, 0⟩ q b l) := by
  obtain ⟨pre, post, rfl, h2, h3, h4⟩ := f63_53_eq hs (by omega) ⟨m, p, 0, 0⟩
  obtain ⟨e1, e2⟩ := putL_pre (k := ⟨m, p, 0, 0⟩) (q := q) (b := b) (post := post) h3
  rw [List.length_append] at hl
  rw [e1, e2]
  have ins : f46r1n1 q b ((pre.length : Int), false) (pre ++ post) m p = some (.norm (pre ++ ⟨m, p, 0, 0⟩ :: post)) := by
    unfold f46r1n1 in64
    rw [cond_false]
    rw [fits52 (by rw [List.length_append]; omega), decide_eq_true (by omega : (0 : Int) ≤ (pre.length : Int)), decide_eq_true (by rw [List.length_append]; omega : (pre.length : Int) ≤ _)]
    simp
  cases post with
  | nil =>
    have := f46r1_at (by omega) h2 ins rfl rfl
    rw [List.append_nil (nz _)] at this
    exact this
  | cons x r =>
    have hx := h4 x List.mem_cons_self
    rw [putL, putP, hx, cond_false, cond_false]
    cases hk : sameK x ⟨m, p, 0, 0⟩ with
    | true =>
      rw [headB, hk] at h2
      exact f46r1_at (by omega) h2 rfl (sameK_iff.1 hk).1 (sameK_iff.1 hk).2
    | false =>
      rw [headB, hk] at h2
      exact f46r1_at (by omega) h2 ins rfl rfl

theorem nz_mem {x y : VP} : y ∈ nz x ↔ y = x ∧ zeroP x = false := by
  unfold nz
  cases zeroP x <;> simp
theorem putP_key (k : VP) (q b : Int) : ∀ l : List VP, sameK (putP k q b l) k = true
  | [] => by simp [putP, upd, sameK, seq_refl]
  | x :: r => by
    rw [putP]
    cases keyLt x k with
    | true => exact putP_key k q b r
    | false =>
      cases h : sameK x k with
      | true => exact h
      | false => simp [upd, sameK, seq_refl]
theorem put_mem' {k : VP} {q b : Int} {y : VP} : ∀ {l : List VP}, y ∈ putL k q b l → y ∈ l ∨ (y = putP k q b l ∧ zeroP y = false)
  | [], h => .inr (by have := nz_mem.1 h; exact ⟨this.1, by rw [this.1]; exact this.2⟩)
  | x :: r, h => by
    rw [putL] at h
    rw [putP]
    cases h1 : keyLt x k with
    | true =>
      rw [h1, cond_true] at h
      rcases List.mem_cons.1 h with h | h
      · exact .inl (by rw [h]; exact List.mem_cons_self)
      · rcases put_mem' h with h | h
        · exact .inl (List.mem_cons_of_mem _ h)
        · exact .inr h
    | false =>
      rw [h1, cond_false] at h
      cases h2 : sameK x k with
      | true =>
        rw [h2, cond_true] at h
        rcases List.mem_append.1 h with h | h
        · have := nz_mem.1 h; exact .inr ⟨this.1, by rw [this.1]; exact this.2⟩
        · exact .inl (List.mem_cons_of_mem _ h)
      | false =>
        rw [h2, cond_false] at h
        rcases List.mem_append.1 h with h | h
        · have := nz_mem.1 h; exact .inr ⟨this.1, by rw [this.1]; exact this.2⟩
        · exact .inl h
theorem put_len (k : VP) (q b : Int) : ∀ l : List VP, (putL k q b l).length ≤ l.length + 1
  | [] => by unfold putL nz; cases zeroP (upd k q b) <;> simp
  | x :: r => by
    have := put_len k q b r
    rw [putL]
    cases keyLt x k with
    | true => simp only [cond_true, List.length_cons]; omega
    | false => cases sameK x k with
      | true => unfold nz; cases zeroP (upd x q b) <;> simp <;> omega
      | false => unfold nz; cases zeroP (upd k q b) <;> simp
theorem put_srt {k : VP} {q b : Int} : ∀ {l : List VP}, Srt l → Srt (putL k q b l)
  | [], _ => by unfold putL nz; cases zeroP (upd k q b) <;> simp [Srt]
  | x :: r, h => by
    have h' := List.pairwise_cons.1 h
    rw [putL]
    cases h1 : keyLt x k with
    | true =>
      refine List.pairwise_cons.2 ⟨fun y hy => ?_, put_srt h'.2⟩
      rcases put_mem' hy with hy | ⟨rfl, _⟩
      · exact h'.1 y hy
      · rw [keyLt_r (putP_key k q b r)]; exact h1
    | false =>
      cases h2 : sameK x k with
      | true =>
        rw [cond_false, cond_true]
        unfold nz
        cases zeroP (upd x q b) with
        | true => exact h'.2
        | false => exact List.pairwise_cons.2 ⟨fun y hy => h'.1 y hy, h'.2⟩
      | false =>
        rw [cond_false, cond_false]
        unfold nz
        cases zeroP (upd k q b) with
        | true => exact h
        | false =>
          have h3 := keyLt_total h1 h2
          refine List.pairwise_cons.2 ⟨fun y hy => ?_, h⟩
          rcases List.mem_cons.1 hy with rfl | hy
          · exact h3
          · exact keyLt_trans h3 (h'.1 y hy)
theorem sm_nz {w : VP → Int} (h0 : ∀ x, zeroP x = true → w x = 0) (x : VP) : sm w (nz x) = w x := by
  unfold nz
  cases h : zeroP x with
  | true => simp [sm, h0 x h]
  | false => simp [sm]
theorem sm_put {w : VP → Int} {k : VP} {q b d : Int} (h0 : ∀ x, zeroP x = true → w x = 0) (hk : w (upd k q b) = d) : ∀ {l : List VP}, (∀ x ∈ l, sameK x k = true → w (upd x q b) = w x + d) → sm w (putL k q b l) = sm w l + d
  | [], _ => by rw [putL, sm_nz h0, hk]; simp [sm]
  | x :: r, h => by
    have ih := sm_put h0 hk (l := r) fun y hy => h y (List.mem_cons_of_mem _ hy)
    rw [putL]
    cases keyLt x k with
    | true => simp only [cond_true, sm, ih]; omega
    | false =>
      cases h2 : sameK x k with
      | true => simp only [cond_true, cond_false, sm_app, sm_nz h0, h x List.mem_cons_self h2, sm]; omega
      | false => simp only [cond_false, sm_app, sm_nz h0, hk, sm]; omega

def vl (k : VP) : List VP → Int × Int
  | [] => (0, 0)
  | x :: r => bif sameK x k then (x.Quantity, x.Basis) else vl k r
theorem sameK_symm {a b : VP} (h : sameK a b = true) : sameK b a = true := by
  rw [sameK_iff] at *; exact ⟨h.1.symm, h.2.symm⟩
theorem sameK_trans {a b c : VP} (h : sameK a b = true) (k : sameK b c = true) : sameK a c = true := by
  rw [sameK_iff] at *; exact ⟨h.1.trans k.1, h.2.trans k.2⟩
theorem sameK_l {a b c : VP} (h : sameK a b = true) : sameK a c = sameK b c := by
  obtain ⟨h1, h2⟩ := sameK_iff.1 h
  unfold sameK; rw [h1, h2]
theorem vl_key {a b : VP} (h : sameK a b = true) : ∀ l : List VP, vl a l = vl b l
  | [] => rfl
  | x :: r => by
    have : sameK x a = sameK x b := by obtain ⟨h1, h2⟩ := sameK_iff.1 h; unfold sameK; rw [h1, h2]
    rw [vl, vl, this, vl_key h r]
theorem vl_none {k : VP} : ∀ {l : List VP}, (∀ x ∈ l, sameK x k = false) → vl k l = (0, 0)
  | [], _ => rfl
  | x :: r, h => by rw [vl, h x List.mem_cons_self, cond_false, vl_none fun y hy => h y (List.mem_cons_of_mem _ hy)]
theorem vl_gt {k : VP} {l : List VP} (h : ∀ x ∈ l, keyLt k x = true) : vl k l = (0, 0) :=
  vl_none fun x hx => by
    have := keyLt_same (h x hx)
    cases e : sameK x k with
    | false => rfl
    | true => rw [sameK_symm e] at this; cases this
theorem vl_nz (k x : VP) (h : sameK x k = true) : vl k (nz x) = (x.Quantity, x.Basis) := by
  unfold nz
  cases hz : zeroP x with
  | true =>
    unfold zeroP at hz
    rw [Bool.and_eq_true, decide_eq_true_eq, decide_eq_true_eq] at hz
    rw [hz.1, hz.2]; rfl
  | false => rw [cond_false, vl, h, cond_true]
theorem vl_app (k : VP) : ∀ a b : List VP, vl k (a ++ b) = bif a.any (fun x => sameK x k) then vl k a else vl k b
  | [], b => rfl
  | x :: a, b => by
    rw [List.cons_append, vl, vl, vl_app k a b, List.any_cons]
    cases sameK x k <;> rfl
theorem vl_nz_ne {k x : VP} (h : sameK x k = false) (l : List VP) : vl k (nz x ++ l) = vl k l := by
  unfold nz
  cases zeroP x with
  | true => rfl
  | false => rw [cond_false, List.singleton_append, vl, h, cond_false]
theorem vl_nz_gt {k x : VP} {l : List VP} (h : sameK x k = true) (hl : ∀ y ∈ l, keyLt k y = true) : vl k (nz x ++ l) = (x.Quantity, x.Basis) := by
  rw [vl_app, vl_gt hl]
  have h1 := vl_nz k x h
  unfold nz at *
  cases hz : zeroP x with
  | true => rw [hz] at h1; rw [cond_true] at h1 ⊢; exact h1
  | false => rw [cond_false, List.any_cons, h, Bool.true_or, cond_true, vl, h, cond_true]
theorem vl_put {k : VP} (h0 : k.Quantity = 0 ∧ k.Basis = 0) {q b : Int} (g : VP) : ∀ {l : List VP}, Srt l → vl g (putL k q b l) = bif sameK k g then (wr64 ((vl g l).1 + q), wr64 ((vl g l).2 + b)) else vl g l
  | [], _ => by
    rw [putL]
    cases hg : sameK k g with
    | true => rw [vl_nz g _ (show sameK (upd k q b) g = true from hg)]; simp [upd, h0.1, h0.2, vl]
    | false =>
      have := vl_nz_ne (k := g) (x := upd k q b) hg []
      rw [List.append_nil] at this
      rw [this]; rfl
  | x :: r, h => by
    have h' := List.pairwise_cons.1 h
    have ih := vl_put h0 (q := q) (b := b) g h'.2
    rw [putL]
    cases h1 : keyLt x k with
    | true =>
      rw [cond_true, vl, vl, ih]
      cases hg : sameK k g with
      | true =>
        have : sameK x g = false := by
          cases e : sameK x g with
          | false => rfl
          | true => have := sameK_trans e (sameK_symm hg); rw [keyLt_same h1] at this; cases this
        rw [this]; rfl
      | false => rfl
    | false =>
      rw [cond_false]
      cases h2 : sameK x k with
      | true =>
        rw [cond_true]
        cases hg : sameK k g with
        | true =>
          have hx : sameK x g = true := sameK_trans h2 hg
          rw [vl_nz_gt (show sameK (upd x q b) g = true from hx) fun y hy => by rw [← keyLt_l hx]; exact h'.1 y hy]
          rw [vl, hx]
          rfl
        | false =>
          have hx : sameK x g = false := by rw [sameK_l h2]; exact hg
          rw [vl_nz_ne (show sameK (upd x q b) g = false from hx), vl, hx]; rfl
      | false =>
        have h3 := keyLt_total h1 h2
        have hgt : ∀ y ∈ x :: r, keyLt k y = true := fun y hy => by
          rcases List.mem_cons.1 hy with rfl | hy
          · exact h3
          · exact keyLt_trans h3 (h'.1 y hy)
        rw [cond_false]
        cases hg : sameK k g with
        | true =>
          have hgt' : ∀ y ∈ x :: r, keyLt g y = true := fun y hy => by rw [← keyLt_l hg]; exact hgt y hy
          rw [vl_nz_gt (show sameK (upd k q b) g = true from hg) hgt', vl_gt hgt']
          simp [upd, h0.1, h0.2]
        | false => rw [vl_nz_ne (show sameK (upd k q b) g = false from hg)]; rfl
theorem putP_vl {k : VP} (h0 : k.Quantity = 0 ∧ k.Basis = 0) {q b : Int} : ∀ {l : List VP}, Srt l → putP k q b l = ⟨k.Member, k.Product, wr64 ((vl k l).1 + q), wr64 ((vl k l).2 + b)⟩
  | [], _ => by simp [putP, upd, vl, h0.1, h0.2]
  | x :: r, h => by
    have h' := List.pairwise_cons.1 h
    rw [putP, vl]
    cases h1 : keyLt x k with
    | true => rw [cond_true, keyLt_same h1, cond_false, putP_vl h0 h'.2]
    | false =>
      rw [cond_false]
      cases h2 : sameK x k with
      | true => obtain ⟨e1, e2⟩ := sameK_iff.1 h2; rw [cond_true, cond_true, upd, e1, e2]
      | false =>
        have h3 := keyLt_total h1 h2
        rw [cond_false, cond_false, vl_gt fun y hy => keyLt_trans h3 (h'.1 y hy)]
        simp [upd, h0.1, h0.2]
theorem nz_ne {x : VP} (h : zeroP x = false) : (x.Quantity, x.Basis) ≠ (0, 0) := by
  intro e
  have e1 : x.Quantity = 0 := congrArg Prod.fst e
  have e2 : x.Basis = 0 := congrArg Prod.snd e
  unfold zeroP at h
  rw [e1, e2] at h
  cases h
theorem vl_ext : ∀ {l l' : List VP}, Srt l → Srt l' → (∀ x ∈ l, zeroP x = false) → (∀ x ∈ l', zeroP x = false) → (∀ k, vl k l = vl k l') → l = l'
  | [], [], _, _, _, _, _ => rfl
  | [], y :: r', _, _, _, z', h => by
    have := h y
    rw [vl, vl, show sameK y y = true by simp [sameK, seq_refl], cond_true] at this
    exact absurd this.symm (nz_ne (z' y List.mem_cons_self))
  | x :: r, [], _, _, z, _, h => by
    have := h x
    rw [vl, vl, show sameK x x = true by simp [sameK, seq_refl], cond_true] at this
    exact absurd this (nz_ne (z x List.mem_cons_self))
  | x :: r, y :: r', s, s', z, z', h => by
    have t := List.pairwise_cons.1 s
    have t' := List.pairwise_cons.1 s'
    have hxx : sameK x x = true := by simp [sameK, seq_refl]
    have hyy : sameK y y = true := by simp [sameK, seq_refl]
    have no : ∀ {a c : VP} {u v : List VP}, Srt (a :: u) → Srt (c :: v) → zeroP a = false → (∀ k, vl k (a :: u) = vl k (c :: v)) → keyLt a c = true → False := fun {a c u v} sa sc za hh hlt => by
      have tc := List.pairwise_cons.1 sc
      have e := hh a
      rw [vl_gt (l := c :: v) (fun w hw => by
        rcases List.mem_cons.1 hw with rfl | hw
        · exact hlt
        · exact keyLt_trans hlt (tc.1 w hw)), vl, show sameK a a = true by simp [sameK, seq_refl], cond_true] at e
      exact nz_ne za e
    have k : sameK x y = true := by
      cases k : sameK x y with
      | true => rfl
      | false =>
        cases h1 : keyLt x y with
        | true => exact absurd h1 (fun h1 => no s s' (z x List.mem_cons_self) h h1)
        | false => exact absurd (keyLt_total h1 k) (fun h2 => no s' s (z' y List.mem_cons_self) (fun k => (h k).symm) h2)
    have e := h x
    rw [vl, vl, hxx, sameK_symm k, cond_true, cond_true] at e
    have e1 : x.Quantity = y.Quantity := congrArg Prod.fst e
    have e2 : x.Basis = y.Basis := congrArg Prod.snd e
    have exy : x = y := by
      obtain ⟨k1, k2⟩ := sameK_iff.1 k
      cases x; cases y
      simp only at e1 e2 k1 k2
      subst e1 e2 k1 k2; rfl
    subst exy
    rw [vl_ext t.2 t'.2 (fun w hw => z w (List.mem_cons_of_mem _ hw)) (fun w hw => z' w (List.mem_cons_of_mem _ hw)) fun k => ?_]
    cases hk : sameK x k with
    | true =>
      rw [← vl_key hk, ← vl_key hk, vl_gt t.1, vl_gt t'.1]
    | false =>
      have := h k
      rw [vl, vl, hk, cond_false, cond_false] at this
      exact this
end Go.Proofs.Ytelblamgfbkhbaa
namespace Go.Proofs.Ytelblamgfbkhbaa
set_option linter.unusedVariables false
set_option linter.unusedSimpArgs false
open Go.RowKit
theorem mul_bd {a b : Int} {x y : Nat} (h : a.natAbs ≤ x) (k : b.natAbs ≤ y) : (a * b).natAbs ≤ x * y := by
  rw [Int.natAbs_mul]; exact Nat.mul_le_mul h k
theorem f47r1_eq {l : List VP} (h : l.length ≤ 1000000) : f47r1 l = some l := by
  unfold f47r1 f47r1n0
  cases l with
  | nil => rfl
  | cons x r => rw [req, fit_small h (by omega)]; rfl
abbrev kOf (m p : ByteArray) : VP := ⟨m, p, 0, 0⟩
def tA (s : Variation) (bu pr : ByteArray) (q p : Int) : VP := putP (kOf bu pr) q (q * p) s.Positions
def tL1 (s : Variation) (bu pr : ByteArray) (q p : Int) : List VP := putL (kOf bu pr) q (q * p) s.Positions
def tB (s : Variation) (bu se pr : ByteArray) (q p : Int) : VP := putP (kOf se pr) (-q) (-(q * p)) (tL1 s bu pr q p)
def tL2 (s : Variation) (bu se pr : ByteArray) (q p : Int) : List VP := putL (kOf se pr) (-q) (-(q * p)) (tL1 s bu pr q p)
def askB (bu se pr : ByteArray) (q p : Int) : Bool := partyB bu && (partyB se && (!(seq bu se) && (nameB pr && (decide (1 ≤ q) && (decide (q ≤ 1048576) && inR p 536870912)))))
def noV : Variation := ⟨0, []⟩
def tradeS (s : Variation) (bu se pr : ByteArray) (q p : Int) : Variation × Int :=
  bif checkB s then
    bif askB bu se pr q p then
      bif inR (tB s bu se pr q p).Quantity 1048576 && inR (tA s bu pr q p).Quantity 1048576 then
        bif inR (tB s bu se pr q p).Basis 1125899906842624 && inR (tA s bu pr q p).Basis 1125899906842624 then
          bif decide ((tL2 s bu se pr q p).length ≤ 200) then (⟨s.Day, tL2 s bu se pr q p⟩, 0) else (noV, 22)
        else (noV, 14)
      else (noV, 52)
    else (noV, 2)
  else (noV, 8)
structure Ask (bu se pr : ByteArray) (q p : Int) : Prop where
  bp : partyB bu = true
  sp : partyB se = true
  ne : seq bu se = false
  np : nameB pr = true
  q0 : 1 ≤ q
  q1 : q ≤ 1048576
  p0 : -536870912 ≤ p
  p1 : p ≤ 536870912
theorem ask_iff {bu se pr : ByteArray} {q p : Int} : askB bu se pr q p = true ↔ Ask bu se pr q p := by
  unfold askB
  simp only [Bool.and_eq_true, decide_eq_true_eq, Bool.not_eq_true', inR_iff]
  exact ⟨fun ⟨a, b, c, d, e, f, g, h⟩ => ⟨a, b, c, d, e, f, g, h⟩, fun ⟨a, b, c, d, e, f, g, h⟩ => ⟨a, b, c, d, e, f, g, h⟩⟩
theorem Ask.m {bu se pr : ByteArray} {q p : Int} (h : Ask bu se pr q p) : -562949953421312 ≤ q * p ∧ q * p ≤ 562949953421312 := by
  have := mul_bd (a := q) (b := p) (x := 1048576) (y := 536870912) (by have := h.q0; have := h.q1; omega) (by have := h.p0; have := h.p1; omega)
  omega
theorem f16_eq (s : Variation) (bu se pr : ByteArray) (q p : Int) : f16 s bu se pr q p = some (tradeS s bu se pr q p) := by
  have e45 : f45 pr = some (nameB pr) := f45_eq _
  unfold f16 f16n0 tradeS
  rw [f26_eq]
  cases hc : checkB s with
  | false => rfl
  | true =>
    have ok := check_iff.1 hc
    rw [lt_not, lt_not]
    simp only [cond_true, Option.bind_some, f44_eq, e45, f37_p, decide_true]
    cases ha : askB bu se pr q p with
    | false =>
      simp only [cond_false]
      unfold askB at ha
      revert ha
      cases partyB bu with
      | false => intro _; rfl
      | true => cases partyB se with
        | false => intro _; rfl
        | true => cases seq bu se with
          | true => intro _; rfl
          | false => cases nameB pr with
            | false => intro _; rfl
            | true => cases decide (1 ≤ q) with
              | false => intro _; rfl
              | true => cases decide (q ≤ 1048576) with
                | false => intro _; rfl
                | true => cases inR p 536870912 with
                  | false => intro _; rfl
                  | true => intro h; cases h
    | true =>
      have a := ask_iff.1 ha
      have hm := a.m
      have hq0 := a.q0
      have hq1 := a.q1
      have e1 : wr64 (q * p) = q * p := wr_in (by omega) (by omega)
      have e2 : wr64 (0 - q) = -q := w64 (by omega) (by omega) (by omega)
      have e3 : wr64 (-q * p) = -(q * p) := w64 (by rw [Int.neg_mul]) (by omega) (by omega)
      have e4 : f47r1 s.Positions = some s.Positions := f47r1_eq (by have := ok.len; omega)
      have e5 : f46r1 bu pr q (q * p) s.Positions = some (tL1 s bu pr q p, tA s bu pr q p) := f46r1_eq ok.srt (by have := ok.len; omega) _ _ _ _
      have e6 : f46r1 se pr (-q) (-(q * p)) (tL1 s bu pr q p) = some (tL2 s bu se pr q p, tB s bu se pr q p) := f46r1_eq (put_srt ok.srt) (by have := ok.len; have := put_len (kOf bu pr) q (q * p) s.Positions; omega) _ _ _ _
      have hp : inR p 536870912 = true := inR_iff.2 ⟨a.p0, a.p1⟩
      have hl : decide ((200 : Int) < ((tL2 s bu se pr q p).length : Int)) = !decide ((tL2 s bu se pr q p).length ≤ 200) := by rw [lt_not]; congr 1; exact dec_nat _ 200
      simp only [a.bp, a.sp, a.ne, a.np, decide_eq_true hq0, decide_eq_true hq1, hp, Bool.not_true, cond_true, cond_false, e1, e2, e3, e4, e5, e6, Option.bind_some, f37_q, f37_b, hl]
      cases inR (tB s bu se pr q p).Quantity 1048576 with
      | false => rfl
      | true => cases inR (tA s bu pr q p).Quantity 1048576 with
        | false => rfl
        | true => cases inR (tB s bu se pr q p).Basis 1125899906842624 with
          | false => rfl
          | true => cases inR (tA s bu pr q p).Basis 1125899906842624 with
            | false => rfl
            | true => cases decide ((tL2 s bu se pr q p).length ≤ 200) <;> rfl

abbrev Bd (l : List VP) : Prop := ∀ x ∈ l, (-1048576 ≤ x.Quantity ∧ x.Quantity ≤ 1048576) ∧ (-1125899906842624 ≤ x.Basis ∧ x.Basis ≤ 1125899906842624)
theorem zero_wq (p : ByteArray) (x : VP) (h : zeroP x = true) : wq p x = 0 := by
  unfold zeroP at h
  rw [Bool.and_eq_true, decide_eq_true_eq, decide_eq_true_eq] at h
  unfold wq; rw [h.1]; cases seq x.Product p <;> rfl
theorem zero_wb (p : ByteArray) (x : VP) (h : zeroP x = true) : wb p x = 0 := by
  unfold zeroP at h
  rw [Bool.and_eq_true, decide_eq_true_eq, decide_eq_true_eq] at h
  unfold wb; rw [h.2]; cases seq x.Product p <;> rfl
section
variable {m p : ByteArray} {q b : Int} {l : List VP} (hb : Bd l) (hq : -1048576 ≤ q ∧ q ≤ 1048576) (hm : -1125899906842624 ≤ b ∧ b ≤ 1125899906842624)
include hb hq
theorem put_wq (g : ByteArray) : sm (wq g) (putL (kOf m p) q b l) = sm (wq g) l + bif seq p g then q else 0 := by
  refine sm_put (zero_wq g) ?_ fun x hx hk => ?_
  · simp only [wq, upd, kOf, Int.zero_add]
    rw [wr_in (n := q) (by omega) (by omega)]
  · have := (hb x hx).1
    have e : x.Product = p := (sameK_iff.1 hk).2
    simp only [wq, upd, e]
    rw [wr_in (n := x.Quantity + q) (by omega) (by omega)]
    cases seq p g <;> simp
omit hq
include hm
theorem put_wb (g : ByteArray) : sm (wb g) (putL (kOf m p) q b l) = sm (wb g) l + bif seq p g then b else 0 := by
  refine sm_put (zero_wb g) ?_ fun x hx hk => ?_
  · simp only [wb, upd, kOf, Int.zero_add]
    rw [wr_in (n := b) (by omega) (by omega)]
  · have := (hb x hx).2
    have e : x.Product = p := (sameK_iff.1 hk).2
    simp only [wb, upd, e]
    rw [wr_in (n := x.Basis + b) (by omega) (by omega)]
    cases seq p g <;> simp
end
theorem good_bd {l : List VP} (h : ∀ x ∈ l, goodP x = true) : Bd l := fun x hx => ⟨good_q (h x hx), good_b (h x hx)⟩
theorem good_of {x : VP} (h1 : inR x.Quantity 1048576 = true) (h2 : inR x.Basis 1125899906842624 = true) (h3 : zeroP x = false) (h4 : partyB x.Member = true) (h5 : nameB x.Product = true) : goodP x = true := by
  unfold goodP; rw [h1, h2, h3, h4, h5]; rfl
theorem good_nz {x : VP} (h : goodP x = true) : zeroP x = false := by
  unfold goodP at h
  simp only [Bool.and_eq_true, Bool.not_eq_true'] at h
  exact h.2.2.1
structure Took (s : Variation) (bu se pr : ByteArray) (q p : Int) : Prop where
  ok : Ok s
  ask : Ask bu se pr q p
  qb : inR (tB s bu se pr q p).Quantity 1048576 = true
  qa : inR (tA s bu pr q p).Quantity 1048576 = true
  bb : inR (tB s bu se pr q p).Basis 1125899906842624 = true
  ba : inR (tA s bu pr q p).Basis 1125899906842624 = true
  len : (tL2 s bu se pr q p).length ≤ 200
theorem trade_took {s : Variation} {bu se pr : ByteArray} {q p : Int} (h : (tradeS s bu se pr q p).2 = 0) : Took s bu se pr q p ∧ tradeS s bu se pr q p = (⟨s.Day, tL2 s bu se pr q p⟩, 0) := by
  unfold tradeS at h ⊢
  cases h1 : checkB s with
  | false => rw [h1] at h; cases h
  | true =>
    cases h2 : askB bu se pr q p with
    | false => rw [h1, h2] at h; cases h
    | true =>
      cases h3 : inR (tB s bu se pr q p).Quantity 1048576 && inR (tA s bu pr q p).Quantity 1048576 with
      | false => rw [h1, h2, h3] at h; cases h
      | true =>
        cases h4 : inR (tB s bu se pr q p).Basis 1125899906842624 && inR (tA s bu pr q p).Basis 1125899906842624 with
        | false => rw [h1, h2, h3, h4] at h; cases h
        | true =>
          cases h5 : decide ((tL2 s bu se pr q p).length ≤ 200) with
          | false => rw [h1, h2, h3, h4, h5] at h; cases h
          | true =>
            rw [Bool.and_eq_true] at h3 h4
            exact ⟨⟨check_iff.1 h1, ask_iff.1 h2, h3.1, h3.2, h4.1, h4.2, of_decide_eq_true h5⟩, rfl⟩
theorem took_trade {s : Variation} {bu se pr : ByteArray} {q p : Int} (h : Took s bu se pr q p) : tradeS s bu se pr q p = (⟨s.Day, tL2 s bu se pr q p⟩, 0) := by
  unfold tradeS
  rw [check_iff.2 h.ok, ask_iff.2 h.ask, h.qb, h.qa, h.bb, h.ba, decide_eq_true h.len]
  rfl
section
variable {s : Variation} {bu se pr : ByteArray} {q p : Int} (h : Took s bu se pr q p)
include h
theorem Took.good1 : ∀ x ∈ tL1 s bu pr q p, goodP x = true := fun x hx => by
  rcases put_mem' hx with hx | ⟨rfl, hz⟩
  · exact h.ok.good x hx
  · have k := sameK_iff.1 (putP_key (kOf bu pr) q (q * p) s.Positions)
    exact good_of h.qa h.ba hz (by rw [k.1]; exact h.ask.bp) (by rw [k.2]; exact h.ask.np)
theorem Took.srt1 : Srt (tL1 s bu pr q p) := put_srt h.ok.srt
theorem Took.good2 : ∀ x ∈ tL2 s bu se pr q p, goodP x = true := fun x hx => by
  rcases put_mem' hx with hx | ⟨rfl, hz⟩
  · exact h.good1 x hx
  · have k := sameK_iff.1 (putP_key (kOf se pr) (-q) (-(q * p)) (tL1 s bu pr q p))
    exact good_of h.qb h.bb hz (by rw [k.1]; exact h.ask.sp) (by rw [k.2]; exact h.ask.np)
theorem Took.out : Ok ⟨s.Day, tL2 s bu se pr q p⟩ where
  d0 := h.ok.d0
  d1 := h.ok.d1
  len := h.len
  srt := put_srt h.srt1
  good := h.good2
  flat := fun g => by
    have m := h.ask.m
    have q0 := h.ask.q0
    have q1 := h.ask.q1
    have f := h.ok.flat g
    have a1 := put_wq (m := bu) (p := pr) (q := q) (b := q * p) (good_bd h.ok.good) (by omega) g
    have a2 := put_wq (m := se) (p := pr) (q := -q) (b := -(q * p)) (good_bd h.good1) (by omega) g
    have b1 := put_wb (m := bu) (p := pr) (q := q) (b := q * p) (good_bd h.ok.good) (by omega) g
    have b2 := put_wb (m := se) (p := pr) (q := -q) (b := -(q * p)) (good_bd h.good1) (by omega) g
    show sm (wq g) (putL _ _ _ (tL1 s bu pr q p)) = 0 ∧ sm (wb g) (putL _ _ _ (tL1 s bu pr q p)) = 0
    rw [a2, b2]
    unfold tL1
    rw [a1, b1, f.1, f.2]
    cases seq pr g <;> simp only [cond_true, cond_false] <;> omega
end
end Go.Proofs.Ytelblamgfbkhbaa
namespace Go.Proofs.Ytelblamgfbkhbaa
set_option linter.unusedVariables false
set_option linter.unusedSimpArgs false
open Go.RowKit
abbrev PR_ := VariationPrice
def lk (p : ByteArray) : List PR_ → Option Int
  | [] => none
  | x :: r => bif seq x.Product p then some x.Price else lk p r
theorem seq_f {a b : ByteArray} (h : a ≠ b) : seq a b = false := by
  cases k : seq a b with
  | false => rfl
  | true => exact absurd (seq_iff.1 k) h



end Go.Proofs.Ytelblamgfbkhbaa
namespace Go.Proofs.Ytelblamgfbkhbaa
set_option linter.unusedVariables false
set_option linter.unusedSimpArgs false
open Go.RowKit
end Go.Proofs.Ytelblamgfbkhbaa
namespace Go.Proofs.Ytelblamgfbkhbaa
set_option linter.unusedVariables false
set_option linter.unusedSimpArgs false
open Go.RowKit
theorem f20r1_eq {s : Variation} (h : s.Positions.length ≤ 1000000) : f20r1 s = some s.Positions := by
  unfold f20r1 f20r1n0
  cases hl : s.Positions with
  | nil => rfl
  | cons x r =>
    rw [hl] at h
    rw [req, fit_small h (by omega)]; rfl
theorem eqb_refl (x : VP) : VariationPosition.eqb x x = true := by
  unfold VariationPosition.eqb
  simp [seq_refl]
theorem f18n2L_same (a b : Variation) : ∀ (l pre : List VP), b.Positions = pre ++ l → f18n2L a b l ((pre.length : Nat) : Int) = some .exit0
  | [], pre, _ => rfl
  | x :: r, pre, h => by
    have ih := f18n2L_same a b r (pre ++ [x]) (by rw [h]; simp)
    rw [List.length_append, show (((pre.length + [x].length : Nat)) : Int) = (pre.length : Int) + 1 from by simp] at ih
    have hat : at? b.Positions ((pre.length : Nat) : Int) = some x := by rw [at_nat, h]; simp
    rw [f18n2L, hat]
    simp only [Option.bind_some, eqb_refl, cond_true]
    exact ih
theorem f18_same {a b : Variation} (h : a = b) (hl : a.Positions.length ≤ maxLen) : f18 a b = some true := by
  subst h
  have : f18n1 a a = some .norm := by
    unfold f18n1
    rw [f18n2_run a a hl]
    have := f18n2L_same a a a.Positions [] rfl
    rw [show (((([] : List VP).length : Nat)) : Int) = 0 from rfl] at this
    rw [this]; rfl
  unfold f18 f18n0
  rw [this, decide_eq_true rfl, decide_eq_true rfl]; rfl

theorem f52r1_eq (x : VP) (m p : ByteArray) : f52r1 x m p = some (seq x.Member m && seq x.Product p) := by
  unfold f52r1 f52r1n0
  cases seq x.Member m <;> rfl
theorem f51_at (bg : List VP) {x : VP} : ∀ (l : List VP) (v : Int), x ∈ l → (∀ y ∈ l, sameK y x = true → y = x) → ∃ i : Nat, f51r1n2L bg x.Member x.Product l v = some (.ret (v + i)) ∧ l[i]? = some x
  | y :: r, v, hx, hu => by
    rw [f51r1n2L, f52r1_eq]
    simp only [Option.bind_some]
    cases hk : seq y.Member x.Member && seq y.Product x.Product with
    | true =>
      rw [cond_true, hu y List.mem_cons_self hk]
      exact ⟨0, by simp, rfl⟩
    | false =>
      rw [cond_false]
      have hxr : x ∈ r := by
        rcases List.mem_cons.1 hx with rfl | h
        · rw [seq_refl, seq_refl] at hk; cases hk
        · exact h
      obtain ⟨i, h1, h2⟩ := f51_at bg r (v + 1) hxr fun z hz => hu z (List.mem_cons_of_mem _ hz)
      refine ⟨i + 1, ?_, by simpa using h2⟩
      rw [h1]; congr 2; omega
theorem srt_uniq {l : List VP} (h : Srt l) {x : VP} (hx : x ∈ l) : ∀ y ∈ l, sameK y x = true → y = x := by
  induction l with
  | nil => cases hx
  | cons a r ih =>
    have h' := List.pairwise_cons.1 h
    intro y hy hk
    rcases List.mem_cons.1 hx with e1 | k1
    · rcases List.mem_cons.1 hy with e2 | k2
      · rw [e1, e2]
      · have := keyLt_same (h'.1 y k2)
        rw [← e1, sameK_symm hk] at this; cases this
    · rcases List.mem_cons.1 hy with e2 | k2
      · have := keyLt_same (h'.1 x k1)
        rw [← e2, hk] at this; cases this
      · exact ih h'.2 k1 y k2 hk
theorem f22_in {s : Variation} (h : Srt s.Positions) (hl : s.Positions.length ≤ 1000) {x : VP} (hx : x ∈ s.Positions) : f22 s x.Member x.Product = some (x, true) := by
  obtain ⟨i, h1, h2⟩ := f51_at s.Positions s.Positions 0 hx (srt_uniq h hx)
  have h3 : f51r1 s.Positions x.Member x.Product = some (i : Int) := by
    unfold f51r1 f51r1n0 f51r1n1
    rw [f51r1n2_run s.Positions x.Member x.Product (Nat.le_trans hl (by unfold maxLen; decide)), h1, Int.zero_add]; rfl
  unfold f22 f22n0
  rw [h3]
  simp only [Option.bind_some]
  rw [decide_eq_false (by omega : ¬ (i : Int) < 0), at_nat, h2]; rfl
theorem put_keep {k x : VP} {q b : Int} (hk : sameK x k = false) : ∀ {l : List VP}, x ∈ l → x ∈ putL k q b l
  | y :: r, h => by
    rw [putL]
    cases h1 : keyLt y k with
    | true =>
      rcases List.mem_cons.1 h with rfl | h
      · exact List.mem_cons_self
      · exact List.mem_cons_of_mem _ (put_keep hk h)
    | false =>
      cases h2 : sameK y k with
      | true =>
        rcases List.mem_cons.1 h with rfl | h
        · rw [hk] at h2; cases h2
        · exact List.mem_append.2 (.inr h)
      | false => exact List.mem_append.2 (.inr h)

theorem vl_rng {l : List VP} (h : Bd l) (k : VP) : (-1048576 ≤ (vl k l).1 ∧ (vl k l).1 ≤ 1048576) ∧ (-1125899906842624 ≤ (vl k l).2 ∧ (vl k l).2 ≤ 1125899906842624) := by
  induction l with
  | nil => simp [vl]
  | cons x r ih =>
    rw [vl]
    cases sameK x k with
    | true => exact h x List.mem_cons_self
    | false => exact ih fun y hy => h y (List.mem_cons_of_mem _ hy)
section
variable {s : Variation} {bu se pr : ByteArray} {q p : Int} (h : Took s bu se pr q p)
include h
theorem Took.sw : Ask se bu pr q p where
  bp := h.ask.sp
  sp := h.ask.bp
  ne := seq_f fun e => by have := h.ask.ne; rw [e, seq_refl] at this; cases this
  np := h.ask.np
  q0 := h.ask.q0
  q1 := h.ask.q1
  p0 := h.ask.p0
  p1 := h.ask.p1
theorem Took.nk1 : sameK (kOf bu pr) (kOf se pr) = false := by
  show (seq bu se && seq pr pr) = false
  rw [h.ask.ne]; rfl
theorem Took.v1 (g : VP) : vl g (tL1 s bu pr q p) = bif sameK (kOf bu pr) g then (wr64 ((vl g s.Positions).1 + q), wr64 ((vl g s.Positions).2 + q * p)) else vl g s.Positions :=
  vl_put ⟨rfl, rfl⟩ g h.ok.srt
theorem Took.v2 (g : VP) : vl g (tL2 s bu se pr q p) = bif sameK (kOf se pr) g then (wr64 ((vl g (tL1 s bu pr q p)).1 + -q), wr64 ((vl g (tL1 s bu pr q p)).2 + -(q * p))) else vl g (tL1 s bu pr q p) :=
  vl_put ⟨rfl, rfl⟩ g h.srt1
theorem Took.srt2 : Srt (tL2 s bu se pr q p) := put_srt h.srt1
abbrev tt (s : Variation) (bu se pr : ByteArray) (q p : Int) : Variation := ⟨s.Day, tL2 s bu se pr q p⟩
theorem Took.v3 (g : VP) : vl g (tL1 (tt s bu se pr q p) se pr q p) = bif sameK (kOf se pr) g then (wr64 ((vl g (tL2 s bu se pr q p)).1 + q), wr64 ((vl g (tL2 s bu se pr q p)).2 + q * p)) else vl g (tL2 s bu se pr q p) :=
  vl_put ⟨rfl, rfl⟩ g h.srt2
theorem Took.v4 (g : VP) : vl g (tL2 (tt s bu se pr q p) se bu pr q p) = bif sameK (kOf bu pr) g then (wr64 ((vl g (tL1 (tt s bu se pr q p) se pr q p)).1 + -q), wr64 ((vl g (tL1 (tt s bu se pr q p) se pr q p)).2 + -(q * p))) else vl g (tL1 (tt s bu se pr q p) se pr q p) :=
  vl_put ⟨rfl, rfl⟩ g (put_srt h.srt2)
omit h in
theorem nk_other {a b g : VP} (hn : sameK a b = false) (hg : sameK a g = true) : sameK b g = false := by
  cases k : sameK b g with
  | false => rfl
  | true => rw [sameK_trans hg (sameK_symm k)] at hn; cases hn
theorem Took.v3s : vl (kOf se pr) (tL1 (tt s bu se pr q p) se pr q p) = vl (kOf se pr) s.Positions := by
  have r := vl_rng (good_bd h.ok.good) (kOf se pr)
  have m := h.ask.m
  have q0 := h.ask.q0
  have q1 := h.ask.q1
  have hk : sameK (kOf se pr) (kOf se pr) = true := by simp [sameK, seq_refl]
  rw [h.v3, hk, cond_true, h.v2, hk, cond_true, h.v1, h.nk1, cond_false]
  simp only [wr_l]
  rw [wr_in (by omega) (by omega), wr_in (by omega) (by omega)]
  refine Prod.ext ?_ ?_
  · show _ + -q + q = _; omega
  · show _ + -(q * p) + q * p = _; omega
theorem Took.v4a (g : VP) : vl g (tL2 (tt s bu se pr q p) se bu pr q p) = vl g s.Positions := by
  have r := vl_rng (good_bd h.ok.good) g
  have m := h.ask.m
  have q0 := h.ask.q0
  have q1 := h.ask.q1
  rw [h.v4, h.v3, h.v2, h.v1]
  cases h1 : sameK (kOf bu pr) g with
  | true =>
    rw [nk_other h.nk1 h1]
    simp only [cond_true, cond_false, wr_l]
    rw [wr_in (by omega) (by omega), wr_in (by omega) (by omega)]
    refine Prod.ext ?_ ?_
    · show _ + q + -q = _; omega
    · show _ + q * p + -(q * p) = _; omega
  | false =>
    cases h2 : sameK (kOf se pr) g with
    | true =>
      simp only [cond_true, cond_false, wr_l]
      rw [wr_in (by omega) (by omega), wr_in (by omega) (by omega)]
      refine Prod.ext ?_ ?_
      · show _ + -q + q = _; omega
      · show _ + -(q * p) + q * p = _; omega
    | false => rfl
theorem Took.tA' : tA (tt s bu se pr q p) se pr q p = ⟨se, pr, (vl (kOf se pr) s.Positions).1, (vl (kOf se pr) s.Positions).2⟩ := by
  have e := h.v3s
  rw [h.v3, show sameK (kOf se pr) (kOf se pr) = true by simp [sameK, seq_refl], cond_true] at e
  rw [← e]
  exact putP_vl ⟨rfl, rfl⟩ h.srt2
theorem Took.tB' : tB (tt s bu se pr q p) se bu pr q p = ⟨bu, pr, (vl (kOf bu pr) s.Positions).1, (vl (kOf bu pr) s.Positions).2⟩ := by
  have e := h.v4a (kOf bu pr)
  rw [h.v4, show sameK (kOf bu pr) (kOf bu pr) = true by simp [sameK, seq_refl], cond_true] at e
  rw [← e]
  exact putP_vl ⟨rfl, rfl⟩ (put_srt h.srt2)
theorem Took.nz2 : ∀ x ∈ tL2 (tt s bu se pr q p) se bu pr q p, zeroP x = false := fun x hx => by
  rcases put_mem' hx with hx | ⟨rfl, hz⟩
  · rcases put_mem' hx with hx | ⟨rfl, hz⟩
    · exact good_nz (h.good2 x hx)
    · exact hz
  · exact hz
theorem Took.back : tL2 (tt s bu se pr q p) se bu pr q p = s.Positions :=
  vl_ext (put_srt (put_srt h.srt2)) h.ok.srt h.nz2 (fun x hx => good_nz (h.ok.good x hx)) h.v4a
theorem Took.rev : Took (tt s bu se pr q p) se bu pr q p where
  ok := h.out
  ask := h.sw
  qb := by rw [h.tB']; exact inR_iff.2 (vl_rng (good_bd h.ok.good) _).1
  qa := by rw [h.tA']; exact inR_iff.2 (vl_rng (good_bd h.ok.good) _).1
  bb := by rw [h.tB']; exact inR_iff.2 (vl_rng (good_bd h.ok.good) _).2
  ba := by rw [h.tA']; exact inR_iff.2 (vl_rng (good_bd h.ok.good) _).2
  len := by rw [h.back]; exact h.ok.len
end
theorem f6n2L_eq' {s : Variation} {o : Op_} (h : Took s o.Buyer o.Seller o.Product o.Quantity o.Price) (e : Int) : ∀ (l : List VP) (v : Int), (∀ x ∈ l, x ∈ s.Positions) → f6n2L true s o (tt s o.Buyer o.Seller o.Product o.Quantity o.Price, e) l v = some .exit0
  | [], v, _ => rfl
  | x :: r, v, hs => by
    have ih := f6n2L_eq' h e r (v + 1) fun y hy => hs y (List.mem_cons_of_mem _ hy)
    have key : ∀ (h1 : sameK x (kOf o.Buyer o.Product) = false) (h2 : sameK x (kOf o.Seller o.Product) = false), f22 (tt s o.Buyer o.Seller o.Product o.Quantity o.Price) x.Member x.Product = some (x, true) := fun h1 h2 =>
      f22_in h.srt2 (by have := h.len; show (tL2 _ _ _ _ _ _).length ≤ 1000; omega) (put_keep h2 (put_keep h1 (hs x List.mem_cons_self)))
    have e1 : sameK x (kOf o.Buyer o.Product) = (seq x.Member o.Buyer && seq x.Product o.Product) := rfl
    have e2 : sameK x (kOf o.Seller o.Product) = (seq x.Member o.Seller && seq x.Product o.Product) := rfl
    rw [e1, e2] at key
    rw [f6n2L, ih]
    revert key
    cases seq x.Product o.Product with
    | false =>
      intro key
      rw [Bool.and_false, Bool.and_false] at key
      simp only [cond_false, key rfl rfl, Option.bind_some, cond_true, eqb_refl]
    | true =>
      cases seq x.Member o.Buyer with
      | true => intro _; rfl
      | false =>
        cases seq x.Member o.Seller with
        | true => intro _; rfl
        | false =>
          intro key
          have key' := key rfl rfl
          simp only [cond_false, cond_true, key', Option.bind_some, eqb_refl]
theorem lawBack (s : Variation) (o : Op_) (_ : Variation.ok s) (_ : Op_.ok o) : f6 s o = some true := by
  unfold f6 f6n0
  rw [alive_t]
  simp only [Option.bind_some]
  by_cases hl : s.Positions.length ≤ 220
  · rw [decide_eq_false (by omega : ¬ (220 : Int) < (s.Positions.length : Int)), f20r1_eq (by omega)]
    simp only [cond_false, cond_true, Option.bind_some]
    rw [show (Variation.mk s.Day s.Positions) = s from rfl, f16_eq]
    simp only [Option.bind_some]
    by_cases he : (tradeS s o.Buyer o.Seller o.Product o.Quantity o.Price).2 = 0
    · obtain ⟨h, h2⟩ := trade_took he
      rw [h2]
      have h3 : f6n1 true s o (tt s o.Buyer o.Seller o.Product o.Quantity o.Price, 0) = some .norm := by
        unfold f6n1
        rw [f6n2_run true s o (tt s o.Buyer o.Seller o.Product o.Quantity o.Price, 0) (Nat.le_trans hl (by unfold maxLen; decide)), f6n2L_eq' h 0 _ _ fun x hx => hx]; rfl
      have h4 := took_trade h.rev
      rw [h.back] at h4
      have h5 : f18 ⟨(tt s o.Buyer o.Seller o.Product o.Quantity o.Price).Day, s.Positions⟩ s = some true := f18_same rfl (Nat.le_trans hl (by unfold maxLen; decide))
      simp only [decide_true, cond_true, h3, Option.bind_some, f16_eq, h4, h5]
    · simp only [decide_eq_false he, cond_false, Option.bind_some]
  · rw [decide_eq_true (by omega : (220 : Int) < (s.Positions.length : Int))]; rfl
end Go.Proofs.Ytelblamgfbkhbaa
