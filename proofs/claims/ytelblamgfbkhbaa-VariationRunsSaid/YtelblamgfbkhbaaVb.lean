/- Several texts in one. No condition. -/
import Derived.Test.YtelblamgfbkhbaaA2
namespace Go.Proofs.Ytelblamgfbkhbaa
set_option linter.unusedVariables false
set_option linter.unusedSimpArgs false
set_option maxRecDepth 100000
open Go.RowKit
noncomputable def c56 : Code := Try.f56.body.getD .skip
inductive f56n0O where
 | ret (v7 : Bool)
def f56n0E (a1 : Qa) (a2 : Qa) : f56n0O → Ex × Tr × Hp
 | .ret v7 => (.ret, mkS [(4, (jB v7))], [])
def f56n0S (a1 : Qa) (a2 : Qa) : Tr × Hp := (Qaz [(jA Qa.cells a1), (jA Qa.cells a2)] 0 .leaf, [])
noncomputable def f56n0 (a1 : Qa) (a2 : Qa) : Option f56n0O :=
 bif (slt a1.Member a2.Member) then
  some (.ret true)
 else
  bif (seq a1.Member a2.Member) then
   some (.ret (slt a1.Product a2.Product))
  else
   some (.ret false)
theorem f56n0_ok (a1 : Qa) (a2 : Qa) {o : f56n0O} (h : (f56n0 a1 a2) = some o) : T Try.prog Try.f56.ntmps 0 c56 (f56n0S a1 a2) (fun r => r = f56n0E a1 a2 o) := by
 unfold f56n0 at h
 rcases Qh h with ⟨h5, h⟩ | ⟨h5, h⟩
 ·obtain rfl := Qe h
  exact rE Qi [j3, (jT [6, 7, 8, 9, 10, 11, 17], [(18, .bool true)], [])] [] [] [] [4] (.ret, (f56n0E a1 a2 (.ret true)).2) (ap4 h5 (ap4 h5 an)) rfl
 ·rcases Qh h with ⟨h6, h⟩ | ⟨h6, h⟩
  ·obtain rfl := Qe h
   exact rE Qi [j3, (jF [6, 7, 8, 9, 10, 11, 17] ++ jT [12, 13, 14, 15, 16], [(17, .bool true), (18, .bool false)], [])] [] [] [] [4] (.ret, (f56n0E a1 a2 (.ret (slt a1.Product a2.Product))).2) (ap2 h5 (ap4 h5 (ap h6 (ap4 h6 (ap h5 (ap h6 (ap h5 an))))))) rfl
  ·obtain rfl := Qe h
   exact rE Qi [j3, (jF [6, 7, 8, 9, 10, 11, 12, 13, 14, 15, 16, 17], [(17, .bool false), (18, .bool false)], [])] [] [] [] [4] (.ret, (f56n0E a1 a2 (.ret false)).2) (ap2 h5 (ap4 h5 (ap h6 (ap4 h6 (ap h5 (ap h6 (ap h5 an))))))) rfl
noncomputable def f56 (a1 : Qa) (a2 : Qa) : Option Bool := (f56n0 a1 a2).bind fun o => match o with
 | .ret v7 => some v7
theorem f56_ok (a1 : Qa) (a2 : Qa) {r : Bool} (h : (f56 a1 a2) = some r) : Qu Try.prog false 56 [(jA Qa.cells a1), (jA Qa.cells a2)] [] (jB r) [] := by
 unfold f56 at h
 obtain ⟨o, ho, h⟩ := Qg h
 cases o with
 | ret v7 =>
  obtain rfl := Qe h
  exact Qu.plain Qi (f := Try.f56) (c := c56) (by kernel_rfl) (by kernel_rfl) (by kernel_rfl) (by kernel_rfl) ((f56n0_ok a1 a2 ho).mono fun r e => by subst e; exact ⟨.inl rfl, (jB v7), (jB v7), by kernel_rfl, by kernel_rfl, ((Wk.refl _) : Wk (jB v7) (jB v7))⟩)

noncomputable def c34 : Code := Try.f34.body.getD .skip
inductive f34n2O where
 | exit0
 | ret
def f34n2E (ba1 : Qd) : f34n2O → Ex × Tr × Hp
 | .exit0 => ((.exit 0), mkS [(1, (.bp 0 0))], [some (.box ((Qd.cells ba1).map .pl))])
 | .ret => (.ret, mkS [(2, (jI 8))], [])
def f34n2S (ba1 : Qd) (v45 : Int) : Tr × Hp := (mkS [(1, (.bp 0 0)), (3, (jI v45))], [some (.box ((Qd.cells ba1).map .pl))])
noncomputable def f34n2 : Nat → Qd → Int → Option f34n2O
 | 0, _, _ => none
 | f + 1, ba1, v45 =>
  bif (decide (v45 < (ba1.Positions.length : Int))) then
   (at? ba1.Positions v45).bind fun x59 =>
   (f55 x59).bind fun x61 =>
   bif x61 then
    bif (decide (0 < v45)) then
     (at? ba1.Positions (wr64 (v45 - 1))).bind fun x65 =>
     (f56 x65 x59).bind fun x67 =>
     bif x67 then
      (f34n2 f ba1 (wr64 (v45 + 1)))
     else
      some .ret
    else
     (f34n2 f ba1 (wr64 (v45 + 1)))
   else
    some .ret
  else
   some .exit0
theorem f34n2_ok : ∀ (f : Nat) (ba1 : Qd) (v45 : Int) {o : f34n2O}, (f34n2 f ba1 v45) = some o → TL Try.prog Try.f34.ntmps 0 f (cL (cL (Qo 1 (cL (Qo 2 c34))))) (f34n2S ba1 v45) (fun r => r = f34n2E ba1 o)
 | 0, _, _, o, h => by rw [f34n2] at h; cases h
 | f + 1, ba1, v45, o, h => by
  rw [f34n2] at h
  refine TL.body (K := fun s => ∃ v45 : Int, s = (f34n2S ba1 v45) ∧ (f34n2 f ba1 v45) = some o) ?_ (by rintro _ ⟨v45, rfl, hk⟩; exact f34n2_ok f _ _ hk)
  rcases Qh h with ⟨h47, h⟩ | ⟨h47, h⟩
  ·obtain ⟨x59, h60, h⟩ := Qg h
   obtain ⟨x61, h62, h⟩ := Qg h
   rcases Qh h with ⟨h63, h⟩ | ⟨h63, h⟩
   ·rcases Qh h with ⟨h64, h⟩ | ⟨h64, h⟩
    ·obtain ⟨x65, h66, h⟩ := Qg h
     obtain ⟨x67, h68, h⟩ := Qg h
     rcases Qh h with ⟨h69, h⟩ | ⟨h69, h⟩
     ·exact rE Qi [([], [], [(3, .val (jI (ba1.Positions.length : Int)))]), (jF [8, 9, 10, 24] ++ jT [11, 12, 13, 14, 15, 16, 17, 18, 19, 20, 21, 22, 23], [(3, .idx (Int.toNat v45) (Qa.cells x59)), jH 5 (jB x61), (15, .idx (Int.toNat (wr64 (v45 - 1))) (Qa.cells x65)), (20, .idx (Int.toNat v45) (Qa.cells x59)), jH 22 (jB x67), (24, .bool true), (25, .bool false)], []), j3] [some true, some false] [] [0] [1, 3] (.norm, (f34n2S ba1 (wr64 (v45 + 1)))) (ap (Qn (xs := ba1.Positions) (c := Qa.cells)) (ap h47 (ap (Qf h60).1 (ap (Qk Qa.cells (Qf h60).2) (ap3 (Ql h63) (ap h64 (ap4 h64 (ap (Qf h66).1 (ap (Qk Qa.cells (Qf h66).2) (ap h64 (ap4 h64 (ap (Qf h60).1 (ap (Qk Qa.cells (Qf h60).2) (ap3 h64 (ap (Ql h63) (ap h64 (ap (Ql h63) (ap (f55_ok x59 h62) (ap (f56_ok x65 x59 h68) (ap (Ql h69) an)))))))))))))))))))) (Qs.norm ⟨(wr64 (v45 + 1)), rfl, h⟩)
     ·obtain rfl := Qe h
      exact rK Qi 2 [([], [], [(3, .val (jI (ba1.Positions.length : Int)))]), (jF [8, 9, 10, 24] ++ jT [11, 12, 13, 14, 15, 16, 17, 18, 19, 20, 21, 22, 23], [(3, .idx (Int.toNat v45) (Qa.cells x59)), jH 5 (jB x61), (15, .idx (Int.toNat (wr64 (v45 - 1))) (Qa.cells x65)), (20, .idx (Int.toNat v45) (Qa.cells x59)), jH 22 (jB x67), (24, .bool true), (25, .bool false)], []), j3] [some true, some true] [] [] [2] .ret ((f34n2E ba1 .ret).2) (ap (Qn (xs := ba1.Positions) (c := Qa.cells)) (ap h47 (ap (Qf h60).1 (ap (Qk Qa.cells (Qf h60).2) (ap3 (Ql h63) (ap h64 (ap4 h64 (ap (Qf h66).1 (ap (Qk Qa.cells (Qf h66).2) (ap h64 (ap4 h64 (ap (Qf h60).1 (ap (Qk Qa.cells (Qf h60).2) (ap3 h64 (ap (Ql h63) (ap h64 (ap (Ql h63) (ap (f55_ok x59 h62) (ap (f56_ok x65 x59 h68) (ap (Qr h69) an)))))))))))))))))))) (Qs.out rfl rfl)
    ·exact rE Qi [([], [], [(3, .val (jI (ba1.Positions.length : Int)))]), (jF [8, 9, 10, 11, 12, 13, 14, 15, 16, 17, 18, 19, 20, 21, 22, 23, 24], [(3, .idx (Int.toNat v45) (Qa.cells x59)), jH 5 (jB x61), (24, .bool false), (25, .bool false)], []), j3] [some true, none] [] [0] [1, 3] (.norm, (f34n2S ba1 (wr64 (v45 + 1)))) (ap (Qn (xs := ba1.Positions) (c := Qa.cells)) (ap h47 (ap (Qf h60).1 (ap (Qk Qa.cells (Qf h60).2) (ap3 (Ql h63) (ap h64 (ap4 h64 (ap4 h64 (ap4 h64 (ap (Ql h63) (ap h64 (ap (Ql h63) (ap (f55_ok x59 h62) an))))))))))))) (Qs.norm ⟨(wr64 (v45 + 1)), rfl, h⟩)
   ·obtain rfl := Qe h
    exact rK Qi 2 [([], [], [(3, .val (jI (ba1.Positions.length : Int)))]), (jT [8, 9, 10, 24], [(3, .idx (Int.toNat v45) (Qa.cells x59)), jH 5 (jB x61), (25, .bool true)], []), j3] [some true, none] [] [] [2] .ret ((f34n2E ba1 .ret).2) (ap (Qn (xs := ba1.Positions) (c := Qa.cells)) (ap h47 (ap (Qf h60).1 (ap (Qk Qa.cells (Qf h60).2) (ap (Qr h63) (ap4 (Qr h63) (ap (f55_ok x59 h62) an))))))) (Qs.out rfl rfl)
  ·obtain rfl := Qe h
   exact rK Qi 1 [([], [], [(3, .val (jI (ba1.Positions.length : Int)))])] [some false] [] [0] [1] (.exit 0) ((f34n2E ba1 .exit0).2) (ap (Qn (xs := ba1.Positions) (c := Qa.cells)) (ap h47 an)) (Qs.out rfl rfl)
noncomputable def f34n2L (ba1 : Qd) : List Qa → Int → Option f34n2O
 | [], v45 =>
  some .exit0
 | x0 :: rest, v45 =>
  (f55 x0).bind fun x61 =>
  bif x61 then
   bif (decide (0 < v45)) then
    (at? ba1.Positions (wr64 (v45 - 1))).bind fun x65 =>
    (f56 x65 x0).bind fun x67 =>
    bif x67 then
     (f34n2L ba1 rest (v45 + 1))
    else
     some .ret
   else
    (f34n2L ba1 rest (v45 + 1))
  else
   some .ret
theorem f34n2L_eq (ba1 : Qd) : ∀ (rest : List Qa) (f k : Nat), ba1.Positions.drop k = rest → ba1.Positions.length ≤ maxLen → rest.length < f → f34n2 f ba1 (k : Int) = f34n2L ba1 rest (k : Int)
 | _, 0, _, _, _, hf => absurd hf (Nat.not_lt_zero _)
 | [], f + 1, k, hd, hm, hf => by
  have hk : ¬ ((k : Int) < (ba1.Positions.length : Int)) := by have := Qat hd; omega
  rw [f34n2, f34n2L]
  simp only [decide_eq_false hk, cond_false]
 | x0 :: rest, f + 1, k, hd, hm, hf => by
  obtain ⟨hx, hlt, hd'⟩ := Qak hd
  have hk : (k : Int) < (ba1.Positions.length : Int) := by omega
  have hw : wr64 ((k : Int) + 1) = (k : Int) + 1 := Qcf (by omega) (by unfold maxLen at hm; omega)
  have ih : f34n2 f ba1 ((k : Int) + 1) = f34n2L ba1 rest ((k : Int) + 1) := f34n2L_eq ba1 rest f (k + 1) hd' hm (by simpa using hf)
  rw [f34n2, f34n2L]
  simp only [decide_eq_true hk, cond_true, Qao, hx, Option.bind_some, hw, ih]
theorem f34n2_run (ba1 : Qd) (hm : ba1.Positions.length ≤ maxLen) : f34n2 FUEL ba1 0 = f34n2L ba1 ba1.Positions 0 := f34n2L_eq ba1 ba1.Positions FUEL 0 List.drop_zero hm (Qbp hm)
inductive f34n1O where
 | norm
 | ret
def f34n1E (ba1 : Qd) : f34n1O → Ex × Tr × Hp
 | .norm => (.norm, mkS [(1, (.bp 0 0))], [some (.box ((Qd.cells ba1).map .pl))])
 | .ret => (.ret, mkS [(2, (jI 8))], [])
def f34n1S (ba1 : Qd) : Tr × Hp := (mkS [(1, (.bp 0 0))], [some (.box ((Qd.cells ba1).map .pl))])
noncomputable def f34n1 (ba1 : Qd) : Option f34n1O :=
 (f34n2 FUEL ba1 0).bind fun o70 => match o70 with
 | .exit0 => some .norm
 | .ret => some .ret
theorem f34n1_ok (ba1 : Qd) {o : f34n1O} (h : (f34n1 ba1) = some o) : T Try.prog Try.f34.ntmps 0 (cL (Qo 2 c34)) (f34n1S ba1) (fun r => r = f34n1E ba1 o) := by
 unfold f34n1 at h
 refine rN Qi 1 [j3] [] [] [0] [1, 3] (f34n2S ba1 0) an ?_
 obtain ⟨o70, h71, h⟩ := Qg h
 cases o70 with
 | exit0 =>
  obtain rfl := Qe h
  exact T.last' (T.bl (i := 0) (by kernel_rfl) (by kernel_rfl) (f34n2_ok FUEL ba1 0 h71)) (tds := []) (m := [0]) (keep := [1]) (st2 := (f34n1E ba1 .norm).2) (by kernel_rfl) an rfl
 | ret =>
  obtain rfl := Qe h
  exact T.last' (T.bl (i := 0) (by kernel_rfl) (by kernel_rfl) (f34n2_ok FUEL ba1 0 h71)) (tds := []) (m := []) (keep := [2]) (st2 := (f34n1E ba1 .ret).2) (by kernel_rfl) an rfl
inductive f34n6O where
 | exit4 (v250 : Int) (v251 : Int)
def f34n6E (be1 : Int) (ba2 : Qd) : f34n6O → Ex × Tr × Hp
 | .exit4 v250 v251 => ((.exit 4), mkS [(1, (.bp 0 0)), (4, (jI be1)), (5, (jI v250)), (6, (jI v251))], [some (.box ((Qd.cells ba2).map .pl))])
def f34n6S (be1 : Int) (ba2 : Qd) (v235 : Int) (v236 : Int) (v237 : Int) : Tr × Hp := (mkS [(1, (.bp 0 0)), (4, (jI be1)), (5, (jI v235)), (6, (jI v236)), (7, (jI v237))], [some (.box ((Qd.cells ba2).map .pl))])
noncomputable def f34n6 : Nat → Int → Qd → Int → Int → Int → Option f34n6O
 | 0, _, _, _, _, _ => none
 | f + 1, be1, ba2, v235, v236, v237 =>
  bif (decide (v237 < (ba2.Positions.length : Int))) then
   (at? ba2.Positions v237).bind fun x245 =>
   (at? ba2.Positions be1).bind fun x247 =>
   bif (seq x245.Product x247.Product) then
    (f34n6 f be1 ba2 (wr64 (v235 + x245.Quantity)) (wr64 (v236 + x245.Basis)) (wr64 (v237 + 1)))
   else
    (f34n6 f be1 ba2 v235 v236 (wr64 (v237 + 1)))
  else
   some (.exit4 v235 v236)
theorem f34n6_ok : ∀ (f : Nat) (be1 : Int) (ba2 : Qd) (v235 : Int) (v236 : Int) (v237 : Int) {o : f34n6O}, (f34n6 f be1 ba2 v235 v236 v237) = some o → TL Try.prog Try.f34.ntmps 0 f (cL (cL (Qo 1 (cL (Qo 1 (cL (cL (Qo 1 (cL (cL (Qo 1 (cL (Qo 0 (Qo 1 (Qo 2 c34))))))))))))))) (f34n6S be1 ba2 v235 v236 v237) (fun r => r = f34n6E be1 ba2 o)
 | 0, _, _, _, _, _, o, h => by rw [f34n6] at h; cases h
 | f + 1, be1, ba2, v235, v236, v237, o, h => by
  rw [f34n6] at h
  refine TL.body (K := fun s => ∃ v235 : Int, ∃ v236 : Int, ∃ v237 : Int, s = (f34n6S be1 ba2 v235 v236 v237) ∧ (f34n6 f be1 ba2 v235 v236 v237) = some o) ?_ (by rintro _ ⟨v235, v236, v237, rfl, hk⟩; exact f34n6_ok f _ _ _ _ _ hk)
  rcases Qh h with ⟨h239, h⟩ | ⟨h239, h⟩
  ·obtain ⟨x245, h246, h⟩ := Qg h
   obtain ⟨x247, h248, h⟩ := Qg h
   rcases Qh h with ⟨h249, h⟩ | ⟨h249, h⟩
   ·exact rE Qi [([], [], [(3, .val (jI (ba2.Positions.length : Int)))]), ([], [(3, .idx (Int.toNat v237) (Qa.cells x245)), (9, .idx (Int.toNat be1) (Qa.cells x247))], []), ([], [(4, .idx (Int.toNat v237) (Qa.cells x245))], []), ([], [(4, .idx (Int.toNat v237) (Qa.cells x245))], []), j3] [some true, some true] [] [0] [1, 4, 5, 6, 7] (.norm, (f34n6S be1 ba2 (wr64 (v235 + x245.Quantity)) (wr64 (v236 + x245.Basis)) (wr64 (v237 + 1)))) (ap (Qn (xs := ba2.Positions) (c := Qa.cells)) (ap h239 (ap (Qf h246).1 (ap (Qk Qa.cells (Qf h246).2) (ap (Qf h248).1 (ap (Qk Qa.cells (Qf h248).2) (ap h249 (ap (Qf h246).1 (ap (Qk Qa.cells (Qf h246).2) (ap (Qf h246).1 (ap (Qk Qa.cells (Qf h246).2) an))))))))))) (Qs.norm ⟨(wr64 (v235 + x245.Quantity)), (wr64 (v236 + x245.Basis)), (wr64 (v237 + 1)), rfl, h⟩)
   ·exact rE Qi [([], [], [(3, .val (jI (ba2.Positions.length : Int)))]), ([], [(3, .idx (Int.toNat v237) (Qa.cells x245)), (9, .idx (Int.toNat be1) (Qa.cells x247))], []), j3] [some true, some false] [] [0] [1, 4, 5, 6, 7] (.norm, (f34n6S be1 ba2 v235 v236 (wr64 (v237 + 1)))) (ap (Qn (xs := ba2.Positions) (c := Qa.cells)) (ap h239 (ap (Qf h246).1 (ap (Qk Qa.cells (Qf h246).2) (ap (Qf h248).1 (ap (Qk Qa.cells (Qf h248).2) (ap h249 an))))))) (Qs.norm ⟨v235, v236, (wr64 (v237 + 1)), rfl, h⟩)
  ·obtain rfl := Qe h
   exact rK Qi 1 [([], [], [(3, .val (jI (ba2.Positions.length : Int)))])] [some false] [] [0] [1, 4, 5, 6] (.exit 4) ((f34n6E be1 ba2 (.exit4 v235 v236)).2) (ap (Qn (xs := ba2.Positions) (c := Qa.cells)) (ap h239 an)) (Qs.out rfl rfl)
noncomputable def f34n6L (be1 : Int) (ba2 : Qd) : List Qa → Int → Int → Int → Option f34n6O
 | [], v235, v236, v237 =>
  some (.exit4 v235 v236)
 | x0 :: rest, v235, v236, v237 =>
  (at? ba2.Positions be1).bind fun x247 =>
  bif (seq x0.Product x247.Product) then
   (f34n6L be1 ba2 rest (wr64 (v235 + x0.Quantity)) (wr64 (v236 + x0.Basis)) (v237 + 1))
  else
   (f34n6L be1 ba2 rest v235 v236 (v237 + 1))
theorem f34n6L_eq (be1 : Int) (ba2 : Qd) : ∀ (rest : List Qa) (f k : Nat) (v235 : Int) (v236 : Int), ba2.Positions.drop k = rest → ba2.Positions.length ≤ maxLen → rest.length < f → f34n6 f be1 ba2 v235 v236 (k : Int) = f34n6L be1 ba2 rest v235 v236 (k : Int)
 | _, 0, _, _, _, _, _, hf => absurd hf (Nat.not_lt_zero _)
 | [], f + 1, k, v235, v236, hd, hm, hf => by
  have hk : ¬ ((k : Int) < (ba2.Positions.length : Int)) := by have := Qat hd; omega
  rw [f34n6, f34n6L]
  simp only [decide_eq_false hk, cond_false]
 | x0 :: rest, f + 1, k, v235, v236, hd, hm, hf => by
  obtain ⟨hx, hlt, hd'⟩ := Qak hd
  have hk : (k : Int) < (ba2.Positions.length : Int) := by omega
  have hw : wr64 ((k : Int) + 1) = (k : Int) + 1 := Qcf (by omega) (by unfold maxLen at hm; omega)
  have ih : ∀ (v235 : Int) (v236 : Int), f34n6 f be1 ba2 v235 v236 ((k : Int) + 1) = f34n6L be1 ba2 rest v235 v236 ((k : Int) + 1) := fun v235 v236 => f34n6L_eq be1 ba2 rest f (k + 1) v235 v236 hd' hm (by simpa using hf)
  rw [f34n6, f34n6L]
  simp only [decide_eq_true hk, cond_true, Qao, hx, Option.bind_some, hw, ih]
theorem f34n6_run (be1 : Int) (ba2 : Qd) (v235 : Int) (v236 : Int) (hm : ba2.Positions.length ≤ maxLen) : f34n6 FUEL be1 ba2 v235 v236 0 = f34n6L be1 ba2 ba2.Positions v235 v236 0 := f34n6L_eq be1 ba2 ba2.Positions FUEL 0 v235 v236 List.drop_zero hm (Qbp hm)
inductive f34n5O where
 | norm (v256 : Int) (v257 : Int)
def f34n5E (be1 : Int) (ba2 : Qd) : f34n5O → Ex × Tr × Hp
 | .norm v256 v257 => (.norm, mkS [(1, (.bp 0 0)), (4, (jI be1)), (5, (jI v256)), (6, (jI v257))], [some (.box ((Qd.cells ba2).map .pl))])
def f34n5S (be1 : Int) (ba2 : Qd) : Tr × Hp := (mkS [(1, (.bp 0 0)), (4, (jI be1)), (5, (jI 0)), (6, (jI 0))], [some (.box ((Qd.cells ba2).map .pl))])
noncomputable def f34n5 (be1 : Int) (ba2 : Qd) : Option f34n5O :=
 (f34n6 FUEL be1 ba2 0 0 0).bind fun o252 => match o252 with
 | .exit4 v254 v255 => some (.norm v254 v255)
theorem f34n5_ok (be1 : Int) (ba2 : Qd) {o : f34n5O} (h : (f34n5 be1 ba2) = some o) : T Try.prog Try.f34.ntmps 0 (cL (Qo 1 (cL (cL (Qo 1 (cL (cL (Qo 1 (cL (Qo 0 (Qo 1 (Qo 2 c34)))))))))))) (f34n5S be1 ba2) (fun r => r = f34n5E be1 ba2 o) := by
 unfold f34n5 at h
 refine rN Qi 1 [j3] [] [] [0] [1, 4, 5, 6, 7] (f34n6S be1 ba2 0 0 0) an ?_
 obtain ⟨o252, h253, h⟩ := Qg h
 cases o252 with
 | exit4 v254 v255 =>
  obtain rfl := Qe h
  exact T.last' (T.bl (i := 4) (by kernel_rfl) (by kernel_rfl) (f34n6_ok FUEL be1 ba2 0 0 0 h253)) (tds := []) (m := [0]) (keep := [1, 4, 5, 6]) (st2 := (f34n5E be1 ba2 (.norm v254 v255)).2) (by kernel_rfl) an rfl
inductive f34n7O where
 | norm (v265 : Bool)
def f34n7E (be1 : Int) (be2 : Int) (be3 : Int) (ba4 : Qd) : f34n7O → Ex × Tr × Hp
 | .norm v265 => (.norm, mkS [(1, (.bp 0 0)), (4, (jI be1)), (103, (jB v265))], [some (.box ((Qd.cells ba4).map .pl))])
def f34n7S (be1 : Int) (be2 : Int) (be3 : Int) (ba4 : Qd) : Tr × Hp := (mkS [(1, (.bp 0 0)), (4, (jI be1)), (5, (jI be2)), (6, (jI be3))], [some (.box ((Qd.cells ba4).map .pl))])
noncomputable def f34n7 (be1 : Int) (be2 : Int) (be3 : Int) (ba4 : Qd) : Option f34n7O :=
 bif (decide (be2 = 0)) then
  some (.norm (!(decide (be3 = 0))))
 else
  some (.norm true)
theorem f34n7_ok (be1 : Int) (be2 : Int) (be3 : Int) (ba4 : Qd) {o : f34n7O} (h : (f34n7 be1 be2 be3 ba4) = some o) : T Try.prog Try.f34.ntmps 0 (cL (Qo 0 (Qo 1 (Qo 1 (cL (cL (Qo 1 (cL (cL (Qo 1 (cL (Qo 0 (Qo 1 (Qo 2 c34)))))))))))))) (f34n7S be1 be2 be3 ba4) (fun r => r = f34n7E be1 be2 be3 ba4 o) := by
 unfold f34n7 at h
 rcases Qh h with ⟨h264, h⟩ | ⟨h264, h⟩
 ·obtain rfl := Qe h
  exact rE Qi [([(3, false), (4, false)], [(5, .bool false)], [])] [] [] [0] [1, 4, 103] (.norm, (f34n7E be1 be2 be3 ba4 (.norm (!(decide (be3 = 0))))).2) (ap3 (Ql h264) an) rfl
 ·obtain rfl := Qe h
  exact rE Qi [([(3, true), (4, true)], [(5, .bool true)], [])] [] [] [0] [1, 4, 103] (.norm, (f34n7E be1 be2 be3 ba4 (.norm true)).2) (ap3 (Qr h264) an) rfl
inductive f34n4O where
 | norm
 | ret
def f34n4E (be1 : Int) (ba2 : Qd) : f34n4O → Ex × Tr × Hp
 | .norm => (.norm, mkS [(1, (.bp 0 0)), (4, (jI be1))], [some (.box ((Qd.cells ba2).map .pl))])
 | .ret => (.ret, mkS [(2, (jI 8))], [])
def f34n4S (be1 : Int) (ba2 : Qd) : Tr × Hp := (mkS [(1, (.bp 0 0)), (4, (jI be1))], [some (.box ((Qd.cells ba2).map .pl))])
noncomputable def f34n4 (be1 : Int) (ba2 : Qd) : Option f34n4O :=
 (f34n5 be1 ba2).bind fun o258 => match o258 with
 | .norm v260 v261 => (f34n7 be1 v260 v261 ba2).bind fun o266 => match o266 with
  | .norm v268 => bif v268 then
    some .ret
   else
    some .norm
theorem f34n4_ok (be1 : Int) (ba2 : Qd) {o : f34n4O} (h : (f34n4 be1 ba2) = some o) : T Try.prog Try.f34.ntmps 0 (cL (Qo 1 (cL (cL (Qo 1 (cL (Qo 0 (Qo 1 (Qo 2 c34))))))))) (f34n4S be1 ba2) (fun r => r = f34n4E be1 ba2 o) := by
 unfold f34n4 at h
 refine T.block' (i := 3) (by kernel_rfl) ?_
 refine rN Qi 1 [j3] [] [] [0] [1, 4, 5, 6] (f34n5S be1 ba2) an ?_
 obtain ⟨o258, h259, h⟩ := Qg h
 cases o258 with
 | norm v260 v261 =>
  refine T.oneN (by kernel_rfl) (f34n5_ok be1 ba2 h259) (st2 := (f34n5E be1 ba2 (.norm v260 v261)).2) rfl ?_
  refine rN Qi 0 [] [] [] [0] [1, 4, 5, 6] (f34n7S be1 v260 v261 ba2) an ?_
  obtain ⟨o266, h267, h⟩ := Qg h
  cases o266 with
  | norm v268 =>
   refine T.oneN (by kernel_rfl) (f34n7_ok be1 v260 v261 ba2 h267) (st2 := (f34n7E be1 v260 v261 ba2 (.norm v268)).2) rfl ?_
   rcases Qh h with ⟨h270, h⟩ | ⟨h270, h⟩
   ·obtain rfl := Qe h
    exact rE Qi [j3] [some true] [] [] [2] (.ret, (f34n4E be1 ba2 .ret).2) (ap h270 an) rfl
   ·obtain rfl := Qe h
    exact rE Qi [] [some false] [] [0] [1, 4] (.norm, (f34n4E be1 ba2 .norm).2) (ap h270 an) rfl
inductive f34n8O where
 | exit2
 | ret
def f34n8E (ba1 : Qd) : f34n8O → Ex × Tr × Hp
 | .exit2 => ((.exit 2), mkS [], [])
 | .ret => (.ret, mkS [(2, (jI 8))], [])
def f34n8S (ba1 : Qd) (v205 : Int) : Tr × Hp := (mkS [(1, (.bp 0 0)), (4, (jI v205))], [some (.box ((Qd.cells ba1).map .pl))])
noncomputable def f34n8 : Nat → Qd → Int → Option f34n8O
 | 0, _, _ => none
 | f + 1, ba1, v205 =>
  bif (decide (v205 < (ba1.Positions.length : Int))) then
   (f34n4 v205 ba1).bind fun o271 => match o271 with
   | .norm => (f34n8 f ba1 (wr64 (v205 + 1)))
   | .ret => some .ret
  else
   some .exit2
theorem f34n8_ok : ∀ (f : Nat) (ba1 : Qd) (v205 : Int) {o : f34n8O}, (f34n8 f ba1 v205) = some o → TL Try.prog Try.f34.ntmps 0 f (cL (cL (Qo 1 (cL (Qo 0 (Qo 1 (Qo 2 c34))))))) (f34n8S ba1 v205) (fun r => r = f34n8E ba1 o)
 | 0, _, _, o, h => by rw [f34n8] at h; cases h
 | f + 1, ba1, v205, o, h => by
  rw [f34n8] at h
  refine TL.body (K := fun s => ∃ v205 : Int, s = (f34n8S ba1 v205) ∧ (f34n8 f ba1 v205) = some o) ?_ (by rintro _ ⟨v205, rfl, hk⟩; exact f34n8_ok f _ _ hk)
  rcases Qh h with ⟨h207, h⟩ | ⟨h207, h⟩
  ·refine rN Qi 1 [([], [], [(3, .val (jI (ba1.Positions.length : Int)))])] [some true] [] [0] [1, 4] (f34n4S v205 ba1) (ap (Qn (xs := ba1.Positions) (c := Qa.cells)) (ap h207 an)) ?_
   obtain ⟨o271, h272, h⟩ := Qg h
   cases o271 with
   | norm =>
    refine T.oneN (by kernel_rfl) (f34n4_ok v205 ba1 h272) (st2 := (f34n4E v205 ba1 .norm).2) rfl ?_
    exact rE Qi [j3] [] [] [0] [1, 4] (.norm, (f34n8S ba1 (wr64 (v205 + 1)))) an (Qs.norm ⟨(wr64 (v205 + 1)), rfl, h⟩)
   | ret =>
    obtain rfl := Qe h
    exact T.oneX' (by kernel_rfl) (f34n4_ok v205 ba1 h272) (tds := []) (m := []) (keep := [2]) (st2 := (f34n8E ba1 .ret).2) (by kernel_rfl) an rfl (Qs.out rfl rfl)
  ·obtain rfl := Qe h
   exact rK Qi 1 [([], [], [(3, .val (jI (ba1.Positions.length : Int)))])] [some false] [] [] [] (.exit 2) ((f34n8E ba1 .exit2).2) (ap (Qn (xs := ba1.Positions) (c := Qa.cells)) (ap h207 an)) (Qs.out rfl rfl)
inductive f34n3O where
 | norm
 | ret
def f34n3E (ba1 : Qd) : f34n3O → Ex × Tr × Hp
 | .norm => (.norm, mkS [], [])
 | .ret => (.ret, mkS [(2, (jI 8))], [])
def f34n3S (ba1 : Qd) : Tr × Hp := (mkS [(1, (.bp 0 0))], [some (.box ((Qd.cells ba1).map .pl))])
noncomputable def f34n3 (ba1 : Qd) : Option f34n3O :=
 (f34n8 FUEL ba1 0).bind fun o273 => match o273 with
 | .exit2 => some .norm
 | .ret => some .ret
theorem f34n3_ok (ba1 : Qd) {o : f34n3O} (h : (f34n3 ba1) = some o) : T Try.prog Try.f34.ntmps 0 (cL (Qo 0 (Qo 1 (Qo 2 c34)))) (f34n3S ba1) (fun r => r = f34n3E ba1 o) := by
 unfold f34n3 at h
 refine rN Qi 1 [j3] [] [] [0] [1, 4] (f34n8S ba1 0) an ?_
 obtain ⟨o273, h274, h⟩ := Qg h
 cases o273 with
 | exit2 =>
  obtain rfl := Qe h
  exact T.last' (T.bl (i := 2) (by kernel_rfl) (by kernel_rfl) (f34n8_ok FUEL ba1 0 h274)) (tds := []) (m := []) (keep := []) (st2 := (f34n3E ba1 .norm).2) (by kernel_rfl) an rfl
 | ret =>
  obtain rfl := Qe h
  exact T.last' (T.bl (i := 2) (by kernel_rfl) (by kernel_rfl) (f34n8_ok FUEL ba1 0 h274)) (tds := []) (m := []) (keep := [2]) (st2 := (f34n3E ba1 .ret).2) (by kernel_rfl) an rfl
inductive f34n0O where
 | ret (v277 : Int)
def f34n0E (a1 : Qd) : f34n0O → Ex × Tr × Hp
 | .ret v277 => (.ret, mkS [(2, (jI v277))], [])
def f34n0S (a1 : Qd) : Tr × Hp := (Qaz [(jA Qd.cells a1)] 0 .leaf, [])
noncomputable def f34n0 (a1 : Qd) : Option f34n0O :=
 bif (decide (a1.Day < 0)) then
  some (.ret 8)
 else
  bif (decide (99999 < a1.Day)) then
   some (.ret 8)
  else
   bif (decide (200 < (a1.Positions.length : Int))) then
    some (.ret 8)
   else
    (f34n1 a1).bind fun o72 => match o72 with
    | .norm => (f34n3 a1).bind fun o275 => match o275 with
     | .norm => some (.ret 0)
     | .ret => some (.ret 8)
    | .ret => some (.ret 8)
theorem f34n0_ok (a1 : Qd) {o : f34n0O} (h : (f34n0 a1) = some o) : T Try.prog Try.f34.ntmps 0 c34 (f34n0S a1) (fun r => r = f34n0E a1 o) := by
 unfold f34n0 at h
 rcases Qh h with ⟨h5, h⟩ | ⟨h5, h⟩
 ·obtain rfl := Qe h
  exact rK Qi 2 [j3, (jT [4, 5, 6], [(7, .bool true)], []), j3] [none] [] [] [2] .ret ((f34n0E a1 (.ret 8)).2) (ap4 h5 an) rfl
 ·rcases Qh h with ⟨h6, h⟩ | ⟨h6, h⟩
  ·obtain rfl := Qe h
   exact rK Qi 2 [j3, (jF [4, 5, 6] ++ jT [9, 10, 11, 12], [(7, .bool false), (13, .bool true)], []), j3] [none] [] [] [2] .ret ((f34n0E a1 (.ret 8)).2) (ap4 h5 (ap h6 (ap4 h6 an))) rfl
  ·rcases Qh h with ⟨h7, h⟩ | ⟨h7, h⟩
   ·obtain rfl := Qe h
    exact rK Qi 2 [j3, (jF [4, 5, 6, 9, 10, 11, 12], [(7, .bool false), (13, .bool false)], [(11, .val (jI (a1.Positions.length : Int)))]), j3] [some true] [] [] [2] .ret ((f34n0E a1 (.ret 8)).2) (ap4 h5 (ap3 h6 (ap (Qn (xs := a1.Positions) (c := Qa.cells)) (ap2 h6 (ap h7 an))))) rfl
   ·refine rN Qi 2 [j3, (jF [4, 5, 6, 9, 10, 11, 12], [(7, .bool false), (13, .bool false)], [(11, .val (jI (a1.Positions.length : Int)))])] [some false] [] [0] [1] (f34n1S a1) (ap4 h5 (ap3 h6 (ap (Qn (xs := a1.Positions) (c := Qa.cells)) (ap2 h6 (ap h7 an))))) ?_
    obtain ⟨o72, h73, h⟩ := Qg h
    cases o72 with
    | norm =>
     refine T.oneN (by kernel_rfl) (f34n1_ok a1 h73) (st2 := (f34n1E a1 .norm).2) rfl ?_
     refine rN Qi 0 [] [] [] [0] [1] (f34n3S a1) an ?_
     obtain ⟨o275, h276, h⟩ := Qg h
     cases o275 with
     | norm =>
      refine T.oneN (by kernel_rfl) (f34n3_ok a1 h276) (st2 := (f34n3E a1 .norm).2) rfl ?_
      obtain rfl := Qe h
      exact rE Qi [j3] [] [] [] [2] (.ret, (f34n0E a1 (.ret 0)).2) an rfl
     | ret =>
      obtain rfl := Qe h
      exact T.oneX' (by kernel_rfl) (f34n3_ok a1 h276) (tds := []) (m := []) (keep := [2]) (st2 := (f34n0E a1 (.ret 8)).2) (by kernel_rfl) an rfl rfl
    | ret =>
     obtain rfl := Qe h
     exact T.oneX' (by kernel_rfl) (f34n1_ok a1 h73) (tds := []) (m := []) (keep := [2]) (st2 := (f34n0E a1 (.ret 8)).2) (by kernel_rfl) an rfl rfl
noncomputable def f34 (a1 : Qd) : Option Int := (f34n0 a1).bind fun o => match o with
 | .ret v277 => some v277
theorem f34_ok (a1 : Qd) {r : Int} (h : (f34 a1) = some r) : Qu Try.prog false 34 [(jA Qd.cells a1)] [] (jI r) [] := by
 unfold f34 at h
 obtain ⟨o, ho, h⟩ := Qg h
 cases o with
 | ret v277 =>
  obtain rfl := Qe h
  exact Qu.plain Qi (f := Try.f34) (c := c34) (by kernel_rfl) (by kernel_rfl) (by kernel_rfl) (by kernel_rfl) ((f34n0_ok a1 ho).mono fun r e => by subst e; exact ⟨.inl rfl, (jI v277), (jI v277), by kernel_rfl, by kernel_rfl, ((Wk.refl _) : Wk (jI v277) (jI v277))⟩)

noncomputable def c41 : Code := Try.f41.body.getD .skip
inductive f41n2O where
 | exit0
 | ret
def f41n2E (bh1 : List Qc) : f41n2O → Ex × Tr × Hp
 | .exit0 => ((.exit 0), mkS [], [])
 | .ret => (.ret, mkS [(2, (jB false))], [])
def f41n2S (bh1 : List Qc) (v49 : Int) : Tr × Hp := (mkS [(0, (jL 2 Qc.cells bh1)), (3, (jI v49))], [])
noncomputable def f41n2 : Nat → List Qc → Int → Option f41n2O
 | 0, _, _ => none
 | f + 1, bh1, v49 =>
  bif (decide (v49 < (bh1.length : Int))) then
   (at? bh1 v49).bind fun x65 =>
   (f49 x65.Product).bind fun x67 =>
   bif x67 then
    bif (decide (0 < v49)) then
     (at? bh1 (wr64 (v49 - 1))).bind fun x71 =>
     bif (slt x71.Product x65.Product) then
      bif (decide (x65.Price < (-536870912))) then
       some .ret
      else
       bif (decide (536870912 < x65.Price)) then
        some .ret
       else
        (f41n2 f bh1 (wr64 (v49 + 1)))
     else
      some .ret
    else
     bif (decide (x65.Price < (-536870912))) then
      some .ret
     else
      bif (decide (536870912 < x65.Price)) then
       some .ret
      else
       (f41n2 f bh1 (wr64 (v49 + 1)))
   else
    some .ret
  else
   some .exit0
theorem f41n2_ok : ∀ (f : Nat) (bh1 : List Qc) (v49 : Int) {o : f41n2O}, (f41n2 f bh1 v49) = some o → TL Try.prog Try.f41.ntmps 0 f (cL (cL (Qo 1 (cL (Qo 2 c41))))) (f41n2S bh1 v49) (fun r => r = f41n2E bh1 o)
 | 0, _, _, o, h => by rw [f41n2] at h; cases h
 | f + 1, bh1, v49, o, h => by
  rw [f41n2] at h
  refine TL.body (K := fun s => ∃ v49 : Int, s = (f41n2S bh1 v49) ∧ (f41n2 f bh1 v49) = some o) ?_ (by rintro _ ⟨v49, rfl, hk⟩; exact f41n2_ok f _ _ hk)
  rcases Qh h with ⟨h51, h⟩ | ⟨h51, h⟩
  ·obtain ⟨x65, h66, h⟩ := Qg h
   obtain ⟨x67, h68, h⟩ := Qg h
   rcases Qh h with ⟨h69, h⟩ | ⟨h69, h⟩
   ·rcases Qh h with ⟨h70, h⟩ | ⟨h70, h⟩
    ·obtain ⟨x71, h72, h⟩ := Qg h
     rcases Qh h with ⟨h73, h⟩ | ⟨h73, h⟩
     ·rcases Qh h with ⟨h74, h⟩ | ⟨h74, h⟩
      ·obtain rfl := Qe h
       exact rK Qi 2 [([], [], [(2, .val (jI (bh1.length : Int)))]), (jF [8, 9, 10, 23, 26, 27, 28, 29, 30, 31] ++ jT [11, 12, 13, 14, 15, 16, 17, 18, 19, 20, 21, 22, 34, 35, 36, 37, 38, 39], [(2, .idx (Int.toNat v49) (Qc.cells x65)), jH 5 (jB x67), (14, .idx (Int.toNat (wr64 (v49 - 1))) (Qc.cells x71)), (19, .idx (Int.toNat v49) (Qc.cells x65)), (23, .bool true), (24, .bool false), (28, .idx (Int.toNat v49) (Qc.cells x65)), (32, .bool false), (40, .bool true)], []), j3] [some true, none] [] [] [2] .ret ((f41n2E bh1 .ret).2) (ap (Qn (xs := bh1) (c := Qc.cells)) (ap h51 (ap (Qf h66).1 (ap (Qk Qc.cells (Qf h66).2) (ap3 (Ql h69) (ap4 h70 (ap (Qf h72).1 (ap (Qk Qc.cells (Qf h72).2) (ap h70 (ap4 h70 (ap (Qf h66).1 (ap (Qk Qc.cells (Qf h66).2) (ap3 h70 (ap (Ql h69) (ap h70 (ap (Ql h69) (ap3 (Ql h73) (ap (Qf h66).1 (ap (Qk Qc.cells (Qf h66).2) (ap4 (Ql h73) (ap3 h74 (ap4 h74 (ap (f49_ok x65.Product h68) an))))))))))))))))))))))) (Qs.out rfl rfl)
      ·rcases Qh h with ⟨h75, h⟩ | ⟨h75, h⟩
       ·obtain rfl := Qe h
        exact rK Qi 2 [([], [], [(2, .val (jI (bh1.length : Int)))]), (jF [8, 9, 10, 23, 26, 27, 28, 29, 30, 31, 34, 35, 36, 37, 38, 39] ++ jT [11, 12, 13, 14, 15, 16, 17, 18, 19, 20, 21, 22], [(2, .idx (Int.toNat v49) (Qc.cells x65)), jH 5 (jB x67), (14, .idx (Int.toNat (wr64 (v49 - 1))) (Qc.cells x71)), (19, .idx (Int.toNat v49) (Qc.cells x65)), (23, .bool true), (24, .bool false), (28, .idx (Int.toNat v49) (Qc.cells x65)), (32, .bool false), (36, .idx (Int.toNat v49) (Qc.cells x65)), (40, .bool false)], []), j3] [some true, some true] [] [] [2] .ret ((f41n2E bh1 .ret).2) (ap (Qn (xs := bh1) (c := Qc.cells)) (ap h51 (ap (Qf h66).1 (ap (Qk Qc.cells (Qf h66).2) (ap3 (Ql h69) (ap4 h70 (ap (Qf h72).1 (ap (Qk Qc.cells (Qf h72).2) (ap h70 (ap4 h70 (ap (Qf h66).1 (ap (Qk Qc.cells (Qf h66).2) (ap3 h70 (ap (Ql h69) (ap h70 (ap (Ql h69) (ap3 (Ql h73) (ap (Qf h66).1 (ap (Qk Qc.cells (Qf h66).2) (ap4 (Ql h73) (ap3 h74 (ap (Qf h66).1 (ap (Qk Qc.cells (Qf h66).2) (ap4 h74 (ap (f49_ok x65.Product h68) (ap h75 an)))))))))))))))))))))))))) (Qs.out rfl rfl)
       ·exact rE Qi [([], [], [(2, .val (jI (bh1.length : Int)))]), (jF [8, 9, 10, 23, 26, 27, 28, 29, 30, 31, 34, 35, 36, 37, 38, 39] ++ jT [11, 12, 13, 14, 15, 16, 17, 18, 19, 20, 21, 22], [(2, .idx (Int.toNat v49) (Qc.cells x65)), jH 5 (jB x67), (14, .idx (Int.toNat (wr64 (v49 - 1))) (Qc.cells x71)), (19, .idx (Int.toNat v49) (Qc.cells x65)), (23, .bool true), (24, .bool false), (28, .idx (Int.toNat v49) (Qc.cells x65)), (32, .bool false), (36, .idx (Int.toNat v49) (Qc.cells x65)), (40, .bool false)], []), j3] [some true, some false] [] [] [0, 3] (.norm, (f41n2S bh1 (wr64 (v49 + 1)))) (ap (Qn (xs := bh1) (c := Qc.cells)) (ap h51 (ap (Qf h66).1 (ap (Qk Qc.cells (Qf h66).2) (ap3 (Ql h69) (ap4 h70 (ap (Qf h72).1 (ap (Qk Qc.cells (Qf h72).2) (ap h70 (ap4 h70 (ap (Qf h66).1 (ap (Qk Qc.cells (Qf h66).2) (ap3 h70 (ap (Ql h69) (ap h70 (ap (Ql h69) (ap3 (Ql h73) (ap (Qf h66).1 (ap (Qk Qc.cells (Qf h66).2) (ap4 (Ql h73) (ap3 h74 (ap (Qf h66).1 (ap (Qk Qc.cells (Qf h66).2) (ap4 h74 (ap (f49_ok x65.Product h68) (ap h75 an)))))))))))))))))))))))))) (Qs.norm ⟨(wr64 (v49 + 1)), rfl, h⟩)
     ·obtain rfl := Qe h
      exact rK Qi 2 [([], [], [(2, .val (jI (bh1.length : Int)))]), (jF [8, 9, 10, 23] ++ jT [11, 12, 13, 14, 15, 16, 17, 18, 19, 20, 21, 22, 26, 27, 28, 29, 30, 31], [(2, .idx (Int.toNat v49) (Qc.cells x65)), jH 5 (jB x67), (14, .idx (Int.toNat (wr64 (v49 - 1))) (Qc.cells x71)), (19, .idx (Int.toNat v49) (Qc.cells x65)), (23, .bool true), (24, .bool false), (32, .bool true)], []), j3] [some true, none] [] [] [2] .ret ((f41n2E bh1 .ret).2) (ap (Qn (xs := bh1) (c := Qc.cells)) (ap h51 (ap (Qf h66).1 (ap (Qk Qc.cells (Qf h66).2) (ap3 (Ql h69) (ap4 h70 (ap (Qf h72).1 (ap (Qk Qc.cells (Qf h72).2) (ap h70 (ap4 h70 (ap (Qf h66).1 (ap (Qk Qc.cells (Qf h66).2) (ap3 h70 (ap (Ql h69) (ap h70 (ap (Ql h69) (ap3 (Qr h73) (ap4 (Qr h73) (ap (f49_ok x65.Product h68) an))))))))))))))))))) (Qs.out rfl rfl)
    ·rcases Qh h with ⟨h76, h⟩ | ⟨h76, h⟩
     ·obtain rfl := Qe h
      exact rK Qi 2 [([], [], [(2, .val (jI (bh1.length : Int)))]), (jF [8, 9, 10, 11, 12, 13, 14, 15, 16, 17, 18, 19, 20, 21, 22, 23] ++ jT [34, 35, 36, 37, 38, 39], [(2, .idx (Int.toNat v49) (Qc.cells x65)), jH 5 (jB x67), (23, .bool false), (24, .bool false), (28, .idx (Int.toNat v49) (Qc.cells x65)), (40, .bool true)], []), j3] [some true, none] [] [] [2] .ret ((f41n2E bh1 .ret).2) (ap (Qn (xs := bh1) (c := Qc.cells)) (ap h51 (ap (Qf h66).1 (ap (Qk Qc.cells (Qf h66).2) (ap3 (Ql h69) (ap4 h70 (ap4 h70 (ap4 h70 (ap (Ql h69) (ap h70 (ap (Ql h69) (ap (Qf h66).1 (ap (Qk Qc.cells (Qf h66).2) (ap3 h76 (ap4 h76 (ap (f49_ok x65.Product h68) an)))))))))))))))) (Qs.out rfl rfl)
     ·rcases Qh h with ⟨h77, h⟩ | ⟨h77, h⟩
      ·obtain rfl := Qe h
       exact rK Qi 2 [([], [], [(2, .val (jI (bh1.length : Int)))]), (jF [8, 9, 10, 11, 12, 13, 14, 15, 16, 17, 18, 19, 20, 21, 22, 23, 34, 35, 36, 37, 38, 39], [(2, .idx (Int.toNat v49) (Qc.cells x65)), jH 5 (jB x67), (23, .bool false), (24, .bool false), (28, .idx (Int.toNat v49) (Qc.cells x65)), (36, .idx (Int.toNat v49) (Qc.cells x65)), (40, .bool false)], []), j3] [some true, some true] [] [] [2] .ret ((f41n2E bh1 .ret).2) (ap (Qn (xs := bh1) (c := Qc.cells)) (ap h51 (ap (Qf h66).1 (ap (Qk Qc.cells (Qf h66).2) (ap3 (Ql h69) (ap4 h70 (ap4 h70 (ap4 h70 (ap (Ql h69) (ap h70 (ap (Ql h69) (ap (Qf h66).1 (ap (Qk Qc.cells (Qf h66).2) (ap3 h76 (ap (Qf h66).1 (ap (Qk Qc.cells (Qf h66).2) (ap4 h76 (ap (f49_ok x65.Product h68) (ap h77 an))))))))))))))))))) (Qs.out rfl rfl)
      ·exact rE Qi [([], [], [(2, .val (jI (bh1.length : Int)))]), (jF [8, 9, 10, 11, 12, 13, 14, 15, 16, 17, 18, 19, 20, 21, 22, 23, 34, 35, 36, 37, 38, 39], [(2, .idx (Int.toNat v49) (Qc.cells x65)), jH 5 (jB x67), (23, .bool false), (24, .bool false), (28, .idx (Int.toNat v49) (Qc.cells x65)), (36, .idx (Int.toNat v49) (Qc.cells x65)), (40, .bool false)], []), j3] [some true, some false] [] [] [0, 3] (.norm, (f41n2S bh1 (wr64 (v49 + 1)))) (ap (Qn (xs := bh1) (c := Qc.cells)) (ap h51 (ap (Qf h66).1 (ap (Qk Qc.cells (Qf h66).2) (ap3 (Ql h69) (ap4 h70 (ap4 h70 (ap4 h70 (ap (Ql h69) (ap h70 (ap (Ql h69) (ap (Qf h66).1 (ap (Qk Qc.cells (Qf h66).2) (ap3 h76 (ap (Qf h66).1 (ap (Qk Qc.cells (Qf h66).2) (ap4 h76 (ap (f49_ok x65.Product h68) (ap h77 an))))))))))))))))))) (Qs.norm ⟨(wr64 (v49 + 1)), rfl, h⟩)
   ·obtain rfl := Qe h
    exact rK Qi 2 [([], [], [(2, .val (jI (bh1.length : Int)))]), (jT [8, 9, 10, 23], [(2, .idx (Int.toNat v49) (Qc.cells x65)), jH 5 (jB x67), (24, .bool true)], []), j3] [some true, none] [] [] [2] .ret ((f41n2E bh1 .ret).2) (ap (Qn (xs := bh1) (c := Qc.cells)) (ap h51 (ap (Qf h66).1 (ap (Qk Qc.cells (Qf h66).2) (ap (Qr h69) (ap4 (Qr h69) (ap (f49_ok x65.Product h68) an))))))) (Qs.out rfl rfl)
  ·obtain rfl := Qe h
   exact rK Qi 1 [([], [], [(2, .val (jI (bh1.length : Int)))])] [some false] [] [] [] (.exit 0) ((f41n2E bh1 .exit0).2) (ap (Qn (xs := bh1) (c := Qc.cells)) (ap h51 an)) (Qs.out rfl rfl)
noncomputable def f41n2L (bh1 : List Qc) : List Qc → Int → Option f41n2O
 | [], v49 =>
  some .exit0
 | x0 :: rest, v49 =>
  (f49 x0.Product).bind fun x67 =>
  bif x67 then
   bif (decide (0 < v49)) then
    (at? bh1 (wr64 (v49 - 1))).bind fun x71 =>
    bif (slt x71.Product x0.Product) then
     bif (decide (x0.Price < (-536870912))) then
      some .ret
     else
      bif (decide (536870912 < x0.Price)) then
       some .ret
      else
       (f41n2L bh1 rest (v49 + 1))
    else
     some .ret
   else
    bif (decide (x0.Price < (-536870912))) then
     some .ret
    else
     bif (decide (536870912 < x0.Price)) then
      some .ret
     else
      (f41n2L bh1 rest (v49 + 1))
  else
   some .ret
theorem f41n2L_eq (bh1 : List Qc) : ∀ (rest : List Qc) (f k : Nat), bh1.drop k = rest → bh1.length ≤ maxLen → rest.length < f → f41n2 f bh1 (k : Int) = f41n2L bh1 rest (k : Int)
 | _, 0, _, _, _, hf => absurd hf (Nat.not_lt_zero _)
 | [], f + 1, k, hd, hm, hf => by
  have hk : ¬ ((k : Int) < (bh1.length : Int)) := by have := Qat hd; omega
  rw [f41n2, f41n2L]
  simp only [decide_eq_false hk, cond_false]
 | x0 :: rest, f + 1, k, hd, hm, hf => by
  obtain ⟨hx, hlt, hd'⟩ := Qak hd
  have hk : (k : Int) < (bh1.length : Int) := by omega
  have hw : wr64 ((k : Int) + 1) = (k : Int) + 1 := Qcf (by omega) (by unfold maxLen at hm; omega)
  have ih : f41n2 f bh1 ((k : Int) + 1) = f41n2L bh1 rest ((k : Int) + 1) := f41n2L_eq bh1 rest f (k + 1) hd' hm (by simpa using hf)
  rw [f41n2, f41n2L]
  simp only [decide_eq_true hk, cond_true, Qao, hx, Option.bind_some, hw, ih]
theorem f41n2_run (bh1 : List Qc) (hm : bh1.length ≤ maxLen) : f41n2 FUEL bh1 0 = f41n2L bh1 bh1 0 := f41n2L_eq bh1 bh1 FUEL 0 List.drop_zero hm (Qbp hm)
inductive f41n1O where
 | norm
 | ret
def f41n1E (bh1 : List Qc) : f41n1O → Ex × Tr × Hp
 | .norm => (.norm, mkS [], [])
 | .ret => (.ret, mkS [(2, (jB false))], [])
def f41n1S (bh1 : List Qc) : Tr × Hp := (mkS [(0, (jL 2 Qc.cells bh1))], [])
noncomputable def f41n1 (bh1 : List Qc) : Option f41n1O :=
 (f41n2 FUEL bh1 0).bind fun o78 => match o78 with
 | .exit0 => some .norm
 | .ret => some .ret
theorem f41n1_ok (bh1 : List Qc) {o : f41n1O} (h : (f41n1 bh1) = some o) : T Try.prog Try.f41.ntmps 0 (cL (Qo 2 c41)) (f41n1S bh1) (fun r => r = f41n1E bh1 o) := by
 unfold f41n1 at h
 refine rN Qi 1 [j3] [] [] [] [0, 3] (f41n2S bh1 0) an ?_
 obtain ⟨o78, h79, h⟩ := Qg h
 cases o78 with
 | exit0 =>
  obtain rfl := Qe h
  exact T.last' (T.bl (i := 0) (by kernel_rfl) (by kernel_rfl) (f41n2_ok FUEL bh1 0 h79)) (tds := []) (m := []) (keep := []) (st2 := (f41n1E bh1 .norm).2) (by kernel_rfl) an rfl
 | ret =>
  obtain rfl := Qe h
  exact T.last' (T.bl (i := 0) (by kernel_rfl) (by kernel_rfl) (f41n2_ok FUEL bh1 0 h79)) (tds := []) (m := []) (keep := [2]) (st2 := (f41n1E bh1 .ret).2) (by kernel_rfl) an rfl
inductive f41n0O where
 | ret (v82 : Bool)
def f41n0E (a1 : List Qc) : f41n0O → Ex × Tr × Hp
 | .ret v82 => (.ret, mkS [(2, (jB v82))], [])
def f41n0S (a1 : List Qc) : Tr × Hp := (Qaz [(jL 2 Qc.cells a1)] 0 .leaf, [])
noncomputable def f41n0 (a1 : List Qc) : Option f41n0O :=
 bif (decide (200 < (a1.length : Int))) then
  some (.ret false)
 else
  (f41n1 a1).bind fun o80 => match o80 with
  | .norm => some (.ret true)
  | .ret => some (.ret false)
theorem f41n0_ok (a1 : List Qc) {o : f41n0O} (h : (f41n0 a1) = some o) : T Try.prog Try.f41.ntmps 0 c41 (f41n0S a1) (fun r => r = f41n0E a1 o) := by
 unfold f41n0 at h
 rcases Qh h with ⟨h3, h⟩ | ⟨h3, h⟩
 ·obtain rfl := Qe h
  exact rK Qi 2 [j3, ([], [], [(1, .val (jI (a1.length : Int)))]), j3] [some true] [] [] [2] .ret ((f41n0E a1 (.ret false)).2) (ap (Qn (xs := a1) (c := Qc.cells)) (ap h3 an)) rfl
 ·refine rN Qi 2 [j3, ([], [], [(1, .val (jI (a1.length : Int)))])] [some false] [] [] [0] (f41n1S a1) (ap (Qn (xs := a1) (c := Qc.cells)) (ap h3 an)) ?_
  obtain ⟨o80, h81, h⟩ := Qg h
  cases o80 with
  | norm =>
   refine T.oneN (by kernel_rfl) (f41n1_ok a1 h81) (st2 := (f41n1E a1 .norm).2) rfl ?_
   obtain rfl := Qe h
   exact rE Qi [j3] [] [] [] [2] (.ret, (f41n0E a1 (.ret true)).2) an rfl
  | ret =>
   obtain rfl := Qe h
   exact T.oneX' (by kernel_rfl) (f41n1_ok a1 h81) (tds := []) (m := []) (keep := [2]) (st2 := (f41n0E a1 (.ret false)).2) (by kernel_rfl) an rfl rfl
noncomputable def f41 (a1 : List Qc) : Option Bool := (f41n0 a1).bind fun o => match o with
 | .ret v82 => some v82
theorem f41_ok (a1 : List Qc) {r : Bool} (h : (f41 a1) = some r) : Qu Try.prog false 41 [(jL 2 Qc.cells a1)] [] (jB r) [] := by
 unfold f41 at h
 obtain ⟨o, ho, h⟩ := Qg h
 cases o with
 | ret v82 =>
  obtain rfl := Qe h
  exact Qu.plain Qi (f := Try.f41) (c := c41) (by kernel_rfl) (by kernel_rfl) (by kernel_rfl) (by kernel_rfl) ((f41n0_ok a1 ho).mono fun r e => by subst e; exact ⟨.inl rfl, (jB v82), (jB v82), by kernel_rfl, by kernel_rfl, ((Wk.refl _) : Wk (jB v82) (jB v82))⟩)

noncomputable def c42 : Code := Try.f42.body.getD .skip
inductive f42n2O where
 | exit0
 | ret (v29 : Int)
def f42n2E (bh1 : List Qc) (bo2 : Qa) : f42n2O → Ex × Tr × Hp
 | .exit0 => ((.exit 0), mkS [(2, (.bp 0 0))], [some (.box ((Qa.cells bo2).map .pl))])
 | .ret v29 => (.ret, mkS [(4, (jI v29)), (5, (jB true))], [])
def f42n2S (bh1 : List Qc) (bo2 : Qa) (v20 : Int) : Tr × Hp := (mkS [(1, (jL 2 Qc.cells bh1)), (2, (.bp 0 0)), (6, (jI v20))], [some (.box ((Qa.cells bo2).map .pl))])
noncomputable def f42n2 : Nat → List Qc → Qa → Int → Option f42n2O
 | 0, _, _, _ => none
 | f + 1, bh1, bo2, v20 =>
  bif (decide (v20 < (bh1.length : Int))) then
   (at? bh1 v20).bind fun x26 =>
   bif (seq x26.Product bo2.Product) then
    some (.ret (wr64 (bo2.Quantity * x26.Price)))
   else
    (f42n2 f bh1 bo2 (wr64 (v20 + 1)))
  else
   some .exit0
theorem f42n2_ok : ∀ (f : Nat) (bh1 : List Qc) (bo2 : Qa) (v20 : Int) {o : f42n2O}, (f42n2 f bh1 bo2 v20) = some o → TL Try.prog Try.f42.ntmps 0 f (cL (cL (Qo 1 (cL (Qo 1 c42))))) (f42n2S bh1 bo2 v20) (fun r => r = f42n2E bh1 bo2 o)
 | 0, _, _, _, o, h => by rw [f42n2] at h; cases h
 | f + 1, bh1, bo2, v20, o, h => by
  rw [f42n2] at h
  refine TL.body (K := fun s => ∃ v20 : Int, s = (f42n2S bh1 bo2 v20) ∧ (f42n2 f bh1 bo2 v20) = some o) ?_ (by rintro _ ⟨v20, rfl, hk⟩; exact f42n2_ok f _ _ _ hk)
  rcases Qh h with ⟨h22, h⟩ | ⟨h22, h⟩
  ·obtain ⟨x26, h27, h⟩ := Qg h
   rcases Qh h with ⟨h28, h⟩ | ⟨h28, h⟩
   ·obtain rfl := Qe h
    exact rK Qi 2 [([], [], [(2, .val (jI (bh1.length : Int)))]), ([], [(2, .idx (Int.toNat v20) (Qc.cells x26))], []), ([], [(4, .idx (Int.toNat v20) (Qc.cells x26))], [])] [some true, some true] [] [] [4, 5] .ret ((f42n2E bh1 bo2 (.ret (wr64 (bo2.Quantity * x26.Price)))).2) (ap (Qn (xs := bh1) (c := Qc.cells)) (ap h22 (ap (Qf h27).1 (ap (Qk Qc.cells (Qf h27).2) (ap h28 (ap (Qf h27).1 (ap (Qk Qc.cells (Qf h27).2) an))))))) (Qs.out rfl rfl)
   ·exact rE Qi [([], [], [(2, .val (jI (bh1.length : Int)))]), ([], [(2, .idx (Int.toNat v20) (Qc.cells x26))], []), j3] [some true, some false] [] [0] [1, 2, 6] (.norm, (f42n2S bh1 bo2 (wr64 (v20 + 1)))) (ap (Qn (xs := bh1) (c := Qc.cells)) (ap h22 (ap (Qf h27).1 (ap (Qk Qc.cells (Qf h27).2) (ap h28 an))))) (Qs.norm ⟨(wr64 (v20 + 1)), rfl, h⟩)
  ·obtain rfl := Qe h
   exact rK Qi 1 [([], [], [(2, .val (jI (bh1.length : Int)))])] [some false] [] [0] [2] (.exit 0) ((f42n2E bh1 bo2 .exit0).2) (ap (Qn (xs := bh1) (c := Qc.cells)) (ap h22 an)) (Qs.out rfl rfl)
noncomputable def f42n2L (bh1 : List Qc) (bo2 : Qa) : List Qc → Int → Option f42n2O
 | [], v20 =>
  some .exit0
 | x0 :: rest, v20 =>
  bif (seq x0.Product bo2.Product) then
   some (.ret (wr64 (bo2.Quantity * x0.Price)))
  else
   (f42n2L bh1 bo2 rest (v20 + 1))
theorem f42n2L_eq (bh1 : List Qc) (bo2 : Qa) : ∀ (rest : List Qc) (f k : Nat), bh1.drop k = rest → bh1.length ≤ maxLen → rest.length < f → f42n2 f bh1 bo2 (k : Int) = f42n2L bh1 bo2 rest (k : Int)
 | _, 0, _, _, _, hf => absurd hf (Nat.not_lt_zero _)
 | [], f + 1, k, hd, hm, hf => by
  have hk : ¬ ((k : Int) < (bh1.length : Int)) := by have := Qat hd; omega
  rw [f42n2, f42n2L]
  simp only [decide_eq_false hk, cond_false]
 | x0 :: rest, f + 1, k, hd, hm, hf => by
  obtain ⟨hx, hlt, hd'⟩ := Qak hd
  have hk : (k : Int) < (bh1.length : Int) := by omega
  have hw : wr64 ((k : Int) + 1) = (k : Int) + 1 := Qcf (by omega) (by unfold maxLen at hm; omega)
  have ih : f42n2 f bh1 bo2 ((k : Int) + 1) = f42n2L bh1 bo2 rest ((k : Int) + 1) := f42n2L_eq bh1 bo2 rest f (k + 1) hd' hm (by simpa using hf)
  rw [f42n2, f42n2L]
  simp only [decide_eq_true hk, cond_true, Qao, hx, Option.bind_some, hw, ih]
theorem f42n2_run (bh1 : List Qc) (bo2 : Qa) (hm : bh1.length ≤ maxLen) : f42n2 FUEL bh1 bo2 0 = f42n2L bh1 bo2 bh1 0 := f42n2L_eq bh1 bo2 bh1 FUEL 0 List.drop_zero hm (Qbp hm)
inductive f42n1O where
 | norm
 | ret (v33 : Int)
def f42n1E (bh1 : List Qc) (bo2 : Qa) : f42n1O → Ex × Tr × Hp
 | .norm => (.norm, mkS [(2, (.bp 0 0))], [some (.box ((Qa.cells bo2).map .pl))])
 | .ret v33 => (.ret, mkS [(4, (jI v33)), (5, (jB true))], [])
def f42n1S (bh1 : List Qc) (bo2 : Qa) : Tr × Hp := (mkS [(1, (jL 2 Qc.cells bh1)), (2, (.bp 0 0))], [some (.box ((Qa.cells bo2).map .pl))])
noncomputable def f42n1 (bh1 : List Qc) (bo2 : Qa) : Option f42n1O :=
 (f42n2 FUEL bh1 bo2 0).bind fun o30 => match o30 with
 | .exit0 => some .norm
 | .ret v32 => some (.ret v32)
theorem f42n1_ok (bh1 : List Qc) (bo2 : Qa) {o : f42n1O} (h : (f42n1 bh1 bo2) = some o) : T Try.prog Try.f42.ntmps 0 (cL (Qo 1 c42)) (f42n1S bh1 bo2) (fun r => r = f42n1E bh1 bo2 o) := by
 unfold f42n1 at h
 refine rN Qi 1 [j3] [] [] [0] [1, 2, 6] (f42n2S bh1 bo2 0) an ?_
 obtain ⟨o30, h31, h⟩ := Qg h
 cases o30 with
 | exit0 =>
  obtain rfl := Qe h
  exact T.last' (T.bl (i := 0) (by kernel_rfl) (by kernel_rfl) (f42n2_ok FUEL bh1 bo2 0 h31)) (tds := []) (m := [0]) (keep := [2]) (st2 := (f42n1E bh1 bo2 .norm).2) (by kernel_rfl) an rfl
 | ret v32 =>
  obtain rfl := Qe h
  exact T.last' (T.bl (i := 0) (by kernel_rfl) (by kernel_rfl) (f42n2_ok FUEL bh1 bo2 0 h31)) (tds := []) (m := []) (keep := [4, 5]) (st2 := (f42n1E bh1 bo2 (.ret v32)).2) (by kernel_rfl) an rfl
inductive f42n0O where
 | ret (v37 : Int) (v38 : Bool)
def f42n0E (a1 : Qa) (a2 : List Qc) : f42n0O → Ex × Tr × Hp
 | .ret v37 v38 => (.ret, mkS [(4, (jI v37)), (5, (jB v38))], [])
def f42n0S (a1 : Qa) (a2 : List Qc) : Tr × Hp := (Qaz [(jA Qa.cells a1), (jL 2 Qc.cells a2)] 0 .leaf, [])
noncomputable def f42n0 (a1 : Qa) (a2 : List Qc) : Option f42n0O :=
 (f42n1 a2 a1).bind fun o34 => match o34 with
 | .norm => some (.ret 0 (decide (a1.Quantity = 0)))
 | .ret v36 => some (.ret v36 true)
theorem f42n0_ok (a1 : Qa) (a2 : List Qc) {o : f42n0O} (h : (f42n0 a1 a2) = some o) : T Try.prog Try.f42.ntmps 0 c42 (f42n0S a1 a2) (fun r => r = f42n0E a1 a2 o) := by
 unfold f42n0 at h
 refine rN Qi 1 [j3] [] [] [0] [1, 2] (f42n1S a2 a1) an ?_
 obtain ⟨o34, h35, h⟩ := Qg h
 cases o34 with
 | norm =>
  refine T.oneN (by kernel_rfl) (f42n1_ok a2 a1 h35) (st2 := (f42n1E a2 a1 .norm).2) rfl ?_
  obtain rfl := Qe h
  exact rE Qi [j3] [] [] [] [4, 5] (.ret, (f42n0E a1 a2 (.ret 0 (decide (a1.Quantity = 0)))).2) an rfl
 | ret v36 =>
  obtain rfl := Qe h
  exact T.oneX' (by kernel_rfl) (f42n1_ok a2 a1 h35) (tds := []) (m := []) (keep := [4, 5]) (st2 := (f42n0E a1 a2 (.ret v36 true)).2) (by kernel_rfl) an rfl rfl
noncomputable def f42 (a1 : Qa) (a2 : List Qc) : Option (Int × Bool) := (f42n0 a1 a2).bind fun o => match o with
 | .ret v37 v38 => some (v37, v38)
theorem f42_ok (a1 : Qa) (a2 : List Qc) {r : Int × Bool} (h : (f42 a1 a2) = some r) : Qu Try.prog false 42 [(jA Qa.cells a1), (jL 2 Qc.cells a2)] [] (.tup [(jI r.1), (jB r.2)]) [] := by
 unfold f42 at h
 obtain ⟨o, ho, h⟩ := Qg h
 cases o with
 | ret v37 v38 =>
  obtain rfl := Qe h
  exact Qu.plain Qi (f := Try.f42) (c := c42) (by kernel_rfl) (by kernel_rfl) (by kernel_rfl) (by kernel_rfl) ((f42n0_ok a1 a2 ho).mono fun r e => by subst e; exact ⟨.inl rfl, (.tup [(jI v37), (jB v38)]), (.tup [(jI v37), (jB v38)]), by kernel_rfl, by kernel_rfl, ((Wk.refl _) : Wk (.tup [(jI v37), (jB v38)]) (.tup [(jI v37), (jB v38)]))⟩)

noncomputable def c43 : Code := Try.f43.body.getD .skip
inductive f43n0O where
 | ret (v4 : Int)
def f43n0E (a1 : Int) : f43n0O → Ex × Tr × Hp
 | .ret v4 => (.ret, mkS [(2, (jI v4))], [])
def f43n0S (a1 : Int) : Tr × Hp := (Qaz [(jI a1)] 0 .leaf, [])
noncomputable def f43n0 (a1 : Int) : Option f43n0O :=
 bif (decide (a1 < 0)) then
  some (.ret (wr64 (0 - a1)))
 else
  some (.ret a1)
theorem f43n0_ok (a1 : Int) {o : f43n0O} (h : (f43n0 a1) = some o) : T Try.prog Try.f43.ntmps 0 c43 (f43n0S a1) (fun r => r = f43n0E a1 o) := by
 unfold f43n0 at h
 rcases Qh h with ⟨h3, h⟩ | ⟨h3, h⟩
 ·obtain rfl := Qe h
  exact rK Qi 2 [j3, j3, j3] [some true] [] [] [2] .ret ((f43n0E a1 (.ret (wr64 (0 - a1)))).2) (ap h3 an) rfl
 ·obtain rfl := Qe h
  exact rE Qi [j3, j3, j3] [some false] [] [] [2] (.ret, (f43n0E a1 (.ret a1)).2) (ap h3 an) rfl
noncomputable def f43 (a1 : Int) : Option Int := (f43n0 a1).bind fun o => match o with
 | .ret v4 => some v4
theorem f43_ok (a1 : Int) {r : Int} (h : (f43 a1) = some r) : Qu Try.prog false 43 [(jI a1)] [] (jI r) [] := by
 unfold f43 at h
 obtain ⟨o, ho, h⟩ := Qg h
 cases o with
 | ret v4 =>
  obtain rfl := Qe h
  exact Qu.plain Qi (f := Try.f43) (c := c43) (by kernel_rfl) (by kernel_rfl) (by kernel_rfl) (by kernel_rfl) ((f43n0_ok a1 ho).mono fun r e => by subst e; exact ⟨.inl rfl, (jI v4), (jI v4), by kernel_rfl, by kernel_rfl, ((Wk.refl _) : Wk (jI v4) (jI v4))⟩)

noncomputable def c15 : Code := Try.f15.body.getD .skip
inductive f15n2O where
 | exit0 (v130 : List Qb) (v131 : List Qa)
 | ret
def f15n2E (bh1 : List Qc) (ba2 : Qd) (be3 : Int) : f15n2O → Ex × Tr × Hp
 | .exit0 v130 v131 => ((.exit 0), mkS [(6, (.bp 0 0)), (9, (.bp 1 0)), (10, (.own 2))], [some (.box [(jI 0), (.pl (.sl .nil 0 []))]), some (.box [(jI be3), (.own 3)]), jR 2 Qb.cells v130, jR 4 Qa.cells v131])
 | .ret => (.ret, mkS [(6, (.bp 0 0)), (7, (.pl (.sl .nil 0 []))), (8, (jI 30))], [some (.box [(jI 0), (.pl (.sl .nil 0 []))])])
def f15n2S (bh1 : List Qc) (ba2 : Qd) (be3 : Int) (v83 : Int) (v84 : List Qb) (v85 : List Qa) : Tr × Hp := (mkS [(2, (jL 2 Qc.cells bh1)), (3, (.bp 0 0)), (6, (.bp 1 0)), (9, (.bp 2 0)), (10, (.own 3)), (11, (jI v83))], [some (.box ((Qd.cells ba2).map .pl)), some (.box [(jI 0), (.pl (.sl .nil 0 []))]), some (.box [(jI be3), (.own 4)]), jR 2 Qb.cells v84, jR 4 Qa.cells v85])
noncomputable def f15n2 : Nat → List Qc → Qd → Int → Int → List Qb → List Qa → Option f15n2O
 | 0, _, _, _, _, _, _ => none
 | f + 1, bh1, ba2, be3, v83, v84, v85 =>
  bif (decide (v83 < (ba2.Positions.length : Int))) then
   (at? ba2.Positions v83).bind fun x109 =>
   (f42 x109 bh1).bind fun x111 =>
   bif x111.2 then
    bif (decide ((v84.length : Int) = 0)) then
     req (fit (v84.length + 1) 24) <|
     (at? (v84 ++ [(Qb.mk x109.Member 0)]) (wr64 (((v84 ++ [(Qb.mk x109.Member 0)]).length : Int) - 1))).bind fun x116 =>
     bif (decide (x109.Quantity = 0)) then
      (f15n2 f bh1 ba2 be3 (wr64 (v83 + 1)) ((v84 ++ [(Qb.mk x109.Member 0)]).set (Int.toNat (wr64 (((v84 ++ [(Qb.mk x109.Member 0)]).length : Int) - 1))) (Qb.mk x116.Member (wr64 ((wr64 (x116.Amount + x111.1)) - x109.Basis)))) v85)
     else
      req (fit (v85.length + 1) 48) <|
      (f15n2 f bh1 ba2 be3 (wr64 (v83 + 1)) ((v84 ++ [(Qb.mk x109.Member 0)]).set (Int.toNat (wr64 (((v84 ++ [(Qb.mk x109.Member 0)]).length : Int) - 1))) (Qb.mk x116.Member (wr64 ((wr64 (x116.Amount + x111.1)) - x109.Basis)))) (v85 ++ [(Qa.mk x109.Member x109.Product x109.Quantity x111.1)]))
    else
     (at? v84 (wr64 ((v84.length : Int) - 1))).bind fun x120 =>
     bif (seq x120.Member x109.Member) then
      bif (decide (x109.Quantity = 0)) then
       (f15n2 f bh1 ba2 be3 (wr64 (v83 + 1)) (v84.set (Int.toNat (wr64 ((v84.length : Int) - 1))) (Qb.mk x120.Member (wr64 ((wr64 (x120.Amount + x111.1)) - x109.Basis)))) v85)
      else
       req (fit (v85.length + 1) 48) <|
       (f15n2 f bh1 ba2 be3 (wr64 (v83 + 1)) (v84.set (Int.toNat (wr64 ((v84.length : Int) - 1))) (Qb.mk x120.Member (wr64 ((wr64 (x120.Amount + x111.1)) - x109.Basis)))) (v85 ++ [(Qa.mk x109.Member x109.Product x109.Quantity x111.1)]))
     else
      req (fit (v84.length + 1) 24) <|
      (at? (v84 ++ [(Qb.mk x109.Member 0)]) (wr64 (((v84 ++ [(Qb.mk x109.Member 0)]).length : Int) - 1))).bind fun x126 =>
      bif (decide (x109.Quantity = 0)) then
       (f15n2 f bh1 ba2 be3 (wr64 (v83 + 1)) ((v84 ++ [(Qb.mk x109.Member 0)]).set (Int.toNat (wr64 (((v84 ++ [(Qb.mk x109.Member 0)]).length : Int) - 1))) (Qb.mk x126.Member (wr64 ((wr64 (x126.Amount + x111.1)) - x109.Basis)))) v85)
      else
       req (fit (v85.length + 1) 48) <|
       (f15n2 f bh1 ba2 be3 (wr64 (v83 + 1)) ((v84 ++ [(Qb.mk x109.Member 0)]).set (Int.toNat (wr64 (((v84 ++ [(Qb.mk x109.Member 0)]).length : Int) - 1))) (Qb.mk x126.Member (wr64 ((wr64 (x126.Amount + x111.1)) - x109.Basis)))) (v85 ++ [(Qa.mk x109.Member x109.Product x109.Quantity x111.1)]))
   else
    some .ret
  else
   some (.exit0 v84 v85)
theorem f15n2_ok : ∀ (f : Nat) (bh1 : List Qc) (ba2 : Qd) (be3 : Int) (v83 : Int) (v84 : List Qb) (v85 : List Qa) {o : f15n2O}, (f15n2 f bh1 ba2 be3 v83 v84 v85) = some o → TL Try.prog Try.f15.ntmps 0 f (cL (cL (Qo 1 (cL (Qo 6 c15))))) (f15n2S bh1 ba2 be3 v83 v84 v85) (fun r => r = f15n2E bh1 ba2 be3 o)
 | 0, _, _, _, _, _, _, o, h => by rw [f15n2] at h; cases h
 | f + 1, bh1, ba2, be3, v83, v84, v85, o, h => by
  rw [f15n2] at h
  refine TL.body (K := fun s => ∃ v83 : Int, ∃ v84 : List Qb, ∃ v85 : List Qa, s = (f15n2S bh1 ba2 be3 v83 v84 v85) ∧ (f15n2 f bh1 ba2 be3 v83 v84 v85) = some o) ?_ (by rintro _ ⟨v83, v84, v85, rfl, hk⟩; exact f15n2_ok f _ _ _ _ _ _ hk)
  rcases Qh h with ⟨h87, h⟩ | ⟨h87, h⟩
  ·obtain ⟨x109, h110, h⟩ := Qg h
   obtain ⟨x111, h112, h⟩ := Qg h
   rcases Qh h with ⟨h113, h⟩ | ⟨h113, h⟩
   ·rcases Qh h with ⟨h114, h⟩ | ⟨h114, h⟩
    ·obtain ⟨h115, h⟩ := Qab h
     obtain ⟨x116, h117, h⟩ := Qg h
     rcases Qh h with ⟨h118, h⟩ | ⟨h118, h⟩
     ·exact rE Qi [([], [], [(3, .val (jI (ba2.Positions.length : Int)))]), ([], [(3, .idx (Int.toNat v83) (Qa.cells x109))], []), ([], [jH 2 (.tup [(jI x111.1), (jB x111.2)])], []), j3, (jT [4, 5, 6, 7, 8, 9, 10, 11, 12, 13], [(14, .bool true)], [(1, .val (jI (v84.length : Int)))]), ([], [(5, .fits)], [(5, .row 8 ((v84 ++ [(Qb.mk x109.Member 0)]).map Qb.cells))]), ([], [(8, .at_ (Int.toNat (wr64 (((v84 ++ [(Qb.mk x109.Member 0)]).length : Int) - 1)))), (10, .idx 0 (Qb.cells x116)), (16, .at_ (Int.toNat (wr64 (((v84 ++ [(Qb.mk x109.Member 0)]).length : Int) - 1)))), (18, .idx 0 (Qb.cells x116))], [(2, .val (jI ((v84 ++ [(Qb.mk x109.Member 0)]).length : Int))), (6, .val (jI ((v84 ++ [(Qb.mk x109.Member 0)]).length : Int))), (18, .row 8 (((v84 ++ [(Qb.mk x109.Member 0)]).set (Int.toNat (wr64 (((v84 ++ [(Qb.mk x109.Member 0)]).length : Int) - 1))) (Qb.mk x116.Member (wr64 ((wr64 (x116.Amount + x111.1)) - x109.Basis)))).map Qb.cells))]), j3, j3, j3] [some true, some false, none, some false] [] [0, 1, 2, 8, 4] [2, 3, 6, 9, 10, 11] (.norm, (f15n2S bh1 ba2 be3 (wr64 (v83 + 1)) ((v84 ++ [(Qb.mk x109.Member 0)]).set (Int.toNat (wr64 (((v84 ++ [(Qb.mk x109.Member 0)]).length : Int) - 1))) (Qb.mk x116.Member (wr64 ((wr64 (x116.Amount + x111.1)) - x109.Basis)))) v85)) (ap (Qn (xs := ba2.Positions) (c := Qa.cells)) (ap h87 (ap (Qf h110).1 (ap (Qk Qa.cells (Qf h110).2) (ap (f42_ok x109 bh1 h112) (ap (Ql h113) (ap (Qn (xs := v84) (c := Qb.cells)) (ap3 h114 (ap4 h114 (ap4 h114 (ap (Qas (te := ti48) (xs := v84) (n := 1) (c := Qb.cells) h115 rfl) (ap (Qbw (xs := v84) (ys := [(Qb.mk x109.Member 0)]) (c := Qb.cells)) (ap2 (Qn (xs := (v84 ++ [(Qb.mk x109.Member 0)])) (c := Qb.cells)) (ap (Qf h117).1 (ap (Qbk Qb.cells (Qf h117).2) (ap (Qk Qb.cells (Qf h117).2) (ap (Qf h117).1 (ap (Qbk Qb.cells (Qf h117).2) (ap (Qk Qb.cells (Qf h117).2) (ap (set_cv (xs := (v84 ++ [(Qb.mk x109.Member 0)])) (c := Qb.cells) (k := (Int.toNat (wr64 (((v84 ++ [(Qb.mk x109.Member 0)]).length : Int) - 1)))) (x := (Qb.mk x116.Member (wr64 ((wr64 (x116.Amount + x111.1)) - x109.Basis))))) (ap (Ql h118) an))))))))))))))))))))) (Qs.norm ⟨(wr64 (v83 + 1)), ((v84 ++ [(Qb.mk x109.Member 0)]).set (Int.toNat (wr64 (((v84 ++ [(Qb.mk x109.Member 0)]).length : Int) - 1))) (Qb.mk x116.Member (wr64 ((wr64 (x116.Amount + x111.1)) - x109.Basis)))), v85, rfl, h⟩)
     ·obtain ⟨h119, h⟩ := Qab h
      exact rE Qi [([], [], [(3, .val (jI (ba2.Positions.length : Int)))]), ([], [(3, .idx (Int.toNat v83) (Qa.cells x109))], []), ([], [jH 2 (.tup [(jI x111.1), (jB x111.2)])], []), j3, (jT [4, 5, 6, 7, 8, 9, 10, 11, 12, 13], [(14, .bool true)], [(1, .val (jI (v84.length : Int)))]), ([], [(5, .fits)], [(5, .row 8 ((v84 ++ [(Qb.mk x109.Member 0)]).map Qb.cells))]), ([], [(8, .at_ (Int.toNat (wr64 (((v84 ++ [(Qb.mk x109.Member 0)]).length : Int) - 1)))), (10, .idx 0 (Qb.cells x116)), (16, .at_ (Int.toNat (wr64 (((v84 ++ [(Qb.mk x109.Member 0)]).length : Int) - 1)))), (18, .idx 0 (Qb.cells x116))], [(2, .val (jI ((v84 ++ [(Qb.mk x109.Member 0)]).length : Int))), (6, .val (jI ((v84 ++ [(Qb.mk x109.Member 0)]).length : Int))), (18, .row 8 (((v84 ++ [(Qb.mk x109.Member 0)]).set (Int.toNat (wr64 (((v84 ++ [(Qb.mk x109.Member 0)]).length : Int) - 1))) (Qb.mk x116.Member (wr64 ((wr64 (x116.Amount + x111.1)) - x109.Basis)))).map Qb.cells))]), j3, j3, ([], [(4, .fits)], [(4, .row 11 ((v85 ++ [(Qa.mk x109.Member x109.Product x109.Quantity x111.1)]).map Qa.cells))]), j3] [some true, some false, none, some true] [] [0, 1, 2, 8, 11] [2, 3, 6, 9, 10, 11] (.norm, (f15n2S bh1 ba2 be3 (wr64 (v83 + 1)) ((v84 ++ [(Qb.mk x109.Member 0)]).set (Int.toNat (wr64 (((v84 ++ [(Qb.mk x109.Member 0)]).length : Int) - 1))) (Qb.mk x116.Member (wr64 ((wr64 (x116.Amount + x111.1)) - x109.Basis)))) (v85 ++ [(Qa.mk x109.Member x109.Product x109.Quantity x111.1)]))) (ap (Qn (xs := ba2.Positions) (c := Qa.cells)) (ap h87 (ap (Qf h110).1 (ap (Qk Qa.cells (Qf h110).2) (ap (f42_ok x109 bh1 h112) (ap (Ql h113) (ap (Qn (xs := v84) (c := Qb.cells)) (ap3 h114 (ap4 h114 (ap4 h114 (ap (Qas (te := ti48) (xs := v84) (n := 1) (c := Qb.cells) h115 rfl) (ap (Qbw (xs := v84) (ys := [(Qb.mk x109.Member 0)]) (c := Qb.cells)) (ap2 (Qn (xs := (v84 ++ [(Qb.mk x109.Member 0)])) (c := Qb.cells)) (ap (Qf h117).1 (ap (Qbk Qb.cells (Qf h117).2) (ap (Qk Qb.cells (Qf h117).2) (ap (Qf h117).1 (ap (Qbk Qb.cells (Qf h117).2) (ap (Qk Qb.cells (Qf h117).2) (ap (set_cv (xs := (v84 ++ [(Qb.mk x109.Member 0)])) (c := Qb.cells) (k := (Int.toNat (wr64 (((v84 ++ [(Qb.mk x109.Member 0)]).length : Int) - 1)))) (x := (Qb.mk x116.Member (wr64 ((wr64 (x116.Amount + x111.1)) - x109.Basis))))) (ap (Qr h118) (ap (Qas (te := ti52) (xs := v85) (n := 1) (c := Qa.cells) h119 rfl) (ap (Qbw (xs := v85) (ys := [(Qa.mk x109.Member x109.Product x109.Quantity x111.1)]) (c := Qa.cells)) an))))))))))))))))))))))) (Qs.norm ⟨(wr64 (v83 + 1)), ((v84 ++ [(Qb.mk x109.Member 0)]).set (Int.toNat (wr64 (((v84 ++ [(Qb.mk x109.Member 0)]).length : Int) - 1))) (Qb.mk x116.Member (wr64 ((wr64 (x116.Amount + x111.1)) - x109.Basis)))), (v85 ++ [(Qa.mk x109.Member x109.Product x109.Quantity x111.1)]), rfl, h⟩)
    ·obtain ⟨x120, h121, h⟩ := Qg h
     rcases Qh h with ⟨h122, h⟩ | ⟨h122, h⟩
     ·rcases Qh h with ⟨h123, h⟩ | ⟨h123, h⟩
      ·exact rE Qi [([], [], [(3, .val (jI (ba2.Positions.length : Int)))]), ([], [(3, .idx (Int.toNat v83) (Qa.cells x109))], []), ([], [jH 2 (.tup [(jI x111.1), (jB x111.2)])], []), j3, (jF [4, 5, 6, 7, 8, 9, 10, 11, 12, 13], [(8, .at_ (Int.toNat (wr64 ((v84.length : Int) - 1)))), (10, .idx 0 (Qb.cells x120)), (14, .bool false)], [(1, .val (jI (v84.length : Int))), (6, .val (jI (v84.length : Int)))]), ([], [(8, .at_ (Int.toNat (wr64 ((v84.length : Int) - 1)))), (10, .idx 0 (Qb.cells x120)), (16, .at_ (Int.toNat (wr64 ((v84.length : Int) - 1)))), (18, .idx 0 (Qb.cells x120))], [(2, .val (jI (v84.length : Int))), (6, .val (jI (v84.length : Int))), (18, .row 3 ((v84.set (Int.toNat (wr64 ((v84.length : Int) - 1))) (Qb.mk x120.Member (wr64 ((wr64 (x120.Amount + x111.1)) - x109.Basis)))).map Qb.cells))]), j3, j3, j3] [some true, some false, some false, some false] [] [0, 1, 2, 3, 4] [2, 3, 6, 9, 10, 11] (.norm, (f15n2S bh1 ba2 be3 (wr64 (v83 + 1)) (v84.set (Int.toNat (wr64 ((v84.length : Int) - 1))) (Qb.mk x120.Member (wr64 ((wr64 (x120.Amount + x111.1)) - x109.Basis)))) v85)) (ap (Qn (xs := ba2.Positions) (c := Qa.cells)) (ap h87 (ap (Qf h110).1 (ap (Qk Qa.cells (Qf h110).2) (ap (f42_ok x109 bh1 h112) (ap (Ql h113) (ap (Qn (xs := v84) (c := Qb.cells)) (ap3 h114 (ap (Qn (xs := v84) (c := Qb.cells)) (ap2 h114 (ap (Qf h121).1 (ap (Qbk Qb.cells (Qf h121).2) (ap2 h114 (ap (Qk Qb.cells (Qf h121).2) (ap4 h114 (ap (Ql h122) (ap2 (Qn (xs := v84) (c := Qb.cells)) (ap (Qf h121).1 (ap (Qbk Qb.cells (Qf h121).2) (ap (Qk Qb.cells (Qf h121).2) (ap (Qf h121).1 (ap (Qbk Qb.cells (Qf h121).2) (ap (Qk Qb.cells (Qf h121).2) (ap (set_cv (xs := v84) (c := Qb.cells) (k := (Int.toNat (wr64 ((v84.length : Int) - 1)))) (x := (Qb.mk x120.Member (wr64 ((wr64 (x120.Amount + x111.1)) - x109.Basis))))) (ap (Ql h123) an))))))))))))))))))))))))) (Qs.norm ⟨(wr64 (v83 + 1)), (v84.set (Int.toNat (wr64 ((v84.length : Int) - 1))) (Qb.mk x120.Member (wr64 ((wr64 (x120.Amount + x111.1)) - x109.Basis)))), v85, rfl, h⟩)
      ·obtain ⟨h124, h⟩ := Qab h
       exact rE Qi [([], [], [(3, .val (jI (ba2.Positions.length : Int)))]), ([], [(3, .idx (Int.toNat v83) (Qa.cells x109))], []), ([], [jH 2 (.tup [(jI x111.1), (jB x111.2)])], []), j3, (jF [4, 5, 6, 7, 8, 9, 10, 11, 12, 13], [(8, .at_ (Int.toNat (wr64 ((v84.length : Int) - 1)))), (10, .idx 0 (Qb.cells x120)), (14, .bool false)], [(1, .val (jI (v84.length : Int))), (6, .val (jI (v84.length : Int)))]), ([], [(8, .at_ (Int.toNat (wr64 ((v84.length : Int) - 1)))), (10, .idx 0 (Qb.cells x120)), (16, .at_ (Int.toNat (wr64 ((v84.length : Int) - 1)))), (18, .idx 0 (Qb.cells x120))], [(2, .val (jI (v84.length : Int))), (6, .val (jI (v84.length : Int))), (18, .row 3 ((v84.set (Int.toNat (wr64 ((v84.length : Int) - 1))) (Qb.mk x120.Member (wr64 ((wr64 (x120.Amount + x111.1)) - x109.Basis)))).map Qb.cells))]), j3, j3, ([], [(4, .fits)], [(4, .row 9 ((v85 ++ [(Qa.mk x109.Member x109.Product x109.Quantity x111.1)]).map Qa.cells))]), j3] [some true, some false, some false, some true] [] [0, 1, 2, 3, 9] [2, 3, 6, 9, 10, 11] (.norm, (f15n2S bh1 ba2 be3 (wr64 (v83 + 1)) (v84.set (Int.toNat (wr64 ((v84.length : Int) - 1))) (Qb.mk x120.Member (wr64 ((wr64 (x120.Amount + x111.1)) - x109.Basis)))) (v85 ++ [(Qa.mk x109.Member x109.Product x109.Quantity x111.1)]))) (ap (Qn (xs := ba2.Positions) (c := Qa.cells)) (ap h87 (ap (Qf h110).1 (ap (Qk Qa.cells (Qf h110).2) (ap (f42_ok x109 bh1 h112) (ap (Ql h113) (ap (Qn (xs := v84) (c := Qb.cells)) (ap3 h114 (ap (Qn (xs := v84) (c := Qb.cells)) (ap2 h114 (ap (Qf h121).1 (ap (Qbk Qb.cells (Qf h121).2) (ap2 h114 (ap (Qk Qb.cells (Qf h121).2) (ap4 h114 (ap (Ql h122) (ap2 (Qn (xs := v84) (c := Qb.cells)) (ap (Qf h121).1 (ap (Qbk Qb.cells (Qf h121).2) (ap (Qk Qb.cells (Qf h121).2) (ap (Qf h121).1 (ap (Qbk Qb.cells (Qf h121).2) (ap (Qk Qb.cells (Qf h121).2) (ap (set_cv (xs := v84) (c := Qb.cells) (k := (Int.toNat (wr64 ((v84.length : Int) - 1)))) (x := (Qb.mk x120.Member (wr64 ((wr64 (x120.Amount + x111.1)) - x109.Basis))))) (ap (Qr h123) (ap (Qas (te := ti52) (xs := v85) (n := 1) (c := Qa.cells) h124 rfl) (ap (Qbw (xs := v85) (ys := [(Qa.mk x109.Member x109.Product x109.Quantity x111.1)]) (c := Qa.cells)) an))))))))))))))))))))))))))) (Qs.norm ⟨(wr64 (v83 + 1)), (v84.set (Int.toNat (wr64 ((v84.length : Int) - 1))) (Qb.mk x120.Member (wr64 ((wr64 (x120.Amount + x111.1)) - x109.Basis)))), (v85 ++ [(Qa.mk x109.Member x109.Product x109.Quantity x111.1)]), rfl, h⟩)
     ·obtain ⟨h125, h⟩ := Qab h
      obtain ⟨x126, h127, h⟩ := Qg h
      rcases Qh h with ⟨h128, h⟩ | ⟨h128, h⟩
      ·exact rE Qi [([], [], [(3, .val (jI (ba2.Positions.length : Int)))]), ([], [(3, .idx (Int.toNat v83) (Qa.cells x109))], []), ([], [jH 2 (.tup [(jI x111.1), (jB x111.2)])], []), j3, (jF [4, 5, 6, 7, 8, 9, 10, 11, 12, 13], [(8, .at_ (Int.toNat (wr64 ((v84.length : Int) - 1)))), (10, .idx 0 (Qb.cells x120)), (14, .bool false)], [(1, .val (jI (v84.length : Int))), (6, .val (jI (v84.length : Int)))]), ([], [(5, .fits)], [(5, .row 8 ((v84 ++ [(Qb.mk x109.Member 0)]).map Qb.cells))]), ([], [(8, .at_ (Int.toNat (wr64 (((v84 ++ [(Qb.mk x109.Member 0)]).length : Int) - 1)))), (10, .idx 0 (Qb.cells x126)), (16, .at_ (Int.toNat (wr64 (((v84 ++ [(Qb.mk x109.Member 0)]).length : Int) - 1)))), (18, .idx 0 (Qb.cells x126))], [(2, .val (jI ((v84 ++ [(Qb.mk x109.Member 0)]).length : Int))), (6, .val (jI ((v84 ++ [(Qb.mk x109.Member 0)]).length : Int))), (18, .row 8 (((v84 ++ [(Qb.mk x109.Member 0)]).set (Int.toNat (wr64 (((v84 ++ [(Qb.mk x109.Member 0)]).length : Int) - 1))) (Qb.mk x126.Member (wr64 ((wr64 (x126.Amount + x111.1)) - x109.Basis)))).map Qb.cells))]), j3, j3, j3] [some true, some false, some true, some false] [] [0, 1, 2, 8, 4] [2, 3, 6, 9, 10, 11] (.norm, (f15n2S bh1 ba2 be3 (wr64 (v83 + 1)) ((v84 ++ [(Qb.mk x109.Member 0)]).set (Int.toNat (wr64 (((v84 ++ [(Qb.mk x109.Member 0)]).length : Int) - 1))) (Qb.mk x126.Member (wr64 ((wr64 (x126.Amount + x111.1)) - x109.Basis)))) v85)) (ap (Qn (xs := ba2.Positions) (c := Qa.cells)) (ap h87 (ap (Qf h110).1 (ap (Qk Qa.cells (Qf h110).2) (ap (f42_ok x109 bh1 h112) (ap (Ql h113) (ap (Qn (xs := v84) (c := Qb.cells)) (ap3 h114 (ap (Qn (xs := v84) (c := Qb.cells)) (ap2 h114 (ap (Qf h121).1 (ap (Qbk Qb.cells (Qf h121).2) (ap2 h114 (ap (Qk Qb.cells (Qf h121).2) (ap4 h114 (ap (Qr h122) (ap (Qas (te := ti48) (xs := v84) (n := 1) (c := Qb.cells) h125 rfl) (ap (Qbw (xs := v84) (ys := [(Qb.mk x109.Member 0)]) (c := Qb.cells)) (ap2 (Qn (xs := (v84 ++ [(Qb.mk x109.Member 0)])) (c := Qb.cells)) (ap (Qf h127).1 (ap (Qbk Qb.cells (Qf h127).2) (ap (Qk Qb.cells (Qf h127).2) (ap (Qf h127).1 (ap (Qbk Qb.cells (Qf h127).2) (ap (Qk Qb.cells (Qf h127).2) (ap (set_cv (xs := (v84 ++ [(Qb.mk x109.Member 0)])) (c := Qb.cells) (k := (Int.toNat (wr64 (((v84 ++ [(Qb.mk x109.Member 0)]).length : Int) - 1)))) (x := (Qb.mk x126.Member (wr64 ((wr64 (x126.Amount + x111.1)) - x109.Basis))))) (ap (Ql h128) an))))))))))))))))))))))))))) (Qs.norm ⟨(wr64 (v83 + 1)), ((v84 ++ [(Qb.mk x109.Member 0)]).set (Int.toNat (wr64 (((v84 ++ [(Qb.mk x109.Member 0)]).length : Int) - 1))) (Qb.mk x126.Member (wr64 ((wr64 (x126.Amount + x111.1)) - x109.Basis)))), v85, rfl, h⟩)
      ·obtain ⟨h129, h⟩ := Qab h
       exact rE Qi [([], [], [(3, .val (jI (ba2.Positions.length : Int)))]), ([], [(3, .idx (Int.toNat v83) (Qa.cells x109))], []), ([], [jH 2 (.tup [(jI x111.1), (jB x111.2)])], []), j3, (jF [4, 5, 6, 7, 8, 9, 10, 11, 12, 13], [(8, .at_ (Int.toNat (wr64 ((v84.length : Int) - 1)))), (10, .idx 0 (Qb.cells x120)), (14, .bool false)], [(1, .val (jI (v84.length : Int))), (6, .val (jI (v84.length : Int)))]), ([], [(5, .fits)], [(5, .row 8 ((v84 ++ [(Qb.mk x109.Member 0)]).map Qb.cells))]), ([], [(8, .at_ (Int.toNat (wr64 (((v84 ++ [(Qb.mk x109.Member 0)]).length : Int) - 1)))), (10, .idx 0 (Qb.cells x126)), (16, .at_ (Int.toNat (wr64 (((v84 ++ [(Qb.mk x109.Member 0)]).length : Int) - 1)))), (18, .idx 0 (Qb.cells x126))], [(2, .val (jI ((v84 ++ [(Qb.mk x109.Member 0)]).length : Int))), (6, .val (jI ((v84 ++ [(Qb.mk x109.Member 0)]).length : Int))), (18, .row 8 (((v84 ++ [(Qb.mk x109.Member 0)]).set (Int.toNat (wr64 (((v84 ++ [(Qb.mk x109.Member 0)]).length : Int) - 1))) (Qb.mk x126.Member (wr64 ((wr64 (x126.Amount + x111.1)) - x109.Basis)))).map Qb.cells))]), j3, j3, ([], [(4, .fits)], [(4, .row 11 ((v85 ++ [(Qa.mk x109.Member x109.Product x109.Quantity x111.1)]).map Qa.cells))]), j3] [some true, some false, some true, some true] [] [0, 1, 2, 8, 11] [2, 3, 6, 9, 10, 11] (.norm, (f15n2S bh1 ba2 be3 (wr64 (v83 + 1)) ((v84 ++ [(Qb.mk x109.Member 0)]).set (Int.toNat (wr64 (((v84 ++ [(Qb.mk x109.Member 0)]).length : Int) - 1))) (Qb.mk x126.Member (wr64 ((wr64 (x126.Amount + x111.1)) - x109.Basis)))) (v85 ++ [(Qa.mk x109.Member x109.Product x109.Quantity x111.1)]))) (ap (Qn (xs := ba2.Positions) (c := Qa.cells)) (ap h87 (ap (Qf h110).1 (ap (Qk Qa.cells (Qf h110).2) (ap (f42_ok x109 bh1 h112) (ap (Ql h113) (ap (Qn (xs := v84) (c := Qb.cells)) (ap3 h114 (ap (Qn (xs := v84) (c := Qb.cells)) (ap2 h114 (ap (Qf h121).1 (ap (Qbk Qb.cells (Qf h121).2) (ap2 h114 (ap (Qk Qb.cells (Qf h121).2) (ap4 h114 (ap (Qr h122) (ap (Qas (te := ti48) (xs := v84) (n := 1) (c := Qb.cells) h125 rfl) (ap (Qbw (xs := v84) (ys := [(Qb.mk x109.Member 0)]) (c := Qb.cells)) (ap2 (Qn (xs := (v84 ++ [(Qb.mk x109.Member 0)])) (c := Qb.cells)) (ap (Qf h127).1 (ap (Qbk Qb.cells (Qf h127).2) (ap (Qk Qb.cells (Qf h127).2) (ap (Qf h127).1 (ap (Qbk Qb.cells (Qf h127).2) (ap (Qk Qb.cells (Qf h127).2) (ap (set_cv (xs := (v84 ++ [(Qb.mk x109.Member 0)])) (c := Qb.cells) (k := (Int.toNat (wr64 (((v84 ++ [(Qb.mk x109.Member 0)]).length : Int) - 1)))) (x := (Qb.mk x126.Member (wr64 ((wr64 (x126.Amount + x111.1)) - x109.Basis))))) (ap (Qr h128) (ap (Qas (te := ti52) (xs := v85) (n := 1) (c := Qa.cells) h129 rfl) (ap (Qbw (xs := v85) (ys := [(Qa.mk x109.Member x109.Product x109.Quantity x111.1)]) (c := Qa.cells)) an))))))))))))))))))))))))))))) (Qs.norm ⟨(wr64 (v83 + 1)), ((v84 ++ [(Qb.mk x109.Member 0)]).set (Int.toNat (wr64 (((v84 ++ [(Qb.mk x109.Member 0)]).length : Int) - 1))) (Qb.mk x126.Member (wr64 ((wr64 (x126.Amount + x111.1)) - x109.Basis)))), (v85 ++ [(Qa.mk x109.Member x109.Product x109.Quantity x111.1)]), rfl, h⟩)
   ·obtain rfl := Qe h
    exact rK Qi 2 [([], [], [(3, .val (jI (ba2.Positions.length : Int)))]), ([], [(3, .idx (Int.toNat v83) (Qa.cells x109))], []), ([], [jH 2 (.tup [(jI x111.1), (jB x111.2)])], []), j3, j3] [some true, some true] [] [1] [6, 7, 8] .ret ((f15n2E bh1 ba2 be3 .ret).2) (ap (Qn (xs := ba2.Positions) (c := Qa.cells)) (ap h87 (ap (Qf h110).1 (ap (Qk Qa.cells (Qf h110).2) (ap (f42_ok x109 bh1 h112) (ap (Qr h113) an)))))) (Qs.out rfl rfl)
  ·obtain rfl := Qe h
   exact rK Qi 1 [([], [], [(3, .val (jI (ba2.Positions.length : Int)))])] [some false] [] [1, 2, 3, 4] [6, 9, 10] (.exit 0) ((f15n2E bh1 ba2 be3 (.exit0 v84 v85)).2) (ap (Qn (xs := ba2.Positions) (c := Qa.cells)) (ap h87 an)) (Qs.out rfl rfl)
noncomputable def f15n2L (bh1 : List Qc) (ba2 : Qd) (be3 : Int) : List Qa → Int → (List Qb) → (List Qa) → Option f15n2O
 | [], v83, v84, v85 =>
  some (.exit0 v84 v85)
 | x0 :: rest, v83, v84, v85 =>
  (f42 x0 bh1).bind fun x111 =>
  bif x111.2 then
   bif (decide ((v84.length : Int) = 0)) then
    req (fit (v84.length + 1) 24) <|
    (at? (v84 ++ [(Qb.mk x0.Member 0)]) (wr64 (((v84 ++ [(Qb.mk x0.Member 0)]).length : Int) - 1))).bind fun x116 =>
    bif (decide (x0.Quantity = 0)) then
     (f15n2L bh1 ba2 be3 rest (v83 + 1) ((v84 ++ [(Qb.mk x0.Member 0)]).set (Int.toNat (wr64 (((v84 ++ [(Qb.mk x0.Member 0)]).length : Int) - 1))) (Qb.mk x116.Member (wr64 ((wr64 (x116.Amount + x111.1)) - x0.Basis)))) v85)
    else
     req (fit (v85.length + 1) 48) <|
     (f15n2L bh1 ba2 be3 rest (v83 + 1) ((v84 ++ [(Qb.mk x0.Member 0)]).set (Int.toNat (wr64 (((v84 ++ [(Qb.mk x0.Member 0)]).length : Int) - 1))) (Qb.mk x116.Member (wr64 ((wr64 (x116.Amount + x111.1)) - x0.Basis)))) (v85 ++ [(Qa.mk x0.Member x0.Product x0.Quantity x111.1)]))
   else
    (at? v84 (wr64 ((v84.length : Int) - 1))).bind fun x120 =>
    bif (seq x120.Member x0.Member) then
     bif (decide (x0.Quantity = 0)) then
      (f15n2L bh1 ba2 be3 rest (v83 + 1) (v84.set (Int.toNat (wr64 ((v84.length : Int) - 1))) (Qb.mk x120.Member (wr64 ((wr64 (x120.Amount + x111.1)) - x0.Basis)))) v85)
     else
      req (fit (v85.length + 1) 48) <|
      (f15n2L bh1 ba2 be3 rest (v83 + 1) (v84.set (Int.toNat (wr64 ((v84.length : Int) - 1))) (Qb.mk x120.Member (wr64 ((wr64 (x120.Amount + x111.1)) - x0.Basis)))) (v85 ++ [(Qa.mk x0.Member x0.Product x0.Quantity x111.1)]))
    else
     req (fit (v84.length + 1) 24) <|
     (at? (v84 ++ [(Qb.mk x0.Member 0)]) (wr64 (((v84 ++ [(Qb.mk x0.Member 0)]).length : Int) - 1))).bind fun x126 =>
     bif (decide (x0.Quantity = 0)) then
      (f15n2L bh1 ba2 be3 rest (v83 + 1) ((v84 ++ [(Qb.mk x0.Member 0)]).set (Int.toNat (wr64 (((v84 ++ [(Qb.mk x0.Member 0)]).length : Int) - 1))) (Qb.mk x126.Member (wr64 ((wr64 (x126.Amount + x111.1)) - x0.Basis)))) v85)
     else
      req (fit (v85.length + 1) 48) <|
      (f15n2L bh1 ba2 be3 rest (v83 + 1) ((v84 ++ [(Qb.mk x0.Member 0)]).set (Int.toNat (wr64 (((v84 ++ [(Qb.mk x0.Member 0)]).length : Int) - 1))) (Qb.mk x126.Member (wr64 ((wr64 (x126.Amount + x111.1)) - x0.Basis)))) (v85 ++ [(Qa.mk x0.Member x0.Product x0.Quantity x111.1)]))
  else
   some .ret
theorem f15n2L_eq (bh1 : List Qc) (ba2 : Qd) (be3 : Int) : ∀ (rest : List Qa) (f k : Nat) (v84 : List Qb) (v85 : List Qa), ba2.Positions.drop k = rest → ba2.Positions.length ≤ maxLen → rest.length < f → f15n2 f bh1 ba2 be3 (k : Int) v84 v85 = f15n2L bh1 ba2 be3 rest (k : Int) v84 v85
 | _, 0, _, _, _, _, _, hf => absurd hf (Nat.not_lt_zero _)
 | [], f + 1, k, v84, v85, hd, hm, hf => by
  have hk : ¬ ((k : Int) < (ba2.Positions.length : Int)) := by have := Qat hd; omega
  rw [f15n2, f15n2L]
  simp only [decide_eq_false hk, cond_false]
 | x0 :: rest, f + 1, k, v84, v85, hd, hm, hf => by
  obtain ⟨hx, hlt, hd'⟩ := Qak hd
  have hk : (k : Int) < (ba2.Positions.length : Int) := by omega
  have hw : wr64 ((k : Int) + 1) = (k : Int) + 1 := Qcf (by omega) (by unfold maxLen at hm; omega)
  have ih : ∀ (v84 : List Qb) (v85 : List Qa), f15n2 f bh1 ba2 be3 ((k : Int) + 1) v84 v85 = f15n2L bh1 ba2 be3 rest ((k : Int) + 1) v84 v85 := fun v84 v85 => f15n2L_eq bh1 ba2 be3 rest f (k + 1) v84 v85 hd' hm (by simpa using hf)
  rw [f15n2, f15n2L]
  simp only [decide_eq_true hk, cond_true, Qao, hx, Option.bind_some, hw, ih]
theorem f15n2_run (bh1 : List Qc) (ba2 : Qd) (be3 : Int) (v84 : List Qb) (v85 : List Qa) (hm : ba2.Positions.length ≤ maxLen) : f15n2 FUEL bh1 ba2 be3 0 v84 v85 = f15n2L bh1 ba2 be3 ba2.Positions 0 v84 v85 := f15n2L_eq bh1 ba2 be3 ba2.Positions FUEL 0 v84 v85 List.drop_zero hm (Qbp hm)
inductive f15n1O where
 | norm (v136 : List Qb) (v137 : List Qa)
 | ret
def f15n1E (bh1 : List Qc) (ba2 : Qd) (be3 : Int) : f15n1O → Ex × Tr × Hp
 | .norm v136 v137 => (.norm, mkS [(6, (.bp 0 0)), (9, (.bp 1 0)), (10, (.own 2))], [some (.box [(jI 0), (.pl (.sl .nil 0 []))]), some (.box [(jI be3), (.own 3)]), jR 2 Qb.cells v136, jR 4 Qa.cells v137])
 | .ret => (.ret, mkS [(6, (.bp 0 0)), (7, (.pl (.sl .nil 0 []))), (8, (jI 30))], [some (.box [(jI 0), (.pl (.sl .nil 0 []))])])
def f15n1S (bh1 : List Qc) (ba2 : Qd) (be3 : Int) : Tr × Hp := (mkS [(2, (jL 2 Qc.cells bh1)), (3, (.bp 0 0)), (6, (.bp 1 0)), (9, (.bp 2 0)), (10, (.pl (.sl .nil 0 [])))], [some (.box ((Qd.cells ba2).map .pl)), some (.box [(jI 0), (.pl (.sl .nil 0 []))]), some (.box [(jI be3), (.pl (.sl .nil 0 []))])])
noncomputable def f15n1 (bh1 : List Qc) (ba2 : Qd) (be3 : Int) : Option f15n1O :=
 (f15n2 FUEL bh1 ba2 be3 0 [] []).bind fun o132 => match o132 with
 | .exit0 v134 v135 => some (.norm v134 v135)
 | .ret => some .ret
theorem f15n1_ok (bh1 : List Qc) (ba2 : Qd) (be3 : Int) {o : f15n1O} (h : (f15n1 bh1 ba2 be3) = some o) : T Try.prog Try.f15.ntmps 0 (cL (Qo 6 c15)) (f15n1S bh1 ba2 be3) (fun r => r = f15n1E bh1 ba2 be3 o) := by
 unfold f15n1 at h
 refine rN Qi 1 [j3] [] [.mat 10 2, .matC 2 1 4] [0, 1, 2, 3, 4] [2, 3, 6, 9, 10, 11] (f15n2S bh1 ba2 be3 0 [] []) an ?_
 obtain ⟨o132, h133, h⟩ := Qg h
 cases o132 with
 | exit0 v134 v135 =>
  obtain rfl := Qe h
  exact T.last' (T.bl (i := 0) (by kernel_rfl) (by kernel_rfl) (f15n2_ok FUEL bh1 ba2 be3 0 [] [] h133)) (tds := []) (m := [0, 1, 2, 3]) (keep := [6, 9, 10]) (st2 := (f15n1E bh1 ba2 be3 (.norm v134 v135)).2) (by kernel_rfl) an rfl
 | ret =>
  obtain rfl := Qe h
  exact T.last' (T.bl (i := 0) (by kernel_rfl) (by kernel_rfl) (f15n2_ok FUEL bh1 ba2 be3 0 [] [] h133)) (tds := []) (m := [0]) (keep := [6, 7, 8]) (st2 := (f15n1E bh1 ba2 be3 .ret).2) (by kernel_rfl) an rfl
inductive f15n4O where
 | exit2 (v192 : List Qb)
 | ret
def f15n4E (be1 : Int) (bj2 : List Qb) (bg3 : List Qa) : f15n4O → Ex × Tr × Hp
 | .exit2 v192 => ((.exit 2), mkS [(6, (.bp 0 0)), (9, (.bp 1 0)), (15, (.own 2))], [some (.box [(jI 0), (.pl (.sl .nil 0 []))]), some (.box [(jI be1), (.own 3)]), jR 2 Qb.cells v192, jR 4 Qa.cells bg3])
 | .ret => (.ret, mkS [(6, (.bp 0 0)), (7, (.pl (.sl .nil 0 []))), (8, (jI 14))], [some (.box [(jI 0), (.pl (.sl .nil 0 []))])])
def f15n4S (be1 : Int) (bj2 : List Qb) (bg3 : List Qa) (v174 : Int) (v175 : List Qb) : Tr × Hp := (mkS [(6, (.bp 0 0)), (9, (.bp 1 0)), (10, (.own 2)), (15, (.own 3)), (16, (jI v174))], [some (.box [(jI 0), (.pl (.sl .nil 0 []))]), some (.box [(jI be1), (.own 4)]), jR 2 Qb.cells bj2, jR 2 Qb.cells v175, jR 4 Qa.cells bg3])
noncomputable def f15n4 : Nat → Int → List Qb → List Qa → Int → List Qb → Option f15n4O
 | 0, _, _, _, _, _ => none
 | f + 1, be1, bj2, bg3, v174, v175 =>
  bif (decide (v174 < (bj2.length : Int))) then
   (at? bj2 v174).bind fun x185 =>
   (f43 x185.Amount).bind fun x187 =>
   bif (decide (1125899906842624 < x187)) then
    some .ret
   else
    bif (decide (x185.Amount = 0)) then
     (f15n4 f be1 bj2 bg3 (wr64 (v174 + 1)) v175)
    else
     req (fit (v175.length + 1) 24) <|
     (f15n4 f be1 bj2 bg3 (wr64 (v174 + 1)) (v175 ++ [x185]))
  else
   some (.exit2 v175)
theorem f15n4_ok : ∀ (f : Nat) (be1 : Int) (bj2 : List Qb) (bg3 : List Qa) (v174 : Int) (v175 : List Qb) {o : f15n4O}, (f15n4 f be1 bj2 bg3 v174 v175) = some o → TL Try.prog Try.f15.ntmps 0 f (cL (cL (Qo 1 (cL (Qo 1 (Qo 1 (Qo 6 c15))))))) (f15n4S be1 bj2 bg3 v174 v175) (fun r => r = f15n4E be1 bj2 bg3 o)
 | 0, _, _, _, _, _, o, h => by rw [f15n4] at h; cases h
 | f + 1, be1, bj2, bg3, v174, v175, o, h => by
  rw [f15n4] at h
  refine TL.body (K := fun s => ∃ v174 : Int, ∃ v175 : List Qb, s = (f15n4S be1 bj2 bg3 v174 v175) ∧ (f15n4 f be1 bj2 bg3 v174 v175) = some o) ?_ (by rintro _ ⟨v174, v175, rfl, hk⟩; exact f15n4_ok f _ _ _ _ _ hk)
  rcases Qh h with ⟨h177, h⟩ | ⟨h177, h⟩
  ·obtain ⟨x185, h186, h⟩ := Qg h
   obtain ⟨x187, h188, h⟩ := Qg h
   rcases Qh h with ⟨h189, h⟩ | ⟨h189, h⟩
   ·obtain rfl := Qe h
    exact rK Qi 2 [([], [], [(2, .val (jI (bj2.length : Int)))]), ([], [(2, .at_ (Int.toNat v174)), (4, .idx 0 (Qb.cells x185)), jH 5 (jI x187)], []), j3] [some true, some true] [] [0] [6, 7, 8] .ret ((f15n4E be1 bj2 bg3 .ret).2) (ap (Qn (xs := bj2) (c := Qb.cells)) (ap h177 (ap (Qf h186).1 (ap (Qbk Qb.cells (Qf h186).2) (ap (Qk Qb.cells (Qf h186).2) (ap (f43_ok x185.Amount h188) (ap h189 an))))))) (Qs.out rfl rfl)
   ·rcases Qh h with ⟨h190, h⟩ | ⟨h190, h⟩
    ·exact rE Qi [([], [], [(2, .val (jI (bj2.length : Int)))]), ([], [(2, .at_ (Int.toNat v174)), (4, .idx 0 (Qb.cells x185)), jH 5 (jI x187)], []), ([], [(2, .at_ (Int.toNat v174)), (4, .idx 0 (Qb.cells x185))], []), j3] [some true, some false, some false] [] [0, 1, 2, 3, 4] [6, 9, 10, 15, 16] (.norm, (f15n4S be1 bj2 bg3 (wr64 (v174 + 1)) v175)) (ap (Qn (xs := bj2) (c := Qb.cells)) (ap h177 (ap (Qf h186).1 (ap (Qbk Qb.cells (Qf h186).2) (ap (Qk Qb.cells (Qf h186).2) (ap (f43_ok x185.Amount h188) (ap h189 (ap (Qf h186).1 (ap (Qbk Qb.cells (Qf h186).2) (ap (Qk Qb.cells (Qf h186).2) (ap (Ql h190) an))))))))))) (Qs.norm ⟨(wr64 (v174 + 1)), v175, rfl, h⟩)
    ·obtain ⟨h191, h⟩ := Qab h
     exact rE Qi [([], [], [(2, .val (jI (bj2.length : Int)))]), ([], [(2, .at_ (Int.toNat v174)), (4, .idx 0 (Qb.cells x185)), jH 5 (jI x187)], []), ([], [(2, .at_ (Int.toNat v174)), (4, .idx 0 (Qb.cells x185))], []), ([], [(3, .at_ (Int.toNat v174)), (4, .idx 0 (Qb.cells x185)), (6, .fits)], [(6, .row 6 ((v175 ++ [x185]).map Qb.cells))]), j3] [some true, some false, some true] [] [0, 1, 2, 6, 4] [6, 9, 10, 15, 16] (.norm, (f15n4S be1 bj2 bg3 (wr64 (v174 + 1)) (v175 ++ [x185]))) (ap (Qn (xs := bj2) (c := Qb.cells)) (ap h177 (ap (Qf h186).1 (ap (Qbk Qb.cells (Qf h186).2) (ap (Qk Qb.cells (Qf h186).2) (ap (f43_ok x185.Amount h188) (ap h189 (ap (Qf h186).1 (ap (Qbk Qb.cells (Qf h186).2) (ap (Qk Qb.cells (Qf h186).2) (ap (Qr h190) (ap (Qf h186).1 (ap (Qbk Qb.cells (Qf h186).2) (ap (Qk Qb.cells (Qf h186).2) (ap (Qas (te := ti48) (xs := v175) (n := 1) (c := Qb.cells) h191 rfl) (ap (Qbw (xs := v175) (ys := [x185]) (c := Qb.cells)) an)))))))))))))))) (Qs.norm ⟨(wr64 (v174 + 1)), (v175 ++ [x185]), rfl, h⟩)
  ·obtain rfl := Qe h
   exact rK Qi 1 [([], [], [(2, .val (jI (bj2.length : Int)))])] [some false] [] [0, 1, 3, 4] [6, 9, 15] (.exit 2) ((f15n4E be1 bj2 bg3 (.exit2 v175)).2) (ap (Qn (xs := bj2) (c := Qb.cells)) (ap h177 an)) (Qs.out rfl rfl)
noncomputable def f15n4L (be1 : Int) (bj2 : List Qb) (bg3 : List Qa) : List Qb → Int → (List Qb) → Option f15n4O
 | [], v174, v175 =>
  some (.exit2 v175)
 | x0 :: rest, v174, v175 =>
  (f43 x0.Amount).bind fun x187 =>
  bif (decide (1125899906842624 < x187)) then
   some .ret
  else
   bif (decide (x0.Amount = 0)) then
    (f15n4L be1 bj2 bg3 rest (v174 + 1) v175)
   else
    req (fit (v175.length + 1) 24) <|
    (f15n4L be1 bj2 bg3 rest (v174 + 1) (v175 ++ [x0]))
theorem f15n4L_eq (be1 : Int) (bj2 : List Qb) (bg3 : List Qa) : ∀ (rest : List Qb) (f k : Nat) (v175 : List Qb), bj2.drop k = rest → bj2.length ≤ maxLen → rest.length < f → f15n4 f be1 bj2 bg3 (k : Int) v175 = f15n4L be1 bj2 bg3 rest (k : Int) v175
 | _, 0, _, _, _, _, hf => absurd hf (Nat.not_lt_zero _)
 | [], f + 1, k, v175, hd, hm, hf => by
  have hk : ¬ ((k : Int) < (bj2.length : Int)) := by have := Qat hd; omega
  rw [f15n4, f15n4L]
  simp only [decide_eq_false hk, cond_false]
 | x0 :: rest, f + 1, k, v175, hd, hm, hf => by
  obtain ⟨hx, hlt, hd'⟩ := Qak hd
  have hk : (k : Int) < (bj2.length : Int) := by omega
  have hw : wr64 ((k : Int) + 1) = (k : Int) + 1 := Qcf (by omega) (by unfold maxLen at hm; omega)
  have ih : ∀ (v175 : List Qb), f15n4 f be1 bj2 bg3 ((k : Int) + 1) v175 = f15n4L be1 bj2 bg3 rest ((k : Int) + 1) v175 := fun v175 => f15n4L_eq be1 bj2 bg3 rest f (k + 1) v175 hd' hm (by simpa using hf)
  rw [f15n4, f15n4L]
  simp only [decide_eq_true hk, cond_true, Qao, hx, Option.bind_some, hw, ih]
theorem f15n4_run (be1 : Int) (bj2 : List Qb) (bg3 : List Qa) (v175 : List Qb) (hm : bj2.length ≤ maxLen) : f15n4 FUEL be1 bj2 bg3 0 v175 = f15n4L be1 bj2 bg3 bj2 0 v175 := f15n4L_eq be1 bj2 bg3 bj2 FUEL 0 v175 List.drop_zero hm (Qbp hm)
inductive f15n3O where
 | norm (v196 : List Qb)
 | ret
def f15n3E (be1 : Int) (bj2 : List Qb) (bg3 : List Qa) : f15n3O → Ex × Tr × Hp
 | .norm v196 => (.norm, mkS [(6, (.bp 0 0)), (9, (.bp 1 0)), (15, (.own 2))], [some (.box [(jI 0), (.pl (.sl .nil 0 []))]), some (.box [(jI be1), (.own 3)]), jR 2 Qb.cells v196, jR 4 Qa.cells bg3])
 | .ret => (.ret, mkS [(6, (.bp 0 0)), (7, (.pl (.sl .nil 0 []))), (8, (jI 14))], [some (.box [(jI 0), (.pl (.sl .nil 0 []))])])
def f15n3S (be1 : Int) (bj2 : List Qb) (bg3 : List Qa) : Tr × Hp := (mkS [(6, (.bp 0 0)), (9, (.bp 1 0)), (10, (.own 2)), (15, (.pl (.sl .nil 0 [])))], [some (.box [(jI 0), (.pl (.sl .nil 0 []))]), some (.box [(jI be1), (.own 3)]), jR 2 Qb.cells bj2, jR 4 Qa.cells bg3])
noncomputable def f15n3 (be1 : Int) (bj2 : List Qb) (bg3 : List Qa) : Option f15n3O :=
 (f15n4 FUEL be1 bj2 bg3 0 []).bind fun o193 => match o193 with
 | .exit2 v195 => some (.norm v195)
 | .ret => some .ret
theorem f15n3_ok (be1 : Int) (bj2 : List Qb) (bg3 : List Qa) {o : f15n3O} (h : (f15n3 be1 bj2 bg3) = some o) : T Try.prog Try.f15.ntmps 0 (cL (Qo 1 (Qo 1 (Qo 6 c15)))) (f15n3S be1 bj2 bg3) (fun r => r = f15n3E be1 bj2 bg3 o) := by
 unfold f15n3 at h
 refine rN Qi 1 [j3] [] [.mat 15 2] [0, 1, 2, 4, 3] [6, 9, 10, 15, 16] (f15n4S be1 bj2 bg3 0 []) an ?_
 obtain ⟨o193, h194, h⟩ := Qg h
 cases o193 with
 | exit2 v195 =>
  obtain rfl := Qe h
  exact T.last' (T.bl (i := 2) (by kernel_rfl) (by kernel_rfl) (f15n4_ok FUEL be1 bj2 bg3 0 [] h194)) (tds := []) (m := [0, 1, 2, 3]) (keep := [6, 9, 15]) (st2 := (f15n3E be1 bj2 bg3 (.norm v195)).2) (by kernel_rfl) an rfl
 | ret =>
  obtain rfl := Qe h
  exact T.last' (T.bl (i := 2) (by kernel_rfl) (by kernel_rfl) (f15n4_ok FUEL be1 bj2 bg3 0 [] h194)) (tds := []) (m := [0]) (keep := [6, 7, 8]) (st2 := (f15n3E be1 bj2 bg3 .ret).2) (by kernel_rfl) an rfl
inductive f15n0O where
 | ret (v200 : Int) (v201 : Int) (v202 : List Qb) (v203 : List Qa)
def f15n0E (a1 : Qd) (a2 : Int) (a3 : List Qc) : f15n0O → Ex × Tr × Hp
 | .ret v200 v201 v202 v203 => (.ret, mkS [(6, (.bp 0 0)), (7, (.own 1)), (8, (jI v200))], [some (.box [(jI v201), (.own 2)]), jR 2 Qb.cells v202, jR 4 Qa.cells v203])
def f15n0S (a1 : Qd) (a2 : Int) (a3 : List Qc) : Tr × Hp := (Qaz [(jA Qd.cells a1), (jI a2), (jL 2 Qc.cells a3)] 0 .leaf, [])
noncomputable def f15n0 (a1 : Qd) (a2 : Int) (a3 : List Qc) : Option f15n0O :=
 (f34 a1).bind fun x7 =>
 bif (decide (x7 = 0)) then
  bif (decide (a2 < 0)) then
   some (.ret 2 0 [] [])
  else
   bif (decide (99999 < a2)) then
    some (.ret 2 0 [] [])
   else
    (f41 a3).bind fun x17 =>
    bif x17 then
     bif (decide (a2 ≤ a1.Day)) then
      some (.ret 21 0 [] [])
     else
      (f15n1 a3 a1 a2).bind fun o138 => match o138 with
      | .norm v140 v141 => (f15n3 a2 v140 v141).bind fun o197 => match o197 with
       | .norm v199 => some (.ret 0 a2 v199 v141)
       | .ret => some (.ret 14 0 [] [])
      | .ret => some (.ret 30 0 [] [])
    else
     some (.ret 2 0 [] [])
 else
  some (.ret 8 0 [] [])
theorem f15n0_ok (a1 : Qd) (a2 : Int) (a3 : List Qc) {o : f15n0O} (h : (f15n0 a1 a2 a3) = some o) : T Try.prog Try.f15.ntmps 0 c15 (f15n0S a1 a2 a3) (fun r => r = f15n0E a1 a2 a3 o) := by
 unfold f15n0 at h
 obtain ⟨x7, h8, h⟩ := Qg h
 rcases Qh h with ⟨h9, h⟩ | ⟨h9, h⟩
 ·rcases Qh h with ⟨h15, h⟩ | ⟨h15, h⟩
  ·obtain rfl := Qe h
   exact rK Qi 3 [j3, ([], [jH 1 (jI x7)], []), ([(3, true), (4, true)], [(5, .bool true)], []), j3] [some false, none] [.mat 7 2, .matC 1 1 4] [1, 2, 3] [6, 7, 8] .ret ((f15n0E a1 a2 a3 (.ret 2 0 [] [])).2) (ap (f34_ok a1 h8) (ap (Ql h9) (ap3 h15 an))) rfl
  ·rcases Qh h with ⟨h16, h⟩ | ⟨h16, h⟩
   ·obtain rfl := Qe h
    exact rK Qi 3 [j3, ([], [jH 1 (jI x7)], []), (jF [3, 4] ++ jT [7, 8, 9], [(5, .bool false), (10, .bool true)], []), j3] [some false, none] [.mat 7 2, .matC 1 1 4] [1, 2, 3] [6, 7, 8] .ret ((f15n0E a1 a2 a3 (.ret 2 0 [] [])).2) (ap (f34_ok a1 h8) (ap (Ql h9) (ap3 h15 (ap4 h16 an)))) rfl
   ·obtain ⟨x17, h18, h⟩ := Qg h
    rcases Qh h with ⟨h19, h⟩ | ⟨h19, h⟩
    ·rcases Qh h with ⟨h21, h⟩ | ⟨h21, h⟩
     ·obtain rfl := Qe h
      exact rK Qi 4 [j3, ([], [jH 1 (jI x7)], []), (jF [3, 4, 7, 8, 9], [(5, .bool false), jH 8 (jB x17), (10, .bool false)], []), j3, j3] [some false, some false, some true] [.mat 7 2, .matC 1 1 4] [1, 2, 3] [6, 7, 8] .ret ((f15n0E a1 a2 a3 (.ret 21 0 [] [])).2) (ap (f34_ok a1 h8) (ap (Ql h9) (ap3 h15 (ap4 h16 (ap (f41_ok a3 h18) (ap (Ql h19) (ap h21 an))))))) rfl
     ·refine rN Qi 6 [j3, ([], [jH 1 (jI x7)], []), (jF [3, 4, 7, 8, 9], [(5, .bool false), jH 8 (jB x17), (10, .bool false)], []), j3, j3, j3] [some false, some false, some false] [] [0, 1, 2] [2, 3, 6, 9, 10] (f15n1S a3 a1 a2) (ap (f34_ok a1 h8) (ap (Ql h9) (ap3 h15 (ap4 h16 (ap (f41_ok a3 h18) (ap (Ql h19) (ap h21 an))))))) ?_
      obtain ⟨o138, h139, h⟩ := Qg h
      cases o138 with
      | norm v140 v141 =>
       refine T.oneN (by kernel_rfl) (f15n1_ok a3 a1 a2 h139) (st2 := (f15n1E a3 a1 a2 (.norm v140 v141)).2) rfl ?_
       refine rN Qi 1 [j3] [] [] [0, 1, 2, 3] [6, 9, 10, 15] (f15n3S a2 v140 v141) an ?_
       obtain ⟨o197, h198, h⟩ := Qg h
       cases o197 with
       | norm v199 =>
        refine T.oneN (by kernel_rfl) (f15n3_ok a2 v140 v141 h198) (st2 := (f15n3E a2 v140 v141 (.norm v199)).2) rfl ?_
        obtain rfl := Qe h
        exact rE Qi [j3] [] [] [0, 2, 3] [6, 7, 8] (.ret, (f15n0E a1 a2 a3 (.ret 0 a2 v199 v141)).2) an rfl
       | ret =>
        obtain rfl := Qe h
        exact T.oneX' (by kernel_rfl) (f15n3_ok a2 v140 v141 h198) (tds := [.mat 7 2, .matC 0 1 4]) (m := [0, 1, 2]) (keep := [6, 7, 8]) (st2 := (f15n0E a1 a2 a3 (.ret 14 0 [] [])).2) (by kernel_rfl) an rfl rfl
      | ret =>
       obtain rfl := Qe h
       exact T.oneX' (by kernel_rfl) (f15n1_ok a3 a1 a2 h139) (tds := [.mat 7 2, .matC 0 1 4]) (m := [0, 1, 2]) (keep := [6, 7, 8]) (st2 := (f15n0E a1 a2 a3 (.ret 30 0 [] [])).2) (by kernel_rfl) an rfl rfl
    ·obtain rfl := Qe h
     exact rK Qi 3 [j3, ([], [jH 1 (jI x7)], []), (jF [3, 4, 7, 8, 9], [(5, .bool false), jH 8 (jB x17), (10, .bool false)], []), j3] [some false, some true] [.mat 7 2, .matC 1 1 4] [1, 2, 3] [6, 7, 8] .ret ((f15n0E a1 a2 a3 (.ret 2 0 [] [])).2) (ap (f34_ok a1 h8) (ap (Ql h9) (ap3 h15 (ap4 h16 (ap (f41_ok a3 h18) (ap (Qr h19) an)))))) rfl
 ·obtain rfl := Qe h
  exact rK Qi 2 [j3, ([], [jH 1 (jI x7)], []), j3] [some true] [.mat 7 2, .matC 1 1 4] [1, 2, 3] [6, 7, 8] .ret ((f15n0E a1 a2 a3 (.ret 8 0 [] [])).2) (ap (f34_ok a1 h8) (ap (Qr h9) an)) rfl
noncomputable def f15 (a1 : Qd) (a2 : Int) (a3 : List Qc) : Option (Qd × (List Qb) × Int) := (f15n0 a1 a2 a3).bind fun o => match o with
 | .ret v200 v201 v202 v203 => some ((Qd.mk v201 v203), v202, v200)
theorem f15_ok (a1 : Qd) (a2 : Int) (a3 : List Qc) {r : Qd × (List Qb) × Int} (h : (f15 a1 a2 a3) = some r) : Qu Try.prog false 15 [(jA Qd.cells a1), (jI a2), (jL 2 Qc.cells a3)] [] (.tup [(jA Qd.cells r.1), (jL 2 Qb.cells r.2.1), (jI r.2.2)]) [] := by
 unfold f15 at h
 obtain ⟨o, ho, h⟩ := Qg h
 cases o with
 | ret v200 v201 v202 v203 =>
  obtain rfl := Qe h
  exact Qu.plain Qi (f := Try.f15) (c := c15) (by kernel_rfl) (by kernel_rfl) (by kernel_rfl) (by kernel_rfl) ((f15n0_ok a1 a2 a3 ho).mono fun r e => by subst e; exact ⟨.inl rfl, (.tup [(.agg [(jI v201), (.own 2)]), (.own 1), (jI v200)]), (.tup [(.pl (.agg (Qd.cells (Qd.mk v201 v203)))), (jL 2 Qb.cells v202), (jI v200)]), by kernel_rfl, by kernel_rfl, ((Wk.refl _) : Wk (.tup [(.pl (.agg (Qd.cells (Qd.mk v201 v203)))), (jL 2 Qb.cells v202), (jI v200)]) (.tup [(.pl (.agg (Qd.cells (Qd.mk v201 v203)))), (jL 2 Qb.cells v202), (jI v200)]))⟩)

noncomputable def c18 : Code := Try.f18.body.getD .skip
inductive f18n2O where
 | exit0
 | ret
def f18n2E (ba1 : Qd) (ba2 : Qd) : f18n2O → Ex × Tr × Hp
 | .exit0 => ((.exit 0), mkS [], [])
 | .ret => (.ret, mkS [(4, (jB false))], [])
def f18n2S (ba1 : Qd) (ba2 : Qd) (v32 : Int) : Tr × Hp := (mkS [(2, (.bp 0 0)), (3, (.bp 1 0)), (5, (jI v32))], [some (.box ((Qd.cells ba1).map .pl)), some (.box ((Qd.cells ba2).map .pl))])
noncomputable def f18n2 : Nat → Qd → Qd → Int → Option f18n2O
 | 0, _, _, _ => none
 | f + 1, ba1, ba2, v32 =>
  bif (decide (v32 < (ba1.Positions.length : Int))) then
   (at? ba1.Positions v32).bind fun x40 =>
   (at? ba2.Positions v32).bind fun x42 =>
   bif (Qa.eqb x40 x42) then
    (f18n2 f ba1 ba2 (wr64 (v32 + 1)))
   else
    some .ret
  else
   some .exit0
theorem f18n2_ok : ∀ (f : Nat) (ba1 : Qd) (ba2 : Qd) (v32 : Int) {o : f18n2O}, (f18n2 f ba1 ba2 v32) = some o → TL Try.prog Try.f18.ntmps 0 f (cL (cL (Qo 1 (cL (Qo 2 c18))))) (f18n2S ba1 ba2 v32) (fun r => r = f18n2E ba1 ba2 o)
 | 0, _, _, _, o, h => by rw [f18n2] at h; cases h
 | f + 1, ba1, ba2, v32, o, h => by
  rw [f18n2] at h
  refine TL.body (K := fun s => ∃ v32 : Int, s = (f18n2S ba1 ba2 v32) ∧ (f18n2 f ba1 ba2 v32) = some o) ?_ (by rintro _ ⟨v32, rfl, hk⟩; exact f18n2_ok f _ _ _ hk)
  rcases Qh h with ⟨h34, h⟩ | ⟨h34, h⟩
  ·obtain ⟨x40, h41, h⟩ := Qg h
   obtain ⟨x42, h43, h⟩ := Qg h
   rcases Qh h with ⟨h44, h⟩ | ⟨h44, h⟩
   ·exact rE Qi [([], [], [(3, .val (jI (ba1.Positions.length : Int)))]), ([], [(3, .idx (Int.toNat v32) (Qa.cells x40)), (8, .idx (Int.toNat v32) (Qa.cells x42)), (10, .bool (Qa.eqb x40 x42))], []), j3] [some true, some false] [] [0, 1] [2, 3, 5] (.norm, (f18n2S ba1 ba2 (wr64 (v32 + 1)))) (ap (Qn (xs := ba1.Positions) (c := Qa.cells)) (ap h34 (ap (Qf h41).1 (ap (Qk Qa.cells (Qf h41).2) (ap (Qf h43).1 (ap (Qk Qa.cells (Qf h43).2) (ap (Qa.eqb_ok x40 x42) (ap (Ql h44) an)))))))) (Qs.norm ⟨(wr64 (v32 + 1)), rfl, h⟩)
   ·obtain rfl := Qe h
    exact rK Qi 2 [([], [], [(3, .val (jI (ba1.Positions.length : Int)))]), ([], [(3, .idx (Int.toNat v32) (Qa.cells x40)), (8, .idx (Int.toNat v32) (Qa.cells x42)), (10, .bool (Qa.eqb x40 x42))], []), j3] [some true, some true] [] [] [4] .ret ((f18n2E ba1 ba2 .ret).2) (ap (Qn (xs := ba1.Positions) (c := Qa.cells)) (ap h34 (ap (Qf h41).1 (ap (Qk Qa.cells (Qf h41).2) (ap (Qf h43).1 (ap (Qk Qa.cells (Qf h43).2) (ap (Qa.eqb_ok x40 x42) (ap (Qr h44) an)))))))) (Qs.out rfl rfl)
  ·obtain rfl := Qe h
   exact rK Qi 1 [([], [], [(3, .val (jI (ba1.Positions.length : Int)))])] [some false] [] [] [] (.exit 0) ((f18n2E ba1 ba2 .exit0).2) (ap (Qn (xs := ba1.Positions) (c := Qa.cells)) (ap h34 an)) (Qs.out rfl rfl)
noncomputable def f18n2L (ba1 : Qd) (ba2 : Qd) : List Qa → Int → Option f18n2O
 | [], v32 =>
  some .exit0
 | x0 :: rest, v32 =>
  (at? ba2.Positions v32).bind fun x42 =>
  bif (Qa.eqb x0 x42) then
   (f18n2L ba1 ba2 rest (v32 + 1))
  else
   some .ret
theorem f18n2L_eq (ba1 : Qd) (ba2 : Qd) : ∀ (rest : List Qa) (f k : Nat), ba1.Positions.drop k = rest → ba1.Positions.length ≤ maxLen → rest.length < f → f18n2 f ba1 ba2 (k : Int) = f18n2L ba1 ba2 rest (k : Int)
 | _, 0, _, _, _, hf => absurd hf (Nat.not_lt_zero _)
 | [], f + 1, k, hd, hm, hf => by
  have hk : ¬ ((k : Int) < (ba1.Positions.length : Int)) := by have := Qat hd; omega
  rw [f18n2, f18n2L]
  simp only [decide_eq_false hk, cond_false]
 | x0 :: rest, f + 1, k, hd, hm, hf => by
  obtain ⟨hx, hlt, hd'⟩ := Qak hd
  have hk : (k : Int) < (ba1.Positions.length : Int) := by omega
  have hw : wr64 ((k : Int) + 1) = (k : Int) + 1 := Qcf (by omega) (by unfold maxLen at hm; omega)
  have ih : f18n2 f ba1 ba2 ((k : Int) + 1) = f18n2L ba1 ba2 rest ((k : Int) + 1) := f18n2L_eq ba1 ba2 rest f (k + 1) hd' hm (by simpa using hf)
  rw [f18n2, f18n2L]
  simp only [decide_eq_true hk, cond_true, Qao, hx, Option.bind_some, hw, ih]
theorem f18n2_run (ba1 : Qd) (ba2 : Qd) (hm : ba1.Positions.length ≤ maxLen) : f18n2 FUEL ba1 ba2 0 = f18n2L ba1 ba2 ba1.Positions 0 := f18n2L_eq ba1 ba2 ba1.Positions FUEL 0 List.drop_zero hm (Qbp hm)
inductive f18n1O where
 | norm
 | ret
def f18n1E (ba1 : Qd) (ba2 : Qd) : f18n1O → Ex × Tr × Hp
 | .norm => (.norm, mkS [], [])
 | .ret => (.ret, mkS [(4, (jB false))], [])
def f18n1S (ba1 : Qd) (ba2 : Qd) : Tr × Hp := (mkS [(2, (.bp 0 0)), (3, (.bp 1 0))], [some (.box ((Qd.cells ba1).map .pl)), some (.box ((Qd.cells ba2).map .pl))])
noncomputable def f18n1 (ba1 : Qd) (ba2 : Qd) : Option f18n1O :=
 (f18n2 FUEL ba1 ba2 0).bind fun o45 => match o45 with
 | .exit0 => some .norm
 | .ret => some .ret
theorem f18n1_ok (ba1 : Qd) (ba2 : Qd) {o : f18n1O} (h : (f18n1 ba1 ba2) = some o) : T Try.prog Try.f18.ntmps 0 (cL (Qo 2 c18)) (f18n1S ba1 ba2) (fun r => r = f18n1E ba1 ba2 o) := by
 unfold f18n1 at h
 refine rN Qi 1 [j3] [] [] [0, 1] [2, 3, 5] (f18n2S ba1 ba2 0) an ?_
 obtain ⟨o45, h46, h⟩ := Qg h
 cases o45 with
 | exit0 =>
  obtain rfl := Qe h
  exact T.last' (T.bl (i := 0) (by kernel_rfl) (by kernel_rfl) (f18n2_ok FUEL ba1 ba2 0 h46)) (tds := []) (m := []) (keep := []) (st2 := (f18n1E ba1 ba2 .norm).2) (by kernel_rfl) an rfl
 | ret =>
  obtain rfl := Qe h
  exact T.last' (T.bl (i := 0) (by kernel_rfl) (by kernel_rfl) (f18n2_ok FUEL ba1 ba2 0 h46)) (tds := []) (m := []) (keep := [4]) (st2 := (f18n1E ba1 ba2 .ret).2) (by kernel_rfl) an rfl
inductive f18n0O where
 | ret (v49 : Bool)
def f18n0E (a1 : Qd) (a2 : Qd) : f18n0O → Ex × Tr × Hp
 | .ret v49 => (.ret, mkS [(4, (jB v49))], [])
def f18n0S (a1 : Qd) (a2 : Qd) : Tr × Hp := (Qaz [(jA Qd.cells a1), (jA Qd.cells a2)] 0 .leaf, [])
noncomputable def f18n0 (a1 : Qd) (a2 : Qd) : Option f18n0O :=
 bif (decide (a1.Day = a2.Day)) then
  bif (decide ((a1.Positions.length : Int) = (a2.Positions.length : Int))) then
   (f18n1 a1 a2).bind fun o47 => match o47 with
   | .norm => some (.ret true)
   | .ret => some (.ret false)
  else
   some (.ret false)
 else
  some (.ret false)
theorem f18n0_ok (a1 : Qd) (a2 : Qd) {o : f18n0O} (h : (f18n0 a1 a2) = some o) : T Try.prog Try.f18.ntmps 0 c18 (f18n0S a1 a2) (fun r => r = f18n0E a1 a2 o) := by
 unfold f18n0 at h
 rcases Qh h with ⟨h5, h⟩ | ⟨h5, h⟩
 ·rcases Qh h with ⟨h6, h⟩ | ⟨h6, h⟩
  ·refine rN Qi 2 [j3, (jF [6, 7, 8, 9, 10, 11, 12], [(13, .bool false)], [(8, .val (jI (a1.Positions.length : Int))), (11, .val (jI (a2.Positions.length : Int)))])] [some false] [] [0, 1] [2, 3] (f18n1S a1 a2) (ap3 (Ql h5) (ap (Qn (xs := a1.Positions) (c := Qa.cells)) (ap3 (Ql h5) (ap (Qn (xs := a2.Positions) (c := Qa.cells)) (ap2 (Ql h5) (ap (Ql h6) an)))))) ?_
   obtain ⟨o47, h48, h⟩ := Qg h
   cases o47 with
   | norm =>
    refine T.oneN (by kernel_rfl) (f18n1_ok a1 a2 h48) (st2 := (f18n1E a1 a2 .norm).2) rfl ?_
    obtain rfl := Qe h
    exact rE Qi [j3] [] [] [] [4] (.ret, (f18n0E a1 a2 (.ret true)).2) an rfl
   | ret =>
    obtain rfl := Qe h
    exact T.oneX' (by kernel_rfl) (f18n1_ok a1 a2 h48) (tds := []) (m := []) (keep := [4]) (st2 := (f18n0E a1 a2 (.ret false)).2) (by kernel_rfl) an rfl rfl
  ·obtain rfl := Qe h
   exact rK Qi 2 [j3, (jF [6, 7, 8, 9, 10, 11, 12], [(13, .bool false)], [(8, .val (jI (a1.Positions.length : Int))), (11, .val (jI (a2.Positions.length : Int)))]), j3] [some true] [] [] [4] .ret ((f18n0E a1 a2 (.ret false)).2) (ap3 (Ql h5) (ap (Qn (xs := a1.Positions) (c := Qa.cells)) (ap3 (Ql h5) (ap (Qn (xs := a2.Positions) (c := Qa.cells)) (ap2 (Ql h5) (ap (Qr h6) an)))))) rfl
 ·obtain rfl := Qe h
  exact rK Qi 2 [j3, (jT [6, 7, 8, 9, 10, 11, 12], [(13, .bool true)], []), j3] [none] [] [] [4] .ret ((f18n0E a1 a2 (.ret false)).2) (ap4 (Qr h5) (ap4 (Qr h5) an)) rfl
noncomputable def f18 (a1 : Qd) (a2 : Qd) : Option Bool := (f18n0 a1 a2).bind fun o => match o with
 | .ret v49 => some v49
theorem f18_ok (a1 : Qd) (a2 : Qd) {r : Bool} (h : (f18 a1 a2) = some r) : Qu Try.prog false 18 [(jA Qd.cells a1), (jA Qd.cells a2)] [] (jB r) [] := by
 unfold f18 at h
 obtain ⟨o, ho, h⟩ := Qg h
 cases o with
 | ret v49 =>
  obtain rfl := Qe h
  exact Qu.plain Qi (f := Try.f18) (c := c18) (by kernel_rfl) (by kernel_rfl) (by kernel_rfl) (by kernel_rfl) ((f18n0_ok a1 a2 ho).mono fun r e => by subst e; exact ⟨.inl rfl, (jB v49), (jB v49), by kernel_rfl, by kernel_rfl, ((Wk.refl _) : Wk (jB v49) (jB v49))⟩)
end Go.Proofs.Ytelblamgfbkhbaa
namespace Go.Proofs.Ytelblamgfbkhbaa
set_option linter.unusedVariables false
set_option linter.unusedSimpArgs false
set_option maxRecDepth 100000
open Go.RowKit
noncomputable def c50 : Code := Try.f50.body.getD .skip
inductive f50n2O where
 | exit0 (v119 : Bool) (v120 : List Qa)
def f50n2E (bg1 : List Qa) (bo2 : Qa) : f50n2O → Ex × Tr × Hp
 | .exit0 v119 v120 => ((.exit 0), mkS [(3, (.bp 0 0)), (5, (.own 1)), (6, (jB v119))], [some (.box ((Qa.cells bo2).map .pl)), jR 4 Qa.cells v120])
def f50n2S (bg1 : List Qa) (bo2 : Qa) (v72 : Bool) (v73 : Int) (v74 : List Qa) : Tr × Hp := (mkS [(0, (jL 4 Qa.cells bg1)), (3, (.bp 0 0)), (5, (.own 1)), (6, (jB v72)), (7, (jI v73))], [some (.box ((Qa.cells bo2).map .pl)), jR 4 Qa.cells v74])
noncomputable def f50n2 : Nat → List Qa → Qa → Bool → Int → List Qa → Option f50n2O
 | 0, _, _, _, _, _ => none
 | f + 1, bg1, bo2, v72, v73, v74 =>
  bif (decide (v73 < (bg1.length : Int))) then
   (at? bg1 v73).bind fun x98 =>
   bif (seq x98.Member bo2.Member) then
    bif (seq x98.Product bo2.Product) then
     req (fit (v74.length + 1) 48) <|
     (f50n2 f bg1 bo2 true (wr64 (v73 + 1)) (v74 ++ [(Qa.mk x98.Member x98.Product (wr64 (x98.Quantity + bo2.Quantity)) (wr64 (x98.Basis + bo2.Basis)))]))
    else
     bif v72 then
      req (fit (v74.length + 1) 48) <|
      (f50n2 f bg1 bo2 v72 (wr64 (v73 + 1)) (v74 ++ [x98]))
     else
      (f56 bo2 x98).bind fun x105 =>
      bif x105 then
       req (fit (v74.length + 1) 48) <|
       req (fit ((v74 ++ [bo2]).length + 1) 48) <|
       (f50n2 f bg1 bo2 true (wr64 (v73 + 1)) ((v74 ++ [bo2]) ++ [x98]))
      else
       req (fit (v74.length + 1) 48) <|
       (f50n2 f bg1 bo2 v72 (wr64 (v73 + 1)) (v74 ++ [x98]))
   else
    bif v72 then
     req (fit (v74.length + 1) 48) <|
     (f50n2 f bg1 bo2 v72 (wr64 (v73 + 1)) (v74 ++ [x98]))
    else
     (f56 bo2 x98).bind fun x113 =>
     bif x113 then
      req (fit (v74.length + 1) 48) <|
      req (fit ((v74 ++ [bo2]).length + 1) 48) <|
      (f50n2 f bg1 bo2 true (wr64 (v73 + 1)) ((v74 ++ [bo2]) ++ [x98]))
     else
      req (fit (v74.length + 1) 48) <|
      (f50n2 f bg1 bo2 v72 (wr64 (v73 + 1)) (v74 ++ [x98]))
  else
   some (.exit0 v72 v74)
theorem f50n2_ok : ∀ (f : Nat) (bg1 : List Qa) (bo2 : Qa) (v72 : Bool) (v73 : Int) (v74 : List Qa) {o : f50n2O}, (f50n2 f bg1 bo2 v72 v73 v74) = some o → TL Try.prog Try.f50.ntmps 0 f (cL (cL (Qo 1 (cL (Qo 3 c50))))) (f50n2S bg1 bo2 v72 v73 v74) (fun r => r = f50n2E bg1 bo2 o)
 | 0, _, _, _, _, _, o, h => by rw [f50n2] at h; cases h
 | f + 1, bg1, bo2, v72, v73, v74, o, h => by
  rw [f50n2] at h
  refine TL.body (K := fun s => ∃ v72 : Bool, ∃ v73 : Int, ∃ v74 : List Qa, s = (f50n2S bg1 bo2 v72 v73 v74) ∧ (f50n2 f bg1 bo2 v72 v73 v74) = some o) ?_ (by rintro _ ⟨v72, v73, v74, rfl, hk⟩; exact f50n2_ok f _ _ _ _ _ hk)
  rcases Qh h with ⟨h76, h⟩ | ⟨h76, h⟩
  ·obtain ⟨x98, h99, h⟩ := Qg h
   rcases Qh h with ⟨h100, h⟩ | ⟨h100, h⟩
   ·rcases Qh h with ⟨h101, h⟩ | ⟨h101, h⟩
    ·obtain ⟨h102, h⟩ := Qab h
     exact rE Qi [([], [], [(2, .val (jI (bg1.length : Int)))]), ([], [(2, .idx (Int.toNat v73) (Qa.cells x98))], []), (jT [6, 7, 8, 9, 10], [(11, .bool true)], []), j3, j3, j3, j3, ([], [(3, .fits)], [(3, .row 4 ((v74 ++ [(Qa.mk x98.Member x98.Product (wr64 (x98.Quantity + bo2.Quantity)) (wr64 (x98.Basis + bo2.Basis)))]).map Qa.cells))]), j3] [some true, some true, none] [] [0, 4] [0, 3, 5, 6, 7] (.norm, (f50n2S bg1 bo2 true (wr64 (v73 + 1)) (v74 ++ [(Qa.mk x98.Member x98.Product (wr64 (x98.Quantity + bo2.Quantity)) (wr64 (x98.Basis + bo2.Basis)))]))) (ap (Qn (xs := bg1) (c := Qa.cells)) (ap h76 (ap (Qf h99).1 (ap (Qk Qa.cells (Qf h99).2) (ap2 h100 (ap4 h100 (ap h101 (ap (Qas (te := ti52) (xs := v74) (n := 1) (c := Qa.cells) h102 rfl) (ap (Qbw (xs := v74) (ys := [(Qa.mk x98.Member x98.Product (wr64 (x98.Quantity + bo2.Quantity)) (wr64 (x98.Basis + bo2.Basis)))]) (c := Qa.cells)) an))))))))) (Qs.norm ⟨true, (wr64 (v73 + 1)), (v74 ++ [(Qa.mk x98.Member x98.Product (wr64 (x98.Quantity + bo2.Quantity)) (wr64 (x98.Basis + bo2.Basis)))]), rfl, h⟩)
    ·rcases Qh h with ⟨h103, h⟩ | ⟨h103, h⟩
     ·obtain ⟨h104, h⟩ := Qab h
      exact rE Qi [([], [], [(2, .val (jI (bg1.length : Int)))]), ([], [(2, .idx (Int.toNat v73) (Qa.cells x98))], []), (jT [6, 7, 8, 9, 10], [(11, .bool true)], []), (jF [3, 4, 5], [(6, .bool false)], []), ([], [(3, .fits)], [(3, .row 4 ((v74 ++ [x98]).map Qa.cells))]), j3] [some true, some false, none] [] [0, 4] [0, 3, 5, 6, 7] (.norm, (f50n2S bg1 bo2 v72 (wr64 (v73 + 1)) (v74 ++ [x98]))) (ap (Qn (xs := bg1) (c := Qa.cells)) (ap h76 (ap (Qf h99).1 (ap (Qk Qa.cells (Qf h99).2) (ap2 h100 (ap4 h100 (ap h101 (ap4 (Ql h103) (ap (Qas (te := ti52) (xs := v74) (n := 1) (c := Qa.cells) h104 rfl) (ap (Qbw (xs := v74) (ys := [x98]) (c := Qa.cells)) an)))))))))) (Qs.norm ⟨v72, (wr64 (v73 + 1)), (v74 ++ [x98]), rfl, h⟩)
     ·obtain ⟨x105, h106, h⟩ := Qg h
      rcases Qh h with ⟨h107, h⟩ | ⟨h107, h⟩
      ·obtain ⟨h108, h⟩ := Qab h
       obtain ⟨h109, h⟩ := Qab h
       exact rE Qi [([], [], [(2, .val (jI (bg1.length : Int)))]), ([], [(2, .idx (Int.toNat v73) (Qa.cells x98))], []), (jT [6, 7, 8, 9, 10], [(11, .bool true)], []), (jT [3, 4, 5], [jH 5 (jB x105), (6, .bool true)], []), ([], [(3, .fits)], [(3, .row 4 ((v74 ++ [bo2]).map Qa.cells))]), j3, ([], [(3, .fits)], [(3, .row 6 (((v74 ++ [bo2]) ++ [x98]).map Qa.cells))]), j3] [some true, some false, some true] [] [0, 6] [0, 3, 5, 6, 7] (.norm, (f50n2S bg1 bo2 true (wr64 (v73 + 1)) ((v74 ++ [bo2]) ++ [x98]))) (ap (Qn (xs := bg1) (c := Qa.cells)) (ap h76 (ap (Qf h99).1 (ap (Qk Qa.cells (Qf h99).2) (ap2 h100 (ap4 h100 (ap h101 (ap4 (Qr h103) (ap (f56_ok bo2 x98 h106) (ap h107 (ap (Qas (te := ti52) (xs := v74) (n := 1) (c := Qa.cells) h108 rfl) (ap (Qbw (xs := v74) (ys := [bo2]) (c := Qa.cells)) (ap (Qas (te := ti52) (xs := (v74 ++ [bo2])) (n := 1) (c := Qa.cells) h109 rfl) (ap (Qbw (xs := (v74 ++ [bo2])) (ys := [x98]) (c := Qa.cells)) an)))))))))))))) (Qs.norm ⟨true, (wr64 (v73 + 1)), ((v74 ++ [bo2]) ++ [x98]), rfl, h⟩)
      ·obtain ⟨h110, h⟩ := Qab h
       exact rE Qi [([], [], [(2, .val (jI (bg1.length : Int)))]), ([], [(2, .idx (Int.toNat v73) (Qa.cells x98))], []), (jT [6, 7, 8, 9, 10], [(11, .bool true)], []), (jT [3, 4, 5], [jH 5 (jB x105), (6, .bool true)], []), ([], [(3, .fits)], [(3, .row 4 ((v74 ++ [x98]).map Qa.cells))]), j3] [some true, some false, some false] [] [0, 4] [0, 3, 5, 6, 7] (.norm, (f50n2S bg1 bo2 v72 (wr64 (v73 + 1)) (v74 ++ [x98]))) (ap (Qn (xs := bg1) (c := Qa.cells)) (ap h76 (ap (Qf h99).1 (ap (Qk Qa.cells (Qf h99).2) (ap2 h100 (ap4 h100 (ap h101 (ap4 (Qr h103) (ap (f56_ok bo2 x98 h106) (ap h107 (ap (Qas (te := ti52) (xs := v74) (n := 1) (c := Qa.cells) h110 rfl) (ap (Qbw (xs := v74) (ys := [x98]) (c := Qa.cells)) an)))))))))))) (Qs.norm ⟨v72, (wr64 (v73 + 1)), (v74 ++ [x98]), rfl, h⟩)
   ·rcases Qh h with ⟨h111, h⟩ | ⟨h111, h⟩
    ·obtain ⟨h112, h⟩ := Qab h
     exact rE Qi [([], [], [(2, .val (jI (bg1.length : Int)))]), ([], [(2, .idx (Int.toNat v73) (Qa.cells x98))], []), (jF [6, 7, 8, 9, 10], [(11, .bool false)], []), (jF [3, 4, 5], [(6, .bool false)], []), ([], [(3, .fits)], [(3, .row 4 ((v74 ++ [x98]).map Qa.cells))]), j3] [some true, none, none] [] [0, 4] [0, 3, 5, 6, 7] (.norm, (f50n2S bg1 bo2 v72 (wr64 (v73 + 1)) (v74 ++ [x98]))) (ap (Qn (xs := bg1) (c := Qa.cells)) (ap h76 (ap (Qf h99).1 (ap (Qk Qa.cells (Qf h99).2) (ap2 h100 (ap4 h100 (ap4 (Ql h111) (ap (Qas (te := ti52) (xs := v74) (n := 1) (c := Qa.cells) h112 rfl) (ap (Qbw (xs := v74) (ys := [x98]) (c := Qa.cells)) an))))))))) (Qs.norm ⟨v72, (wr64 (v73 + 1)), (v74 ++ [x98]), rfl, h⟩)
    ·obtain ⟨x113, h114, h⟩ := Qg h
     rcases Qh h with ⟨h115, h⟩ | ⟨h115, h⟩
     ·obtain ⟨h116, h⟩ := Qab h
      obtain ⟨h117, h⟩ := Qab h
      exact rE Qi [([], [], [(2, .val (jI (bg1.length : Int)))]), ([], [(2, .idx (Int.toNat v73) (Qa.cells x98))], []), (jF [6, 7, 8, 9, 10], [(11, .bool false)], []), (jT [3, 4, 5], [jH 5 (jB x113), (6, .bool true)], []), ([], [(3, .fits)], [(3, .row 4 ((v74 ++ [bo2]).map Qa.cells))]), j3, ([], [(3, .fits)], [(3, .row 6 (((v74 ++ [bo2]) ++ [x98]).map Qa.cells))]), j3] [some true, none, some true] [] [0, 6] [0, 3, 5, 6, 7] (.norm, (f50n2S bg1 bo2 true (wr64 (v73 + 1)) ((v74 ++ [bo2]) ++ [x98]))) (ap (Qn (xs := bg1) (c := Qa.cells)) (ap h76 (ap (Qf h99).1 (ap (Qk Qa.cells (Qf h99).2) (ap2 h100 (ap4 h100 (ap4 (Qr h111) (ap (f56_ok bo2 x98 h114) (ap h115 (ap (Qas (te := ti52) (xs := v74) (n := 1) (c := Qa.cells) h116 rfl) (ap (Qbw (xs := v74) (ys := [bo2]) (c := Qa.cells)) (ap (Qas (te := ti52) (xs := (v74 ++ [bo2])) (n := 1) (c := Qa.cells) h117 rfl) (ap (Qbw (xs := (v74 ++ [bo2])) (ys := [x98]) (c := Qa.cells)) an))))))))))))) (Qs.norm ⟨true, (wr64 (v73 + 1)), ((v74 ++ [bo2]) ++ [x98]), rfl, h⟩)
     ·obtain ⟨h118, h⟩ := Qab h
      exact rE Qi [([], [], [(2, .val (jI (bg1.length : Int)))]), ([], [(2, .idx (Int.toNat v73) (Qa.cells x98))], []), (jF [6, 7, 8, 9, 10], [(11, .bool false)], []), (jT [3, 4, 5], [jH 5 (jB x113), (6, .bool true)], []), ([], [(3, .fits)], [(3, .row 4 ((v74 ++ [x98]).map Qa.cells))]), j3] [some true, none, some false] [] [0, 4] [0, 3, 5, 6, 7] (.norm, (f50n2S bg1 bo2 v72 (wr64 (v73 + 1)) (v74 ++ [x98]))) (ap (Qn (xs := bg1) (c := Qa.cells)) (ap h76 (ap (Qf h99).1 (ap (Qk Qa.cells (Qf h99).2) (ap2 h100 (ap4 h100 (ap4 (Qr h111) (ap (f56_ok bo2 x98 h114) (ap h115 (ap (Qas (te := ti52) (xs := v74) (n := 1) (c := Qa.cells) h118 rfl) (ap (Qbw (xs := v74) (ys := [x98]) (c := Qa.cells)) an))))))))))) (Qs.norm ⟨v72, (wr64 (v73 + 1)), (v74 ++ [x98]), rfl, h⟩)
  ·obtain rfl := Qe h
   exact rK Qi 1 [([], [], [(2, .val (jI (bg1.length : Int)))])] [some false] [] [0, 1] [3, 5, 6] (.exit 0) ((f50n2E bg1 bo2 (.exit0 v72 v74)).2) (ap (Qn (xs := bg1) (c := Qa.cells)) (ap h76 an)) (Qs.out rfl rfl)
noncomputable def f50n2L (bg1 : List Qa) (bo2 : Qa) : List Qa → Bool → Int → (List Qa) → Option f50n2O
 | [], v72, v73, v74 =>
  some (.exit0 v72 v74)
 | x0 :: rest, v72, v73, v74 =>
  bif (seq x0.Member bo2.Member) then
   bif (seq x0.Product bo2.Product) then
    req (fit (v74.length + 1) 48) <|
    (f50n2L bg1 bo2 rest true (v73 + 1) (v74 ++ [(Qa.mk x0.Member x0.Product (wr64 (x0.Quantity + bo2.Quantity)) (wr64 (x0.Basis + bo2.Basis)))]))
   else
    bif v72 then
     req (fit (v74.length + 1) 48) <|
     (f50n2L bg1 bo2 rest v72 (v73 + 1) (v74 ++ [x0]))
    else
     (f56 bo2 x0).bind fun x105 =>
     bif x105 then
      req (fit (v74.length + 1) 48) <|
      req (fit ((v74 ++ [bo2]).length + 1) 48) <|
      (f50n2L bg1 bo2 rest true (v73 + 1) ((v74 ++ [bo2]) ++ [x0]))
     else
      req (fit (v74.length + 1) 48) <|
      (f50n2L bg1 bo2 rest v72 (v73 + 1) (v74 ++ [x0]))
  else
   bif v72 then
    req (fit (v74.length + 1) 48) <|
    (f50n2L bg1 bo2 rest v72 (v73 + 1) (v74 ++ [x0]))
   else
    (f56 bo2 x0).bind fun x113 =>
    bif x113 then
     req (fit (v74.length + 1) 48) <|
     req (fit ((v74 ++ [bo2]).length + 1) 48) <|
     (f50n2L bg1 bo2 rest true (v73 + 1) ((v74 ++ [bo2]) ++ [x0]))
    else
     req (fit (v74.length + 1) 48) <|
     (f50n2L bg1 bo2 rest v72 (v73 + 1) (v74 ++ [x0]))
theorem f50n2L_eq (bg1 : List Qa) (bo2 : Qa) : ∀ (rest : List Qa) (f k : Nat) (v72 : Bool) (v74 : List Qa), bg1.drop k = rest → bg1.length ≤ maxLen → rest.length < f → f50n2 f bg1 bo2 v72 (k : Int) v74 = f50n2L bg1 bo2 rest v72 (k : Int) v74
 | _, 0, _, _, _, _, _, hf => absurd hf (Nat.not_lt_zero _)
 | [], f + 1, k, v72, v74, hd, hm, hf => by
  have hk : ¬ ((k : Int) < (bg1.length : Int)) := by have := Qat hd; omega
  rw [f50n2, f50n2L]
  simp only [decide_eq_false hk, cond_false]
 | x0 :: rest, f + 1, k, v72, v74, hd, hm, hf => by
  obtain ⟨hx, hlt, hd'⟩ := Qak hd
  have hk : (k : Int) < (bg1.length : Int) := by omega
  have hw : wr64 ((k : Int) + 1) = (k : Int) + 1 := Qcf (by omega) (by unfold maxLen at hm; omega)
  have ih : ∀ (v72 : Bool) (v74 : List Qa), f50n2 f bg1 bo2 v72 ((k : Int) + 1) v74 = f50n2L bg1 bo2 rest v72 ((k : Int) + 1) v74 := fun v72 v74 => f50n2L_eq bg1 bo2 rest f (k + 1) v72 v74 hd' hm (by simpa using hf)
  rw [f50n2, f50n2L]
  simp only [decide_eq_true hk, cond_true, Qao, hx, Option.bind_some, hw, ih]
theorem f50n2_run (bg1 : List Qa) (bo2 : Qa) (v72 : Bool) (v74 : List Qa) (hm : bg1.length ≤ maxLen) : f50n2 FUEL bg1 bo2 v72 0 v74 = f50n2L bg1 bo2 bg1 v72 0 v74 := f50n2L_eq bg1 bo2 bg1 FUEL 0 v72 v74 List.drop_zero hm (Qbp hm)
inductive f50n1O where
 | norm (v125 : Bool) (v126 : List Qa)
def f50n1E (bg1 : List Qa) (bo2 : Qa) : f50n1O → Ex × Tr × Hp
 | .norm v125 v126 => (.norm, mkS [(3, (.bp 0 0)), (5, (.own 1)), (6, (jB v125))], [some (.box ((Qa.cells bo2).map .pl)), jR 4 Qa.cells v126])
def f50n1S (bg1 : List Qa) (bo2 : Qa) : Tr × Hp := (mkS [(0, (jL 4 Qa.cells bg1)), (3, (.bp 0 0)), (5, (.pl (.sl .nil 0 []))), (6, (jB false))], [some (.box ((Qa.cells bo2).map .pl))])
noncomputable def f50n1 (bg1 : List Qa) (bo2 : Qa) : Option f50n1O :=
 (f50n2 FUEL bg1 bo2 false 0 []).bind fun o121 => match o121 with
 | .exit0 v123 v124 => some (.norm v123 v124)
theorem f50n1_ok (bg1 : List Qa) (bo2 : Qa) {o : f50n1O} (h : (f50n1 bg1 bo2) = some o) : T Try.prog Try.f50.ntmps 0 (cL (Qo 3 c50)) (f50n1S bg1 bo2) (fun r => r = f50n1E bg1 bo2 o) := by
 unfold f50n1 at h
 refine rN Qi 1 [j3] [] [.mat 5 4] [0, 1] [0, 3, 5, 6, 7] (f50n2S bg1 bo2 false 0 []) an ?_
 obtain ⟨o121, h122, h⟩ := Qg h
 cases o121 with
 | exit0 v123 v124 =>
  obtain rfl := Qe h
  exact T.last' (T.bl (i := 0) (by kernel_rfl) (by kernel_rfl) (f50n2_ok FUEL bg1 bo2 false 0 [] h122)) (tds := []) (m := [0, 1]) (keep := [3, 5, 6]) (st2 := (f50n1E bg1 bo2 (.norm v123 v124)).2) (by kernel_rfl) an rfl
inductive f50n0O where
 | ret (v135 : List Qa)
def f50n0E (a1 : List Qa) (a2 : Qa) : f50n0O → Ex × Tr × Hp
 | .ret v135 => (.ret, mkS [(4, (.own 0))], [jR 4 Qa.cells v135])
def f50n0S (a1 : List Qa) (a2 : Qa) : Tr × Hp := (Qaz [(jL 4 Qa.cells a1), (jA Qa.cells a2)] 0 .leaf, [])
noncomputable def f50n0 (a1 : List Qa) (a2 : Qa) : Option f50n0O :=
 (f50n1 a1 a2).bind fun o127 => match o127 with
 | .norm v129 v130 => bif v129 then
   some (.ret v130)
  else
   req (fit (v130.length + 1) 48) <|
   some (.ret (v130 ++ [a2]))
theorem f50n0_ok (a1 : List Qa) (a2 : Qa) {o : f50n0O} (h : (f50n0 a1 a2) = some o) : T Try.prog Try.f50.ntmps 0 c50 (f50n0S a1 a2) (fun r => r = f50n0E a1 a2 o) := by
 unfold f50n0 at h
 refine rN Qi 3 [j3, j3, j3] [] [] [0] [0, 3, 5, 6] (f50n1S a1 a2) an ?_
 obtain ⟨o127, h128, h⟩ := Qg h
 cases o127 with
 | norm v129 v130 =>
  refine T.oneN (by kernel_rfl) (f50n1_ok a1 a2 h128) (st2 := (f50n1E a1 a2 (.norm v129 v130)).2) rfl ?_
  rcases Qh h with ⟨h133, h⟩ | ⟨h133, h⟩
  ·obtain rfl := Qe h
   exact rE Qi [j3, j3] [some false] [] [1] [4] (.ret, (f50n0E a1 a2 (.ret v130)).2) (ap (Ql h133) an) rfl
  ·obtain ⟨h134, h⟩ := Qab h
   obtain rfl := Qe h
   exact rE Qi [j3, ([], [(3, .fits)], [(3, .row 3 ((v130 ++ [a2]).map Qa.cells))]), j3] [some true] [] [3] [4] (.ret, (f50n0E a1 a2 (.ret (v130 ++ [a2]))).2) (ap (Qr h133) (ap (Qas (te := ti52) (xs := v130) (n := 1) (c := Qa.cells) h134 rfl) (ap (Qbw (xs := v130) (ys := [a2]) (c := Qa.cells)) an))) rfl
noncomputable def f50 (a1 : List Qa) (a2 : Qa) : Option (List Qa) := (f50n0 a1 a2).bind fun o => match o with
 | .ret v135 => some v135
theorem f50_ok (a1 : List Qa) (a2 : Qa) {r : List Qa} (h : (f50 a1 a2) = some r) : Qu Try.prog false 50 [(jL 4 Qa.cells a1), (jA Qa.cells a2)] [] (jL 4 Qa.cells r) [] := by
 unfold f50 at h
 obtain ⟨o, ho, h⟩ := Qg h
 cases o with
 | ret v135 =>
  obtain rfl := Qe h
  exact Qu.plain Qi (f := Try.f50) (c := c50) (by kernel_rfl) (by kernel_rfl) (by kernel_rfl) (by kernel_rfl) ((f50n0_ok a1 a2 ho).mono fun r e => by subst e; exact ⟨.inl rfl, (.own 0), (jL 4 Qa.cells v135), by kernel_rfl, by kernel_rfl, ((Wk.refl _) : Wk (jL 4 Qa.cells v135) (jL 4 Qa.cells v135))⟩)

noncomputable def c17 : Code := Try.f17.body.getD .skip
inductive f17n2O where
 | exit0 (v149 : Int) (v150 : List Qa)
 | ret
def f17n2E (bg1 : List Qa) (ba2 : Qd) : f17n2O → Ex × Tr × Hp
 | .exit0 v149 v150 => ((.exit 0), mkS [(12, (.bp 0 0)), (15, (.bp 1 0)), (16, (jI v149))], [some (.box [(jI 0), (.pl (.sl .nil 0 []))]), some (.box [(jI ba2.Day), (.own 2)]), jR 4 Qa.cells v150])
 | .ret => (.ret, mkS [(12, (.bp 0 0)), (13, (jI 52))], [some (.box [(jI 0), (.pl (.sl .nil 0 []))])])
def f17n2S (bg1 : List Qa) (ba2 : Qd) (v112 : Int) (v113 : Int) (v114 : List Qa) : Tr × Hp := (mkS [(12, (.bp 0 0)), (14, (jL 4 Qa.cells bg1)), (15, (.bp 1 0)), (16, (jI v112)), (17, (jI v113))], [some (.box [(jI 0), (.pl (.sl .nil 0 []))]), some (.box [(jI ba2.Day), (.own 2)]), jR 4 Qa.cells v114])
noncomputable def f17n2 : Nat → List Qa → Qd → Int → Int → List Qa → Option f17n2O
 | 0, _, _, _, _, _ => none
 | f + 1, bg1, ba2, v112, v113, v114 =>
  bif (decide (v113 < (bg1.length : Int))) then
   (at? bg1 v113).bind fun x133 =>
   (f43 x133.Quantity).bind fun x135 =>
   bif (decide (1048576 < x135)) then
    some .ret
   else
    (f43 x133.Basis).bind fun x138 =>
    bif (decide (1125899906842624 < x138)) then
     bif (decide (x133.Quantity = 0)) then
      bif (decide (x133.Basis = 0)) then
       (f17n2 f bg1 ba2 14 (wr64 (v113 + 1)) v114)
      else
       req (fit (v114.length + 1) 48) <|
       (f17n2 f bg1 ba2 14 (wr64 (v113 + 1)) (v114 ++ [x133]))
     else
      req (fit (v114.length + 1) 48) <|
      (f17n2 f bg1 ba2 14 (wr64 (v113 + 1)) (v114 ++ [x133]))
    else
     bif (decide (x133.Quantity = 0)) then
      bif (decide (x133.Basis = 0)) then
       (f17n2 f bg1 ba2 v112 (wr64 (v113 + 1)) v114)
      else
       req (fit (v114.length + 1) 48) <|
       (f17n2 f bg1 ba2 v112 (wr64 (v113 + 1)) (v114 ++ [x133]))
     else
      req (fit (v114.length + 1) 48) <|
      (f17n2 f bg1 ba2 v112 (wr64 (v113 + 1)) (v114 ++ [x133]))
  else
   some (.exit0 v112 v114)
theorem f17n2_ok : ∀ (f : Nat) (bg1 : List Qa) (ba2 : Qd) (v112 : Int) (v113 : Int) (v114 : List Qa) {o : f17n2O}, (f17n2 f bg1 ba2 v112 v113 v114) = some o → TL Try.prog Try.f17.ntmps 0 f (cL (cL (Qo 1 (cL (Qo 4 (Qo 3 c17)))))) (f17n2S bg1 ba2 v112 v113 v114) (fun r => r = f17n2E bg1 ba2 o)
 | 0, _, _, _, _, _, o, h => by rw [f17n2] at h; cases h
 | f + 1, bg1, ba2, v112, v113, v114, o, h => by
  rw [f17n2] at h
  refine TL.body (K := fun s => ∃ v112 : Int, ∃ v113 : Int, ∃ v114 : List Qa, s = (f17n2S bg1 ba2 v112 v113 v114) ∧ (f17n2 f bg1 ba2 v112 v113 v114) = some o) ?_ (by rintro _ ⟨v112, v113, v114, rfl, hk⟩; exact f17n2_ok f _ _ _ _ _ hk)
  rcases Qh h with ⟨h116, h⟩ | ⟨h116, h⟩
  ·obtain ⟨x133, h134, h⟩ := Qg h
   obtain ⟨x135, h136, h⟩ := Qg h
   rcases Qh h with ⟨h137, h⟩ | ⟨h137, h⟩
   ·obtain rfl := Qe h
    exact rK Qi 2 [([], [], [(2, .val (jI (bg1.length : Int)))]), ([], [(2, .idx (Int.toNat v113) (Qa.cells x133)), jH 5 (jI x135)], []), j3] [some true, some true] [] [0] [12, 13] .ret ((f17n2E bg1 ba2 .ret).2) (ap (Qn (xs := bg1) (c := Qa.cells)) (ap h116 (ap (Qf h134).1 (ap (Qk Qa.cells (Qf h134).2) (ap (f43_ok x133.Quantity h136) (ap h137 an)))))) (Qs.out rfl rfl)
   ·obtain ⟨x138, h139, h⟩ := Qg h
    rcases Qh h with ⟨h140, h⟩ | ⟨h140, h⟩
    ·rcases Qh h with ⟨h141, h⟩ | ⟨h141, h⟩
     ·rcases Qh h with ⟨h142, h⟩ | ⟨h142, h⟩
      ·exact rE Qi [([], [], [(2, .val (jI (bg1.length : Int)))]), ([], [(2, .idx (Int.toNat v113) (Qa.cells x133)), jH 5 (jI x135)], []), ([], [(2, .idx (Int.toNat v113) (Qa.cells x133)), jH 5 (jI x138)], []), j3, (jF [7, 8, 9, 10, 11, 12], [(2, .idx (Int.toNat v113) (Qa.cells x133)), (9, .idx (Int.toNat v113) (Qa.cells x133)), (13, .bool false)], []), j3] [some true, some false, some true, some false] [] [0, 1, 2] [12, 14, 15, 16, 17] (.norm, (f17n2S bg1 ba2 14 (wr64 (v113 + 1)) v114)) (ap (Qn (xs := bg1) (c := Qa.cells)) (ap h116 (ap (Qf h134).1 (ap (Qk Qa.cells (Qf h134).2) (ap (f43_ok x133.Quantity h136) (ap h137 (ap (Qf h134).1 (ap (Qk Qa.cells (Qf h134).2) (ap (f43_ok x133.Basis h139) (ap h140 (ap (Qf h134).1 (ap (Qk Qa.cells (Qf h134).2) (ap3 (Ql h141) (ap (Qf h134).1 (ap (Qk Qa.cells (Qf h134).2) (ap4 (Ql h141) (ap (Ql h142) an))))))))))))))))) (Qs.norm ⟨14, (wr64 (v113 + 1)), v114, rfl, h⟩)
      ·obtain ⟨h143, h⟩ := Qab h
       exact rE Qi [([], [], [(2, .val (jI (bg1.length : Int)))]), ([], [(2, .idx (Int.toNat v113) (Qa.cells x133)), jH 5 (jI x135)], []), ([], [(2, .idx (Int.toNat v113) (Qa.cells x133)), jH 5 (jI x138)], []), j3, (jF [7, 8, 9, 10, 11, 12], [(2, .idx (Int.toNat v113) (Qa.cells x133)), (9, .idx (Int.toNat v113) (Qa.cells x133)), (13, .bool false)], []), ([], [(4, .idx (Int.toNat v113) (Qa.cells x133)), (7, .fits)], [(7, .row 4 ((v114 ++ [x133]).map Qa.cells))]), j3] [some true, some false, some true, some true] [] [0, 1, 4] [12, 14, 15, 16, 17] (.norm, (f17n2S bg1 ba2 14 (wr64 (v113 + 1)) (v114 ++ [x133]))) (ap (Qn (xs := bg1) (c := Qa.cells)) (ap h116 (ap (Qf h134).1 (ap (Qk Qa.cells (Qf h134).2) (ap (f43_ok x133.Quantity h136) (ap h137 (ap (Qf h134).1 (ap (Qk Qa.cells (Qf h134).2) (ap (f43_ok x133.Basis h139) (ap h140 (ap (Qf h134).1 (ap (Qk Qa.cells (Qf h134).2) (ap3 (Ql h141) (ap (Qf h134).1 (ap (Qk Qa.cells (Qf h134).2) (ap4 (Ql h141) (ap (Qr h142) (ap (Qf h134).1 (ap (Qk Qa.cells (Qf h134).2) (ap (Qas (te := ti52) (xs := v114) (n := 1) (c := Qa.cells) h143 rfl) (ap (Qbw (xs := v114) (ys := [x133]) (c := Qa.cells)) an))))))))))))))))))))) (Qs.norm ⟨14, (wr64 (v113 + 1)), (v114 ++ [x133]), rfl, h⟩)
     ·obtain ⟨h144, h⟩ := Qab h
      exact rE Qi [([], [], [(2, .val (jI (bg1.length : Int)))]), ([], [(2, .idx (Int.toNat v113) (Qa.cells x133)), jH 5 (jI x135)], []), ([], [(2, .idx (Int.toNat v113) (Qa.cells x133)), jH 5 (jI x138)], []), j3, (jT [7, 8, 9, 10, 11, 12], [(2, .idx (Int.toNat v113) (Qa.cells x133)), (13, .bool true)], []), ([], [(4, .idx (Int.toNat v113) (Qa.cells x133)), (7, .fits)], [(7, .row 4 ((v114 ++ [x133]).map Qa.cells))]), j3] [some true, some false, some true, none] [] [0, 1, 4] [12, 14, 15, 16, 17] (.norm, (f17n2S bg1 ba2 14 (wr64 (v113 + 1)) (v114 ++ [x133]))) (ap (Qn (xs := bg1) (c := Qa.cells)) (ap h116 (ap (Qf h134).1 (ap (Qk Qa.cells (Qf h134).2) (ap (f43_ok x133.Quantity h136) (ap h137 (ap (Qf h134).1 (ap (Qk Qa.cells (Qf h134).2) (ap (f43_ok x133.Basis h139) (ap h140 (ap (Qf h134).1 (ap (Qk Qa.cells (Qf h134).2) (ap3 (Qr h141) (ap4 (Qr h141) (ap (Qf h134).1 (ap (Qk Qa.cells (Qf h134).2) (ap (Qas (te := ti52) (xs := v114) (n := 1) (c := Qa.cells) h144 rfl) (ap (Qbw (xs := v114) (ys := [x133]) (c := Qa.cells)) an)))))))))))))))))) (Qs.norm ⟨14, (wr64 (v113 + 1)), (v114 ++ [x133]), rfl, h⟩)
    ·rcases Qh h with ⟨h145, h⟩ | ⟨h145, h⟩
     ·rcases Qh h with ⟨h146, h⟩ | ⟨h146, h⟩
      ·exact rE Qi [([], [], [(2, .val (jI (bg1.length : Int)))]), ([], [(2, .idx (Int.toNat v113) (Qa.cells x133)), jH 5 (jI x135)], []), ([], [(2, .idx (Int.toNat v113) (Qa.cells x133)), jH 5 (jI x138)], []), (jF [7, 8, 9, 10, 11, 12], [(2, .idx (Int.toNat v113) (Qa.cells x133)), (9, .idx (Int.toNat v113) (Qa.cells x133)), (13, .bool false)], []), j3] [some true, some false, some false, some false] [] [0, 1, 2] [12, 14, 15, 16, 17] (.norm, (f17n2S bg1 ba2 v112 (wr64 (v113 + 1)) v114)) (ap (Qn (xs := bg1) (c := Qa.cells)) (ap h116 (ap (Qf h134).1 (ap (Qk Qa.cells (Qf h134).2) (ap (f43_ok x133.Quantity h136) (ap h137 (ap (Qf h134).1 (ap (Qk Qa.cells (Qf h134).2) (ap (f43_ok x133.Basis h139) (ap h140 (ap (Qf h134).1 (ap (Qk Qa.cells (Qf h134).2) (ap3 (Ql h145) (ap (Qf h134).1 (ap (Qk Qa.cells (Qf h134).2) (ap4 (Ql h145) (ap (Ql h146) an))))))))))))))))) (Qs.norm ⟨v112, (wr64 (v113 + 1)), v114, rfl, h⟩)
      ·obtain ⟨h147, h⟩ := Qab h
       exact rE Qi [([], [], [(2, .val (jI (bg1.length : Int)))]), ([], [(2, .idx (Int.toNat v113) (Qa.cells x133)), jH 5 (jI x135)], []), ([], [(2, .idx (Int.toNat v113) (Qa.cells x133)), jH 5 (jI x138)], []), (jF [7, 8, 9, 10, 11, 12], [(2, .idx (Int.toNat v113) (Qa.cells x133)), (9, .idx (Int.toNat v113) (Qa.cells x133)), (13, .bool false)], []), ([], [(4, .idx (Int.toNat v113) (Qa.cells x133)), (7, .fits)], [(7, .row 4 ((v114 ++ [x133]).map Qa.cells))]), j3] [some true, some false, some false, some true] [] [0, 1, 4] [12, 14, 15, 16, 17] (.norm, (f17n2S bg1 ba2 v112 (wr64 (v113 + 1)) (v114 ++ [x133]))) (ap (Qn (xs := bg1) (c := Qa.cells)) (ap h116 (ap (Qf h134).1 (ap (Qk Qa.cells (Qf h134).2) (ap (f43_ok x133.Quantity h136) (ap h137 (ap (Qf h134).1 (ap (Qk Qa.cells (Qf h134).2) (ap (f43_ok x133.Basis h139) (ap h140 (ap (Qf h134).1 (ap (Qk Qa.cells (Qf h134).2) (ap3 (Ql h145) (ap (Qf h134).1 (ap (Qk Qa.cells (Qf h134).2) (ap4 (Ql h145) (ap (Qr h146) (ap (Qf h134).1 (ap (Qk Qa.cells (Qf h134).2) (ap (Qas (te := ti52) (xs := v114) (n := 1) (c := Qa.cells) h147 rfl) (ap (Qbw (xs := v114) (ys := [x133]) (c := Qa.cells)) an))))))))))))))))))))) (Qs.norm ⟨v112, (wr64 (v113 + 1)), (v114 ++ [x133]), rfl, h⟩)
     ·obtain ⟨h148, h⟩ := Qab h
      exact rE Qi [([], [], [(2, .val (jI (bg1.length : Int)))]), ([], [(2, .idx (Int.toNat v113) (Qa.cells x133)), jH 5 (jI x135)], []), ([], [(2, .idx (Int.toNat v113) (Qa.cells x133)), jH 5 (jI x138)], []), (jT [7, 8, 9, 10, 11, 12], [(2, .idx (Int.toNat v113) (Qa.cells x133)), (13, .bool true)], []), ([], [(4, .idx (Int.toNat v113) (Qa.cells x133)), (7, .fits)], [(7, .row 4 ((v114 ++ [x133]).map Qa.cells))]), j3] [some true, some false, some false, none] [] [0, 1, 4] [12, 14, 15, 16, 17] (.norm, (f17n2S bg1 ba2 v112 (wr64 (v113 + 1)) (v114 ++ [x133]))) (ap (Qn (xs := bg1) (c := Qa.cells)) (ap h116 (ap (Qf h134).1 (ap (Qk Qa.cells (Qf h134).2) (ap (f43_ok x133.Quantity h136) (ap h137 (ap (Qf h134).1 (ap (Qk Qa.cells (Qf h134).2) (ap (f43_ok x133.Basis h139) (ap h140 (ap (Qf h134).1 (ap (Qk Qa.cells (Qf h134).2) (ap3 (Qr h145) (ap4 (Qr h145) (ap (Qf h134).1 (ap (Qk Qa.cells (Qf h134).2) (ap (Qas (te := ti52) (xs := v114) (n := 1) (c := Qa.cells) h148 rfl) (ap (Qbw (xs := v114) (ys := [x133]) (c := Qa.cells)) an)))))))))))))))))) (Qs.norm ⟨v112, (wr64 (v113 + 1)), (v114 ++ [x133]), rfl, h⟩)
  ·obtain rfl := Qe h
   exact rK Qi 1 [([], [], [(2, .val (jI (bg1.length : Int)))])] [some false] [] [0, 1, 2] [12, 15, 16] (.exit 0) ((f17n2E bg1 ba2 (.exit0 v112 v114)).2) (ap (Qn (xs := bg1) (c := Qa.cells)) (ap h116 an)) (Qs.out rfl rfl)
noncomputable def f17n2L (bg1 : List Qa) (ba2 : Qd) : List Qa → Int → Int → (List Qa) → Option f17n2O
 | [], v112, v113, v114 =>
  some (.exit0 v112 v114)
 | x0 :: rest, v112, v113, v114 =>
  (f43 x0.Quantity).bind fun x135 =>
  bif (decide (1048576 < x135)) then
   some .ret
  else
   (f43 x0.Basis).bind fun x138 =>
   bif (decide (1125899906842624 < x138)) then
    bif (decide (x0.Quantity = 0)) then
     bif (decide (x0.Basis = 0)) then
      (f17n2L bg1 ba2 rest 14 (v113 + 1) v114)
     else
      req (fit (v114.length + 1) 48) <|
      (f17n2L bg1 ba2 rest 14 (v113 + 1) (v114 ++ [x0]))
    else
     req (fit (v114.length + 1) 48) <|
     (f17n2L bg1 ba2 rest 14 (v113 + 1) (v114 ++ [x0]))
   else
    bif (decide (x0.Quantity = 0)) then
     bif (decide (x0.Basis = 0)) then
      (f17n2L bg1 ba2 rest v112 (v113 + 1) v114)
     else
      req (fit (v114.length + 1) 48) <|
      (f17n2L bg1 ba2 rest v112 (v113 + 1) (v114 ++ [x0]))
    else
     req (fit (v114.length + 1) 48) <|
     (f17n2L bg1 ba2 rest v112 (v113 + 1) (v114 ++ [x0]))
theorem f17n2L_eq (bg1 : List Qa) (ba2 : Qd) : ∀ (rest : List Qa) (f k : Nat) (v112 : Int) (v114 : List Qa), bg1.drop k = rest → bg1.length ≤ maxLen → rest.length < f → f17n2 f bg1 ba2 v112 (k : Int) v114 = f17n2L bg1 ba2 rest v112 (k : Int) v114
 | _, 0, _, _, _, _, _, hf => absurd hf (Nat.not_lt_zero _)
 | [], f + 1, k, v112, v114, hd, hm, hf => by
  have hk : ¬ ((k : Int) < (bg1.length : Int)) := by have := Qat hd; omega
  rw [f17n2, f17n2L]
  simp only [decide_eq_false hk, cond_false]
 | x0 :: rest, f + 1, k, v112, v114, hd, hm, hf => by
  obtain ⟨hx, hlt, hd'⟩ := Qak hd
  have hk : (k : Int) < (bg1.length : Int) := by omega
  have hw : wr64 ((k : Int) + 1) = (k : Int) + 1 := Qcf (by omega) (by unfold maxLen at hm; omega)
  have ih : ∀ (v112 : Int) (v114 : List Qa), f17n2 f bg1 ba2 v112 ((k : Int) + 1) v114 = f17n2L bg1 ba2 rest v112 ((k : Int) + 1) v114 := fun v112 v114 => f17n2L_eq bg1 ba2 rest f (k + 1) v112 v114 hd' hm (by simpa using hf)
  rw [f17n2, f17n2L]
  simp only [decide_eq_true hk, cond_true, Qao, hx, Option.bind_some, hw, ih]
theorem f17n2_run (bg1 : List Qa) (ba2 : Qd) (v112 : Int) (v114 : List Qa) (hm : bg1.length ≤ maxLen) : f17n2 FUEL bg1 ba2 v112 0 v114 = f17n2L bg1 ba2 bg1 v112 0 v114 := f17n2L_eq bg1 ba2 bg1 FUEL 0 v112 v114 List.drop_zero hm (Qbp hm)
inductive f17n1O where
 | norm (v155 : Int) (v156 : List Qa)
 | ret
def f17n1E (bg1 : List Qa) (ba2 : Qd) : f17n1O → Ex × Tr × Hp
 | .norm v155 v156 => (.norm, mkS [(12, (.bp 0 0)), (15, (.bp 1 0)), (16, (jI v155))], [some (.box [(jI 0), (.pl (.sl .nil 0 []))]), some (.box [(jI ba2.Day), (.own 2)]), jR 4 Qa.cells v156])
 | .ret => (.ret, mkS [(12, (.bp 0 0)), (13, (jI 52))], [some (.box [(jI 0), (.pl (.sl .nil 0 []))])])
def f17n1S (bg1 : List Qa) (ba2 : Qd) : Tr × Hp := (mkS [(12, (.bp 0 0)), (14, (jL 4 Qa.cells bg1)), (15, (.bp 1 0)), (16, (jI 0))], [some (.box [(jI 0), (.pl (.sl .nil 0 []))]), some (.box [(jI ba2.Day), (.pl (.sl .nil 0 []))])])
noncomputable def f17n1 (bg1 : List Qa) (ba2 : Qd) : Option f17n1O :=
 (f17n2 FUEL bg1 ba2 0 0 []).bind fun o151 => match o151 with
 | .exit0 v153 v154 => some (.norm v153 v154)
 | .ret => some .ret
theorem f17n1_ok (bg1 : List Qa) (ba2 : Qd) {o : f17n1O} (h : (f17n1 bg1 ba2) = some o) : T Try.prog Try.f17.ntmps 0 (cL (Qo 4 (Qo 3 c17))) (f17n1S bg1 ba2) (fun r => r = f17n1E bg1 ba2 o) := by
 unfold f17n1 at h
 refine rN Qi 1 [j3] [] [.matC 1 1 4] [0, 1, 2] [12, 14, 15, 16, 17] (f17n2S bg1 ba2 0 0 []) an ?_
 obtain ⟨o151, h152, h⟩ := Qg h
 cases o151 with
 | exit0 v153 v154 =>
  obtain rfl := Qe h
  exact T.last' (T.bl (i := 0) (by kernel_rfl) (by kernel_rfl) (f17n2_ok FUEL bg1 ba2 0 0 [] h152)) (tds := []) (m := [0, 1, 2]) (keep := [12, 15, 16]) (st2 := (f17n1E bg1 ba2 (.norm v153 v154)).2) (by kernel_rfl) an rfl
 | ret =>
  obtain rfl := Qe h
  exact T.last' (T.bl (i := 0) (by kernel_rfl) (by kernel_rfl) (f17n2_ok FUEL bg1 ba2 0 0 [] h152)) (tds := []) (m := [0]) (keep := [12, 13]) (st2 := (f17n1E bg1 ba2 .ret).2) (by kernel_rfl) an rfl
inductive f17n4O where
 | norm (v166 : Bool)
def f17n4E (be1 : Int) (ba2 : Qd) (bg3 : List Qa) : f17n4O → Ex × Tr × Hp
 | .norm v166 => (.norm, mkS [(12, (.bp 0 0)), (15, (.bp 1 0)), (16, (jI be1)), (132, (jB v166))], [some (.box [(jI 0), (.pl (.sl .nil 0 []))]), some (.box [(jI ba2.Day), (.own 2)]), jR 4 Qa.cells bg3])
def f17n4S (be1 : Int) (ba2 : Qd) (bg3 : List Qa) : Tr × Hp := (mkS [(12, (.bp 0 0)), (15, (.bp 1 0)), (16, (jI be1))], [some (.box [(jI 0), (.pl (.sl .nil 0 []))]), some (.box [(jI ba2.Day), (.own 2)]), jR 4 Qa.cells bg3])
noncomputable def f17n4 (be1 : Int) (ba2 : Qd) (bg3 : List Qa) : Option f17n4O :=
 bif (decide (be1 = 0)) then
  some (.norm (decide (200 < (bg3.length : Int))))
 else
  some (.norm false)
theorem f17n4_ok (be1 : Int) (ba2 : Qd) (bg3 : List Qa) {o : f17n4O} (h : (f17n4 be1 ba2 bg3) = some o) : T Try.prog Try.f17.ntmps 0 (cL (Qo 0 (cL (Qo 0 (Qo 1 (Qo 4 (Qo 3 c17))))))) (f17n4S be1 ba2 bg3) (fun r => r = f17n4E be1 ba2 bg3 o) := by
 unfold f17n4 at h
 rcases Qh h with ⟨h165, h⟩ | ⟨h165, h⟩
 ·obtain rfl := Qe h
  exact rE Qi [(jT [3, 4, 5, 6], [(7, .bool true)], [(5, .val (jI (bg3.length : Int)))])] [] [] [0, 1, 2] [12, 15, 16, 132] (.norm, (f17n4E be1 ba2 bg3 (.norm (decide (200 < (bg3.length : Int))))).2) (ap3 h165 (ap (Qn (xs := bg3) (c := Qa.cells)) (ap2 h165 an))) rfl
 ·obtain rfl := Qe h
  exact rE Qi [(jF [3, 4, 5, 6], [(7, .bool false)], [])] [] [] [0, 1, 2] [12, 15, 16, 132] (.norm, (f17n4E be1 ba2 bg3 (.norm false)).2) (ap h165 (ap4 h165 an)) rfl
inductive f17n3O where
 | norm (v172 : Int)
def f17n3E (be1 : Int) (ba2 : Qd) (bg3 : List Qa) : f17n3O → Ex × Tr × Hp
 | .norm v172 => (.norm, mkS [(12, (.bp 0 0)), (15, (.bp 1 0)), (16, (jI v172))], [some (.box [(jI 0), (.pl (.sl .nil 0 []))]), some (.box [(jI ba2.Day), (.own 2)]), jR 4 Qa.cells bg3])
def f17n3S (be1 : Int) (ba2 : Qd) (bg3 : List Qa) : Tr × Hp := (mkS [(12, (.bp 0 0)), (15, (.bp 1 0)), (16, (jI be1))], [some (.box [(jI 0), (.pl (.sl .nil 0 []))]), some (.box [(jI ba2.Day), (.own 2)]), jR 4 Qa.cells bg3])
noncomputable def f17n3 (be1 : Int) (ba2 : Qd) (bg3 : List Qa) : Option f17n3O :=
 (f17n4 be1 ba2 bg3).bind fun o167 => match o167 with
 | .norm v169 => bif v169 then
   some (.norm 22)
  else
   some (.norm be1)
theorem f17n3_ok (be1 : Int) (ba2 : Qd) (bg3 : List Qa) {o : f17n3O} (h : (f17n3 be1 ba2 bg3) = some o) : T Try.prog Try.f17.ntmps 0 (cL (Qo 0 (Qo 1 (Qo 4 (Qo 3 c17))))) (f17n3S be1 ba2 bg3) (fun r => r = f17n3E be1 ba2 bg3 o) := by
 unfold f17n3 at h
 refine rN Qi 0 [] [] [] [0, 1, 2] [12, 15, 16] (f17n4S be1 ba2 bg3) an ?_
 obtain ⟨o167, h168, h⟩ := Qg h
 cases o167 with
 | norm v169 =>
  refine T.oneN (by kernel_rfl) (f17n4_ok be1 ba2 bg3 h168) (st2 := (f17n4E be1 ba2 bg3 (.norm v169)).2) rfl ?_
  rcases Qh h with ⟨h171, h⟩ | ⟨h171, h⟩
  ·obtain rfl := Qe h
   exact rE Qi [j3] [some true] [] [0, 1, 2] [12, 15, 16] (.norm, (f17n3E be1 ba2 bg3 (.norm 22)).2) (ap h171 an) rfl
  ·obtain rfl := Qe h
   exact rE Qi [] [some false] [] [0, 1, 2] [12, 15, 16] (.norm, (f17n3E be1 ba2 bg3 (.norm be1)).2) (ap h171 an) rfl
inductive f17n0O where
 | ret (v178 : Int) (v179 : Int) (v180 : List Qa)
def f17n0E (a1 : Qd) (a2 : ByteArray) (a3 : ByteArray) (a4 : ByteArray) (a5 : Int) (a6 : Int) : f17n0O → Ex × Tr × Hp
 | .ret v178 v179 v180 => (.ret, mkS [(12, (.bp 0 0)), (13, (jI v178))], [some (.box [(jI v179), (.own 1)]), jR 4 Qa.cells v180])
def f17n0S (a1 : Qd) (a2 : ByteArray) (a3 : ByteArray) (a4 : ByteArray) (a5 : Int) (a6 : Int) : Tr × Hp := (Qaz [(jA Qd.cells a1), (jS a2), (jS a3), (jS a4), (jI a5), (jI a6)] 0 .leaf, [])
noncomputable def f17n0 (a1 : Qd) (a2 : ByteArray) (a3 : ByteArray) (a4 : ByteArray) (a5 : Int) (a6 : Int) : Option f17n0O :=
 (f34 a1).bind fun x10 =>
 bif (decide (x10 = 0)) then
  (f48 a2).bind fun x27 =>
  bif x27 then
   (f48 a3).bind fun x30 =>
   bif x30 then
    bif (seq a2 a3) then
     some (.ret 2 0 [])
    else
     (f49 a4).bind fun x34 =>
     bif x34 then
      bif (decide (a5 < 1)) then
       some (.ret 2 0 [])
      else
       bif (decide (1048576 < a5)) then
        some (.ret 2 0 [])
       else
        bif (decide (a6 < (-536870912))) then
         some (.ret 2 0 [])
        else
         bif (decide (536870912 < a6)) then
          some (.ret 2 0 [])
         else
          (f50 a1.Positions (Qa.mk a2 a4 a5 (wr64 (a5 * a6)))).bind fun x43 =>
          (f50 x43 (Qa.mk a3 a4 (wr64 (0 - a5)) (wr64 ((wr64 (0 - a5)) * a6)))).bind fun x47 =>
          (f17n1 x47 a1).bind fun o157 => match o157 with
          | .norm v159 v160 => (f17n3 v159 a1 v160).bind fun o173 => match o173 with
           | .norm v175 => bif (decide (v175 = 0)) then
             some (.ret 0 a1.Day v160)
            else
             some (.ret v175 0 [])
          | .ret => some (.ret 52 0 [])
     else
      some (.ret 2 0 [])
   else
    some (.ret 2 0 [])
  else
   some (.ret 2 0 [])
 else
  some (.ret 8 0 [])
theorem f17n0_ok (a1 : Qd) (a2 : ByteArray) (a3 : ByteArray) (a4 : ByteArray) (a5 : Int) (a6 : Int) {o : f17n0O} (h : (f17n0 a1 a2 a3 a4 a5 a6) = some o) : T Try.prog Try.f17.ntmps 0 c17 (f17n0S a1 a2 a3 a4 a5 a6) (fun r => r = f17n0E a1 a2 a3 a4 a5 a6 o) := by
 unfold f17n0 at h
 obtain ⟨x10, h11, h⟩ := Qg h
 rcases Qh h with ⟨h12, h⟩ | ⟨h12, h⟩
 ·obtain ⟨x27, h28, h⟩ := Qg h
  rcases Qh h with ⟨h29, h⟩ | ⟨h29, h⟩
  ·obtain ⟨x30, h31, h⟩ := Qg h
   rcases Qh h with ⟨h32, h⟩ | ⟨h32, h⟩
   ·rcases Qh h with ⟨h33, h⟩ | ⟨h33, h⟩
    ·obtain rfl := Qe h
     exact rK Qi 3 [j3, ([], [jH 1 (jI x10)], []), (jF [4, 5, 6, 9, 10, 11] ++ jT [14, 15, 16], [jH 1 (jB x27), jH 5 (jB x30), (7, .bool false), (12, .bool false), (17, .bool true)], []), j3] [some false, none] [.matC 1 1 4] [1, 2] [12, 13] .ret ((f17n0E a1 a2 a3 a4 a5 a6 (.ret 2 0 [])).2) (ap (f34_ok a1 h11) (ap (Ql h12) (ap4 (Ql h29) (ap4 (Ql h32) (ap4 h33 (ap (Qcn a2 h28) (ap (Qcn a3 h31) an))))))) rfl
    ·obtain ⟨x34, h35, h⟩ := Qg h
     rcases Qh h with ⟨h36, h⟩ | ⟨h36, h⟩
     ·rcases Qh h with ⟨h37, h⟩ | ⟨h37, h⟩
      ·obtain rfl := Qe h
       exact rK Qi 3 [j3, ([], [jH 1 (jI x10)], []), (jF [4, 5, 6, 9, 10, 11, 14, 15, 16, 19, 20] ++ jT [23, 24], [jH 1 (jB x27), jH 5 (jB x30), (7, .bool false), (12, .bool false), jH 15 (jB x34), (17, .bool false), (21, .bool false), (25, .bool true)], []), j3] [some false, none] [.matC 1 1 4] [1, 2] [12, 13] .ret ((f17n0E a1 a2 a3 a4 a5 a6 (.ret 2 0 [])).2) (ap (f34_ok a1 h11) (ap (Ql h12) (ap4 (Ql h29) (ap4 (Ql h32) (ap4 h33 (ap3 (Ql h36) (ap3 h37 (ap (Qcn a2 h28) (ap (Qcn a3 h31) (ap (f49_ok a4 h35) an)))))))))) rfl
      ·rcases Qh h with ⟨h38, h⟩ | ⟨h38, h⟩
       ·obtain rfl := Qe h
        exact rK Qi 3 [j3, ([], [jH 1 (jI x10)], []), (jF [4, 5, 6, 9, 10, 11, 14, 15, 16, 19, 20, 23, 24] ++ jT [27, 28], [jH 1 (jB x27), jH 5 (jB x30), (7, .bool false), (12, .bool false), jH 15 (jB x34), (17, .bool false), (21, .bool false), (25, .bool false), (29, .bool true)], []), j3] [some false, none] [.matC 1 1 4] [1, 2] [12, 13] .ret ((f17n0E a1 a2 a3 a4 a5 a6 (.ret 2 0 [])).2) (ap (f34_ok a1 h11) (ap (Ql h12) (ap4 (Ql h29) (ap4 (Ql h32) (ap4 h33 (ap3 (Ql h36) (ap3 h37 (ap3 h38 (ap (Qcn a2 h28) (ap (Qcn a3 h31) (ap (f49_ok a4 h35) an))))))))))) rfl
       ·rcases Qh h with ⟨h39, h⟩ | ⟨h39, h⟩
        ·obtain rfl := Qe h
         exact rK Qi 3 [j3, ([], [jH 1 (jI x10)], []), (jF [4, 5, 6, 9, 10, 11, 14, 15, 16, 19, 20, 23, 24, 27, 28] ++ jT [31, 32], [jH 1 (jB x27), jH 5 (jB x30), (7, .bool false), (12, .bool false), jH 15 (jB x34), (17, .bool false), (21, .bool false), (25, .bool false), (29, .bool false), (33, .bool true)], []), j3] [some false, none] [.matC 1 1 4] [1, 2] [12, 13] .ret ((f17n0E a1 a2 a3 a4 a5 a6 (.ret 2 0 [])).2) (ap (f34_ok a1 h11) (ap (Ql h12) (ap4 (Ql h29) (ap4 (Ql h32) (ap4 h33 (ap3 (Ql h36) (ap3 h37 (ap3 h38 (ap3 h39 (ap (Qcn a2 h28) (ap (Qcn a3 h31) (ap (f49_ok a4 h35) an)))))))))))) rfl
        ·rcases Qh h with ⟨h40, h⟩ | ⟨h40, h⟩
         ·obtain rfl := Qe h
          exact rK Qi 3 [j3, ([], [jH 1 (jI x10)], []), (jF [4, 5, 6, 9, 10, 11, 14, 15, 16, 19, 20, 23, 24, 27, 28, 31, 32], [jH 1 (jB x27), jH 5 (jB x30), (7, .bool false), (12, .bool false), jH 15 (jB x34), (17, .bool false), (21, .bool false), (25, .bool false), (29, .bool false), (33, .bool false)], []), j3] [some false, some true] [.matC 1 1 4] [1, 2] [12, 13] .ret ((f17n0E a1 a2 a3 a4 a5 a6 (.ret 2 0 [])).2) (ap (f34_ok a1 h11) (ap (Ql h12) (ap4 (Ql h29) (ap4 (Ql h32) (ap4 h33 (ap3 (Ql h36) (ap3 h37 (ap3 h38 (ap3 h39 (ap (Qcn a2 h28) (ap (Qcn a3 h31) (ap (f49_ok a4 h35) (ap h40 an))))))))))))) rfl
         ·refine rN Qi 3 [j3, ([], [jH 1 (jI x10)], []), (jF [4, 5, 6, 9, 10, 11, 14, 15, 16, 19, 20, 23, 24, 27, 28, 31, 32], [jH 1 (jB x27), jH 5 (jB x30), (7, .bool false), (12, .bool false), jH 15 (jB x34), (17, .bool false), (21, .bool false), (25, .bool false), (29, .bool false), (33, .bool false)], [])] [some false, some false] [] [0, 1] [1, 2, 3, 4, 5, 6, 12] (mkS [(1, (jS a2)), (2, (jS a3)), (3, (jS a4)), (4, (jI a5)), (5, (jI a6)), (6, (.bp 0 0)), (12, (.bp 1 0))], [some (.box ((Qd.cells a1).map .pl)), some (.box [(jI 0), (.pl (.sl .nil 0 []))])]) (ap (f34_ok a1 h11) (ap (Ql h12) (ap4 (Ql h29) (ap4 (Ql h32) (ap4 h33 (ap3 (Ql h36) (ap3 h37 (ap3 h38 (ap3 h39 (ap (Qcn a2 h28) (ap (Qcn a3 h31) (ap (f49_ok a4 h35) (ap h40 an))))))))))))) ?_
          obtain ⟨x43, h44, h⟩ := Qg h
          obtain ⟨x47, h48, h⟩ := Qg h
          refine rN Qi 4 [([], [jH 9 (jL 4 Qa.cells x43)], []), ([], [jH 10 (jL 4 Qa.cells x47)], []), j3, j3] [] [] [1, 2] [12, 14, 15, 16] (f17n1S x47 a1) (ap (f50_ok a1.Positions (Qa.mk a2 a4 a5 (wr64 (a5 * a6))) h44) (ap (f50_ok x43 (Qa.mk a3 a4 (wr64 (0 - a5)) (wr64 ((wr64 (0 - a5)) * a6))) h48) an)) ?_
          obtain ⟨o157, h158, h⟩ := Qg h
          cases o157 with
          | norm v159 v160 =>
           refine T.oneN (by kernel_rfl) (f17n1_ok x47 a1 h158) (st2 := (f17n1E x47 a1 (.norm v159 v160)).2) rfl ?_
           refine rN Qi 0 [] [] [] [0, 1, 2] [12, 15, 16] (f17n3S v159 a1 v160) an ?_
           obtain ⟨o173, h174, h⟩ := Qg h
           cases o173 with
           | norm v175 =>
            refine T.oneN (by kernel_rfl) (f17n3_ok v159 a1 v160 h174) (st2 := (f17n3E v159 a1 v160 (.norm v175)).2) rfl ?_
            rcases Qh h with ⟨h177, h⟩ | ⟨h177, h⟩
            ·obtain rfl := Qe h
             exact rE Qi [j3, j3] [some false] [] [0, 2] [12, 13] (.ret, (f17n0E a1 a2 a3 a4 a5 a6 (.ret 0 a1.Day v160)).2) (ap (Ql h177) an) rfl
            ·obtain rfl := Qe h
             exact rK Qi 1 [j3, j3] [some true] [.matC 0 1 4] [0, 3] [12, 13] .ret ((f17n0E a1 a2 a3 a4 a5 a6 (.ret v175 0 [])).2) (ap (Qr h177) an) rfl
          | ret =>
           obtain rfl := Qe h
           exact T.oneX' (by kernel_rfl) (f17n1_ok x47 a1 h158) (tds := [.matC 0 1 4]) (m := [0, 1]) (keep := [12, 13]) (st2 := (f17n0E a1 a2 a3 a4 a5 a6 (.ret 52 0 [])).2) (by kernel_rfl) an rfl rfl
     ·obtain rfl := Qe h
      exact rK Qi 3 [j3, ([], [jH 1 (jI x10)], []), (jF [4, 5, 6, 9, 10, 11, 14, 15, 16] ++ jT [19, 20], [jH 1 (jB x27), jH 5 (jB x30), (7, .bool false), (12, .bool false), jH 15 (jB x34), (17, .bool false), (21, .bool true)], []), j3] [some false, none] [.matC 1 1 4] [1, 2] [12, 13] .ret ((f17n0E a1 a2 a3 a4 a5 a6 (.ret 2 0 [])).2) (ap (f34_ok a1 h11) (ap (Ql h12) (ap4 (Ql h29) (ap4 (Ql h32) (ap4 h33 (ap3 (Qr h36) (ap (Qcn a2 h28) (ap (Qcn a3 h31) (ap (f49_ok a4 h35) an))))))))) rfl
   ·obtain rfl := Qe h
    exact rK Qi 3 [j3, ([], [jH 1 (jI x10)], []), (jF [4, 5, 6] ++ jT [9, 10, 11], [jH 1 (jB x27), jH 5 (jB x30), (7, .bool false), (12, .bool true)], []), j3] [some false, none] [.matC 1 1 4] [1, 2] [12, 13] .ret ((f17n0E a1 a2 a3 a4 a5 a6 (.ret 2 0 [])).2) (ap (f34_ok a1 h11) (ap (Ql h12) (ap4 (Ql h29) (ap4 (Qr h32) (ap (Qcn a2 h28) (ap (Qcn a3 h31) an)))))) rfl
  ·obtain rfl := Qe h
   exact rK Qi 3 [j3, ([], [jH 1 (jI x10)], []), (jT [4, 5, 6], [jH 1 (jB x27), (7, .bool true)], []), j3] [some false, none] [.matC 1 1 4] [1, 2] [12, 13] .ret ((f17n0E a1 a2 a3 a4 a5 a6 (.ret 2 0 [])).2) (ap (f34_ok a1 h11) (ap (Ql h12) (ap4 (Qr h29) (ap (Qcn a2 h28) an)))) rfl
 ·obtain rfl := Qe h
  exact rK Qi 2 [j3, ([], [jH 1 (jI x10)], []), j3] [some true] [.matC 1 1 4] [1, 2] [12, 13] .ret ((f17n0E a1 a2 a3 a4 a5 a6 (.ret 8 0 [])).2) (ap (f34_ok a1 h11) (ap (Qr h12) an)) rfl
noncomputable def f17 (a1 : Qd) (a2 : ByteArray) (a3 : ByteArray) (a4 : ByteArray) (a5 : Int) (a6 : Int) : Option (Qd × Int) := (f17n0 a1 a2 a3 a4 a5 a6).bind fun o => match o with
 | .ret v178 v179 v180 => some ((Qd.mk v179 v180), v178)
theorem f17_ok (a1 : Qd) (a2 : ByteArray) (a3 : ByteArray) (a4 : ByteArray) (a5 : Int) (a6 : Int) {r : Qd × Int} (h : (f17 a1 a2 a3 a4 a5 a6) = some r) : Qu Try.prog false 17 [(jA Qd.cells a1), (jS a2), (jS a3), (jS a4), (jI a5), (jI a6)] [] (.tup [(jA Qd.cells r.1), (jI r.2)]) [] := by
 unfold f17 at h
 obtain ⟨o, ho, h⟩ := Qg h
 cases o with
 | ret v178 v179 v180 =>
  obtain rfl := Qe h
  exact Qu.plain Qi (f := Try.f17) (c := c17) (by kernel_rfl) (by kernel_rfl) (by kernel_rfl) (by kernel_rfl) ((f17n0_ok a1 a2 a3 a4 a5 a6 ho).mono fun r e => by subst e; exact ⟨.inl rfl, (.tup [(.agg [(jI v179), (.own 1)]), (jI v178)]), (.tup [(.pl (.agg (Qd.cells (Qd.mk v179 v180)))), (jI v178)]), by kernel_rfl, by kernel_rfl, ((Wk.refl _) : Wk (.tup [(.pl (.agg (Qd.cells (Qd.mk v179 v180)))), (jI v178)]) (.tup [(.pl (.agg (Qd.cells (Qd.mk v179 v180)))), (jI v178)]))⟩)

noncomputable def c3 : Code := Try.f3.body.getD .skip
inductive f3n2O where
 | exit0
 | ret
def f3n2E (bk1 : List Op_) (bl2 : Bool) : f3n2O → Ex × Tr × Hp
 | .exit0 => ((.exit 0), mkS [(3, (jB bl2))], [])
 | .ret => (.ret, mkS [(2, (jB false))], [])
def f3n2S (bk1 : List Op_) (bl2 : Bool) (v139 : Int) (v140 : Qd) (v141 : Qd) : Tr × Hp := (mkS [(0, (jL 8 Op_.cells bk1)), (3, (jB bl2)), (4, (.bp 0 0)), (6, (.bp 1 0)), (8, (jI v139))], [some (.box ((Qd.cells v140).map .pl)), some (.box ((Qd.cells v141).map .pl))])
noncomputable def f3n2 : Nat → List Op_ → Bool → Int → Qd → Qd → Option f3n2O
 | 0, _, _, _, _, _ => none
 | f + 1, bk1, bl2, v139, v140, v141 =>
  bif (decide (v139 < (bk1.length : Int))) then
   (at? bk1 v139).bind fun x171 =>
   bif (decide (x171.Kind = 0)) then
    (f14 v140 (wr64 (v140.Day + x171.Day)) x171.Prices).bind fun x174 =>
    (f15 v141 (wr64 (v141.Day + x171.Day)) x171.Prices).bind fun x176 =>
    (f18 x174.1 x176.1).bind fun x178 =>
    bif x178 then
     (f19 x174.2.1 x176.2.1).bind fun x181 =>
     bif x181 then
      bif (decide (x174.2.2 = x176.2.2)) then
       bif (decide (x174.2.2 = 0)) then
        (f3n2 f bk1 bl2 (wr64 (v139 + 1)) x174.1 x176.1)
       else
        (f3n2 f bk1 bl2 (wr64 (v139 + 1)) v140 v141)
      else
       some .ret
     else
      some .ret
    else
     some .ret
   else
    (f16 v140 x171.Buyer x171.Seller x171.Product x171.Quantity x171.Price).bind fun x186 =>
    (f17 v141 x171.Buyer x171.Seller x171.Product x171.Quantity x171.Price).bind fun x188 =>
    (f18 x186.1 x188.1).bind fun x190 =>
    bif x190 then
     (f19 [] []).bind fun x193 =>
     bif x193 then
      bif (decide (x186.2 = x188.2)) then
       bif (decide (x186.2 = 0)) then
        (f3n2 f bk1 bl2 (wr64 (v139 + 1)) x186.1 x188.1)
       else
        (f3n2 f bk1 bl2 (wr64 (v139 + 1)) v140 v141)
      else
       some .ret
     else
      some .ret
    else
     some .ret
  else
   some .exit0
theorem f3n2_ok : ∀ (f : Nat) (bk1 : List Op_) (bl2 : Bool) (v139 : Int) (v140 : Qd) (v141 : Qd) {o : f3n2O}, (f3n2 f bk1 bl2 v139 v140 v141) = some o → TL Try.prog Try.f3.ntmps 0 f (cL (cL (Qo 1 (cL (Qo 6 c3))))) (f3n2S bk1 bl2 v139 v140 v141) (fun r => r = f3n2E bk1 bl2 o)
 | 0, _, _, _, _, _, o, h => by rw [f3n2] at h; cases h
 | f + 1, bk1, bl2, v139, v140, v141, o, h => by
  rw [f3n2] at h
  refine TL.body (K := fun s => ∃ v139 : Int, ∃ v140 : Qd, ∃ v141 : Qd, s = (f3n2S bk1 bl2 v139 v140 v141) ∧ (f3n2 f bk1 bl2 v139 v140 v141) = some o) ?_ (by rintro _ ⟨v139, v140, v141, rfl, hk⟩; exact f3n2_ok f _ _ _ _ _ hk)
  rcases Qh h with ⟨h143, h⟩ | ⟨h143, h⟩
  ·obtain ⟨x171, h172, h⟩ := Qg h
   rcases Qh h with ⟨h173, h⟩ | ⟨h173, h⟩
   ·obtain ⟨x174, h175, h⟩ := Qg h
    obtain ⟨x176, h177, h⟩ := Qg h
    obtain ⟨x178, h179, h⟩ := Qg h
    rcases Qh h with ⟨h180, h⟩ | ⟨h180, h⟩
    ·obtain ⟨x181, h182, h⟩ := Qg h
     rcases Qh h with ⟨h183, h⟩ | ⟨h183, h⟩
     ·rcases Qh h with ⟨h184, h⟩ | ⟨h184, h⟩
      ·rcases Qh h with ⟨h185, h⟩ | ⟨h185, h⟩
       ·exact rE Qi [([], [], [(2, .val (jI (bk1.length : Int)))]), ([], [(2, .idx (Int.toNat v139) (Op_.cells x171))], []), j3, j3, j3, ([], [jH 8 (.tup [(jA Qd.cells x174.1), (jL 2 Qb.cells x174.2.1), (jI x174.2.2)])], []), ([], [jH 8 (.tup [(jA Qd.cells x176.1), (jL 2 Qb.cells x176.2.1), (jI x176.2.2)])], []), (jF [5, 6, 7, 8, 11, 12, 13], [jH 2 (jB x178), jH 7 (jB x181), (9, .bool false), (14, .bool false)], []), j3, j3, j3] [some true, some true, some false, some true] [] [0, 1] [0, 3, 4, 6, 8] (.norm, (f3n2S bk1 bl2 (wr64 (v139 + 1)) x174.1 x176.1)) (ap (Qn (xs := bk1) (c := Op_.cells)) (ap h143 (ap (Qf h172).1 (ap (Qk Op_.cells (Qf h172).2) (ap h173 (ap (f14_ok v140 (wr64 (v140.Day + x171.Day)) x171.Prices h175) (ap (f15_ok v141 (wr64 (v141.Day + x171.Day)) x171.Prices h177) (ap (Ql h180) (ap4 (Ql h180) (ap4 (Ql h183) (ap (f18_ok x174.1 x176.1 h179) (ap (f19_ok x174.2.1 x176.2.1 h182) (ap (Ql h184) (ap h185 an)))))))))))))) (Qs.norm ⟨(wr64 (v139 + 1)), x174.1, x176.1, rfl, h⟩)
       ·exact rE Qi [([], [], [(2, .val (jI (bk1.length : Int)))]), ([], [(2, .idx (Int.toNat v139) (Op_.cells x171))], []), j3, j3, j3, ([], [jH 8 (.tup [(jA Qd.cells x174.1), (jL 2 Qb.cells x174.2.1), (jI x174.2.2)])], []), ([], [jH 8 (.tup [(jA Qd.cells x176.1), (jL 2 Qb.cells x176.2.1), (jI x176.2.2)])], []), (jF [5, 6, 7, 8, 11, 12, 13], [jH 2 (jB x178), jH 7 (jB x181), (9, .bool false), (14, .bool false)], []), j3, j3] [some true, some true, some false, some false] [] [0, 1] [0, 3, 4, 6, 8] (.norm, (f3n2S bk1 bl2 (wr64 (v139 + 1)) v140 v141)) (ap (Qn (xs := bk1) (c := Op_.cells)) (ap h143 (ap (Qf h172).1 (ap (Qk Op_.cells (Qf h172).2) (ap h173 (ap (f14_ok v140 (wr64 (v140.Day + x171.Day)) x171.Prices h175) (ap (f15_ok v141 (wr64 (v141.Day + x171.Day)) x171.Prices h177) (ap (Ql h180) (ap4 (Ql h180) (ap4 (Ql h183) (ap (f18_ok x174.1 x176.1 h179) (ap (f19_ok x174.2.1 x176.2.1 h182) (ap (Ql h184) (ap h185 an)))))))))))))) (Qs.norm ⟨(wr64 (v139 + 1)), v140, v141, rfl, h⟩)
      ·obtain rfl := Qe h
       exact rK Qi 2 [([], [], [(2, .val (jI (bk1.length : Int)))]), ([], [(2, .idx (Int.toNat v139) (Op_.cells x171))], []), j3, j3, j3, ([], [jH 8 (.tup [(jA Qd.cells x174.1), (jL 2 Qb.cells x174.2.1), (jI x174.2.2)])], []), ([], [jH 8 (.tup [(jA Qd.cells x176.1), (jL 2 Qb.cells x176.2.1), (jI x176.2.2)])], []), (jF [5, 6, 7, 8, 11, 12, 13], [jH 2 (jB x178), jH 7 (jB x181), (9, .bool false), (14, .bool false)], []), j3] [some true, some true, some true] [] [] [2] .ret ((f3n2E bk1 bl2 .ret).2) (ap (Qn (xs := bk1) (c := Op_.cells)) (ap h143 (ap (Qf h172).1 (ap (Qk Op_.cells (Qf h172).2) (ap h173 (ap (f14_ok v140 (wr64 (v140.Day + x171.Day)) x171.Prices h175) (ap (f15_ok v141 (wr64 (v141.Day + x171.Day)) x171.Prices h177) (ap (Ql h180) (ap4 (Ql h180) (ap4 (Ql h183) (ap (f18_ok x174.1 x176.1 h179) (ap (f19_ok x174.2.1 x176.2.1 h182) (ap (Qr h184) an))))))))))))) (Qs.out rfl rfl)
     ·obtain rfl := Qe h
      exact rK Qi 2 [([], [], [(2, .val (jI (bk1.length : Int)))]), ([], [(2, .idx (Int.toNat v139) (Op_.cells x171))], []), j3, j3, j3, ([], [jH 8 (.tup [(jA Qd.cells x174.1), (jL 2 Qb.cells x174.2.1), (jI x174.2.2)])], []), ([], [jH 8 (.tup [(jA Qd.cells x176.1), (jL 2 Qb.cells x176.2.1), (jI x176.2.2)])], []), (jF [5, 6, 7, 8] ++ jT [11, 12, 13], [jH 2 (jB x178), jH 7 (jB x181), (9, .bool false), (14, .bool true)], []), j3] [some true, some true, none] [] [] [2] .ret ((f3n2E bk1 bl2 .ret).2) (ap (Qn (xs := bk1) (c := Op_.cells)) (ap h143 (ap (Qf h172).1 (ap (Qk Op_.cells (Qf h172).2) (ap h173 (ap (f14_ok v140 (wr64 (v140.Day + x171.Day)) x171.Prices h175) (ap (f15_ok v141 (wr64 (v141.Day + x171.Day)) x171.Prices h177) (ap (Ql h180) (ap4 (Ql h180) (ap4 (Qr h183) (ap (f18_ok x174.1 x176.1 h179) (ap (f19_ok x174.2.1 x176.2.1 h182) an)))))))))))) (Qs.out rfl rfl)
    ·obtain rfl := Qe h
     exact rK Qi 2 [([], [], [(2, .val (jI (bk1.length : Int)))]), ([], [(2, .idx (Int.toNat v139) (Op_.cells x171))], []), j3, j3, j3, ([], [jH 8 (.tup [(jA Qd.cells x174.1), (jL 2 Qb.cells x174.2.1), (jI x174.2.2)])], []), ([], [jH 8 (.tup [(jA Qd.cells x176.1), (jL 2 Qb.cells x176.2.1), (jI x176.2.2)])], []), (jT [5, 6, 7, 8], [jH 2 (jB x178), (9, .bool true)], []), j3] [some true, some true, none] [] [] [2] .ret ((f3n2E bk1 bl2 .ret).2) (ap (Qn (xs := bk1) (c := Op_.cells)) (ap h143 (ap (Qf h172).1 (ap (Qk Op_.cells (Qf h172).2) (ap h173 (ap (f14_ok v140 (wr64 (v140.Day + x171.Day)) x171.Prices h175) (ap (f15_ok v141 (wr64 (v141.Day + x171.Day)) x171.Prices h177) (ap (Qr h180) (ap4 (Qr h180) (ap (f18_ok x174.1 x176.1 h179) an)))))))))) (Qs.out rfl rfl)
   ·obtain ⟨x186, h187, h⟩ := Qg h
    obtain ⟨x188, h189, h⟩ := Qg h
    obtain ⟨x190, h191, h⟩ := Qg h
    rcases Qh h with ⟨h192, h⟩ | ⟨h192, h⟩
    ·obtain ⟨x193, h194, h⟩ := Qg h
     rcases Qh h with ⟨h195, h⟩ | ⟨h195, h⟩
     ·rcases Qh h with ⟨h196, h⟩ | ⟨h196, h⟩
      ·rcases Qh h with ⟨h197, h⟩ | ⟨h197, h⟩
       ·exact rE Qi [([], [], [(2, .val (jI (bk1.length : Int)))]), ([], [(2, .idx (Int.toNat v139) (Op_.cells x171))], []), j3, j3, j3, ([], [jH 11 (.tup [(jA Qd.cells x186.1), (jI x186.2)])], []), ([], [jH 11 (.tup [(jA Qd.cells x188.1), (jI x188.2)])], []), (jF [5, 6, 7, 8, 11, 12, 13], [jH 2 (jB x190), jH 7 (jB x193), (9, .bool false), (14, .bool false)], []), j3, j3, j3] [some true, some false, some false, some true] [] [0, 1] [0, 3, 4, 6, 8] (.norm, (f3n2S bk1 bl2 (wr64 (v139 + 1)) x186.1 x188.1)) (ap (Qn (xs := bk1) (c := Op_.cells)) (ap h143 (ap (Qf h172).1 (ap (Qk Op_.cells (Qf h172).2) (ap h173 (ap (f16_ok v140 x171.Buyer x171.Seller x171.Product x171.Quantity x171.Price h187) (ap (f17_ok v141 x171.Buyer x171.Seller x171.Product x171.Quantity x171.Price h189) (ap (Ql h192) (ap4 (Ql h192) (ap4 (Ql h195) (ap (f18_ok x186.1 x188.1 h191) (ap (Qu.wk (args' := [(.pl (.sl .nil 0 [])), (.pl (.sl .nil 0 []))]) (f19_ok [] [] h194) (wlc (Wk.pl (WkP.nil (f := .nil) (sz := 0) (sz' := 2))) (wlc (Wk.pl (WkP.nil (f := .nil) (sz := 0) (sz' := 2))) wln)) (Wk.refl _) rfl) (ap (Ql h196) (ap h197 an)))))))))))))) (Qs.norm ⟨(wr64 (v139 + 1)), x186.1, x188.1, rfl, h⟩)
       ·exact rE Qi [([], [], [(2, .val (jI (bk1.length : Int)))]), ([], [(2, .idx (Int.toNat v139) (Op_.cells x171))], []), j3, j3, j3, ([], [jH 11 (.tup [(jA Qd.cells x186.1), (jI x186.2)])], []), ([], [jH 11 (.tup [(jA Qd.cells x188.1), (jI x188.2)])], []), (jF [5, 6, 7, 8, 11, 12, 13], [jH 2 (jB x190), jH 7 (jB x193), (9, .bool false), (14, .bool false)], []), j3, j3] [some true, some false, some false, some false] [] [0, 1] [0, 3, 4, 6, 8] (.norm, (f3n2S bk1 bl2 (wr64 (v139 + 1)) v140 v141)) (ap (Qn (xs := bk1) (c := Op_.cells)) (ap h143 (ap (Qf h172).1 (ap (Qk Op_.cells (Qf h172).2) (ap h173 (ap (f16_ok v140 x171.Buyer x171.Seller x171.Product x171.Quantity x171.Price h187) (ap (f17_ok v141 x171.Buyer x171.Seller x171.Product x171.Quantity x171.Price h189) (ap (Ql h192) (ap4 (Ql h192) (ap4 (Ql h195) (ap (f18_ok x186.1 x188.1 h191) (ap (Qu.wk (args' := [(.pl (.sl .nil 0 [])), (.pl (.sl .nil 0 []))]) (f19_ok [] [] h194) (wlc (Wk.pl (WkP.nil (f := .nil) (sz := 0) (sz' := 2))) (wlc (Wk.pl (WkP.nil (f := .nil) (sz := 0) (sz' := 2))) wln)) (Wk.refl _) rfl) (ap (Ql h196) (ap h197 an)))))))))))))) (Qs.norm ⟨(wr64 (v139 + 1)), v140, v141, rfl, h⟩)
      ·obtain rfl := Qe h
       exact rK Qi 2 [([], [], [(2, .val (jI (bk1.length : Int)))]), ([], [(2, .idx (Int.toNat v139) (Op_.cells x171))], []), j3, j3, j3, ([], [jH 11 (.tup [(jA Qd.cells x186.1), (jI x186.2)])], []), ([], [jH 11 (.tup [(jA Qd.cells x188.1), (jI x188.2)])], []), (jF [5, 6, 7, 8, 11, 12, 13], [jH 2 (jB x190), jH 7 (jB x193), (9, .bool false), (14, .bool false)], []), j3] [some true, some false, some true] [] [] [2] .ret ((f3n2E bk1 bl2 .ret).2) (ap (Qn (xs := bk1) (c := Op_.cells)) (ap h143 (ap (Qf h172).1 (ap (Qk Op_.cells (Qf h172).2) (ap h173 (ap (f16_ok v140 x171.Buyer x171.Seller x171.Product x171.Quantity x171.Price h187) (ap (f17_ok v141 x171.Buyer x171.Seller x171.Product x171.Quantity x171.Price h189) (ap (Ql h192) (ap4 (Ql h192) (ap4 (Ql h195) (ap (f18_ok x186.1 x188.1 h191) (ap (Qu.wk (args' := [(.pl (.sl .nil 0 [])), (.pl (.sl .nil 0 []))]) (f19_ok [] [] h194) (wlc (Wk.pl (WkP.nil (f := .nil) (sz := 0) (sz' := 2))) (wlc (Wk.pl (WkP.nil (f := .nil) (sz := 0) (sz' := 2))) wln)) (Wk.refl _) rfl) (ap (Qr h196) an))))))))))))) (Qs.out rfl rfl)
     ·obtain rfl := Qe h
      exact rK Qi 2 [([], [], [(2, .val (jI (bk1.length : Int)))]), ([], [(2, .idx (Int.toNat v139) (Op_.cells x171))], []), j3, j3, j3, ([], [jH 11 (.tup [(jA Qd.cells x186.1), (jI x186.2)])], []), ([], [jH 11 (.tup [(jA Qd.cells x188.1), (jI x188.2)])], []), (jF [5, 6, 7, 8] ++ jT [11, 12, 13], [jH 2 (jB x190), jH 7 (jB x193), (9, .bool false), (14, .bool true)], []), j3] [some true, some false, none] [] [] [2] .ret ((f3n2E bk1 bl2 .ret).2) (ap (Qn (xs := bk1) (c := Op_.cells)) (ap h143 (ap (Qf h172).1 (ap (Qk Op_.cells (Qf h172).2) (ap h173 (ap (f16_ok v140 x171.Buyer x171.Seller x171.Product x171.Quantity x171.Price h187) (ap (f17_ok v141 x171.Buyer x171.Seller x171.Product x171.Quantity x171.Price h189) (ap (Ql h192) (ap4 (Ql h192) (ap4 (Qr h195) (ap (f18_ok x186.1 x188.1 h191) (ap (Qu.wk (args' := [(.pl (.sl .nil 0 [])), (.pl (.sl .nil 0 []))]) (f19_ok [] [] h194) (wlc (Wk.pl (WkP.nil (f := .nil) (sz := 0) (sz' := 2))) (wlc (Wk.pl (WkP.nil (f := .nil) (sz := 0) (sz' := 2))) wln)) (Wk.refl _) rfl) an)))))))))))) (Qs.out rfl rfl)
    ·obtain rfl := Qe h
     exact rK Qi 2 [([], [], [(2, .val (jI (bk1.length : Int)))]), ([], [(2, .idx (Int.toNat v139) (Op_.cells x171))], []), j3, j3, j3, ([], [jH 11 (.tup [(jA Qd.cells x186.1), (jI x186.2)])], []), ([], [jH 11 (.tup [(jA Qd.cells x188.1), (jI x188.2)])], []), (jT [5, 6, 7, 8], [jH 2 (jB x190), (9, .bool true)], []), j3] [some true, some false, none] [] [] [2] .ret ((f3n2E bk1 bl2 .ret).2) (ap (Qn (xs := bk1) (c := Op_.cells)) (ap h143 (ap (Qf h172).1 (ap (Qk Op_.cells (Qf h172).2) (ap h173 (ap (f16_ok v140 x171.Buyer x171.Seller x171.Product x171.Quantity x171.Price h187) (ap (f17_ok v141 x171.Buyer x171.Seller x171.Product x171.Quantity x171.Price h189) (ap (Qr h192) (ap4 (Qr h192) (ap (f18_ok x186.1 x188.1 h191) an)))))))))) (Qs.out rfl rfl)
  ·obtain rfl := Qe h
   exact rK Qi 1 [([], [], [(2, .val (jI (bk1.length : Int)))])] [some false] [] [] [3] (.exit 0) ((f3n2E bk1 bl2 .exit0).2) (ap (Qn (xs := bk1) (c := Op_.cells)) (ap h143 an)) (Qs.out rfl rfl)
noncomputable def f3n2L (bk1 : List Op_) (bl2 : Bool) : List Op_ → Int → Qd → Qd → Option f3n2O
 | [], v139, v140, v141 =>
  some .exit0
 | x0 :: rest, v139, v140, v141 =>
  bif (decide (x0.Kind = 0)) then
   (f14 v140 (wr64 (v140.Day + x0.Day)) x0.Prices).bind fun x174 =>
   (f15 v141 (wr64 (v141.Day + x0.Day)) x0.Prices).bind fun x176 =>
   (f18 x174.1 x176.1).bind fun x178 =>
   bif x178 then
    (f19 x174.2.1 x176.2.1).bind fun x181 =>
    bif x181 then
     bif (decide (x174.2.2 = x176.2.2)) then
      bif (decide (x174.2.2 = 0)) then
       (f3n2L bk1 bl2 rest (v139 + 1) x174.1 x176.1)
      else
       (f3n2L bk1 bl2 rest (v139 + 1) v140 v141)
     else
      some .ret
    else
     some .ret
   else
    some .ret
  else
   (f16 v140 x0.Buyer x0.Seller x0.Product x0.Quantity x0.Price).bind fun x186 =>
   (f17 v141 x0.Buyer x0.Seller x0.Product x0.Quantity x0.Price).bind fun x188 =>
   (f18 x186.1 x188.1).bind fun x190 =>
   bif x190 then
    (f19 [] []).bind fun x193 =>
    bif x193 then
     bif (decide (x186.2 = x188.2)) then
      bif (decide (x186.2 = 0)) then
       (f3n2L bk1 bl2 rest (v139 + 1) x186.1 x188.1)
      else
       (f3n2L bk1 bl2 rest (v139 + 1) v140 v141)
     else
      some .ret
    else
     some .ret
   else
    some .ret
theorem f3n2L_eq (bk1 : List Op_) (bl2 : Bool) : ∀ (rest : List Op_) (f k : Nat) (v140 : Qd) (v141 : Qd), bk1.drop k = rest → bk1.length ≤ maxLen → rest.length < f → f3n2 f bk1 bl2 (k : Int) v140 v141 = f3n2L bk1 bl2 rest (k : Int) v140 v141
 | _, 0, _, _, _, _, _, hf => absurd hf (Nat.not_lt_zero _)
 | [], f + 1, k, v140, v141, hd, hm, hf => by
  have hk : ¬ ((k : Int) < (bk1.length : Int)) := by have := Qat hd; omega
  rw [f3n2, f3n2L]
  simp only [decide_eq_false hk, cond_false]
 | x0 :: rest, f + 1, k, v140, v141, hd, hm, hf => by
  obtain ⟨hx, hlt, hd'⟩ := Qak hd
  have hk : (k : Int) < (bk1.length : Int) := by omega
  have hw : wr64 ((k : Int) + 1) = (k : Int) + 1 := Qcf (by omega) (by unfold maxLen at hm; omega)
  have ih : ∀ (v140 : Qd) (v141 : Qd), f3n2 f bk1 bl2 ((k : Int) + 1) v140 v141 = f3n2L bk1 bl2 rest ((k : Int) + 1) v140 v141 := fun v140 v141 => f3n2L_eq bk1 bl2 rest f (k + 1) v140 v141 hd' hm (by simpa using hf)
  rw [f3n2, f3n2L]
  simp only [decide_eq_true hk, cond_true, Qao, hx, Option.bind_some, hw, ih]
theorem f3n2_run (bk1 : List Op_) (bl2 : Bool) (v140 : Qd) (v141 : Qd) (hm : bk1.length ≤ maxLen) : f3n2 FUEL bk1 bl2 0 v140 v141 = f3n2L bk1 bl2 bk1 0 v140 v141 := f3n2L_eq bk1 bl2 bk1 FUEL 0 v140 v141 List.drop_zero hm (Qbp hm)
inductive f3n1O where
 | norm
 | ret
def f3n1E (bk1 : List Op_) (bl2 : Bool) (bm3 : Qd × Int) (bm4 : Qd × Int) : f3n1O → Ex × Tr × Hp
 | .norm => (.norm, mkS [(3, (jB bl2))], [])
 | .ret => (.ret, mkS [(2, (jB false))], [])
def f3n1S (bk1 : List Op_) (bl2 : Bool) (bm3 : Qd × Int) (bm4 : Qd × Int) : Tr × Hp := (mkS [(0, (jL 8 Op_.cells bk1)), (3, (jB bl2)), (4, (.bp 0 0)), (6, (.bp 1 0))], [some (.box ((Qd.cells bm3.1).map .pl)), some (.box ((Qd.cells bm4.1).map .pl))])
noncomputable def f3n1 (bk1 : List Op_) (bl2 : Bool) (bm3 : Qd × Int) (bm4 : Qd × Int) : Option f3n1O :=
 (f3n2 FUEL bk1 bl2 0 bm3.1 bm4.1).bind fun o198 => match o198 with
 | .exit0 => some .norm
 | .ret => some .ret
theorem f3n1_ok (bk1 : List Op_) (bl2 : Bool) (bm3 : Qd × Int) (bm4 : Qd × Int) {o : f3n1O} (h : (f3n1 bk1 bl2 bm3 bm4) = some o) : T Try.prog Try.f3.ntmps 0 (cL (Qo 6 c3)) (f3n1S bk1 bl2 bm3 bm4) (fun r => r = f3n1E bk1 bl2 bm3 bm4 o) := by
 unfold f3n1 at h
 refine rN Qi 1 [j3] [] [] [0, 1] [0, 3, 4, 6, 8] (f3n2S bk1 bl2 0 bm3.1 bm4.1) an ?_
 obtain ⟨o198, h199, h⟩ := Qg h
 cases o198 with
 | exit0 =>
  obtain rfl := Qe h
  exact T.last' (T.bl (i := 0) (by kernel_rfl) (by kernel_rfl) (f3n2_ok FUEL bk1 bl2 0 bm3.1 bm4.1 h199)) (tds := []) (m := []) (keep := [3]) (st2 := (f3n1E bk1 bl2 bm3 bm4 .norm).2) (by kernel_rfl) an rfl
 | ret =>
  obtain rfl := Qe h
  exact T.last' (T.bl (i := 0) (by kernel_rfl) (by kernel_rfl) (f3n2_ok FUEL bk1 bl2 0 bm3.1 bm4.1 h199)) (tds := []) (m := []) (keep := [2]) (st2 := (f3n1E bk1 bl2 bm3 bm4 .ret).2) (by kernel_rfl) an rfl
inductive f3n0O where
 | ret (v202 : Bool)
def f3n0E (a1 : List Op_) : f3n0O → Ex × Tr × Hp
 | .ret v202 => (.ret, mkS [(2, (jB v202))], [])
def f3n0S (a1 : List Op_) : Tr × Hp := (Qaz [(jL 8 Op_.cells a1)] 0 .leaf, [])
noncomputable def f3n0 (a1 : List Op_) : Option f3n0O :=
 f10.bind fun x4 =>
 (f11 a1).bind fun x10 =>
 bif x10 then
  some (.ret x4)
 else
  bif x4 then
   (f12 0).bind fun x16 =>
   (f13 0).bind fun x20 =>
   bif (decide (x16.2 = x20.2)) then
    (f3n1 a1 x4 x16 x20).bind fun o200 => match o200 with
    | .norm => some (.ret x4)
    | .ret => some (.ret false)
   else
    some (.ret false)
  else
   some (.ret x4)
theorem f3n0_ok (a1 : List Op_) {o : f3n0O} (h : (f3n0 a1) = some o) : T Try.prog Try.f3.ntmps 0 c3 (f3n0S a1) (fun r => r = f3n0E a1 o) := by
 unfold f3n0 at h
 obtain ⟨x4, h5, h⟩ := Qg h
 obtain ⟨x10, h11, h⟩ := Qg h
 rcases Qh h with ⟨h12, h⟩ | ⟨h12, h⟩
 ·obtain rfl := Qe h
  exact rK Qi 3 [j3, ([], [jH 0 (jB x4)], []), ([(3, true), (4, true)], [jH 1 (jB x10), (5, .bool true)], []), j3] [none] [] [] [2] .ret ((f3n0E a1 (.ret x4)).2) (ap (f10_ok h5) (ap3 h12 (ap (f11_ok a1 h11) an))) rfl
 ·rcases Qh h with ⟨h13, h⟩ | ⟨h13, h⟩
  ·obtain ⟨x16, h17, h⟩ := Qg h
   obtain ⟨x20, h21, h⟩ := Qg h
   rcases Qh h with ⟨h23, h⟩ | ⟨h23, h⟩
   ·refine rN Qi 6 [j3, ([], [jH 0 (jB x4)], []), ([(3, false), (4, false)], [jH 1 (jB x10), (5, .bool false)], []), ([], [jH 0 (.tup [(jA Qd.cells x16.1), (jI x16.2)])], []), ([], [jH 0 (.tup [(jA Qd.cells x20.1), (jI x20.2)])], []), j3] [some false, some false] [] [0, 1] [0, 3, 4, 6] (f3n1S a1 x4 x16 x20) (ap (f10_ok h5) (ap3 h12 (ap (f11_ok a1 h11) (ap (Ql h13) (ap (f12_ok 0 h17) (ap (f13_ok 0 h21) (ap (Ql h23) an))))))) ?_
    obtain ⟨o200, h201, h⟩ := Qg h
    cases o200 with
    | norm =>
     refine T.oneN (by kernel_rfl) (f3n1_ok a1 x4 x16 x20 h201) (st2 := (f3n1E a1 x4 x16 x20 .norm).2) rfl ?_
     obtain rfl := Qe h
     exact rE Qi [j3] [] [] [] [2] (.ret, (f3n0E a1 (.ret x4)).2) an rfl
    | ret =>
     obtain rfl := Qe h
     exact T.oneX' (by kernel_rfl) (f3n1_ok a1 x4 x16 x20 h201) (tds := []) (m := []) (keep := [2]) (st2 := (f3n0E a1 (.ret false)).2) (by kernel_rfl) an rfl rfl
   ·obtain rfl := Qe h
    exact rK Qi 6 [j3, ([], [jH 0 (jB x4)], []), ([(3, false), (4, false)], [jH 1 (jB x10), (5, .bool false)], []), ([], [jH 0 (.tup [(jA Qd.cells x16.1), (jI x16.2)])], []), ([], [jH 0 (.tup [(jA Qd.cells x20.1), (jI x20.2)])], []), j3, j3] [some false, some true] [] [] [2] .ret ((f3n0E a1 (.ret false)).2) (ap (f10_ok h5) (ap3 h12 (ap (f11_ok a1 h11) (ap (Ql h13) (ap (f12_ok 0 h17) (ap (f13_ok 0 h21) (ap (Qr h23) an))))))) rfl
  ·obtain rfl := Qe h
   exact rK Qi 3 [j3, ([], [jH 0 (jB x4)], []), ([(3, false), (4, false)], [jH 1 (jB x10), (5, .bool false)], []), j3] [some true] [] [] [2] .ret ((f3n0E a1 (.ret x4)).2) (ap (f10_ok h5) (ap3 h12 (ap (f11_ok a1 h11) (ap (Qr h13) an)))) rfl
noncomputable def f3 (a1 : List Op_) : Option Bool := (f3n0 a1).bind fun o => match o with
 | .ret v202 => some v202
theorem f3_ok (a1 : List Op_) {r : Bool} (h : (f3 a1) = some r) : Qu Try.prog false 3 [(jL 8 Op_.cells a1)] [] (jB r) [] := by
 unfold f3 at h
 obtain ⟨o, ho, h⟩ := Qg h
 cases o with
 | ret v202 =>
  obtain rfl := Qe h
  exact Qu.plain Qi (f := Try.f3) (c := c3) (by kernel_rfl) (by kernel_rfl) (by kernel_rfl) (by kernel_rfl) ((f3n0_ok a1 ho).mono fun r e => by subst e; exact ⟨.inl rfl, (jB v202), (jB v202), by kernel_rfl, by kernel_rfl, ((Wk.refl _) : Wk (jB v202) (jB v202))⟩)



end Go.Proofs.Ytelblamgfbkhbaa
namespace Go.Proofs.Ytelblamgfbkhbaa
set_option linter.unusedVariables false
set_option linter.unusedSimpArgs false
set_option maxRecDepth 100000
open Go.RowKit




noncomputable def c6 : Code := Try.f6.body.getD .skip


noncomputable def c7 : Code := Try.f7.body.getD .skip
end Go.Proofs.Ytelblamgfbkhbaa
namespace Go.Proofs.Ytelblamgfbkhbaa
set_option linter.unusedVariables false
set_option linter.unusedSimpArgs false
set_option maxRecDepth 100000
open Go.RowKit


end Go.Proofs.Ytelblamgfbkhbaa
namespace Go.Proofs.Ytelblamgfbkhbaa
set_option linter.unusedVariables false
theorem perm_two {α : Type} {a b : α} {p : List α} (h : p.Perm [a, b]) : p = [a, b] ∨ p = [b, a] := by
 match p, h with
 | [], h => exact absurd h.length_eq (by simp)
 | [_], h => exact absurd h.length_eq (by simp)
 | _ :: _ :: _ :: _, h => exact absurd h.length_eq (by simp)
 | [x, y], h =>
  rcases List.mem_cons.1 (h.mem_iff.1 (List.mem_cons_self)) with rfl | hx
  ·left
   have := List.Perm.cons_inv h
   rw [List.perm_singleton.1 this]
  ·right
   obtain rfl := List.mem_singleton.1 hx
   have h2 : [x, y].Perm [x, a] := h.trans (List.Perm.swap _ _ _)
   have := List.Perm.cons_inv h2
   rw [List.perm_singleton.1 this]
theorem f14_two {s : Qd} {d : Int} {ps : List Qc} {a b : ByteArray × Int} {out : List Qa} {o : f14n0O} (h1 : f26 s = some 0) (h2 : f14n1 d ps 0 s = some (.norm 0)) (h3 : f14n2 ps s d = some (.norm [a, b] out))
  (h4 : ((f14n4 d [a, b] out [a, b]).bind fun o143 => match o143 with
    | .norm v145 => (so38_39 v145).bind fun x148 => some (.ret 0 d x148 out)
    | .ret => some (.ret 14 0 [] [])) = some o)
  (h5 : ((f14n4 d [a, b] out [b, a]).bind fun o143 => match o143 with
    | .norm v145 => (so38_39 v145).bind fun x148 => some (.ret 0 d x148 out)
    | .ret => some (.ret 14 0 [] [])) = some o) : f14n0 s d ps = some o := by
 unfold f14n0
 rw [h1]
 simp only [Option.bind_some]
 rw [h2]
 simp only [Option.bind_some, decide_true, cond_true]
 rw [h3]
 simp only [Option.bind_some]
 refine anyOrder_of fun p hp => ?_
 rcases perm_two hp with rfl | rfl
 ·exact h4
 ·exact h5
theorem f14_of {s : Qd} {d : Int} {ps : List Qc} {v150 v151 : Int} {v152 : List Qb} {v153 : List Qa} (h : f14n0 s d ps = some (.ret v150 v151 v152 v153)) : f14 s d ps = some ((Qd.mk v151 v153), v152, v150) := by
 unfold f14; rw [h]; rfl
def exS : Qd := ⟨0, [⟨str_a, str_p, -3, -30⟩, ⟨str_b, str_p, 3, 30⟩]⟩
def exT : Qd := ⟨1, [⟨str_a, str_p, -3, -36⟩, ⟨str_b, str_p, 3, 36⟩]⟩
theorem ex1 : f16 (Qd.mk 0 []) str_b str_a str_p 3 10 = some (exS, 0) := by kernel_rfl
theorem ex2 : f14 exS 1 [(Qc.mk str_p 12)] = some (exT, [⟨str_a, -6⟩, ⟨str_b, 6⟩], 0) :=
 f14_of (f14_two (a := (str_a, -6)) (b := (str_b, 6)) (out := exT.Positions) (by kernel_rfl) (by kernel_rfl) (by kernel_rfl) (by kernel_rfl) (by kernel_rfl))
theorem ex3 : f14 exT 2 [(Qc.mk str_p 11)] = some (⟨2, [⟨str_a, str_p, -3, -33⟩, ⟨str_b, str_p, 3, 33⟩]⟩, [⟨str_a, 3⟩, ⟨str_b, -3⟩], 0) :=
 f14_of (f14_two (a := (str_a, 3)) (b := (str_b, -3)) (out := [⟨str_a, str_p, -3, -33⟩, ⟨str_b, str_p, 3, 33⟩]) (by kernel_rfl) (by kernel_rfl) (by kernel_rfl) (by kernel_rfl) (by kernel_rfl))
theorem ex4 : f14 exS 2 [(Qc.mk str_p 11)] = some (⟨2, [⟨str_a, str_p, -3, -33⟩, ⟨str_b, str_p, 3, 33⟩]⟩, [⟨str_a, -3⟩, ⟨str_b, 3⟩], 0) :=
 f14_of (f14_two (a := (str_a, -3)) (b := (str_b, 3)) (out := [⟨str_a, str_p, -3, -33⟩, ⟨str_b, str_p, 3, 33⟩]) (by kernel_rfl) (by kernel_rfl) (by kernel_rfl) (by kernel_rfl) (by kernel_rfl))
theorem ex0 : f12 0 = some (Qd.mk 0 [], 0) := by kernel_rfl
theorem alive_t : f10 = some true := by
 have k1 : f25 6 = some [⟨str_a, -6⟩, ⟨str_b, 6⟩] := by kernel_rfl
 have k2 : f25 (-3) = some [⟨str_a, 3⟩, ⟨str_b, -3⟩] := by kernel_rfl
 have k3 : f25 3 = some [⟨str_a, -3⟩, ⟨str_b, 3⟩] := by kernel_rfl
 have m1 : f19 [⟨str_a, -6⟩, ⟨str_b, 6⟩] [⟨str_a, -6⟩, ⟨str_b, 6⟩] = some true := by kernel_rfl
 have m2 : f19 [⟨str_a, 3⟩, ⟨str_b, -3⟩] [⟨str_a, 3⟩, ⟨str_b, -3⟩] = some true := by kernel_rfl
 have m3 : f19 [⟨str_a, -3⟩, ⟨str_b, 3⟩] [⟨str_a, -3⟩, ⟨str_b, 3⟩] = some true := by kernel_rfl
 have r1 : f23r1 12 = some () := rfl
 have r2 : f23r1 11 = some () := rfl
 unfold f10 f10n0
 simp only [ex0, ex1, ex2, ex3, ex4, k1, k2, k3, m1, m2, m3, r1, r2, Option.bind_some, decide_true, cond_true]
end Go.Proofs.Ytelblamgfbkhbaa
namespace Go.Proofs.Ytelblamgfbkhbaa
set_option linter.unusedVariables false
set_option linter.unusedSimpArgs false
open Go.RowKit
abbrev VP := Qa
theorem Qcd {n b : Nat} (h : n ≤ 1000000) (hb : b ≤ 1000000) : fit n b = true := by
 unfold fit
 have : n * b ≤ 1000000 * 1000000 := Nat.mul_le_mul h hb
 simp only [Bool.and_eq_true, Nat.ble_eq]
 omega
theorem Qbl (a b : Int) : decide (a < b) = !decide (b ≤ a) := by
 by_cases h : a < b
 ·rw [decide_eq_true h, decide_eq_false (by omega)]; rfl
 ·rw [decide_eq_false h, decide_eq_true (by omega)]; rfl
theorem dec_nat (a b : Nat) : decide ((a : Int) ≤ (b : Int)) = decide (a ≤ b) := by congr 1; apply propext; omega
theorem wr_in {n : Int} (h1 : -9223372036854775808 ≤ n) (h2 : n ≤ 9223372036854775807) : wr64 n = n := w64 rfl h1 h2

def letterI (c : Int) : Bool := (decide (97 ≤ c) && decide (c ≤ 122)) || (decide (65 ≤ c) && decide (c ≤ 90))
def otherI (c : Int) : Bool := (decide (48 ≤ c) && decide (c ≤ 57)) || (decide (c = 95) || decide (c = 45))
theorem f62_eq (c : Int) : f62 c = some (letterI c) := by
 unfold f62 f62n0 letterI
 cases decide (97 ≤ c) <;> cases decide (c ≤ 122) <;> cases decide (65 ≤ c) <;> cases decide (c ≤ 90) <;> rfl
def charB (b : UInt8) : Bool := letterI b.toNat || otherI b.toNat
def isName (l : List UInt8) : Bool := match l with
 | [] => false
 | b :: r => decide (l.length ≤ 40) && (letterI b.toNat && r.all charB)
theorem f45n2L_at (bc : ByteArray) : ∀ (l : List UInt8) (v : Int), f45n2L bc l v = some (bif l.all charB then .exit0 else .ret)
 | [], v => rfl
 | b :: r, v => by
  rw [f45n2L, f62_eq]
  simp only [Option.bind_some, f45n2L_at bc r, Qbl, List.all_cons, charB, otherI]
  cases letterI b.toNat <;> cases decide ((48 : Int) ≤ (b.toNat : Int)) <;> cases decide ((b.toNat : Int) ≤ 57) <;> cases decide ((b.toNat : Int) = 95) <;> cases decide ((b.toNat : Int) = 45) <;> rfl
theorem size_list' (s : ByteArray) : s.size = s.data.toList.length := rfl
theorem f45_eq (s : ByteArray) : f45 s = some (isName s.data.toList) := by
 unfold f45 f45n0 f45n1
 rw [size_list']
 by_cases hs : s.data.toList.length ≤ 40
 ·have hm : s.data.toList.length ≤ maxLen := Nat.le_trans hs (by unfold maxLen; decide)
  rw [f45n2_run s hm, f45n2L_at]
  generalize s.data.toList = l at hs hm
  cases l with
  | nil => rfl
  | cons b r =>
   have h1 : ¬ (((b :: r).length : Nat) : Int) < 1 := by simp; omega
   have h2 : ¬ (40 : Int) < (((b :: r).length : Nat) : Int) := by omega
   rw [decide_eq_false h1, decide_eq_false h2]
   have h0 : at? (b :: r) 0 = some b := rfl
   simp only [cond_false, h0, Option.bind_some, f62_eq, isName, List.all_cons, charB, decide_eq_true hs]
   cases letterI b.toNat <;> cases r.all charB <;> cases otherI b.toNat <;> rfl
 ·have h1 : ¬ ((s.data.toList.length : Nat) : Int) < 1 := by omega
  have h2 : (40 : Int) < ((s.data.toList.length : Nat) : Int) := by omega
  rw [decide_eq_false h1, decide_eq_true h2]
  have : isName s.data.toList = false := by
   generalize s.data.toList = l at hs
   cases l with
   | nil => rfl
   | cons b r => simp only [isName, decide_eq_false hs, Bool.false_and]
  rw [this]; rfl
def nameB (s : ByteArray) : Bool := isName s.data.toList
def partyB (s : ByteArray) : Bool := !(seq s str_house) && nameB s
theorem f44_eq (s : ByteArray) : f44 s = some (partyB s) := by
 unfold f44 f44n0 partyB nameB
 rw [f45_eq]
 cases seq s str_house <;> rfl

def inR (n lim : Int) : Bool := decide (-lim ≤ n) && decide (n ≤ lim)
theorem f37_eq (n : Int) {lim : Int} (h0 : 0 ≤ lim) (h : lim ≤ 9223372036854775807) : f37 n lim = some (inR n lim) := by
 unfold f37 f37n0 inR
 rw [show wr64 (0 - lim) = -lim from w64 (by omega) (by omega) (by omega)]
 cases decide (-lim ≤ n) <;> rfl
theorem f37_q (n : Int) : f37 n 1048576 = some (inR n 1048576) := f37_eq n (by decide) (by decide)
theorem f37_b (n : Int) : f37 n 1125899906842624 = some (inR n 1125899906842624) := f37_eq n (by decide) (by decide)
theorem f37_p (n : Int) : f37 n 536870912 = some (inR n 536870912) := f37_eq n (by decide) (by decide)
theorem inR_iff {n lim : Int} : inR n lim = true ↔ -lim ≤ n ∧ n ≤ lim := by simp [inR]
def Qca (x : VP) : Bool := decide (x.Quantity = 0) && decide (x.Basis = 0)
theorem eqb_zero (x : VP) : Qa.eqb x (Qa.mk x.Member x.Product 0 0) = Qca x := by
 unfold Qa.eqb Qca
 rw [Qag, Qag]; rfl
def Qaf (a b : VP) : Bool := slt a.Member b.Member || (seq a.Member b.Member && slt a.Product b.Product)
def cmpK (a b : VP) : Int := bif decide (cmpB a.Member b.Member = 0) then cmpB a.Product b.Product else cmpB a.Member b.Member
theorem f66_two (x y : Int) : f66 [x, y] = some (bif decide (x = 0) then y else x) := by
 unfold f66 f66n0 f66n1
 rw [f66n2_run [x, y] (by show (2 : Nat) ≤ maxLen; unfold maxLen; decide)]
 by_cases hx : x = 0
 ·by_cases hy : y = 0
  ·subst hx; subst hy; rfl
  ·simp only [f66n2L, decide_eq_true hx, decide_eq_false hy, cond_true, cond_false, Option.bind_some]
 ·simp only [f66n2L, decide_eq_false hx, cond_false, Option.bind_some]
theorem f53_eq (a b : VP) : f53 a b = some (cmpK a b) := by
 unfold f53 f53n0
 rw [f40_val, f40_val]
 simp only [Option.bind_some]
 rw [f66_two]
 rfl
theorem cmpK_neg (a b : VP) : decide (cmpK a b < 0) = Qaf a b := by
 unfold cmpK Qaf
 cases h : slt a.Member b.Member with
 | true =>
  have h1 := Qcj.2 h
  rw [decide_eq_false (by omega : ¬ cmpB a.Member b.Member = 0)]
  simp [h1]
 | false =>
  cases k : seq a.Member b.Member with
  | true =>
   rw [decide_eq_true (cmpB_zero.2 (Qbs.1 k))]
   simp only [cond_true, Bool.false_or, Bool.true_and]
   cases h2 : slt a.Product b.Product with
   | true => exact decide_eq_true (Qcj.2 h2)
   | false => exact decide_eq_false fun h3 => by rw [Qcj.1 h3] at h2; cases h2
  | false =>
   have h1 : ¬ cmpB a.Member b.Member = 0 := fun e => by rw [Qbs.2 (cmpB_zero.1 e)] at k; cases k
   have h2 : ¬ cmpB a.Member b.Member < 0 := fun e => by rw [Qcj.1 e] at h; cases h
   rw [decide_eq_false h1]
   simp only [cond_false, decide_eq_false h2, Bool.false_and, Bool.or_self]
theorem cmpK_zero {a b : VP} : cmpK a b = 0 ↔ a.Member = b.Member ∧ a.Product = b.Product := by
 unfold cmpK
 by_cases h : cmpB a.Member b.Member = 0
 ·rw [decide_eq_true h]; simp only [cond_true, cmpB_zero]; exact ⟨fun k => ⟨cmpB_zero.1 h, k⟩, fun k => k.2⟩
 ·rw [decide_eq_false h]; simp only [cond_false]; exact ⟨fun k => absurd k h, fun k => absurd (cmpB_zero.2 k.1) h⟩

def Qcr (x : VP) : Bool := inR x.Quantity 1048576 && (inR x.Basis 1125899906842624 && (!Qca x && (partyB x.Member && nameB x.Product)))
def ordAt : Option VP → VP → Bool
 | none, _ => true
 | some y, x => Qaf y x
def okL : Option VP → List VP → Bool
 | _, [] => true
 | p, x :: r => ordAt p x && (Qcr x && okL (some x) r)
def accL : List VP → List (ByteArray × Qq) → List (ByteArray × Qq)
 | [], m => m
 | x :: r, m => accL r (mPut seq x.Product (Qq.mk (wr64 ((mGet seq (Qq.mk 0 0) x.Product m).quantity + x.Quantity)) (wr64 ((mGet seq (Qq.mk 0 0) x.Product m).basis + x.Basis))) m)
theorem f26n2L_at (s : Qd) : ∀ (l pre : List VP) (m : List (ByteArray × Qq)), s.Positions = pre ++ l → s.Positions.length ≤ 1000 → f26n2L s l ((pre.length : Nat) : Int) m = some (bif okL pre.getLast? l then .exit0 (accL l m) else .ret)
 | [], pre, m, _, _ => rfl
 | x :: r, pre, m, h, hb => by
  have ih := f26n2L_at s r (pre ++ [x]) (mPut seq x.Product (Qq.mk (wr64 ((mGet seq (Qq.mk 0 0) x.Product m).quantity + x.Quantity)) (wr64 ((mGet seq (Qq.mk 0 0) x.Product m).basis + x.Basis))) m) (by rw [h]; simp) hb
  rw [List.length_append, List.getLast?_concat, show (((pre.length + [x].length : Nat)) : Int) = (pre.length : Int) + 1 from by simp] at ih
  have e45 : f45 x.Product = some (nameB x.Product) := f45_eq _
  rw [f26n2L]
  simp only [f37_q, f37_b, Option.bind_some, eqb_zero, f44_eq, e45, ih, okL, Qcr]
  rcases List.eq_nil_or_concat pre with rfl | ⟨q, y, rfl⟩
  ·simp only [List.length_nil, Int.natCast_zero, decide_true, cond_true, List.getLast?_nil, ordAt, Bool.true_and]
   cases inR x.Quantity 1048576 <;> cases inR x.Basis 1125899906842624 <;> cases Qca x <;> cases partyB x.Member <;> cases nameB x.Product <;> cases okL (some x) r <;> rfl
  ·rw [List.concat_eq_append] at h ⊢
   have hne : ¬ (((q ++ [y]).length : Nat) : Int) = 0 := by simp; omega
   have hlen : q.length + 1 ≤ 1000 := by rw [h] at hb; simp at hb; omega
   have hw : wr64 ((((q ++ [y]).length : Nat) : Int) - 1) = ((q.length : Nat) : Int) := w64 (by simp) (by omega) (by omega)
   have hat : at? s.Positions ((q.length : Nat) : Int) = some y := by rw [Qao, h]; simp
   rw [decide_eq_false hne, hw, hat, List.getLast?_concat]
   simp only [cond_false, Option.bind_some, f53_eq, cmpK_neg, ordAt]
   cases inR x.Quantity 1048576 <;> cases inR x.Basis 1125899906842624 <;> cases Qca x <;> cases partyB x.Member <;> cases nameB x.Product <;> cases okL (some x) r <;> cases Qaf y x <;> rfl
def zeroM (m : List (ByteArray × Qq)) : Bool := m.all fun x => Qq.eqb x.2 (Qq.mk 0 0)
theorem f26n4_eq (bd : List (ByteArray × Qq)) : ∀ l : List (ByteArray × Qq), f26n4 bd l = some (bif zeroM l then .exit2 else .ret)
 | [] => rfl
 | x :: r => by
  rw [f26n4, f26n4_eq bd r, zeroM, zeroM, List.all_cons]
  cases Qq.eqb x.2 (Qq.mk 0 0) <;> rfl
theorem f26n3_eq (bd : List (ByteArray × Qq)) : f26n3 bd = some (bif zeroM bd then .norm else .ret) := by
 unfold f26n3
 have hp : ∀ p, p.Perm bd → f26n4 bd p = some (bif zeroM bd then .exit2 else .ret) := fun p hp => by
  rw [f26n4_eq, zeroM, hp.all_eq]; rfl
 rw [anyOrder_of hp]
 cases zeroM bd <;> rfl
def checkB (s : Qd) : Bool := decide (0 ≤ s.Day) && (decide (s.Day ≤ 99999) && (decide (s.Positions.length ≤ 200) && (okL none s.Positions && zeroM (accL s.Positions []))))
theorem f26_eq (s : Qd) : f26 s = some (bif checkB s then 0 else 8) := by
 unfold f26 f26n0 f26n1 checkB
 rw [Qbl, Qbl, Qbl, show decide ((s.Positions.length : Int) ≤ 200) = decide (s.Positions.length ≤ 200) from dec_nat _ 200]
 by_cases hl : s.Positions.length ≤ 200
 ·have hm : s.Positions.length ≤ maxLen := Nat.le_trans hl (by unfold maxLen; decide)
  rw [f26n2_run s [] hm]
  have := f26n2L_at s s.Positions [] [] rfl (by omega)
  rw [show (((([] : List VP).length : Nat)) : Int) = 0 from rfl, List.getLast?_nil] at this
  rw [this, decide_eq_true hl]
  cases decide (0 ≤ s.Day) with
  | false => rfl
  | true => cases decide (s.Day ≤ 99999) with
   | false => rfl
   | true => cases okL none s.Positions with
    | false => rfl
    | true =>
     simp only [Bool.not_true, cond_false, cond_true, Option.bind_some, f26n3_eq, Bool.true_and]
     cases zeroM (accL s.Positions []) <;> rfl
 ·rw [decide_eq_false hl]
  cases decide (0 ≤ s.Day) <;> cases decide (s.Day ≤ 99999) <;> rfl
end Go.Proofs.Ytelblamgfbkhbaa
namespace Go.Proofs.Ytelblamgfbkhbaa
set_option linter.unusedVariables false
set_option linter.unusedSimpArgs false
open Go.RowKit
theorem wr_l (a b : Int) : wr64 (wr64 a + b) = wr64 (a + b) := by
 show IntKind.i64.wrap (IntKind.i64.wrap a + b) = IntKind.i64.wrap (a + b)
 simp only [IntKind.wrap_i64]; omega

theorem keyLt_iff {a b : VP} : Qaf a b = true ↔ slt a.Member b.Member = true ∨ (a.Member = b.Member ∧ slt a.Product b.Product = true) := by
 unfold Qaf
 rw [Bool.or_eq_true, Bool.and_eq_true, Qbs]
theorem keyLt_irrefl (a : VP) : Qaf a a = false := by
 unfold Qaf
 rw [Qbu, Qbu]
 simp
theorem Qbc {a b c : VP} (h : Qaf a b = true) (k : Qaf b c = true) : Qaf a c = true := by
 rw [keyLt_iff] at *
 rcases h with h | ⟨h, h'⟩ <;> rcases k with k | ⟨k, k'⟩
 ·exact .inl (Qcb h k)
 ·exact .inl (by rw [← k]; exact h)
 ·exact .inl (by rw [h]; exact k)
 ·exact .inr ⟨h.trans k, Qcb h' k'⟩
theorem keyLt_asymm {a b : VP} (h : Qaf a b = true) : Qaf b a = false := by
 cases k : Qaf b a with
 | false => rfl
 | true => have := Qbc h k; rw [keyLt_irrefl] at this; cases this
def Qv (a b : VP) : Bool := seq a.Member b.Member && seq a.Product b.Product
theorem Qce {a b : VP} : Qv a b = true ↔ a.Member = b.Member ∧ a.Product = b.Product := by
 unfold Qv
 rw [Bool.and_eq_true, Qbs, Qbs]
theorem cmpK_same (a b : VP) : decide (cmpK a b = 0) = Qv a b := by
 cases h : Qv a b with
 | true => exact decide_eq_true (cmpK_zero.2 (Qce.1 h))
 | false => exact decide_eq_false fun e => by rw [Qce.2 (cmpK_zero.1 e)] at h; cases h
theorem Qct {a b : VP} (h : Qaf a b = false) (k : Qv a b = false) : Qaf b a = true := by
 rw [keyLt_iff]
 unfold Qaf Qv at *
 rw [Bool.or_eq_false_iff] at h
 cases m : slt b.Member a.Member with
 | true => exact .inl rfl
 | false =>
  have e := slt_total h.1 m
  rw [e, Qag, Bool.true_and] at k h
  have h2 : slt a.Product b.Product = false := h.2
  cases n : slt b.Product a.Product with
  | true => exact .inr ⟨e.symm, rfl⟩
  | false => rw [slt_total h2 n, Qag] at k; cases k
theorem Qbt {a b : VP} (h : Qaf a b = true) : Qv a b = false := by
 cases k : Qv a b with
 | false => rfl
 | true =>
  obtain ⟨h1, h2⟩ := Qce.1 k
  unfold Qaf at h
  rw [h1, h2, Qbu, Qbu] at h
  simp at h
theorem keyLt_l {a b c : VP} (h : Qv a b = true) : Qaf a c = Qaf b c := by
 obtain ⟨h1, h2⟩ := Qce.1 h
 unfold Qaf; rw [h1, h2]
theorem keyLt_r {a b c : VP} (h : Qv a b = true) : Qaf c a = Qaf c b := by
 obtain ⟨h1, h2⟩ := Qce.1 h
 unfold Qaf; rw [h1, h2]
abbrev Srt (l : List VP) : Prop := l.Pairwise fun a b => Qaf a b = true
theorem okL_some : ∀ {l : List VP} {p : VP}, okL (some p) l = true ↔ (p :: l).Pairwise (fun a b => Qaf a b = true) ∧ ∀ x ∈ l, Qcr x = true
 | [], p => by simp [okL]
 | y :: r, p => by
  rw [okL, ordAt, Bool.and_eq_true, Bool.and_eq_true, okL_some (l := r)]
  constructor
  ·rintro ⟨h1, h2, h3, h4⟩
   refine ⟨List.pairwise_cons.2 ⟨fun z hz => ?_, h3⟩, fun z hz => ?_⟩
   ·rcases List.mem_cons.1 hz with rfl | hz
    ·exact h1
    ·exact Qbc h1 ((List.pairwise_cons.1 h3).1 z hz)
   ·rcases List.mem_cons.1 hz with rfl | hz
    ·exact h2
    ·exact h4 z hz
  ·rintro ⟨h1, h2⟩
   have h3 := List.pairwise_cons.1 h1
   exact ⟨h3.1 y List.mem_cons_self, h2 y List.mem_cons_self, h3.2, fun z hz => h2 z (List.mem_cons_of_mem _ hz)⟩
theorem okL_none {l : List VP} : okL none l = true ↔ Srt l ∧ ∀ x ∈ l, Qcr x = true := by
 cases l with
 | nil => simp [okL]
 | cons y r =>
  rw [okL, ordAt, Bool.and_eq_true, Bool.and_eq_true, okL_some]
  constructor
  ·rintro ⟨_, h2, h3, h4⟩
   refine ⟨h3, fun z hz => ?_⟩
   rcases List.mem_cons.1 hz with rfl | hz
   ·exact h2
   ·exact h4 z hz
  ·rintro ⟨h1, h2⟩
   exact ⟨rfl, h2 y List.mem_cons_self, h1, fun z hz => h2 z (List.mem_cons_of_mem _ hz)⟩
section
variable {V : Type}
theorem get_put (z v : V) (k q : ByteArray) : ∀ m : List (ByteArray × V), mGet seq z q (mPut seq k v m) = bif seq q k then v else mGet seq z q m
 | [] => by simp [mPut, mGet]
 | (a, w) :: r => by
  simp only [mPut, mGet]
  cases hk : seq k a with
  | true =>
   have := Qbs.1 hk; subst this
   simp only [cond_true, mGet]
   cases seq q k <;> rfl
  | false =>
   simp only [cond_false, mGet]
   cases hq : seq q a with
   | true =>
    have := Qbs.1 hq; subst this
    simp only [cond_true]
    cases h : seq q k with
    | true => have := Qbs.1 h; subst this; rw [Qag] at hk; cases hk
    | false => rfl
   | false => simp only [cond_false]; exact get_put z v k q r
abbrev ndM (m : List (ByteArray × V)) : Prop := m.Pairwise fun a b => a.1 ≠ b.1
theorem put_mem {k : ByteArray} {v : V} {x : ByteArray × V} : ∀ {m : List (ByteArray × V)}, x ∈ mPut seq k v m → x = (k, v) ∨ x ∈ m
 | [], h => by left; simpa [mPut] using h
 | (a, w) :: r, h => by
  rw [mPut] at h
  cases hk : seq k a with
  | true =>
   rw [hk, cond_true] at h
   have := Qbs.1 hk; subst this
   rcases List.mem_cons.1 h with h | h
   ·exact .inl h
   ·exact .inr (List.mem_cons_of_mem _ h)
  | false =>
   rw [hk, cond_false] at h
   rcases List.mem_cons.1 h with h | h
   ·exact .inr (by rw [h]; exact List.mem_cons_self)
   ·rcases put_mem h with h | h
    ·exact .inl h
    ·exact .inr (List.mem_cons_of_mem _ h)
theorem put_nd {k : ByteArray} {v : V} : ∀ {m : List (ByteArray × V)}, ndM m → ndM (mPut seq k v m)
 | [], _ => by simp [mPut, ndM]
 | (a, w) :: r, h => by
  have h' := List.pairwise_cons.1 h
  rw [mPut]
  cases hk : seq k a with
  | true => exact List.pairwise_cons.2 ⟨fun y hy => h'.1 y hy, h'.2⟩
  | false =>
   refine List.pairwise_cons.2 ⟨fun y hy => ?_, put_nd h'.2⟩
   rcases put_mem hy with rfl | hy
   ·intro e
    have e' : a = k := e
    rw [e', Qag] at hk; cases hk
   ·exact h'.1 y hy
theorem get_mem {z : V} {k : ByteArray} {v : V} : ∀ {m : List (ByteArray × V)}, ndM m → (k, v) ∈ m → mGet seq z k m = v
 | (a, w) :: r, h, hm => by
  have h' := List.pairwise_cons.1 h
  rw [mGet]
  rcases List.mem_cons.1 hm with e | hm
  ·have e1 : k = a := congrArg Prod.fst e
   have e2 : v = w := congrArg Prod.snd e
   rw [e1, e2, Qag]; rfl
  ·cases hk : seq k a with
   | true => exact absurd (Qbs.1 hk).symm (h'.1 _ hm)
   | false => exact get_mem h'.2 hm
end
def sm (w : VP → Int) : List VP → Int
 | [] => 0
 | x :: r => w x + sm w r
theorem sm_bound (w : VP → Int) (b : Int) : ∀ l : List VP, (∀ x ∈ l, -b ≤ w x ∧ w x ≤ b) → -(b * l.length) ≤ sm w l ∧ sm w l ≤ b * l.length
 | [], _ => by simp [sm]
 | x :: r, h => by
  have h1 := h x List.mem_cons_self
  have h2 := sm_bound w b r fun y hy => h y (List.mem_cons_of_mem _ hy)
  simp only [sm, List.length_cons, Int.natCast_add, Int.mul_add]
  simp only [Int.natCast_one, Int.mul_one]
  omega
def wq (p : ByteArray) (x : VP) : Int := bif seq x.Product p then x.Quantity else 0
def wb (p : ByteArray) (x : VP) : Int := bif seq x.Product p then x.Basis else 0
theorem acc_get (p : ByteArray) : ∀ (l : List VP) (m : List (ByteArray × Qq)) (a b : Int), mGet seq (Qq.mk 0 0) p m = ⟨wr64 a, wr64 b⟩ → mGet seq (Qq.mk 0 0) p (accL l m) = ⟨wr64 (a + sm (wq p) l), wr64 (b + sm (wb p) l)⟩
 | [], m, a, b, h => by simpa [accL, sm] using h
 | x :: r, m, a, b, h => by
  rw [accL, acc_get p r _ (a + wq p x) (b + wb p x)]
  ·simp only [sm, Int.add_assoc]
  ·rw [get_put]
   cases hk : seq p x.Product with
   | true =>
    have := Qbs.1 hk; subst this
    simp only [cond_true, h, wr_l, wq, wb, Qag]
   | false =>
    have : seq x.Product p = false := by
     cases k : seq x.Product p with
     | false => rfl
     | true => rw [Qbs.1 k, Qag] at hk; cases hk
    simp only [cond_false, h, wq, wb, this, Int.add_zero]
theorem acc_nd : ∀ (l : List VP) {m : List (ByteArray × Qq)}, ndM m → ndM (accL l m)
 | [], m, h => h
 | x :: r, m, h => acc_nd r (put_nd h)
theorem acc_nil (p : ByteArray) (l : List VP) : mGet seq (Qq.mk 0 0) p (accL l []) = ⟨wr64 (sm (wq p) l), wr64 (sm (wb p) l)⟩ := by
 have := acc_get p l [] 0 0 rfl
 simpa using this
theorem zget {m : List (ByteArray × Qq)} (h : zeroM m = true) (p : ByteArray) : mGet seq (Qq.mk 0 0) p m = ⟨0, 0⟩ := by
 induction m with
 | nil => rfl
 | cons x r ih =>
  obtain ⟨k, ⟨a, b⟩⟩ := x
  unfold zeroM at h
  rw [List.all_cons, Bool.and_eq_true] at h
  have h1 := h.1
  simp only [Qq.eqb, Bool.and_eq_true, decide_eq_true_eq] at h1
  rw [mGet, ih h.2, h1.1, h1.2]
  cases seq p k <;> rfl
def Flat (l : List VP) : Prop := ∀ p, sm (wq p) l = 0 ∧ sm (wb p) l = 0
theorem good_q {x : VP} (h : Qcr x = true) : -1048576 ≤ x.Quantity ∧ x.Quantity ≤ 1048576 := by
 unfold Qcr at h; rw [Bool.and_eq_true] at h; exact inR_iff.1 h.1
theorem good_b {x : VP} (h : Qcr x = true) : -1125899906842624 ≤ x.Basis ∧ x.Basis ≤ 1125899906842624 := by
 unfold Qcr at h; rw [Bool.and_eq_true, Bool.and_eq_true] at h; exact inR_iff.1 h.2.1
theorem wq_bound {l : List VP} (h : ∀ x ∈ l, Qcr x = true) (hl : l.length ≤ 200) (p : ByteArray) : -209715200 ≤ sm (wq p) l ∧ sm (wq p) l ≤ 209715200 := by
 have := sm_bound (wq p) 1048576 l fun x hx => by
  have := good_q (h x hx)
  unfold wq
  cases seq x.Product p <;> simp only [cond_true, cond_false] <;> omega
 omega
theorem wb_bound {l : List VP} (h : ∀ x ∈ l, Qcr x = true) (hl : l.length ≤ 200) (p : ByteArray) : -225179981368524800 ≤ sm (wb p) l ∧ sm (wb p) l ≤ 225179981368524800 := by
 have := sm_bound (wb p) 1125899906842624 l fun x hx => by
  have := good_b (h x hx)
  unfold wb
  cases seq x.Product p <;> simp only [cond_true, cond_false] <;> omega
 omega
theorem zeroM_iff {l : List VP} (h : ∀ x ∈ l, Qcr x = true) (hl : l.length ≤ 200) : zeroM (accL l []) = true ↔ Flat l := by
 constructor
 ·intro hz p
  have h1 := acc_nil p l
  rw [zget hz p, Qq.mk.injEq] at h1
  have h2 := wq_bound h hl p
  have h3 := wb_bound h hl p
  rw [wr_in (by omega) (by omega), wr_in (by omega) (by omega)] at h1
  exact ⟨h1.1.symm, h1.2.symm⟩
 ·intro hf
  unfold zeroM
  rw [List.all_eq_true]
  rintro ⟨k, v⟩ hx
  have h1 := get_mem (z := Qq.mk 0 0) (acc_nd l (m := []) List.Pairwise.nil) hx
  rw [acc_nil, (hf k).1, (hf k).2] at h1
  rw [← h1]; rfl
structure Ok (s : Qd) : Prop where
 d0 : 0 ≤ s.Day
 d1 : s.Day ≤ 99999
 len : s.Positions.length ≤ 200
 srt : Srt s.Positions
 good : ∀ x ∈ s.Positions, Qcr x = true
 flat : Flat s.Positions
theorem check_iff {s : Qd} : checkB s = true ↔ Ok s := by
 unfold checkB
 simp only [Bool.and_eq_true, decide_eq_true_eq, okL_none]
 constructor
 ·rintro ⟨h1, h2, h3, ⟨h4, h5⟩, h6⟩
  exact ⟨h1, h2, h3, h4, h5, (zeroM_iff h5 h3).1 h6⟩
 ·rintro ⟨h1, h2, h3, h4, h5, h6⟩
  exact ⟨h1, h2, h3, ⟨h4, h5⟩, (zeroM_iff h5 h3).2 h6⟩

abbrev midI (lo hi : Int) : Int := wr64 (shrK .u64 (wru64 (wr64 (lo + hi))) 1)
theorem mid_eq {lo hi : Nat} (h : lo + hi ≤ 1000000) : midI lo hi = (((lo + hi) / 2 : Nat) : Int) := by
 have h1 : wr64 ((lo : Int) + (hi : Int)) = ((lo + hi : Nat) : Int) := by rw [wr_in (by omega) (by omega)]; omega
 have h2 : wru64 ((lo + hi : Nat) : Int) = ((lo + hi : Nat) : Int) := by
  show IntKind.u64.wrap _ = _
  rw [IntKind.wrap_u64]; omega
 unfold midI
 rw [h1, h2]
 have h3 : shrK .u64 ((lo + hi : Nat) : Int) 1 = (((lo + hi) / 2 : Nat) : Int) := by
  show Int.fdiv _ (2 ^ (min (1 : Int).toNat IntKind.u64.bits)) = _
  have : (2 : Int) ^ (min (1 : Int).toNat IntKind.u64.bits) = 2 := by decide
  rw [this, Int.fdiv_eq_ediv_of_nonneg _ (by omega)]
  omega
 rw [h3, wr_in (by omega) (by omega)]
def bsr {α : Type} (c : α → Int) (l : List α) : Nat → Int → Int → Option Int
 | 0, _, _ => none
 | f + 1, lo, hi => bif decide (lo < hi) then (at? l (midI lo hi)).bind fun x => bif decide (c x < 0) then bsr c l f (wr64 (midI lo hi + 1)) hi else bsr c l f lo (midI lo hi) else some lo
theorem bsr_ok {α : Type} (c : α → Int) (l : List α) (hl : l.length ≤ 400000) (mono : ∀ (i j : Nat) (x y : α), i ≤ j → l[i]? = some x → l[j]? = some y → c y < 0 → c x < 0) :
  ∀ (f lo hi : Nat), lo ≤ hi → hi ≤ l.length → hi - lo < f → (∀ (j : Nat) (x : α), j < lo → l[j]? = some x → c x < 0) → (∀ (j : Nat) (x : α), hi ≤ j → l[j]? = some x → ¬ c x < 0) →
   ∃ i : Nat, bsr c l f lo hi = some (i : Int) ∧ i ≤ l.length ∧ (∀ (j : Nat) (x : α), j < i → l[j]? = some x → c x < 0) ∧ (∀ (j : Nat) (x : α), i ≤ j → l[j]? = some x → ¬ c x < 0)
 | 0, lo, hi, _, _, h, _, _ => by omega
 | f + 1, lo, hi, h1, h2, h3, h4, h5 => by
  rw [bsr]
  by_cases h : lo < hi
  ·have hm : (lo + hi) / 2 < l.length := by omega
   obtain ⟨x, hx⟩ : ∃ x, l[(lo + hi) / 2]? = some x := ⟨l[(lo + hi) / 2], List.getElem?_eq_getElem hm⟩
   rw [decide_eq_true (by omega : (lo : Int) < (hi : Int)), mid_eq (by omega), Qao, hx]
   simp only [cond_true, Option.bind_some]
   by_cases hc : c x < 0
   ·rw [decide_eq_true hc, cond_true, wr_in (by omega) (by omega)]
    have := bsr_ok c l hl mono f ((lo + hi) / 2 + 1) hi (by omega) h2 (by omega) (fun j y hj hy => mono j _ y x (by omega) hy hx hc) h5
    simpa using this
   ·rw [decide_eq_false hc, cond_false]
    exact bsr_ok c l hl mono f lo ((lo + hi) / 2) (by omega) (by omega) (by omega) h4 fun j y hj hy e => hc (mono _ j x y hj hx hy e)
  ·rw [decide_eq_false (by omega : ¬ (lo : Int) < (hi : Int)), cond_false]
   have : lo = hi := by omega
   subst this
   exact ⟨lo, rfl, h2, h4, h5⟩
theorem bsr_split {α : Type} (c : α → Int) (l : List α) (hl : l.length ≤ 400000) (mono : ∀ (i j : Nat) (x y : α), i ≤ j → l[i]? = some x → l[j]? = some y → c y < 0 → c x < 0) :
  ∃ pre post : List α, l = pre ++ post ∧ bsr c l FUEL 0 l.length = some (pre.length : Int) ∧ (∀ x ∈ pre, c x < 0) ∧ (∀ x ∈ post, ¬ c x < 0) := by
 obtain ⟨i, h1, h2, h3, h4⟩ := bsr_ok c l hl mono FUEL 0 l.length (by omega) (by omega) (by unfold FUEL; omega) (fun j x hj => by omega) (fun j x hj hx => by have := lt_of_at hx; omega)
 refine ⟨l.take i, l.drop i, (List.take_append_drop i l).symm, ?_, fun x hx => ?_, fun x hx => ?_⟩
 ·rw [List.length_take, Nat.min_eq_left h2]; exact h1
 ·obtain ⟨j, hj⟩ := List.mem_iff_getElem?.1 hx
  have := lt_of_at hj
  rw [List.length_take] at this
  rw [List.getElem?_take_of_lt (by omega)] at hj
  exact h3 j x (by omega) hj
 ·obtain ⟨j, hj⟩ := List.mem_iff_getElem?.1 hx
  rw [List.getElem?_drop] at hj
  exact h4 (i + j) x (by omega) hj
theorem f63_53n1_eq (l : List VP) (k : VP) : ∀ (f : Nat) (lo hi : Int), f63_53n1 f l k lo hi = (bsr (fun x => cmpK x k) l f lo hi).map .exit0
 | 0, lo, hi => rfl
 | f + 1, lo, hi => by
  rw [f63_53n1, bsr]
  cases decide (lo < hi) with
  | false => rfl
  | true =>
   simp only [cond_true]
   cases at? l (midI lo hi) with
   | none => rfl
   | some x =>
    simp only [Option.bind_some, f53_eq, f63_53n1_eq l k f]
    cases decide (cmpK x k < 0) <;> rfl
def headB (g : VP → Bool) : List VP → Bool
 | [] => false
 | x :: _ => g x
theorem f63_53_eq {l : List VP} (hs : Srt l) (hl : l.length ≤ 400000) (k : VP) : ∃ pre post : List VP, l = pre ++ post ∧ f63_53 l k = some ((pre.length : Int), headB (fun x => Qv x k) post) ∧ (∀ x ∈ pre, Qaf x k = true) ∧ (∀ x ∈ post, Qaf x k = false) := by
 obtain ⟨pre, post, h1, h2, h3, h4⟩ := bsr_split (fun x => cmpK x k) l hl fun i j x y hij hx hy hc => by
  rcases Nat.lt_or_ge i j with h | h
  ·have h1 := List.pairwise_iff_getElem.1 hs i j (lt_of_at hx) (lt_of_at hy) h
   rw [(List.getElem?_eq_some_iff.1 hx).2, (List.getElem?_eq_some_iff.1 hy).2] at h1
   have h2 : Qaf y k = true := by rw [← cmpK_neg]; exact decide_eq_true hc
   have := Qbc h1 h2
   rw [← cmpK_neg] at this
   exact of_decide_eq_true this
  ·have : i = j := by omega
   subst this
   rw [hx] at hy; obtain rfl := Option.some.inj hy; exact hc
 refine ⟨pre, post, h1, ?_, fun x hx => by rw [← cmpK_neg]; exact decide_eq_true (h3 x hx), fun x hx => by rw [← cmpK_neg]; exact decide_eq_false (h4 x hx)⟩
 unfold f63_53 f63_53n0
 rw [f63_53n1_eq, h2]
 simp only [Option.map_some, Option.bind_some]
 cases post with
 | nil =>
  rw [h1, decide_eq_false (by simp)]; rfl
 | cons x r =>
  have hx : l[pre.length]? = some x := by rw [h1]; simp
  rw [decide_eq_true (by have := lt_of_at hx; omega), Qao, hx]
  simp only [cond_true, Option.bind_some, f53_eq, cmpK_same]
  rfl
end Go.Proofs.Ytelblamgfbkhbaa
namespace Go.Proofs.Ytelblamgfbkhbaa
set_option linter.unusedVariables false
set_option linter.unusedSimpArgs false
open Go.RowKit
def nz (x : VP) : List VP := bif Qca x then [] else [x]
def upd (x : VP) (q b : Int) : VP := ⟨x.Member, x.Product, wr64 (x.Quantity + q), wr64 (x.Basis + b)⟩
def putL (k : VP) (q b : Int) : List VP → List VP
 | [] => nz (upd k q b)
 | x :: r => bif Qaf x k then x :: putL k q b r else bif Qv x k then nz (upd x q b) ++ r else nz (upd k q b) ++ x :: r
def putP (k : VP) (q b : Int) : List VP → VP
 | [] => upd k q b
 | x :: r => bif Qaf x k then putP k q b r else bif Qv x k then upd x q b else upd k q b
theorem putL_pre {k : VP} {q b : Int} : ∀ {pre post : List VP}, (∀ x ∈ pre, Qaf x k = true) → putL k q b (pre ++ post) = pre ++ putL k q b post ∧ putP k q b (pre ++ post) = putP k q b post
 | [], post, _ => ⟨rfl, rfl⟩
 | x :: pre, post, h => by
  have h1 := h x List.mem_cons_self
  have h2 := putL_pre (q := q) (b := b) (pre := pre) (post := post) fun y hy => h y (List.mem_cons_of_mem _ hy)
  simp only [List.cons_append, putL, putP, h1, cond_true, h2]
  exact ⟨trivial, trivial⟩
theorem f46r1_at {l pre r : List VP} {x : VP} {m p : ByteArray} {q b : Int} {f : Bool} (hl : pre.length ≤ 100000) (h1 : f63_53 l ⟨m, p, 0, 0⟩ = some ((pre.length : Int), f)) (h2 : f46r1n1 q b ((pre.length : Int), f) l m p = some (.norm (pre ++ x :: r))) (hm : x.Member = m) (hp : x.Product = p) :
  f46r1 m p q b l = some (pre ++ (nz (upd x q b) ++ r), upd x q b) := by
 subst hm hp
 have hat : at? (pre ++ x :: r) ((pre.length : Nat) : Int) = some x := by rw [Qao]; simp
 have e := eqb_zero (upd x q b)
 simp only [upd] at e
 unfold f46r1 f46r1n0
 rw [h1]
 simp only [Option.bind_some]
 rw [h2]
 simp only [Option.bind_some]
 rw [hat]
 simp only [Option.bind_some, e, Int.toNat_natCast]
 unfold nz upd
 cases Qca ⟨x.Member, x.Product, wr64 (x.Quantity + q), wr64 (x.Basis + b)⟩ with
 | false => simp
 | true =>
  have hw : wr64 ((pre.length : Int) + 1) = (pre.length : Int) + 1 := wr_in (by omega) (by omega)
  unfold de65
  rw [hw, decide_eq_true (by omega : (0 : Int) ≤ (pre.length : Int)), decide_eq_true (rfl : (pre.length : Int) + 1 = (pre.length : Int) + 1), decide_eq_true (by simp; omega : (pre.length : Int) < _)]
  simp
theorem fits52 {n : Nat} (h : n ≤ 1000000) : Qbf n te52 = true := by
 have : fit n 48 = true := Qcd h (by omega)
 exact fit_of this rfl
theorem f46r1_eq {l : List VP} (hs : Srt l) (hl : l.length ≤ 100000) (m p : ByteArray) (q b : Int) : f46r1 m p q b l = some (putL ⟨m, p, 0, 0⟩ q b l, putP ⟨m, p, 0, 0⟩ q b l) := by
 obtain ⟨pre, post, rfl, h2, h3, h4⟩ := f63_53_eq hs (by omega) ⟨m, p, 0, 0⟩
 obtain ⟨e1, e2⟩ := putL_pre (k := ⟨m, p, 0, 0⟩) (q := q) (b := b) (post := post) h3
 rw [List.length_append] at hl
 rw [e1, e2]
 have ins : f46r1n1 q b ((pre.length : Int), false) (pre ++ post) m p = some (.norm (pre ++ ⟨m, p, 0, 0⟩ :: post)) := by
  unfold f46r1n1 in64
  rw [cond_false]
  rw [fits52 (by rw [List.length_append]; omega), decide_eq_true (by omega : (0 : Int) ≤ (pre.length : Int)), decide_eq_true (by rw [List.length_append]; omega : (pre.length : Int) ≤ _)]
  simp
 cases post with
 | nil =>
  have := f46r1_at (by omega) h2 ins rfl rfl
  rw [List.append_nil (nz _)] at this
  exact this
 | cons x r =>
  have hx := h4 x List.mem_cons_self
  rw [putL, putP, hx, cond_false, cond_false]
  cases hk : Qv x ⟨m, p, 0, 0⟩ with
  | true =>
   rw [headB, hk] at h2
   exact f46r1_at (by omega) h2 rfl (Qce.1 hk).1 (Qce.1 hk).2
  | false =>
   rw [headB, hk] at h2
   exact f46r1_at (by omega) h2 ins rfl rfl

theorem nz_mem {x y : VP} : y ∈ nz x ↔ y = x ∧ Qca x = false := by
 unfold nz
 cases Qca x <;> simp
theorem putP_key (k : VP) (q b : Int) : ∀ l : List VP, Qv (putP k q b l) k = true
 | [] => by simp [putP, upd, Qv, Qag]
 | x :: r => by
  rw [putP]
  cases Qaf x k with
  | true => exact putP_key k q b r
  | false =>
   cases h : Qv x k with
   | true => exact h
   | false => simp [upd, Qv, Qag]
theorem put_mem' {k : VP} {q b : Int} {y : VP} : ∀ {l : List VP}, y ∈ putL k q b l → y ∈ l ∨ (y = putP k q b l ∧ Qca y = false)
 | [], h => .inr (by have := nz_mem.1 h; exact ⟨this.1, by rw [this.1]; exact this.2⟩)
 | x :: r, h => by
  rw [putL] at h
  rw [putP]
  cases h1 : Qaf x k with
  | true =>
   rw [h1, cond_true] at h
   rcases List.mem_cons.1 h with h | h
   ·exact .inl (by rw [h]; exact List.mem_cons_self)
   ·rcases put_mem' h with h | h
    ·exact .inl (List.mem_cons_of_mem _ h)
    ·exact .inr h
  | false =>
   rw [h1, cond_false] at h
   cases h2 : Qv x k with
   | true =>
    rw [h2, cond_true] at h
    rcases List.mem_append.1 h with h | h
    ·have := nz_mem.1 h; exact .inr ⟨this.1, by rw [this.1]; exact this.2⟩
    ·exact .inl (List.mem_cons_of_mem _ h)
   | false =>
    rw [h2, cond_false] at h
    rcases List.mem_append.1 h with h | h
    ·have := nz_mem.1 h; exact .inr ⟨this.1, by rw [this.1]; exact this.2⟩
    ·exact .inl h
theorem put_len (k : VP) (q b : Int) : ∀ l : List VP, (putL k q b l).length ≤ l.length + 1
 | [] => by unfold putL nz; cases Qca (upd k q b) <;> simp
 | x :: r => by
  have := put_len k q b r
  rw [putL]
  cases Qaf x k with
  | true => simp only [cond_true, List.length_cons]; omega
  | false => cases Qv x k with
   | true => unfold nz; cases Qca (upd x q b) <;> simp <;> omega
   | false => unfold nz; cases Qca (upd k q b) <;> simp
theorem put_srt {k : VP} {q b : Int} : ∀ {l : List VP}, Srt l → Srt (putL k q b l)
 | [], _ => by unfold putL nz; cases Qca (upd k q b) <;> simp [Srt]
 | x :: r, h => by
  have h' := List.pairwise_cons.1 h
  rw [putL]
  cases h1 : Qaf x k with
  | true =>
   refine List.pairwise_cons.2 ⟨fun y hy => ?_, put_srt h'.2⟩
   rcases put_mem' hy with hy | ⟨rfl, _⟩
   ·exact h'.1 y hy
   ·rw [keyLt_r (putP_key k q b r)]; exact h1
  | false =>
   cases h2 : Qv x k with
   | true =>
    rw [cond_false, cond_true]
    unfold nz
    cases Qca (upd x q b) with
    | true => exact h'.2
    | false => exact List.pairwise_cons.2 ⟨fun y hy => h'.1 y hy, h'.2⟩
   | false =>
    rw [cond_false, cond_false]
    unfold nz
    cases Qca (upd k q b) with
    | true => exact h
    | false =>
     have h3 := Qct h1 h2
     refine List.pairwise_cons.2 ⟨fun y hy => ?_, h⟩
     rcases List.mem_cons.1 hy with rfl | hy
     ·exact h3
     ·exact Qbc h3 (h'.1 y hy)

def vl (k : VP) : List VP → Int × Int
 | [] => (0, 0)
 | x :: r => bif Qv x k then (x.Quantity, x.Basis) else vl k r
theorem Qcg {a b : VP} (h : Qv a b = true) : Qv b a = true := by
 rw [Qce] at *; exact ⟨h.1.symm, h.2.symm⟩
theorem sameK_trans {a b c : VP} (h : Qv a b = true) (k : Qv b c = true) : Qv a c = true := by
 rw [Qce] at *; exact ⟨h.1.trans k.1, h.2.trans k.2⟩
theorem sameK_l {a b c : VP} (h : Qv a b = true) : Qv a c = Qv b c := by
 obtain ⟨h1, h2⟩ := Qce.1 h
 unfold Qv; rw [h1, h2]
theorem vl_none {k : VP} : ∀ {l : List VP}, (∀ x ∈ l, Qv x k = false) → vl k l = (0, 0)
 | [], _ => rfl
 | x :: r, h => by rw [vl, h x List.mem_cons_self, cond_false, vl_none fun y hy => h y (List.mem_cons_of_mem _ hy)]
theorem vl_gt {k : VP} {l : List VP} (h : ∀ x ∈ l, Qaf k x = true) : vl k l = (0, 0) :=
 vl_none fun x hx => by
  have := Qbt (h x hx)
  cases e : Qv x k with
  | false => rfl
  | true => rw [Qcg e] at this; cases this
theorem vl_nz (k x : VP) (h : Qv x k = true) : vl k (nz x) = (x.Quantity, x.Basis) := by
 unfold nz
 cases hz : Qca x with
 | true =>
  unfold Qca at hz
  rw [Bool.and_eq_true, decide_eq_true_eq, decide_eq_true_eq] at hz
  rw [hz.1, hz.2]; rfl
 | false => rw [cond_false, vl, h, cond_true]
theorem vl_app (k : VP) : ∀ a b : List VP, vl k (a ++ b) = bif a.any (fun x => Qv x k) then vl k a else vl k b
 | [], b => rfl
 | x :: a, b => by
  rw [List.cons_append, vl, vl, vl_app k a b, List.any_cons]
  cases Qv x k <;> rfl
theorem vl_nz_ne {k x : VP} (h : Qv x k = false) (l : List VP) : vl k (nz x ++ l) = vl k l := by
 unfold nz
 cases Qca x with
 | true => rfl
 | false => rw [cond_false, List.singleton_append, vl, h, cond_false]
theorem vl_nz_gt {k x : VP} {l : List VP} (h : Qv x k = true) (hl : ∀ y ∈ l, Qaf k y = true) : vl k (nz x ++ l) = (x.Quantity, x.Basis) := by
 rw [vl_app, vl_gt hl]
 have h1 := vl_nz k x h
 unfold nz at *
 cases hz : Qca x with
 | true => rw [hz] at h1; rw [cond_true] at h1 ⊢; exact h1
 | false => rw [cond_false, List.any_cons, h, Bool.true_or, cond_true, vl, h, cond_true]
theorem vl_put {k : VP} (h0 : k.Quantity = 0 ∧ k.Basis = 0) {q b : Int} (g : VP) : ∀ {l : List VP}, Srt l → vl g (putL k q b l) = bif Qv k g then (wr64 ((vl g l).1 + q), wr64 ((vl g l).2 + b)) else vl g l
 | [], _ => by
  rw [putL]
  cases hg : Qv k g with
  | true => rw [vl_nz g _ (show Qv (upd k q b) g = true from hg)]; simp [upd, h0.1, h0.2, vl]
  | false =>
   have := vl_nz_ne (k := g) (x := upd k q b) hg []
   rw [List.append_nil] at this
   rw [this]; rfl
 | x :: r, h => by
  have h' := List.pairwise_cons.1 h
  have ih := vl_put h0 (q := q) (b := b) g h'.2
  rw [putL]
  cases h1 : Qaf x k with
  | true =>
   rw [cond_true, vl, vl, ih]
   cases hg : Qv k g with
   | true =>
    have : Qv x g = false := by
     cases e : Qv x g with
     | false => rfl
     | true => have := sameK_trans e (Qcg hg); rw [Qbt h1] at this; cases this
    rw [this]; rfl
   | false => rfl
  | false =>
   rw [cond_false]
   cases h2 : Qv x k with
   | true =>
    rw [cond_true]
    cases hg : Qv k g with
    | true =>
     have hx : Qv x g = true := sameK_trans h2 hg
     rw [vl_nz_gt (show Qv (upd x q b) g = true from hx) fun y hy => by rw [← keyLt_l hx]; exact h'.1 y hy]
     rw [vl, hx]
     rfl
    | false =>
     have hx : Qv x g = false := by rw [sameK_l h2]; exact hg
     rw [vl_nz_ne (show Qv (upd x q b) g = false from hx), vl, hx]; rfl
   | false =>
    have h3 := Qct h1 h2
    have hgt : ∀ y ∈ x :: r, Qaf k y = true := fun y hy => by
     rcases List.mem_cons.1 hy with rfl | hy
     ·exact h3
     ·exact Qbc h3 (h'.1 y hy)
    rw [cond_false]
    cases hg : Qv k g with
    | true =>
     have hgt' : ∀ y ∈ x :: r, Qaf g y = true := fun y hy => by rw [← keyLt_l hg]; exact hgt y hy
     rw [vl_nz_gt (show Qv (upd k q b) g = true from hg) hgt', vl_gt hgt']
     simp [upd, h0.1, h0.2]
    | false => rw [vl_nz_ne (show Qv (upd k q b) g = false from hg)]; rfl
theorem putP_vl {k : VP} (h0 : k.Quantity = 0 ∧ k.Basis = 0) {q b : Int} : ∀ {l : List VP}, Srt l → putP k q b l = ⟨k.Member, k.Product, wr64 ((vl k l).1 + q), wr64 ((vl k l).2 + b)⟩
 | [], _ => by simp [putP, upd, vl, h0.1, h0.2]
 | x :: r, h => by
  have h' := List.pairwise_cons.1 h
  rw [putP, vl]
  cases h1 : Qaf x k with
  | true => rw [cond_true, Qbt h1, cond_false, putP_vl h0 h'.2]
  | false =>
   rw [cond_false]
   cases h2 : Qv x k with
   | true => obtain ⟨e1, e2⟩ := Qce.1 h2; rw [cond_true, cond_true, upd, e1, e2]
   | false =>
    have h3 := Qct h1 h2
    rw [cond_false, cond_false, vl_gt fun y hy => Qbc h3 (h'.1 y hy)]
    simp [upd, h0.1, h0.2]
end Go.Proofs.Ytelblamgfbkhbaa
namespace Go.Proofs.Ytelblamgfbkhbaa
set_option linter.unusedVariables false
set_option linter.unusedSimpArgs false
open Go.RowKit
theorem mul_bd {a b : Int} {x y : Nat} (h : a.natAbs ≤ x) (k : b.natAbs ≤ y) : (a * b).natAbs ≤ x * y := by
 rw [Int.natAbs_mul]; exact Nat.mul_le_mul h k
theorem f47r1_eq {l : List VP} (h : l.length ≤ 1000000) : f47r1 l = some l := by
 unfold f47r1 f47r1n0
 cases l with
 | nil => rfl
 | cons x r => rw [req, Qcd h (by omega)]; rfl
abbrev kOf (m p : ByteArray) : VP := ⟨m, p, 0, 0⟩
def tA (s : Qd) (bu pr : ByteArray) (q p : Int) : VP := putP (kOf bu pr) q (q * p) s.Positions
def tL1 (s : Qd) (bu pr : ByteArray) (q p : Int) : List VP := putL (kOf bu pr) q (q * p) s.Positions
def tB (s : Qd) (bu se pr : ByteArray) (q p : Int) : VP := putP (kOf se pr) (-q) (-(q * p)) (tL1 s bu pr q p)
def tL2 (s : Qd) (bu se pr : ByteArray) (q p : Int) : List VP := putL (kOf se pr) (-q) (-(q * p)) (tL1 s bu pr q p)
def askB (bu se pr : ByteArray) (q p : Int) : Bool := partyB bu && (partyB se && (!(seq bu se) && (nameB pr && (decide (1 ≤ q) && (decide (q ≤ 1048576) && inR p 536870912)))))
def noV : Qd := ⟨0, []⟩
def tradeS (s : Qd) (bu se pr : ByteArray) (q p : Int) : Qd × Int :=
 bif checkB s then
  bif askB bu se pr q p then
   bif inR (tB s bu se pr q p).Quantity 1048576 && inR (tA s bu pr q p).Quantity 1048576 then
    bif inR (tB s bu se pr q p).Basis 1125899906842624 && inR (tA s bu pr q p).Basis 1125899906842624 then
     bif decide ((tL2 s bu se pr q p).length ≤ 200) then (⟨s.Day, tL2 s bu se pr q p⟩, 0) else (noV, 22)
    else (noV, 14)
   else (noV, 52)
  else (noV, 2)
 else (noV, 8)
structure Ask (bu se pr : ByteArray) (q p : Int) : Prop where
 bp : partyB bu = true
 sp : partyB se = true
 ne : seq bu se = false
 np : nameB pr = true
 q0 : 1 ≤ q
 q1 : q ≤ 1048576
 p0 : -536870912 ≤ p
 p1 : p ≤ 536870912
theorem ask_iff {bu se pr : ByteArray} {q p : Int} : askB bu se pr q p = true ↔ Ask bu se pr q p := by
 unfold askB
 simp only [Bool.and_eq_true, decide_eq_true_eq, Bool.not_eq_true', inR_iff]
 exact ⟨fun ⟨a, b, c, d, e, f, g, h⟩ => ⟨a, b, c, d, e, f, g, h⟩, fun ⟨a, b, c, d, e, f, g, h⟩ => ⟨a, b, c, d, e, f, g, h⟩⟩
theorem Ask.m {bu se pr : ByteArray} {q p : Int} (h : Ask bu se pr q p) : -562949953421312 ≤ q * p ∧ q * p ≤ 562949953421312 := by
 have := mul_bd (a := q) (b := p) (x := 1048576) (y := 536870912) (by have := h.q0; have := h.q1; omega) (by have := h.p0; have := h.p1; omega)
 omega
theorem f16_eq (s : Qd) (bu se pr : ByteArray) (q p : Int) : f16 s bu se pr q p = some (tradeS s bu se pr q p) := by
 have e45 : f45 pr = some (nameB pr) := f45_eq _
 unfold f16 f16n0 tradeS
 rw [f26_eq]
 cases hc : checkB s with
 | false => rfl
 | true =>
  have ok := check_iff.1 hc
  rw [Qbl, Qbl]
  simp only [cond_true, Option.bind_some, f44_eq, e45, f37_p, decide_true]
  cases ha : askB bu se pr q p with
  | false =>
   simp only [cond_false]
   unfold askB at ha
   revert ha
   cases partyB bu with
   | false => intro _; rfl
   | true => cases partyB se with
    | false => intro _; rfl
    | true => cases seq bu se with
     | true => intro _; rfl
     | false => cases nameB pr with
      | false => intro _; rfl
      | true => cases decide (1 ≤ q) with
       | false => intro _; rfl
       | true => cases decide (q ≤ 1048576) with
        | false => intro _; rfl
        | true => cases inR p 536870912 with
         | false => intro _; rfl
         | true => intro h; cases h
  | true =>
   have a := ask_iff.1 ha
   have hm := a.m
   have hq0 := a.q0
   have hq1 := a.q1
   have e1 : wr64 (q * p) = q * p := wr_in (by omega) (by omega)
   have e2 : wr64 (0 - q) = -q := w64 (by omega) (by omega) (by omega)
   have e3 : wr64 (-q * p) = -(q * p) := w64 (by rw [Int.neg_mul]) (by omega) (by omega)
   have e4 : f47r1 s.Positions = some s.Positions := f47r1_eq (by have := ok.len; omega)
   have e5 : f46r1 bu pr q (q * p) s.Positions = some (tL1 s bu pr q p, tA s bu pr q p) := f46r1_eq ok.srt (by have := ok.len; omega) _ _ _ _
   have e6 : f46r1 se pr (-q) (-(q * p)) (tL1 s bu pr q p) = some (tL2 s bu se pr q p, tB s bu se pr q p) := f46r1_eq (put_srt ok.srt) (by have := ok.len; have := put_len (kOf bu pr) q (q * p) s.Positions; omega) _ _ _ _
   have hp : inR p 536870912 = true := inR_iff.2 ⟨a.p0, a.p1⟩
   have hl : decide ((200 : Int) < ((tL2 s bu se pr q p).length : Int)) = !decide ((tL2 s bu se pr q p).length ≤ 200) := by rw [Qbl]; congr 1; exact dec_nat _ 200
   simp only [a.bp, a.sp, a.ne, a.np, decide_eq_true hq0, decide_eq_true hq1, hp, Bool.not_true, cond_true, cond_false, e1, e2, e3, e4, e5, e6, Option.bind_some, f37_q, f37_b, hl]
   cases inR (tB s bu se pr q p).Quantity 1048576 with
   | false => rfl
   | true => cases inR (tA s bu pr q p).Quantity 1048576 with
    | false => rfl
    | true => cases inR (tB s bu se pr q p).Basis 1125899906842624 with
     | false => rfl
     | true => cases inR (tA s bu pr q p).Basis 1125899906842624 with
      | false => rfl
      | true => cases decide ((tL2 s bu se pr q p).length ≤ 200) <;> rfl

abbrev Bd (l : List VP) : Prop := ∀ x ∈ l, (-1048576 ≤ x.Quantity ∧ x.Quantity ≤ 1048576) ∧ (-1125899906842624 ≤ x.Basis ∧ x.Basis ≤ 1125899906842624)
section
variable {m p : ByteArray} {q b : Int} {l : List VP} (hb : Bd l) (hq : -1048576 ≤ q ∧ q ≤ 1048576) (hm : -1125899906842624 ≤ b ∧ b ≤ 1125899906842624)
include hb hq
omit hq
include hm
end
theorem good_bd {l : List VP} (h : ∀ x ∈ l, Qcr x = true) : Bd l := fun x hx => ⟨good_q (h x hx), good_b (h x hx)⟩
theorem good_nz {x : VP} (h : Qcr x = true) : Qca x = false := by
 unfold Qcr at h
 simp only [Bool.and_eq_true, Bool.not_eq_true'] at h
 exact h.2.2.1
structure Took (s : Qd) (bu se pr : ByteArray) (q p : Int) : Prop where
 ok : Ok s
 ask : Ask bu se pr q p
 qb : inR (tB s bu se pr q p).Quantity 1048576 = true
 qa : inR (tA s bu pr q p).Quantity 1048576 = true
 bb : inR (tB s bu se pr q p).Basis 1125899906842624 = true
 ba : inR (tA s bu pr q p).Basis 1125899906842624 = true
 len : (tL2 s bu se pr q p).length ≤ 200
theorem trade_took {s : Qd} {bu se pr : ByteArray} {q p : Int} (h : (tradeS s bu se pr q p).2 = 0) : Took s bu se pr q p ∧ tradeS s bu se pr q p = (⟨s.Day, tL2 s bu se pr q p⟩, 0) := by
 unfold tradeS at h ⊢
 cases h1 : checkB s with
 | false => rw [h1] at h; cases h
 | true =>
  cases h2 : askB bu se pr q p with
  | false => rw [h1, h2] at h; cases h
  | true =>
   cases h3 : inR (tB s bu se pr q p).Quantity 1048576 && inR (tA s bu pr q p).Quantity 1048576 with
   | false => rw [h1, h2, h3] at h; cases h
   | true =>
    cases h4 : inR (tB s bu se pr q p).Basis 1125899906842624 && inR (tA s bu pr q p).Basis 1125899906842624 with
    | false => rw [h1, h2, h3, h4] at h; cases h
    | true =>
     cases h5 : decide ((tL2 s bu se pr q p).length ≤ 200) with
     | false => rw [h1, h2, h3, h4, h5] at h; cases h
     | true =>
      rw [Bool.and_eq_true] at h3 h4
      exact ⟨⟨check_iff.1 h1, ask_iff.1 h2, h3.1, h3.2, h4.1, h4.2, of_decide_eq_true h5⟩, rfl⟩
section
variable {s : Qd} {bu se pr : ByteArray} {q p : Int} (h : Took s bu se pr q p)
include h
end
end Go.Proofs.Ytelblamgfbkhbaa
namespace Go.Proofs.Ytelblamgfbkhbaa
set_option linter.unusedVariables false
set_option linter.unusedSimpArgs false
open Go.RowKit
abbrev PR_ := Qc
def pAt : Option PR_ → PR_ → Bool
 | none, _ => true
 | some y, x => slt y.Product x.Product
def pOk : Option PR_ → List PR_ → Bool
 | _, [] => true
 | p, x :: r => pAt p x && (nameB x.Product && (inR x.Price 536870912 && pOk (some x) r))
theorem f35n2L_at (s : List PR_) : ∀ (l pre : List PR_), s = pre ++ l → s.length ≤ 1000 → f35n2L s l ((pre.length : Nat) : Int) = some (bif pOk pre.getLast? l then .exit0 else .ret)
 | [], pre, _, _ => rfl
 | x :: r, pre, h, hb => by
  have ih := f35n2L_at s r (pre ++ [x]) (by rw [h]; simp) hb
  rw [List.length_append, List.getLast?_concat, show (((pre.length + [x].length : Nat)) : Int) = (pre.length : Int) + 1 from by simp] at ih
  have e45 : f45 x.Product = some (nameB x.Product) := f45_eq _
  rw [f35n2L]
  simp only [f37_p, Option.bind_some, e45, ih, pOk]
  rcases List.eq_nil_or_concat pre with rfl | ⟨q, y, rfl⟩
  ·simp only [List.length_nil, Int.natCast_zero, List.getLast?_nil, pAt, Bool.true_and]
   rw [decide_eq_false (by omega : ¬ (0 : Int) < 0)]
   cases nameB x.Product <;> cases inR x.Price 536870912 <;> cases pOk (some x) r <;> rfl
  ·rw [List.concat_eq_append] at h ⊢
   have hne : (0 : Int) < (((q ++ [y]).length : Nat) : Int) := by simp
   have hlen : q.length + 1 ≤ 1000 := by rw [h] at hb; simp at hb; omega
   have hw : wr64 ((((q ++ [y]).length : Nat) : Int) - 1) = ((q.length : Nat) : Int) := w64 (by simp) (by omega) (by omega)
   have hat : at? s ((q.length : Nat) : Int) = some y := by rw [Qao, h]; simp
   rw [decide_eq_true hne, hw, hat, List.getLast?_concat]
   simp only [cond_true, Option.bind_some, pAt]
   cases slt y.Product x.Product <;> cases nameB x.Product <;> cases inR x.Price 536870912 <;> cases pOk (some x) r <;> rfl
def Qbh (ps : List PR_) : Bool := pOk none ps && decide (ps.length ≤ 200)
theorem f35_eq {ps : List PR_} (h : ps.length ≤ 1000) : f35 ps = some (Qbh ps) := by
 have := f35n2L_at ps ps [] rfl h
 rw [show (((([] : List PR_).length : Nat)) : Int) = 0 from rfl, List.getLast?_nil] at this
 unfold f35 f35n0 f35n1 Qbh
 rw [f35n2_run ps (Nat.le_trans h (by unfold maxLen; decide)), this, show decide ((ps.length : Int) ≤ 200) = decide (ps.length ≤ 200) from dec_nat _ 200]
 cases pOk none ps <;> rfl
abbrev PSrt (l : List PR_) : Prop := l.Pairwise fun a b => slt a.Product b.Product = true
theorem pOk_some : ∀ {l : List PR_} {p : PR_}, pOk (some p) l = true → (p :: l).Pairwise (fun a b => slt a.Product b.Product = true) ∧ ∀ x ∈ l, inR x.Price 536870912 = true
 | [], p, _ => by simp
 | y :: r, p, h => by
  rw [pOk, pAt, Bool.and_eq_true, Bool.and_eq_true, Bool.and_eq_true] at h
  obtain ⟨h1, _, h2, h3⟩ := h
  obtain ⟨h4, h5⟩ := pOk_some h3
  refine ⟨List.pairwise_cons.2 ⟨fun z hz => ?_, h4⟩, fun z hz => ?_⟩
  ·rcases List.mem_cons.1 hz with rfl | hz
   ·exact h1
   ·exact Qcb h1 ((List.pairwise_cons.1 h4).1 z hz)
  ·rcases List.mem_cons.1 hz with rfl | hz
   ·exact h2
   ·exact h5 z hz
theorem prices_ok {ps : List PR_} (h : Qbh ps = true) : PSrt ps ∧ (∀ x ∈ ps, inR x.Price 536870912 = true) ∧ ps.length ≤ 200 := by
 unfold Qbh at h
 rw [Bool.and_eq_true, decide_eq_true_eq] at h
 refine ⟨?_, ?_, h.2⟩
 ·cases ps with
  | nil => exact List.Pairwise.nil
  | cons y r =>
   have := h.1
   rw [pOk, Bool.and_eq_true, Bool.and_eq_true, Bool.and_eq_true] at this
   exact (pOk_some this.2.2.2).1
 ·cases ps with
  | nil => simp
  | cons y r =>
   have := h.1
   rw [pOk, Bool.and_eq_true, Bool.and_eq_true, Bool.and_eq_true] at this
   intro z hz
   rcases List.mem_cons.1 hz with rfl | hz
   ·exact this.2.2.1
   ·exact (pOk_some this.2.2.2).2 z hz
theorem f57_58n1_eq (l : List PR_) (k : ByteArray) : ∀ (f : Nat) (lo hi : Int), f57_58n1 f l k lo hi = (bsr (fun x => cmpB x.Product k) l f lo hi).map .exit0
 | 0, lo, hi => rfl
 | f + 1, lo, hi => by
  rw [f57_58n1, bsr]
  cases decide (lo < hi) with
  | false => rfl
  | true =>
   simp only [cond_true]
   cases at? l (midI lo hi) with
   | none => rfl
   | some x =>
    have : f58 x k = some (cmpB x.Product k) := by unfold f58 f58n0; rw [f40_val]; rfl
    simp only [Option.bind_some, this, f57_58n1_eq l k f]
    cases decide (cmpB x.Product k < 0) <;> rfl
def lk (p : ByteArray) : List PR_ → Option Int
 | [] => none
 | x :: r => bif seq x.Product p then some x.Price else lk p r
theorem seq_f {a b : ByteArray} (h : a ≠ b) : seq a b = false := by
 cases k : seq a b with
 | false => rfl
 | true => exact absurd (Qbs.1 k) h
theorem lk_none {p : ByteArray} : ∀ {l : List PR_}, (∀ x ∈ l, x.Product ≠ p) → lk p l = none
 | [], _ => rfl
 | x :: r, h => by rw [lk, seq_f (h x List.mem_cons_self), cond_false, lk_none fun y hy => h y (List.mem_cons_of_mem _ hy)]
theorem lk_app {p : ByteArray} : ∀ {pre post : List PR_}, (∀ x ∈ pre, x.Product ≠ p) → lk p (pre ++ post) = lk p post
 | [], _, _ => rfl
 | x :: r, post, h => by rw [List.cons_append, lk, seq_f (h x List.mem_cons_self), cond_false, lk_app fun y hy => h y (List.mem_cons_of_mem _ hy)]
theorem lk_in {p : ByteArray} {v : Int} : ∀ {l : List PR_}, lk p l = some v → ∃ x ∈ l, x.Price = v
 | x :: r, h => by
  rw [lk] at h
  cases k : seq x.Product p with
  | true => rw [k] at h; exact ⟨x, List.mem_cons_self, Option.some.inj h⟩
  | false =>
   rw [k] at h
   obtain ⟨y, hy, e⟩ := lk_in h
   exact ⟨y, List.mem_cons_of_mem _ hy, e⟩
theorem slt_ne {a b : ByteArray} (h : slt a b = true) : a ≠ b := fun e => by rw [e, Qbu] at h; cases h
theorem f57_58_eq {ps : List PR_} (hs : PSrt ps) (hl : ps.length ≤ 1000) (k : ByteArray) :
  (lk k ps = none ∧ ∃ i, f57_58 ps k = some (i, false)) ∨ ∃ i x, f57_58 ps k = some (i, true) ∧ at? ps i = some x ∧ lk k ps = some x.Price := by
 obtain ⟨pre, post, h1, h2, h3, h4⟩ := bsr_split (fun x : PR_ => cmpB x.Product k) ps (by omega) fun i j x y hij hx hy hc => by
  rcases Nat.lt_or_ge i j with h | h
  ·have h1 := List.pairwise_iff_getElem.1 hs i j (lt_of_at hx) (lt_of_at hy) h
   rw [(List.getElem?_eq_some_iff.1 hx).2, (List.getElem?_eq_some_iff.1 hy).2] at h1
   exact Qcj.2 (Qcb h1 (Qcj.1 hc))
  ·have : i = j := by omega
   subst this
   rw [hx] at hy; obtain rfl := Option.some.inj hy; exact hc
 have hpre : ∀ x ∈ pre, x.Product ≠ k := fun x hx => slt_ne (Qcj.1 (h3 x hx))
 have hr : f57_58n1 FUEL ps k 0 (ps.length : Int) = some (.exit0 (pre.length : Int)) := by rw [f57_58n1_eq, h2]; rfl
 cases post with
 | nil =>
  left
  refine ⟨by rw [h1, lk_app hpre]; rfl, (pre.length : Int), ?_⟩
  unfold f57_58 f57_58n0
  rw [hr]
  simp only [Option.bind_some]
  rw [h1, decide_eq_false (by simp)]; rfl
 | cons x r =>
  have hx : ps[pre.length]? = some x := by rw [h1]; simp
  have h58 : f58 x k = some (cmpB x.Product k) := by unfold f58 f58n0; rw [f40_val]; rfl
  have hf : f57_58 ps k = some ((pre.length : Int), decide (cmpB x.Product k = 0)) := by
   unfold f57_58 f57_58n0
   rw [hr]
   simp only [Option.bind_some]
   rw [decide_eq_true (by have := lt_of_at hx; omega), Qao, hx]
   simp only [cond_true, Option.bind_some, h58]
  by_cases hk : cmpB x.Product k = 0
  ·right
   refine ⟨_, x, by rw [hf, decide_eq_true hk], by rw [Qao]; exact hx, ?_⟩
   rw [h1, lk_app hpre, lk, Qbs.2 (cmpB_zero.1 hk)]; rfl
  ·left
   refine ⟨?_, _, by rw [hf, decide_eq_false hk]⟩
   rw [h1, lk_app hpre]
   have hs' : PSrt (x :: r) := by
    rw [h1] at hs
    exact (List.pairwise_append.1 hs).2.1
   have h5 : slt k x.Product = true := cmpB_pos.1 (by have := h4 x List.mem_cons_self; omega)
   refine lk_none fun y hy e => ?_
   rcases List.mem_cons.1 hy with rfl | hy
   ·exact slt_ne h5 e.symm
   ·exact slt_ne (Qcb h5 ((List.pairwise_cons.1 hs').1 y hy)) e.symm

def hasV (ps : List PR_) (x : VP) : Bool := decide (x.Quantity = 0) || (lk x.Product ps).isSome
def prc (ps : List PR_) (p : ByteArray) : Int := (lk p ps).getD 0
def vOf (ps : List PR_) (x : VP) : Int := x.Quantity * prc ps x.Product
theorem prc_bd {ps : List PR_} (h : Qbh ps = true) (p : ByteArray) : -536870912 ≤ prc ps p ∧ prc ps p ≤ 536870912 := by
 unfold prc
 cases k : lk p ps with
 | none => simp
 | some v =>
  obtain ⟨x, hx, rfl⟩ := lk_in k
  exact inR_iff.1 ((prices_ok h).2.1 x hx)
theorem vOf_bd {ps : List PR_} (h : Qbh ps = true) {x : VP} (hx : Qcr x = true) : -562949953421312 ≤ vOf ps x ∧ vOf ps x ≤ 562949953421312 := by
 have h1 := prc_bd h x.Product
 have h2 := good_q hx
 have := mul_bd (a := x.Quantity) (b := prc ps x.Product) (x := 1048576) (y := 536870912) (by omega) (by omega)
 unfold vOf
 omega
theorem f36_eq {ps : List PR_} (h : Qbh ps = true) {x : VP} (hx : Qcr x = true) : ∃ v, f36 x ps = some (v, hasV ps x) ∧ (hasV ps x = true → v = vOf ps x) := by
 have hp := prices_ok h
 have hb := vOf_bd h hx
 unfold f36 f36n0 hasV
 by_cases h0 : x.Quantity = 0
 ·rw [decide_eq_true h0]
  exact ⟨0, rfl, fun _ => by unfold vOf; rw [h0]; simp⟩
 ·rw [decide_eq_false h0]
  simp only [cond_false, Bool.false_or]
  rcases f57_58_eq hp.1 (by omega) x.Product with ⟨h1, i, h2⟩ | ⟨i, y, h2, h3, h4⟩
  ·rw [h1, h2]
   exact ⟨0, rfl, fun h => by cases h⟩
  ·rw [h2, h4]
   simp only [Option.bind_some, cond_true]
   rw [h3]
   refine ⟨_, rfl, fun _ => ?_⟩
   unfold vOf prc at hb ⊢
   rw [h4] at hb ⊢
   exact wr_in (n := x.Quantity * y.Price) (by simp at hb; omega) (by simp at hb; omega)

def accM (ps : List PR_) : List VP → List (ByteArray × Int) → List (ByteArray × Int)
 | [], m => m
 | x :: r, m => accM ps r (mPut seq x.Member (wr64 (mGet seq 0 x.Member m + wr64 (vOf ps x - x.Basis))) m)
def setP (ps : List PR_) (x : VP) : VP := ⟨x.Member, x.Product, x.Quantity, vOf ps x⟩
def setO (ps : List PR_) : List VP → List VP
 | [] => []
 | x :: r => bif decide (x.Quantity = 0) then setO ps r else setP ps x :: setO ps r
theorem f14n3L_at {ps : List PR_} (h : Qbh ps = true) (s : Qd) (d : Int) : ∀ (l : List VP) (k : Int) (m : List (ByteArray × Int)) (o : List VP), (∀ x ∈ l, Qcr x = true) → o.length + l.length ≤ 1000 →
  f14n3L ps s d l k m o = some (bif l.all (hasV ps) then .exit1 (accM ps l m) (o ++ setO ps l) else .ret)
 | [], k, m, o, _, _ => by simp [f14n3L, accM, setO]
 | x :: r, k, m, o, hg, hl => by
  simp only [List.length_cons] at hl
  obtain ⟨v, h1, h2⟩ := f36_eq h (hg x List.mem_cons_self)
  rw [f14n3L, h1]
  simp only [Option.bind_some, List.all_cons]
  cases hv : hasV ps x with
  | false => rfl
  | true =>
   rw [h2 hv, accM, setO]
   have hr : ∀ y ∈ r, Qcr y = true := fun y hy => hg y (List.mem_cons_of_mem _ hy)
   simp only [cond_true, Bool.true_and]
   cases decide (x.Quantity = 0) with
   | true => rw [cond_true, cond_true, f14n3L_at h s d r _ _ _ hr (by omega)]
   | false =>
    rw [cond_false, cond_false, req, Qcd (by omega) (by omega), cond_true, f14n3L_at h s d r _ _ _ hr (by simp; omega)]
    simp [setP]
theorem put_mlen {V : Type} (k : ByteArray) (v : V) : ∀ m : List (ByteArray × V), (mPut seq k v m).length ≤ m.length + 1
 | [] => by simp [mPut]
 | (a, w) :: r => by
  have := put_mlen k v r
  rw [mPut]
  cases seq k a <;> simp <;> omega
theorem accM_len (ps : List PR_) : ∀ (l : List VP) (m : List (ByteArray × Int)), (accM ps l m).length ≤ m.length + l.length
 | [], m => by simp [accM]
 | x :: r, m => by
  have h1 := accM_len ps r (mPut seq x.Member (wr64 (mGet seq 0 x.Member m + wr64 (vOf ps x - x.Basis))) m)
  have h2 := put_mlen x.Member (wr64 (mGet seq 0 x.Member m + wr64 (vOf ps x - x.Basis))) m
  rw [accM, List.length_cons]; omega
theorem accM_nd (ps : List PR_) : ∀ (l : List VP) {m : List (ByteArray × Int)}, ndM m → ndM (accM ps l m)
 | [], m, h => h
 | x :: r, m, h => accM_nd ps r (put_nd h)
def payL (m : List (ByteArray × Int)) : List Qb := (m.filter fun x => !decide (x.2 = 0)).map fun x => ⟨x.1, x.2⟩
theorem f14n5_eq (d : Int) (o2 : List VP) (m : List (ByteArray × Int)) : ∀ (l : List (ByteArray × Int)) (o : List Qb), o.length + l.length ≤ 1000 → f14n5 d o2 m l o = some (bif l.all (fun x => inR x.2 1125899906842624) then .exit3 (o ++ payL l) else .ret)
 | [], o, _ => by simp [f14n5, payL]
 | x :: r, o, hl => by
  simp only [List.length_cons] at hl
  rw [f14n5, f37_b]
  simp only [Option.bind_some, List.all_cons]
  cases inR x.2 1125899906842624 with
  | false => rfl
  | true =>
   simp only [cond_true, Bool.true_and]
   cases h0 : decide (x.2 = 0) with
   | true =>
    rw [cond_true, f14n5_eq d o2 m r o (by omega)]
    simp only [payL, List.filter_cons, h0, Bool.not_true]
    rfl
   | false =>
    rw [cond_false, req, Qcd (by omega) (by omega), cond_true, f14n5_eq d o2 m r _ (by simp; omega)]
    simp only [payL, List.filter_cons, h0, Bool.not_false]
    simp
theorem pay_perm {p m : List (ByteArray × Int)} (h : p.Perm m) : (payL p).Perm (payL m) := (h.filter _).map _
theorem pay_nd {m : List (ByteArray × Int)} (h : ndM m) : (payL m).Pairwise fun a b => a.Member ≠ b.Member := by
 unfold payL
 rw [List.pairwise_map]
 exact h.sublist List.filter_sublist
def isortP (l : List Qb) : List Qb := isort (fun x => x.Member) l
theorem sort_eq {p m : List (ByteArray × Int)} (hp : p.Perm m) (h : ndM m) (hl : m.length ≤ 1000) : so38_39 (payL p) = some (isortP (payL m)) := by
 have hq := pay_perm hp
 have nd : (payL p).Pairwise fun a b => a.Member ≠ b.Member := (hq.symm.pairwise_iff (fun {a b} hab => Ne.symm hab)).1 (pay_nd h)
 have hlen : (payL p).length ≤ 1000 := by
  rw [hq.length_eq]; unfold payL; rw [List.length_map]
  exact Nat.le_trans (List.length_filter_le _ _) hl
 unfold so38_39
 rw [decide_eq_true (by omega), nodupK_of _ nd]
 simp only [Bool.and_self, cond_true]
 congr 1
 unfold isortP
 refine sorted_uniq _ ?_ (isort_sorted _ _) (isort_sorted _ _) ?_
 ·exact ((Qbv _ _).trans hq).trans (Qbv _ _).symm
 ·exact ((Qbv _ _).pairwise_iff (fun {a b} hab => Ne.symm hab)).2 nd

def asksB (d : Int) (ps : List PR_) : Bool := decide (0 ≤ d) && (decide (d ≤ 99999) && Qbh ps)
def settleS (s : Qd) (d : Int) (ps : List PR_) : Qd × (List Qb × Int) :=
 bif checkB s then
  bif asksB d ps then
   bif decide (s.Day < d) then
    bif s.Positions.all (hasV ps) then
     bif (accM ps s.Positions []).all (fun x => inR x.2 1125899906842624) then
      (⟨d, setO ps s.Positions⟩, isortP (payL (accM ps s.Positions [])), 0)
     else (noV, [], 14)
    else (noV, [], 30)
   else (noV, [], 21)
  else (noV, [], 2)
 else (noV, [], 8)
theorem f14_eq (s : Qd) (d : Int) {ps : List PR_} (hl : ps.length ≤ 1000) : f14 s d ps = some (settleS s d ps) := by
 unfold f14 settleS
 cases hc : checkB s with
 | false =>
  have : f14n0 s d ps = some (.ret 8 0 [] []) := by
   unfold f14n0 f14n1
   rw [f26_eq, hc]; rfl
  rw [this]; rfl
 | true =>
  have ok := check_iff.1 hc
  cases ha : asksB d ps with
  | false =>
   have : f14n0 s d ps = some (.ret 2 0 [] []) := by
    unfold f14n0 f14n1
    rw [f26_eq, hc, f35_eq hl, Qbl, Qbl]
    unfold asksB at ha
    revert ha
    cases decide (0 ≤ d) with
    | false => intro _; rfl
    | true => cases decide (d ≤ 99999) with
     | false => intro _; rfl
     | true => cases Qbh ps with
      | false => intro _; rfl
      | true => intro h; cases h
   rw [this]; rfl
  | true =>
   have ha' := ha
   unfold asksB at ha'
   simp only [Bool.and_eq_true] at ha'
   obtain ⟨h0, h1, h2⟩ := ha'
   by_cases hd : s.Day < d
   ·have e1 : f14n1 d ps 0 s = some (.norm 0) := by
     unfold f14n1
     rw [f35_eq hl, Qbl, Qbl, h0, h1, h2, decide_eq_false (by omega : ¬ d ≤ s.Day)]; rfl
    have e2 : f14n2 ps s d = some (bif s.Positions.all (hasV ps) then .norm (accM ps s.Positions []) (setO ps s.Positions) else .ret) := by
     unfold f14n2
     rw [f14n3_run ps s d [] [] (Nat.le_trans ok.len (by unfold maxLen; decide)), f14n3L_at h2 s d s.Positions 0 [] [] ok.good (by have := ok.len; simp; omega)]
     cases s.Positions.all (hasV ps) <;> rfl
    rw [decide_eq_true hd]
    simp only [cond_true]
    cases hv : s.Positions.all (hasV ps) with
    | false =>
     have : f14n0 s d ps = some (.ret 30 0 [] []) := by
      unfold f14n0
      rw [f26_eq, hc]
      simp only [cond_true, Option.bind_some, e1, e2, hv, decide_true, cond_false]
     rw [this]; rfl
    | true =>
     have hlen : (accM ps s.Positions []).length ≤ 1000 := by
      have := accM_len ps s.Positions []
      have := ok.len
      simp at *; omega
     have e4 : ∀ p, p.Perm (accM ps s.Positions []) → f14n4 d (accM ps s.Positions []) (setO ps s.Positions) p = some (bif (accM ps s.Positions []).all (fun x => inR x.2 1125899906842624) then .norm (payL p) else .ret) := fun p hp => by
      unfold f14n4
      rw [f14n5_eq _ _ _ p [] (by rw [hp.length_eq]; simpa using hlen), hp.all_eq]
      cases (accM ps s.Positions []).all (fun x => inR x.2 1125899906842624) <;> rfl
     cases hr : (accM ps s.Positions []).all (fun x => inR x.2 1125899906842624) with
     | false =>
      have : f14n0 s d ps = some (.ret 14 0 [] []) := by
       unfold f14n0
       rw [f26_eq, hc]
       simp only [cond_true, Option.bind_some, e1, e2, hv, decide_true]
       refine anyOrder_of fun p hp => ?_
       rw [e4 p hp, hr]; rfl
      rw [this]; rfl
     | true =>
      have : f14n0 s d ps = some (.ret 0 d (isortP (payL (accM ps s.Positions []))) (setO ps s.Positions)) := by
       unfold f14n0
       rw [f26_eq, hc]
       simp only [cond_true, Option.bind_some, e1, e2, hv, decide_true]
       refine anyOrder_of fun p hp => ?_
       rw [e4 p hp, hr]
       simp only [cond_true, Option.bind_some]
       rw [sort_eq hp (accM_nd ps s.Positions List.Pairwise.nil) hlen]; rfl
      rw [this]; rfl
   ·have : f14n0 s d ps = some (.ret 21 0 [] []) := by
     have e1 : f14n1 d ps 0 s = some (.norm 21) := by
      unfold f14n1
      rw [f35_eq hl, Qbl, Qbl, h0, h1, h2, decide_eq_true (by omega : d ≤ s.Day)]; rfl
     unfold f14n0
     rw [f26_eq, hc]
     simp only [cond_true, Option.bind_some, e1]
     rfl
    rw [this, decide_eq_false hd]; rfl
structure Done (s : Qd) (d : Int) (ps : List PR_) : Prop where
 ok : Ok s
 d0 : 0 ≤ d
 d1 : d ≤ 99999
 pr : Qbh ps = true
 dd : s.Day < d
 hv : ∀ x ∈ s.Positions, hasV ps x = true
 rng : ∀ x ∈ accM ps s.Positions [], inR x.2 1125899906842624 = true
theorem settle_done {s : Qd} {d : Int} {ps : List PR_} (h : (settleS s d ps).2.2 = 0) : Done s d ps ∧ settleS s d ps = (⟨d, setO ps s.Positions⟩, isortP (payL (accM ps s.Positions [])), 0) := by
 unfold settleS at h ⊢
 cases h1 : checkB s with
 | false => rw [h1] at h; cases h
 | true =>
  cases h2 : asksB d ps with
  | false => rw [h1, h2] at h; cases h
  | true =>
   cases h3 : decide (s.Day < d) with
   | false => rw [h1, h2, h3] at h; cases h
   | true =>
    cases h4 : s.Positions.all (hasV ps) with
    | false => rw [h1, h2, h3, h4] at h; cases h
    | true =>
     cases h5 : (accM ps s.Positions []).all (fun x => inR x.2 1125899906842624) with
     | false => rw [h1, h2, h3, h4, h5] at h; cases h
     | true =>
      unfold asksB at h2
      simp only [Bool.and_eq_true, decide_eq_true_eq] at h2
      exact ⟨⟨check_iff.1 h1, h2.1, h2.2.1, h2.2.2, of_decide_eq_true h3, List.all_eq_true.1 h4, List.all_eq_true.1 h5⟩, rfl⟩
theorem setO_len (ps : List PR_) : ∀ l : List VP, (setO ps l).length ≤ l.length
 | [] => Nat.le_refl _
 | x :: r => by
  have := setO_len ps r
  rw [setO]
  cases decide (x.Quantity = 0) <;> simp <;> omega
end Go.Proofs.Ytelblamgfbkhbaa
namespace Go.Proofs.Ytelblamgfbkhbaa
set_option linter.unusedVariables false
set_option linter.unusedSimpArgs false
open Go.RowKit
def greatL : List Op_ → Int → Bool
 | [], _ => false
 | x :: r, v => bif decide (v ≤ 100) then (decide (220 < (x.Prices.length : Int)) || (decide (x.Day < -1) || (decide (100000 < x.Day) || greatL r (v + 1)))) else false
theorem f11n2L_eq' (bk : List Op_) : ∀ (l : List Op_) (v : Int), f11n2L bk l v = some (bif greatL l v then .ret else .exit0)
 | [], v => rfl
 | x :: r, v => by
  rw [f11n2L, greatL, f11n2L_eq' bk r]
  cases decide (v ≤ 100) <;> cases decide (220 < (x.Prices.length : Int)) <;> cases decide (x.Day < -1) <;> cases decide (100000 < x.Day) <;> cases greatL r (v + 1) <;> rfl
def greatB (l : List Op_) : Bool := greatL l 0 || decide (100 < (l.length : Int))
theorem f11_eq {l : List Op_} (h : l.length ≤ maxLen) : f11 l = some (greatB l) := by
 unfold f11 f11n0 f11n1 greatB
 rw [f11n2_run l h, f11n2L_eq']
 cases greatL l 0 <;> rfl
theorem greatL_small : ∀ {l : List Op_} {v : Int}, greatL l v = false → v + l.length ≤ 101 → ∀ x ∈ l, x.Prices.length ≤ 220 ∧ -1 ≤ x.Day ∧ x.Day ≤ 100000
 | [], _, _, _, x, hx => by cases hx
 | y :: r, v, h, hv, x, hx => by
  simp only [List.length_cons] at hv
  rw [greatL, decide_eq_true (by omega : v ≤ 100), cond_true] at h
  simp only [Bool.or_eq_false_iff, decide_eq_false_iff_not] at h
  rcases List.mem_cons.1 hx with rfl | hx
  ·omega
  ·exact greatL_small h.2.2.2 (by omega) x hx
theorem great_small {l : List Op_} (h : greatB l = false) : l.length ≤ 100 ∧ ∀ x ∈ l, x.Prices.length ≤ 220 ∧ -1 ≤ x.Day ∧ x.Day ≤ 100000 := by
 unfold greatB at h
 simp only [Bool.or_eq_false_iff, decide_eq_false_iff_not] at h
 have hl : l.length ≤ 100 := by omega
 exact ⟨hl, greatL_small h.1 (by omega)⟩
theorem drop_at {α : Type} {l : List α} {k : Nat} {x : α} {r : List α} (h : l.drop k = x :: r) : at? l (k : Int) = some x ∧ k < l.length ∧ l.drop (k + 1) = r := by
 obtain ⟨h1, h2, h3⟩ := Qak h
 exact ⟨by rw [Qao]; exact h1, h2, h3⟩
theorem wr_succ {k : Nat} (h : k ≤ 1000000) : wr64 ((k : Int) + 1) = ((k + 1 : Nat) : Int) := by rw [wr_in (by omega) (by omega)]; omega
end Go.Proofs.Ytelblamgfbkhbaa
namespace Go.Proofs.Ytelblamgfbkhbaa
set_option linter.unusedVariables false
set_option linter.unusedSimpArgs false
open Go.RowKit
def tot : List (ByteArray × Int) → Int
 | [] => 0
 | x :: r => x.2 + tot r
theorem tot_put (k : ByteArray) (v : Int) : ∀ m : List (ByteArray × Int), tot (mPut seq k v m) = tot m - mGet seq 0 k m + v
 | [] => by simp [mPut, mGet, tot]
 | (a, w) :: r => by
  rw [mPut, mGet]
  cases h : seq k a with
  | true => simp only [cond_true, tot]; omega
  | false => simp only [cond_false, tot, tot_put k v r]; omega
def wd (ps : List PR_) (g : ByteArray) (x : VP) : Int := bif seq x.Member g then vOf ps x - x.Basis else 0
def wa (ps : List PR_) (x : VP) : Int := vOf ps x - x.Basis
theorem wd_bd {ps : List PR_} (hp : Qbh ps = true) {x : VP} (hx : Qcr x = true) : -2251799813685248 ≤ vOf ps x - x.Basis ∧ vOf ps x - x.Basis ≤ 2251799813685248 := by
 have h1 := vOf_bd hp hx
 have h2 := good_b hx
 omega
theorem accM_at {ps : List PR_} (hp : Qbh ps = true) : ∀ (l : List VP) (m : List (ByteArray × Int)) (n : Nat), (∀ x ∈ l, Qcr x = true) → n + l.length ≤ 1000 → (∀ g, -(2251799813685248 * (n : Int)) ≤ mGet seq 0 g m ∧ mGet seq 0 g m ≤ 2251799813685248 * (n : Int)) →
  (∀ g, mGet seq 0 g (accM ps l m) = mGet seq 0 g m + sm (wd ps g) l) ∧ tot (accM ps l m) = tot m + sm (wa ps) l
 | [], m, n, _, _, _ => by simp [accM, sm]
 | x :: r, m, n, hg, hl, hb => by
  simp only [List.length_cons] at hl
  have hx := wd_bd hp (hg x List.mem_cons_self)
  have hm := hb x.Member
  have e1 : wr64 (vOf ps x - x.Basis) = vOf ps x - x.Basis := wr_in (by omega) (by omega)
  have e2 : wr64 (mGet seq 0 x.Member m + (vOf ps x - x.Basis)) = mGet seq 0 x.Member m + (vOf ps x - x.Basis) := wr_in (by omega) (by omega)
  have hget : ∀ g, mGet seq 0 g (mPut seq x.Member (mGet seq 0 x.Member m + (vOf ps x - x.Basis)) m) = mGet seq 0 g m + wd ps g x := fun g => by
   rw [get_put]
   cases h : seq g x.Member with
   | true =>
    have := Qbs.1 h; subst this
    simp only [cond_true, wd, Qag]
   | false =>
    have : seq x.Member g = false := seq_f fun e => by rw [e, Qag] at h; cases h
    simp only [cond_false, wd, this]; omega
  obtain ⟨i1, i2⟩ := accM_at hp r (mPut seq x.Member (mGet seq 0 x.Member m + (vOf ps x - x.Basis)) m) (n + 1) (fun y hy => hg y (List.mem_cons_of_mem _ hy)) (by omega) fun g => by
   rw [hget g]
   have := hb g
   have hw : -2251799813685248 ≤ wd ps g x ∧ wd ps g x ≤ 2251799813685248 := by
    unfold wd
    cases seq x.Member g <;> simp only [cond_true, cond_false] <;> omega
   push_cast
   omega
  rw [accM, e1, e2]
  refine ⟨fun g => ?_, ?_⟩
  ·rw [i1 g, hget g, sm]; omega
  ·rw [i2, tot_put, sm, wa]; omega
theorem acc_get0 {ps : List PR_} (hp : Qbh ps = true) {l : List VP} (hg : ∀ x ∈ l, Qcr x = true) (hl : l.length ≤ 200) (g : ByteArray) : mGet seq 0 g (accM ps l []) = sm (wd ps g) l := by
 have := (accM_at hp l [] 0 hg (by omega) fun g => by simp [mGet]).1 g
 rw [this]; simp [mGet]

def sp (f : Qb → Int) : List Qb → Int
 | [] => 0
 | x :: r => f x + sp f r
theorem sp_perm {f : Qb → Int} {a b : List Qb} (h : a.Perm b) : sp f a = sp f b := by
 induction h with
 | nil => rfl
 | cons x _ ih => rw [sp, sp, ih]
 | swap x y l => simp only [sp]; omega
 | trans _ _ i1 i2 => exact i1.trans i2
theorem sp_app (f : Qb → Int) : ∀ a b : List Qb, sp f (a ++ b) = sp f a + sp f b
 | [], b => by simp [sp]
 | x :: a, b => by rw [List.cons_append, sp, sp, sp_app f a b]; omega
def am (x : Qb) : Int := x.Amount
def ag (g : ByteArray) (x : Qb) : Int := bif seq x.Member g then x.Amount else 0
theorem payL_cons (x : ByteArray × Int) (r : List (ByteArray × Int)) : payL (x :: r) = (bif decide (x.2 = 0) then [] else [⟨x.1, x.2⟩]) ++ payL r := by
 unfold payL
 rw [List.filter_cons]
 cases decide (x.2 = 0) <;> simp
theorem pay_get (g : ByteArray) : ∀ {m : List (ByteArray × Int)}, ndM m → sp (ag g) (payL m) = mGet seq 0 g m
 | [], _ => rfl
 | (a, w) :: r, h => by
  have h' := List.pairwise_cons.1 h
  rw [payL_cons, sp_app, pay_get g h'.2, mGet]
  cases hg : seq g a with
  | true =>
   have := Qbs.1 hg; subst this
   have h0 : mGet seq 0 g r = 0 := by
    have : ∀ {r : List (ByteArray × Int)}, (∀ y ∈ r, g ≠ y.1) → mGet seq 0 g r = 0 := fun {r} hr => by
     induction r with
     | nil => rfl
     | cons y t ih =>
      obtain ⟨b, u⟩ := y
      rw [mGet, seq_f (hr _ List.mem_cons_self), cond_false, ih fun z hz => hr z (List.mem_cons_of_mem _ hz)]
    exact this h'.1
   by_cases hw : w = 0
   ·subst hw; simp [sp, h0]
   ·rw [show decide ((g, w).2 = 0) = false from decide_eq_false hw, cond_false, h0]
    simp [sp, ag, Qag]
  | false =>
   have : seq a g = false := seq_f fun e => by rw [e, Qag] at hg; cases hg
   by_cases hw : w = 0
   ·subst hw; simp [sp]
   ·rw [show decide ((a, w).2 = 0) = false from decide_eq_false hw, cond_false, cond_false]
    simp [sp, ag, this]


abbrev payS (s : Qd) (ps : List PR_) : List Qb := isort (fun x => x.Member) (payL (accM ps s.Positions []))
theorem payS_nd (s : Qd) (ps : List PR_) : (payS s ps).Pairwise fun a b => a.Member ≠ b.Member :=
 ((Qbv _ _).pairwise_iff (fun {a b} hab => Ne.symm hab)).2 (pay_nd (accM_nd ps s.Positions List.Pairwise.nil))
theorem payS_srt (s : Qd) (ps : List PR_) : (payS s ps).Pairwise fun a b => slt a.Member b.Member = true := by
 have h1 := isort_sorted (fun x : Qb => x.Member) (payL (accM ps s.Positions []))
 have h2 := payS_nd s ps
 refine (h1.and h2).imp fun {a b} ⟨h3, h4⟩ => ?_
 cases k : slt a.Member b.Member with
 | true => rfl
 | false => exact absurd (slt_total k h3) h4
section
variable {s : Qd} {d : Int} {ps : List PR_} (h : Done s d ps)
include h
theorem Done.pay_one (g : ByteArray) : sp (ag g) (payS s ps) = sm (wd ps g) s.Positions := by
 unfold payS
 rw [sp_perm (Qbv _ _), pay_get g (accM_nd ps s.Positions List.Pairwise.nil), acc_get0 h.pr h.ok.good h.ok.len]
theorem Done.pay_mem {x : Qb} (hx : x ∈ payS s ps) : x.Amount ≠ 0 ∧ -1125899906842624 ≤ x.Amount ∧ x.Amount ≤ 1125899906842624 := by
 have h1 := (Qbv _ _).mem_iff.1 hx
 unfold payL at h1
 obtain ⟨y, h2, rfl⟩ := List.mem_map.1 h1
 obtain ⟨h3, h4⟩ := List.mem_filter.1 h2
 have h5 := inR_iff.1 (h.rng y h3)
 simp only [Bool.not_eq_true', decide_eq_false_iff_not] at h4
 exact ⟨h4, h5⟩
theorem Done.pay_len : (payS s ps).length ≤ 200 := by
 unfold payS
 rw [(Qbv _ _).length_eq]
 unfold payL
 rw [List.length_map]
 have h1 := List.length_filter_le (fun x : ByteArray × Int => !decide (x.2 = 0)) (accM ps s.Positions [])
 have h2 := accM_len ps s.Positions []
 have := h.ok.len
 simp only [List.length_nil] at h2
 omega
end

end Go.Proofs.Ytelblamgfbkhbaa
namespace Go.Proofs.Ytelblamgfbkhbaa
set_option linter.unusedVariables false
set_option linter.unusedSimpArgs false
open Go.RowKit
theorem eqb_refl (x : VP) : Qa.eqb x x = true := by
 unfold Qa.eqb
 simp [Qag]
theorem f18n2L_same (a b : Qd) : ∀ (l pre : List VP), b.Positions = pre ++ l → f18n2L a b l ((pre.length : Nat) : Int) = some .exit0
 | [], pre, _ => rfl
 | x :: r, pre, h => by
  have ih := f18n2L_same a b r (pre ++ [x]) (by rw [h]; simp)
  rw [List.length_append, show (((pre.length + [x].length : Nat)) : Int) = (pre.length : Int) + 1 from by simp] at ih
  have hat : at? b.Positions ((pre.length : Nat) : Int) = some x := by rw [Qao, h]; simp
  rw [f18n2L, hat]
  simp only [Option.bind_some, eqb_refl, cond_true]
  exact ih
theorem f18_same {a b : Qd} (h : a = b) (hl : a.Positions.length ≤ maxLen) : f18 a b = some true := by
 subst h
 have : f18n1 a a = some .norm := by
  unfold f18n1
  rw [f18n2_run a a hl]
  have := f18n2L_same a a a.Positions [] rfl
  rw [show (((([] : List VP).length : Nat)) : Int) = 0 from rfl] at this
  rw [this]; rfl
 unfold f18 f18n0
 rw [this, decide_eq_true rfl, decide_eq_true rfl]; rfl


theorem vl_rng {l : List VP} (h : Bd l) (k : VP) : (-1048576 ≤ (vl k l).1 ∧ (vl k l).1 ≤ 1048576) ∧ (-1125899906842624 ≤ (vl k l).2 ∧ (vl k l).2 ≤ 1125899906842624) := by
 induction l with
 | nil => simp [vl]
 | cons x r ih =>
  rw [vl]
  cases Qv x k with
  | true => exact h x List.mem_cons_self
  | false => exact ih fun y hy => h y (List.mem_cons_of_mem _ hy)
section
variable {s : Qd} {bu se pr : ByteArray} {q p : Int} (h : Took s bu se pr q p)
include h
omit h in
end
end Go.Proofs.Ytelblamgfbkhbaa
