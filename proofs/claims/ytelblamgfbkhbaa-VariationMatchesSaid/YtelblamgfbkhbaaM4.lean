/- Several texts in one. No condition. -/
import Derived.Test.YtelblamgfbkhbaaM2
namespace Go.Proofs.Ytelblamgfbkhbaa
set_option linter.unusedVariables false
set_option linter.unusedSimpArgs false
set_option maxRecDepth 100000
open Go.RowKit
noncomputable def c48 : Code := Try.f48.body.getD .skip
inductive f48n0O where
 | ret (v8 : Bool)
def f48n0E (a1 : ByteArray) : f48n0O → Ex × Tr × Hp
 | .ret v8 => (.ret, mkS [(2, (jB v8))], [])
def f48n0S (a1 : ByteArray) : Tr × Hp := (Qal [(jS a1)] 0 .leaf, [])
noncomputable def f48n0 (a1 : ByteArray) : Option f48n0O :=
 (f49 a1).bind fun x5 =>
 bif x5 then
  some (.ret (!(seq a1 str_house)))
 else
  some (.ret false)
theorem f48n0_ok (a1 : ByteArray) {o : f48n0O} (h : (f48n0 a1) = some o) : T Try.prog Try.f48.ntmps 0 c48 (f48n0S a1) (fun r => r = f48n0E a1 o) := by
 unfold f48n0 at h
 obtain ⟨x5, h6, h⟩ := Qe h
 rcases Qg h with ⟨h7, h⟩ | ⟨h7, h⟩
 ·obtain rfl := Qf h
  exact rE Qi [j3, ([(3, true), (4, true)], [jH 1 (jB x5), (5, .bool true)], [])] [] [] [] [2] (.ret, (f48n0E a1 (.ret (!(seq a1 str_house)))).2) (ap3 h7 (ap (f49_ok a1 h6) an)) rfl
 ·obtain rfl := Qf h
  exact rE Qi [j3, ([(3, false), (4, false)], [jH 1 (jB x5), (5, .bool false)], [])] [] [] [] [2] (.ret, (f48n0E a1 (.ret false)).2) (ap3 h7 (ap (f49_ok a1 h6) an)) rfl
noncomputable def f48 (a1 : ByteArray) : Option Bool := (f48n0 a1).bind fun o => match o with
 | .ret v8 => some v8
theorem Qcv (a1 : ByteArray) {r : Bool} (h : (f48 a1) = some r) : Qq Try.prog false 48 [(jS a1)] [] (jB r) [] := by
 unfold f48 at h
 obtain ⟨o, ho, h⟩ := Qe h
 cases o with
 | ret v8 =>
  obtain rfl := Qf h
  exact Qq.plain Qi (f := Try.f48) (c := c48) (by kernel_rfl) (by kernel_rfl) (by kernel_rfl) (by kernel_rfl) ((f48n0_ok a1 ho).mono fun r e => by subst e; exact ⟨.inl rfl, (jB v8), (jB v8), by kernel_rfl, by kernel_rfl, ((Wk.refl _) : Wk (jB v8) (jB v8))⟩)

noncomputable def c55 : Code := Try.f55.body.getD .skip
inductive f55n2O where
 | norm (v31 : Bool)
def f55n2E (bn1 : Qa) : f55n2O → Ex × Tr × Hp
 | .norm v31 => (.norm, mkS [(1, (.bp 0 0)), (22, (jB v31))], [some (.box ((Qa.cells bn1).map .pl))])
def f55n2S (bn1 : Qa) : Tr × Hp := (mkS [(1, (.bp 0 0))], [some (.box ((Qa.cells bn1).map .pl))])
noncomputable def f55n2 (bn1 : Qa) : Option f55n2O :=
 (f48 bn1.Member).bind fun x24 =>
 bif x24 then
  (f49 bn1.Product).bind fun x27 =>
  bif x27 then
   bif (decide (bn1.Quantity = 0)) then
    some (.norm (decide (bn1.Basis = 0)))
   else
    some (.norm false)
  else
   some (.norm true)
 else
  some (.norm true)
theorem f55n2_ok (bn1 : Qa) {o : f55n2O} (h : (f55n2 bn1) = some o) : T Try.prog Try.f55.ntmps 0 (cL (Qn 0 (cL (Qn 1 c55)))) (f55n2S bn1) (fun r => r = f55n2E bn1 o) := by
 unfold f55n2 at h
 obtain ⟨x24, h25, h⟩ := Qe h
 rcases Qg h with ⟨h26, h⟩ | ⟨h26, h⟩
 ·obtain ⟨x27, h28, h⟩ := Qe h
  rcases Qg h with ⟨h29, h⟩ | ⟨h29, h⟩
  ·rcases Qg h with ⟨h30, h⟩ | ⟨h30, h⟩
   ·obtain rfl := Qf h
    exact rE Qi [(jF [5, 6, 7, 8, 11, 12, 13, 14, 18] ++ jT [15, 16, 17], [jH 2 (jB x24), jH 7 (jB x27), (9, .bool false), (18, .bool true), (19, .bool false)], [])] [] [] [0] [1, 22] (.norm, (f55n2E bn1 (.norm (decide (bn1.Basis = 0)))).2) (ap (Qk h26) (ap4 (Qk h26) (ap4 (Qk h29) (ap3 h30 (ap (Qk h29) (ap h30 (ap (Qk h29) (ap (Qcv bn1.Member h25) (ap (f49_ok bn1.Product h28) an))))))))) rfl
   ·obtain rfl := Qf h
    exact rE Qi [(jF [5, 6, 7, 8, 11, 12, 13, 14, 15, 16, 17, 18], [jH 2 (jB x24), jH 7 (jB x27), (9, .bool false), (18, .bool false), (19, .bool false)], [])] [] [] [0] [1, 22] (.norm, (f55n2E bn1 (.norm false)).2) (ap (Qk h26) (ap4 (Qk h26) (ap4 (Qk h29) (ap3 h30 (ap (Qk h29) (ap h30 (ap (Qk h29) (ap (Qcv bn1.Member h25) (ap (f49_ok bn1.Product h28) an))))))))) rfl
  ·obtain rfl := Qf h
   exact rE Qi [(jF [5, 6, 7, 8] ++ jT [11, 12, 13, 14, 18], [jH 2 (jB x24), jH 7 (jB x27), (9, .bool false), (19, .bool true)], [])] [] [] [0] [1, 22] (.norm, (f55n2E bn1 (.norm true)).2) (ap (Qk h26) (ap4 (Qk h26) (ap2 (Qr h29) (ap4 (Qr h29) (ap (Qcv bn1.Member h25) (ap (f49_ok bn1.Product h28) an)))))) rfl
 ·obtain rfl := Qf h
  exact rE Qi [(jT [5, 6, 7, 8], [jH 2 (jB x24), (9, .bool true)], [])] [] [] [0] [1, 22] (.norm, (f55n2E bn1 (.norm true)).2) (ap (Qr h26) (ap4 (Qr h26) (ap (Qcv bn1.Member h25) an))) rfl
inductive f55n1O where
 | norm
 | ret
def f55n1E (bn1 : Qa) : f55n1O → Ex × Tr × Hp
 | .norm => (.norm, mkS [(1, (.bp 0 0))], [some (.box ((Qa.cells bn1).map .pl))])
 | .ret => (.ret, mkS [(2, (jB false))], [])
def f55n1S (bn1 : Qa) : Tr × Hp := (mkS [(1, (.bp 0 0))], [some (.box ((Qa.cells bn1).map .pl))])
noncomputable def f55n1 (bn1 : Qa) : Option f55n1O :=
 (f55n2 bn1).bind fun o32 => match o32 with
 | .norm v34 => bif v34 then
   some .ret
  else
   some .norm
theorem f55n1_ok (bn1 : Qa) {o : f55n1O} (h : (f55n1 bn1) = some o) : T Try.prog Try.f55.ntmps 0 (cL (Qn 1 c55)) (f55n1S bn1) (fun r => r = f55n1E bn1 o) := by
 unfold f55n1 at h
 refine rN Qi 0 [] [] [] [0] [1] (f55n2S bn1) an ?_
 obtain ⟨o32, h33, h⟩ := Qe h
 cases o32 with
 | norm v34 =>
  refine T.oneN (by kernel_rfl) (f55n2_ok bn1 h33) (st2 := (f55n2E bn1 (.norm v34)).2) rfl ?_
  rcases Qg h with ⟨h36, h⟩ | ⟨h36, h⟩
  ·obtain rfl := Qf h
   exact rE Qi [j3] [some true] [] [] [2] (.ret, (f55n1E bn1 .ret).2) (ap h36 an) rfl
  ·obtain rfl := Qf h
   exact rE Qi [] [some false] [] [0] [1] (.norm, (f55n1E bn1 .norm).2) (ap h36 an) rfl
inductive f55n0O where
 | ret (v45 : Bool)
def f55n0E (a1 : Qa) : f55n0O → Ex × Tr × Hp
 | .ret v45 => (.ret, mkS [(2, (jB v45))], [])
def f55n0S (a1 : Qa) : Tr × Hp := (Qal [(jA Qa.cells a1)] 0 .leaf, [])
noncomputable def f55n0 (a1 : Qa) : Option f55n0O :=
 (f55n1 a1).bind fun o37 => match o37 with
 | .norm => bif (decide ((-1048576) ≤ a1.Quantity)) then
   bif (decide (a1.Quantity ≤ 1048576)) then
    bif (decide ((-1125899906842624) ≤ a1.Basis)) then
     some (.ret (decide (a1.Basis ≤ 1125899906842624)))
    else
     some (.ret false)
   else
    some (.ret false)
  else
   some (.ret false)
 | .ret => some (.ret false)
theorem f55n0_ok (a1 : Qa) {o : f55n0O} (h : (f55n0 a1) = some o) : T Try.prog Try.f55.ntmps 0 c55 (f55n0S a1) (fun r => r = f55n0E a1 o) := by
 unfold f55n0 at h
 refine rN Qi 1 [j3] [] [] [0] [1] (f55n1S a1) an ?_
 obtain ⟨o37, h38, h⟩ := Qe h
 cases o37 with
 | norm =>
  refine T.oneN (by kernel_rfl) (f55n1_ok a1 h38) (st2 := (f55n1E a1 .norm).2) rfl ?_
  rcases Qg h with ⟨h42, h⟩ | ⟨h42, h⟩
  ·rcases Qg h with ⟨h43, h⟩ | ⟨h43, h⟩
   ·rcases Qg h with ⟨h44, h⟩ | ⟨h44, h⟩
    ·obtain rfl := Qf h
     exact rE Qi [(jT [4, 5, 6, 9, 10, 11, 14, 15, 16], [(7, .bool true), (12, .bool true), (17, .bool true)], [])] [] [] [] [2] (.ret, (f55n0E a1 (.ret (decide (a1.Basis ≤ 1125899906842624)))).2) (ap4 h42 (ap4 h43 (ap4 h44 an))) rfl
    ·obtain rfl := Qf h
     exact rE Qi [(jF [14, 15, 16] ++ jT [4, 5, 6, 9, 10, 11], [(7, .bool true), (12, .bool true), (17, .bool false)], [])] [] [] [] [2] (.ret, (f55n0E a1 (.ret false)).2) (ap4 h42 (ap4 h43 (ap4 h44 an))) rfl
   ·obtain rfl := Qf h
    exact rE Qi [(jF [9, 10, 11] ++ jT [4, 5, 6], [(7, .bool true), (12, .bool false)], [])] [] [] [] [2] (.ret, (f55n0E a1 (.ret false)).2) (ap4 h42 (ap4 h43 an)) rfl
  ·obtain rfl := Qf h
   exact rE Qi [(jF [4, 5, 6], [(7, .bool false)], [])] [] [] [] [2] (.ret, (f55n0E a1 (.ret false)).2) (ap4 h42 an) rfl
 | ret =>
  obtain rfl := Qf h
  exact T.oneX' (by kernel_rfl) (f55n1_ok a1 h38) (tds := []) (m := []) (keep := [2]) (st2 := (f55n0E a1 (.ret false)).2) (by kernel_rfl) an rfl rfl
noncomputable def f55 (a1 : Qa) : Option Bool := (f55n0 a1).bind fun o => match o with
 | .ret v45 => some v45
theorem f55_ok (a1 : Qa) {r : Bool} (h : (f55 a1) = some r) : Qq Try.prog false 55 [(jA Qa.cells a1)] [] (jB r) [] := by
 unfold f55 at h
 obtain ⟨o, ho, h⟩ := Qe h
 cases o with
 | ret v45 =>
  obtain rfl := Qf h
  exact Qq.plain Qi (f := Try.f55) (c := c55) (by kernel_rfl) (by kernel_rfl) (by kernel_rfl) (by kernel_rfl) ((f55n0_ok a1 ho).mono fun r e => by subst e; exact ⟨.inl rfl, (jB v45), (jB v45), by kernel_rfl, by kernel_rfl, ((Wk.refl _) : Wk (jB v45) (jB v45))⟩)

noncomputable def c56 : Code := Try.f56.body.getD .skip
inductive f56n0O where
 | ret (v7 : Bool)
def f56n0E (a1 : Qa) (a2 : Qa) : f56n0O → Ex × Tr × Hp
 | .ret v7 => (.ret, mkS [(4, (jB v7))], [])
def f56n0S (a1 : Qa) (a2 : Qa) : Tr × Hp := (Qal [(jA Qa.cells a1), (jA Qa.cells a2)] 0 .leaf, [])
noncomputable def f56n0 (a1 : Qa) (a2 : Qa) : Option f56n0O :=
 bif (slt a1.Member a2.Member) then
  some (.ret true)
 else
  bif (seq a1.Member a2.Member) then
   some (.ret (slt a1.Product a2.Product))
  else
   some (.ret false)
theorem f56n0_ok (a1 : Qa) (a2 : Qa) {o : f56n0O} (h : (f56n0 a1 a2) = some o) : T Try.prog Try.f56.ntmps 0 c56 (f56n0S a1 a2) (fun r => r = f56n0E a1 a2 o) := by
 unfold f56n0 at h
 rcases Qg h with ⟨h5, h⟩ | ⟨h5, h⟩
 ·obtain rfl := Qf h
  exact rE Qi [j3, (jT [6, 7, 8, 9, 10, 11, 17], [(18, .bool true)], [])] [] [] [] [4] (.ret, (f56n0E a1 a2 (.ret true)).2) (ap4 h5 (ap4 h5 an)) rfl
 ·rcases Qg h with ⟨h6, h⟩ | ⟨h6, h⟩
  ·obtain rfl := Qf h
   exact rE Qi [j3, (jF [6, 7, 8, 9, 10, 11, 17] ++ jT [12, 13, 14, 15, 16], [(17, .bool true), (18, .bool false)], [])] [] [] [] [4] (.ret, (f56n0E a1 a2 (.ret (slt a1.Product a2.Product))).2) (ap2 h5 (ap4 h5 (ap h6 (ap4 h6 (ap h5 (ap h6 (ap h5 an))))))) rfl
  ·obtain rfl := Qf h
   exact rE Qi [j3, (jF [6, 7, 8, 9, 10, 11, 12, 13, 14, 15, 16, 17], [(17, .bool false), (18, .bool false)], [])] [] [] [] [4] (.ret, (f56n0E a1 a2 (.ret false)).2) (ap2 h5 (ap4 h5 (ap h6 (ap4 h6 (ap h5 (ap h6 (ap h5 an))))))) rfl
noncomputable def f56 (a1 : Qa) (a2 : Qa) : Option Bool := (f56n0 a1 a2).bind fun o => match o with
 | .ret v7 => some v7
theorem f56_ok (a1 : Qa) (a2 : Qa) {r : Bool} (h : (f56 a1 a2) = some r) : Qq Try.prog false 56 [(jA Qa.cells a1), (jA Qa.cells a2)] [] (jB r) [] := by
 unfold f56 at h
 obtain ⟨o, ho, h⟩ := Qe h
 cases o with
 | ret v7 =>
  obtain rfl := Qf h
  exact Qq.plain Qi (f := Try.f56) (c := c56) (by kernel_rfl) (by kernel_rfl) (by kernel_rfl) (by kernel_rfl) ((f56n0_ok a1 a2 ho).mono fun r e => by subst e; exact ⟨.inl rfl, (jB v7), (jB v7), by kernel_rfl, by kernel_rfl, ((Wk.refl _) : Wk (jB v7) (jB v7))⟩)

noncomputable def c34 : Code := Try.f34.body.getD .skip
inductive f34n2O where
 | exit0
 | ret
def f34n2E (ba1 : Qd) : f34n2O → Ex × Tr × Hp
 | .exit0 => ((.exit 0), mkS [(1, (.bp 0 0))], [some (.box ((Qd.cells ba1).map .pl))])
 | .ret => (.ret, mkS [(2, (jI 8))], [])
def f34n2S (ba1 : Qd) (v45 : Int) : Tr × Hp := (mkS [(1, (.bp 0 0)), (3, (jI v45))], [some (.box ((Qd.cells ba1).map .pl))])
noncomputable def f34n2 : Nat → Qd → Int → Option f34n2O
 | 0, _, _ => none
 | f + 1, ba1, v45 =>
  bif (decide (v45 < (ba1.Positions.length : Int))) then
   (at? ba1.Positions v45).bind fun x59 =>
   (f55 x59).bind fun x61 =>
   bif x61 then
    bif (decide (0 < v45)) then
     (at? ba1.Positions (wr64 (v45 - 1))).bind fun x65 =>
     (f56 x65 x59).bind fun x67 =>
     bif x67 then
      (f34n2 f ba1 (wr64 (v45 + 1)))
     else
      some .ret
    else
     (f34n2 f ba1 (wr64 (v45 + 1)))
   else
    some .ret
  else
   some .exit0
theorem f34n2_ok : ∀ (f : Nat) (ba1 : Qd) (v45 : Int) {o : f34n2O}, (f34n2 f ba1 v45) = some o → TL Try.prog Try.f34.ntmps 0 f (cL (cL (Qn 1 (cL (Qn 2 c34))))) (f34n2S ba1 v45) (fun r => r = f34n2E ba1 o)
 | 0, _, _, o, h => by rw [f34n2] at h; cases h
 | f + 1, ba1, v45, o, h => by
  rw [f34n2] at h
  refine TL.body (K := fun s => ∃ v45 : Int, s = (f34n2S ba1 v45) ∧ (f34n2 f ba1 v45) = some o) ?_ (by rintro _ ⟨v45, rfl, hk⟩; exact f34n2_ok f _ _ hk)
  rcases Qg h with ⟨h47, h⟩ | ⟨h47, h⟩
  ·obtain ⟨x59, h60, h⟩ := Qe h
   obtain ⟨x61, h62, h⟩ := Qe h
   rcases Qg h with ⟨h63, h⟩ | ⟨h63, h⟩
   ·rcases Qg h with ⟨h64, h⟩ | ⟨h64, h⟩
    ·obtain ⟨x65, h66, h⟩ := Qe h
     obtain ⟨x67, h68, h⟩ := Qe h
     rcases Qg h with ⟨h69, h⟩ | ⟨h69, h⟩
     ·exact rE Qi [([], [], [(3, .val (jI (ba1.Positions.length : Int)))]), (jF [8, 9, 10, 24] ++ jT [11, 12, 13, 14, 15, 16, 17, 18, 19, 20, 21, 22, 23], [(3, .idx (Int.toNat v45) (Qa.cells x59)), jH 5 (jB x61), (15, .idx (Int.toNat (wr64 (v45 - 1))) (Qa.cells x65)), (20, .idx (Int.toNat v45) (Qa.cells x59)), jH 22 (jB x67), (24, .bool true), (25, .bool false)], []), j3] [some true, some false] [] [0] [1, 3] (.norm, (f34n2S ba1 (wr64 (v45 + 1)))) (ap (Qo (xs := ba1.Positions) (c := Qa.cells)) (ap h47 (ap (Qh h60).1 (ap (Ql Qa.cells (Qh h60).2) (ap3 (Qk h63) (ap h64 (ap4 h64 (ap (Qh h66).1 (ap (Ql Qa.cells (Qh h66).2) (ap h64 (ap4 h64 (ap (Qh h60).1 (ap (Ql Qa.cells (Qh h60).2) (ap3 h64 (ap (Qk h63) (ap h64 (ap (Qk h63) (ap (f55_ok x59 h62) (ap (f56_ok x65 x59 h68) (ap (Qk h69) an)))))))))))))))))))) (Qs.norm ⟨(wr64 (v45 + 1)), rfl, h⟩)
     ·obtain rfl := Qf h
      exact rK Qi 2 [([], [], [(3, .val (jI (ba1.Positions.length : Int)))]), (jF [8, 9, 10, 24] ++ jT [11, 12, 13, 14, 15, 16, 17, 18, 19, 20, 21, 22, 23], [(3, .idx (Int.toNat v45) (Qa.cells x59)), jH 5 (jB x61), (15, .idx (Int.toNat (wr64 (v45 - 1))) (Qa.cells x65)), (20, .idx (Int.toNat v45) (Qa.cells x59)), jH 22 (jB x67), (24, .bool true), (25, .bool false)], []), j3] [some true, some true] [] [] [2] .ret ((f34n2E ba1 .ret).2) (ap (Qo (xs := ba1.Positions) (c := Qa.cells)) (ap h47 (ap (Qh h60).1 (ap (Ql Qa.cells (Qh h60).2) (ap3 (Qk h63) (ap h64 (ap4 h64 (ap (Qh h66).1 (ap (Ql Qa.cells (Qh h66).2) (ap h64 (ap4 h64 (ap (Qh h60).1 (ap (Ql Qa.cells (Qh h60).2) (ap3 h64 (ap (Qk h63) (ap h64 (ap (Qk h63) (ap (f55_ok x59 h62) (ap (f56_ok x65 x59 h68) (ap (Qr h69) an)))))))))))))))))))) (Qs.out rfl rfl)
    ·exact rE Qi [([], [], [(3, .val (jI (ba1.Positions.length : Int)))]), (jF [8, 9, 10, 11, 12, 13, 14, 15, 16, 17, 18, 19, 20, 21, 22, 23, 24], [(3, .idx (Int.toNat v45) (Qa.cells x59)), jH 5 (jB x61), (24, .bool false), (25, .bool false)], []), j3] [some true, none] [] [0] [1, 3] (.norm, (f34n2S ba1 (wr64 (v45 + 1)))) (ap (Qo (xs := ba1.Positions) (c := Qa.cells)) (ap h47 (ap (Qh h60).1 (ap (Ql Qa.cells (Qh h60).2) (ap3 (Qk h63) (ap h64 (ap4 h64 (ap4 h64 (ap4 h64 (ap (Qk h63) (ap h64 (ap (Qk h63) (ap (f55_ok x59 h62) an))))))))))))) (Qs.norm ⟨(wr64 (v45 + 1)), rfl, h⟩)
   ·obtain rfl := Qf h
    exact rK Qi 2 [([], [], [(3, .val (jI (ba1.Positions.length : Int)))]), (jT [8, 9, 10, 24], [(3, .idx (Int.toNat v45) (Qa.cells x59)), jH 5 (jB x61), (25, .bool true)], []), j3] [some true, none] [] [] [2] .ret ((f34n2E ba1 .ret).2) (ap (Qo (xs := ba1.Positions) (c := Qa.cells)) (ap h47 (ap (Qh h60).1 (ap (Ql Qa.cells (Qh h60).2) (ap (Qr h63) (ap4 (Qr h63) (ap (f55_ok x59 h62) an))))))) (Qs.out rfl rfl)
  ·obtain rfl := Qf h
   exact rK Qi 1 [([], [], [(3, .val (jI (ba1.Positions.length : Int)))])] [some false] [] [0] [1] (.exit 0) ((f34n2E ba1 .exit0).2) (ap (Qo (xs := ba1.Positions) (c := Qa.cells)) (ap h47 an)) (Qs.out rfl rfl)
noncomputable def f34n2L (ba1 : Qd) : List Qa → Int → Option f34n2O
 | [], v45 =>
  some .exit0
 | x0 :: rest, v45 =>
  (f55 x0).bind fun x61 =>
  bif x61 then
   bif (decide (0 < v45)) then
    (at? ba1.Positions (wr64 (v45 - 1))).bind fun x65 =>
    (f56 x65 x0).bind fun x67 =>
    bif x67 then
     (f34n2L ba1 rest (v45 + 1))
    else
     some .ret
   else
    (f34n2L ba1 rest (v45 + 1))
  else
   some .ret
theorem f34n2L_eq (ba1 : Qd) : ∀ (rest : List Qa) (f k : Nat), ba1.Positions.drop k = rest → ba1.Positions.length ≤ maxLen → rest.length < f → f34n2 f ba1 (k : Int) = f34n2L ba1 rest (k : Int)
 | _, 0, _, _, _, hf => absurd hf (Nat.not_lt_zero _)
 | [], f + 1, k, hd, hm, hf => by
  have hk : ¬ ((k : Int) < (ba1.Positions.length : Int)) := by have := Qai hd; omega
  rw [f34n2, f34n2L]
  simp only [decide_eq_false hk, cond_false]
 | x0 :: rest, f + 1, k, hd, hm, hf => by
  obtain ⟨hx, hlt, hd'⟩ := Qab hd
  have hk : (k : Int) < (ba1.Positions.length : Int) := by omega
  have hw : wr64 ((k : Int) + 1) = (k : Int) + 1 := Qbe (by omega) (by unfold maxLen at hm; omega)
  have ih : f34n2 f ba1 ((k : Int) + 1) = f34n2L ba1 rest ((k : Int) + 1) := f34n2L_eq ba1 rest f (k + 1) hd' hm (by simpa using hf)
  rw [f34n2, f34n2L]
  simp only [decide_eq_true hk, cond_true, Qah, hx, Option.bind_some, hw, ih]
theorem f34n2_run (ba1 : Qd) (hm : ba1.Positions.length ≤ maxLen) : f34n2 FUEL ba1 0 = f34n2L ba1 ba1.Positions 0 := f34n2L_eq ba1 ba1.Positions FUEL 0 List.drop_zero hm (Qat hm)
inductive f34n1O where
 | norm
 | ret
def f34n1E (ba1 : Qd) : f34n1O → Ex × Tr × Hp
 | .norm => (.norm, mkS [(1, (.bp 0 0))], [some (.box ((Qd.cells ba1).map .pl))])
 | .ret => (.ret, mkS [(2, (jI 8))], [])
def f34n1S (ba1 : Qd) : Tr × Hp := (mkS [(1, (.bp 0 0))], [some (.box ((Qd.cells ba1).map .pl))])
noncomputable def f34n1 (ba1 : Qd) : Option f34n1O :=
 (f34n2 FUEL ba1 0).bind fun o70 => match o70 with
 | .exit0 => some .norm
 | .ret => some .ret
theorem f34n1_ok (ba1 : Qd) {o : f34n1O} (h : (f34n1 ba1) = some o) : T Try.prog Try.f34.ntmps 0 (cL (Qn 2 c34)) (f34n1S ba1) (fun r => r = f34n1E ba1 o) := by
 unfold f34n1 at h
 refine rN Qi 1 [j3] [] [] [0] [1, 3] (f34n2S ba1 0) an ?_
 obtain ⟨o70, h71, h⟩ := Qe h
 cases o70 with
 | exit0 =>
  obtain rfl := Qf h
  exact T.last' (T.bl (i := 0) (by kernel_rfl) (by kernel_rfl) (f34n2_ok FUEL ba1 0 h71)) (tds := []) (m := [0]) (keep := [1]) (st2 := (f34n1E ba1 .norm).2) (by kernel_rfl) an rfl
 | ret =>
  obtain rfl := Qf h
  exact T.last' (T.bl (i := 0) (by kernel_rfl) (by kernel_rfl) (f34n2_ok FUEL ba1 0 h71)) (tds := []) (m := []) (keep := [2]) (st2 := (f34n1E ba1 .ret).2) (by kernel_rfl) an rfl
inductive f34n6O where
 | exit4 (v250 : Int) (v251 : Int)
def f34n6E (be1 : Int) (ba2 : Qd) : f34n6O → Ex × Tr × Hp
 | .exit4 v250 v251 => ((.exit 4), mkS [(1, (.bp 0 0)), (4, (jI be1)), (5, (jI v250)), (6, (jI v251))], [some (.box ((Qd.cells ba2).map .pl))])
def f34n6S (be1 : Int) (ba2 : Qd) (v235 : Int) (v236 : Int) (v237 : Int) : Tr × Hp := (mkS [(1, (.bp 0 0)), (4, (jI be1)), (5, (jI v235)), (6, (jI v236)), (7, (jI v237))], [some (.box ((Qd.cells ba2).map .pl))])
noncomputable def f34n6 : Nat → Int → Qd → Int → Int → Int → Option f34n6O
 | 0, _, _, _, _, _ => none
 | f + 1, be1, ba2, v235, v236, v237 =>
  bif (decide (v237 < (ba2.Positions.length : Int))) then
   (at? ba2.Positions v237).bind fun x245 =>
   (at? ba2.Positions be1).bind fun x247 =>
   bif (seq x245.Product x247.Product) then
    (f34n6 f be1 ba2 (wr64 (v235 + x245.Quantity)) (wr64 (v236 + x245.Basis)) (wr64 (v237 + 1)))
   else
    (f34n6 f be1 ba2 v235 v236 (wr64 (v237 + 1)))
  else
   some (.exit4 v235 v236)
theorem f34n6_ok : ∀ (f : Nat) (be1 : Int) (ba2 : Qd) (v235 : Int) (v236 : Int) (v237 : Int) {o : f34n6O}, (f34n6 f be1 ba2 v235 v236 v237) = some o → TL Try.prog Try.f34.ntmps 0 f (cL (cL (Qn 1 (cL (Qn 1 (cL (cL (Qn 1 (cL (cL (Qn 1 (cL (Qn 0 (Qn 1 (Qn 2 c34))))))))))))))) (f34n6S be1 ba2 v235 v236 v237) (fun r => r = f34n6E be1 ba2 o)
 | 0, _, _, _, _, _, o, h => by rw [f34n6] at h; cases h
 | f + 1, be1, ba2, v235, v236, v237, o, h => by
  rw [f34n6] at h
  refine TL.body (K := fun s => ∃ v235 : Int, ∃ v236 : Int, ∃ v237 : Int, s = (f34n6S be1 ba2 v235 v236 v237) ∧ (f34n6 f be1 ba2 v235 v236 v237) = some o) ?_ (by rintro _ ⟨v235, v236, v237, rfl, hk⟩; exact f34n6_ok f _ _ _ _ _ hk)
  rcases Qg h with ⟨h239, h⟩ | ⟨h239, h⟩
  ·obtain ⟨x245, h246, h⟩ := Qe h
   obtain ⟨x247, h248, h⟩ := Qe h
   rcases Qg h with ⟨h249, h⟩ | ⟨h249, h⟩
   ·exact rE Qi [([], [], [(3, .val (jI (ba2.Positions.length : Int)))]), ([], [(3, .idx (Int.toNat v237) (Qa.cells x245)), (9, .idx (Int.toNat be1) (Qa.cells x247))], []), ([], [(4, .idx (Int.toNat v237) (Qa.cells x245))], []), ([], [(4, .idx (Int.toNat v237) (Qa.cells x245))], []), j3] [some true, some true] [] [0] [1, 4, 5, 6, 7] (.norm, (f34n6S be1 ba2 (wr64 (v235 + x245.Quantity)) (wr64 (v236 + x245.Basis)) (wr64 (v237 + 1)))) (ap (Qo (xs := ba2.Positions) (c := Qa.cells)) (ap h239 (ap (Qh h246).1 (ap (Ql Qa.cells (Qh h246).2) (ap (Qh h248).1 (ap (Ql Qa.cells (Qh h248).2) (ap h249 (ap (Qh h246).1 (ap (Ql Qa.cells (Qh h246).2) (ap (Qh h246).1 (ap (Ql Qa.cells (Qh h246).2) an))))))))))) (Qs.norm ⟨(wr64 (v235 + x245.Quantity)), (wr64 (v236 + x245.Basis)), (wr64 (v237 + 1)), rfl, h⟩)
   ·exact rE Qi [([], [], [(3, .val (jI (ba2.Positions.length : Int)))]), ([], [(3, .idx (Int.toNat v237) (Qa.cells x245)), (9, .idx (Int.toNat be1) (Qa.cells x247))], []), j3] [some true, some false] [] [0] [1, 4, 5, 6, 7] (.norm, (f34n6S be1 ba2 v235 v236 (wr64 (v237 + 1)))) (ap (Qo (xs := ba2.Positions) (c := Qa.cells)) (ap h239 (ap (Qh h246).1 (ap (Ql Qa.cells (Qh h246).2) (ap (Qh h248).1 (ap (Ql Qa.cells (Qh h248).2) (ap h249 an))))))) (Qs.norm ⟨v235, v236, (wr64 (v237 + 1)), rfl, h⟩)
  ·obtain rfl := Qf h
   exact rK Qi 1 [([], [], [(3, .val (jI (ba2.Positions.length : Int)))])] [some false] [] [0] [1, 4, 5, 6] (.exit 4) ((f34n6E be1 ba2 (.exit4 v235 v236)).2) (ap (Qo (xs := ba2.Positions) (c := Qa.cells)) (ap h239 an)) (Qs.out rfl rfl)
noncomputable def f34n6L (be1 : Int) (ba2 : Qd) : List Qa → Int → Int → Int → Option f34n6O
 | [], v235, v236, v237 =>
  some (.exit4 v235 v236)
 | x0 :: rest, v235, v236, v237 =>
  (at? ba2.Positions be1).bind fun x247 =>
  bif (seq x0.Product x247.Product) then
   (f34n6L be1 ba2 rest (wr64 (v235 + x0.Quantity)) (wr64 (v236 + x0.Basis)) (v237 + 1))
  else
   (f34n6L be1 ba2 rest v235 v236 (v237 + 1))
theorem f34n6L_eq (be1 : Int) (ba2 : Qd) : ∀ (rest : List Qa) (f k : Nat) (v235 : Int) (v236 : Int), ba2.Positions.drop k = rest → ba2.Positions.length ≤ maxLen → rest.length < f → f34n6 f be1 ba2 v235 v236 (k : Int) = f34n6L be1 ba2 rest v235 v236 (k : Int)
 | _, 0, _, _, _, _, _, hf => absurd hf (Nat.not_lt_zero _)
 | [], f + 1, k, v235, v236, hd, hm, hf => by
  have hk : ¬ ((k : Int) < (ba2.Positions.length : Int)) := by have := Qai hd; omega
  rw [f34n6, f34n6L]
  simp only [decide_eq_false hk, cond_false]
 | x0 :: rest, f + 1, k, v235, v236, hd, hm, hf => by
  obtain ⟨hx, hlt, hd'⟩ := Qab hd
  have hk : (k : Int) < (ba2.Positions.length : Int) := by omega
  have hw : wr64 ((k : Int) + 1) = (k : Int) + 1 := Qbe (by omega) (by unfold maxLen at hm; omega)
  have ih : ∀ (v235 : Int) (v236 : Int), f34n6 f be1 ba2 v235 v236 ((k : Int) + 1) = f34n6L be1 ba2 rest v235 v236 ((k : Int) + 1) := fun v235 v236 => f34n6L_eq be1 ba2 rest f (k + 1) v235 v236 hd' hm (by simpa using hf)
  rw [f34n6, f34n6L]
  simp only [decide_eq_true hk, cond_true, Qah, hx, Option.bind_some, hw, ih]
theorem f34n6_run (be1 : Int) (ba2 : Qd) (v235 : Int) (v236 : Int) (hm : ba2.Positions.length ≤ maxLen) : f34n6 FUEL be1 ba2 v235 v236 0 = f34n6L be1 ba2 ba2.Positions v235 v236 0 := f34n6L_eq be1 ba2 ba2.Positions FUEL 0 v235 v236 List.drop_zero hm (Qat hm)
inductive f34n5O where
 | norm (v256 : Int) (v257 : Int)
def f34n5E (be1 : Int) (ba2 : Qd) : f34n5O → Ex × Tr × Hp
 | .norm v256 v257 => (.norm, mkS [(1, (.bp 0 0)), (4, (jI be1)), (5, (jI v256)), (6, (jI v257))], [some (.box ((Qd.cells ba2).map .pl))])
def f34n5S (be1 : Int) (ba2 : Qd) : Tr × Hp := (mkS [(1, (.bp 0 0)), (4, (jI be1)), (5, (jI 0)), (6, (jI 0))], [some (.box ((Qd.cells ba2).map .pl))])
noncomputable def f34n5 (be1 : Int) (ba2 : Qd) : Option f34n5O :=
 (f34n6 FUEL be1 ba2 0 0 0).bind fun o252 => match o252 with
 | .exit4 v254 v255 => some (.norm v254 v255)
theorem f34n5_ok (be1 : Int) (ba2 : Qd) {o : f34n5O} (h : (f34n5 be1 ba2) = some o) : T Try.prog Try.f34.ntmps 0 (cL (Qn 1 (cL (cL (Qn 1 (cL (cL (Qn 1 (cL (Qn 0 (Qn 1 (Qn 2 c34)))))))))))) (f34n5S be1 ba2) (fun r => r = f34n5E be1 ba2 o) := by
 unfold f34n5 at h
 refine rN Qi 1 [j3] [] [] [0] [1, 4, 5, 6, 7] (f34n6S be1 ba2 0 0 0) an ?_
 obtain ⟨o252, h253, h⟩ := Qe h
 cases o252 with
 | exit4 v254 v255 =>
  obtain rfl := Qf h
  exact T.last' (T.bl (i := 4) (by kernel_rfl) (by kernel_rfl) (f34n6_ok FUEL be1 ba2 0 0 0 h253)) (tds := []) (m := [0]) (keep := [1, 4, 5, 6]) (st2 := (f34n5E be1 ba2 (.norm v254 v255)).2) (by kernel_rfl) an rfl
inductive f34n7O where
 | norm (v265 : Bool)
def f34n7E (be1 : Int) (be2 : Int) (be3 : Int) (ba4 : Qd) : f34n7O → Ex × Tr × Hp
 | .norm v265 => (.norm, mkS [(1, (.bp 0 0)), (4, (jI be1)), (103, (jB v265))], [some (.box ((Qd.cells ba4).map .pl))])
def f34n7S (be1 : Int) (be2 : Int) (be3 : Int) (ba4 : Qd) : Tr × Hp := (mkS [(1, (.bp 0 0)), (4, (jI be1)), (5, (jI be2)), (6, (jI be3))], [some (.box ((Qd.cells ba4).map .pl))])
noncomputable def f34n7 (be1 : Int) (be2 : Int) (be3 : Int) (ba4 : Qd) : Option f34n7O :=
 bif (decide (be2 = 0)) then
  some (.norm (!(decide (be3 = 0))))
 else
  some (.norm true)
theorem f34n7_ok (be1 : Int) (be2 : Int) (be3 : Int) (ba4 : Qd) {o : f34n7O} (h : (f34n7 be1 be2 be3 ba4) = some o) : T Try.prog Try.f34.ntmps 0 (cL (Qn 0 (Qn 1 (Qn 1 (cL (cL (Qn 1 (cL (cL (Qn 1 (cL (Qn 0 (Qn 1 (Qn 2 c34)))))))))))))) (f34n7S be1 be2 be3 ba4) (fun r => r = f34n7E be1 be2 be3 ba4 o) := by
 unfold f34n7 at h
 rcases Qg h with ⟨h264, h⟩ | ⟨h264, h⟩
 ·obtain rfl := Qf h
  exact rE Qi [([(3, false), (4, false)], [(5, .bool false)], [])] [] [] [0] [1, 4, 103] (.norm, (f34n7E be1 be2 be3 ba4 (.norm (!(decide (be3 = 0))))).2) (ap3 (Qk h264) an) rfl
 ·obtain rfl := Qf h
  exact rE Qi [([(3, true), (4, true)], [(5, .bool true)], [])] [] [] [0] [1, 4, 103] (.norm, (f34n7E be1 be2 be3 ba4 (.norm true)).2) (ap3 (Qr h264) an) rfl
inductive f34n4O where
 | norm
 | ret
def f34n4E (be1 : Int) (ba2 : Qd) : f34n4O → Ex × Tr × Hp
 | .norm => (.norm, mkS [(1, (.bp 0 0)), (4, (jI be1))], [some (.box ((Qd.cells ba2).map .pl))])
 | .ret => (.ret, mkS [(2, (jI 8))], [])
def f34n4S (be1 : Int) (ba2 : Qd) : Tr × Hp := (mkS [(1, (.bp 0 0)), (4, (jI be1))], [some (.box ((Qd.cells ba2).map .pl))])
noncomputable def f34n4 (be1 : Int) (ba2 : Qd) : Option f34n4O :=
 (f34n5 be1 ba2).bind fun o258 => match o258 with
 | .norm v260 v261 => (f34n7 be1 v260 v261 ba2).bind fun o266 => match o266 with
  | .norm v268 => bif v268 then
    some .ret
   else
    some .norm
theorem f34n4_ok (be1 : Int) (ba2 : Qd) {o : f34n4O} (h : (f34n4 be1 ba2) = some o) : T Try.prog Try.f34.ntmps 0 (cL (Qn 1 (cL (cL (Qn 1 (cL (Qn 0 (Qn 1 (Qn 2 c34))))))))) (f34n4S be1 ba2) (fun r => r = f34n4E be1 ba2 o) := by
 unfold f34n4 at h
 refine T.block' (i := 3) (by kernel_rfl) ?_
 refine rN Qi 1 [j3] [] [] [0] [1, 4, 5, 6] (f34n5S be1 ba2) an ?_
 obtain ⟨o258, h259, h⟩ := Qe h
 cases o258 with
 | norm v260 v261 =>
  refine T.oneN (by kernel_rfl) (f34n5_ok be1 ba2 h259) (st2 := (f34n5E be1 ba2 (.norm v260 v261)).2) rfl ?_
  refine rN Qi 0 [] [] [] [0] [1, 4, 5, 6] (f34n7S be1 v260 v261 ba2) an ?_
  obtain ⟨o266, h267, h⟩ := Qe h
  cases o266 with
  | norm v268 =>
   refine T.oneN (by kernel_rfl) (f34n7_ok be1 v260 v261 ba2 h267) (st2 := (f34n7E be1 v260 v261 ba2 (.norm v268)).2) rfl ?_
   rcases Qg h with ⟨h270, h⟩ | ⟨h270, h⟩
   ·obtain rfl := Qf h
    exact rE Qi [j3] [some true] [] [] [2] (.ret, (f34n4E be1 ba2 .ret).2) (ap h270 an) rfl
   ·obtain rfl := Qf h
    exact rE Qi [] [some false] [] [0] [1, 4] (.norm, (f34n4E be1 ba2 .norm).2) (ap h270 an) rfl
inductive f34n8O where
 | exit2
 | ret
def f34n8E (ba1 : Qd) : f34n8O → Ex × Tr × Hp
 | .exit2 => ((.exit 2), mkS [], [])
 | .ret => (.ret, mkS [(2, (jI 8))], [])
def f34n8S (ba1 : Qd) (v205 : Int) : Tr × Hp := (mkS [(1, (.bp 0 0)), (4, (jI v205))], [some (.box ((Qd.cells ba1).map .pl))])
noncomputable def f34n8 : Nat → Qd → Int → Option f34n8O
 | 0, _, _ => none
 | f + 1, ba1, v205 =>
  bif (decide (v205 < (ba1.Positions.length : Int))) then
   (f34n4 v205 ba1).bind fun o271 => match o271 with
   | .norm => (f34n8 f ba1 (wr64 (v205 + 1)))
   | .ret => some .ret
  else
   some .exit2
theorem f34n8_ok : ∀ (f : Nat) (ba1 : Qd) (v205 : Int) {o : f34n8O}, (f34n8 f ba1 v205) = some o → TL Try.prog Try.f34.ntmps 0 f (cL (cL (Qn 1 (cL (Qn 0 (Qn 1 (Qn 2 c34))))))) (f34n8S ba1 v205) (fun r => r = f34n8E ba1 o)
 | 0, _, _, o, h => by rw [f34n8] at h; cases h
 | f + 1, ba1, v205, o, h => by
  rw [f34n8] at h
  refine TL.body (K := fun s => ∃ v205 : Int, s = (f34n8S ba1 v205) ∧ (f34n8 f ba1 v205) = some o) ?_ (by rintro _ ⟨v205, rfl, hk⟩; exact f34n8_ok f _ _ hk)
  rcases Qg h with ⟨h207, h⟩ | ⟨h207, h⟩
  ·refine rN Qi 1 [([], [], [(3, .val (jI (ba1.Positions.length : Int)))])] [some true] [] [0] [1, 4] (f34n4S v205 ba1) (ap (Qo (xs := ba1.Positions) (c := Qa.cells)) (ap h207 an)) ?_
   obtain ⟨o271, h272, h⟩ := Qe h
   cases o271 with
   | norm =>
    refine T.oneN (by kernel_rfl) (f34n4_ok v205 ba1 h272) (st2 := (f34n4E v205 ba1 .norm).2) rfl ?_
    exact rE Qi [j3] [] [] [0] [1, 4] (.norm, (f34n8S ba1 (wr64 (v205 + 1)))) an (Qs.norm ⟨(wr64 (v205 + 1)), rfl, h⟩)
   | ret =>
    obtain rfl := Qf h
    exact T.oneX' (by kernel_rfl) (f34n4_ok v205 ba1 h272) (tds := []) (m := []) (keep := [2]) (st2 := (f34n8E ba1 .ret).2) (by kernel_rfl) an rfl (Qs.out rfl rfl)
  ·obtain rfl := Qf h
   exact rK Qi 1 [([], [], [(3, .val (jI (ba1.Positions.length : Int)))])] [some false] [] [] [] (.exit 2) ((f34n8E ba1 .exit2).2) (ap (Qo (xs := ba1.Positions) (c := Qa.cells)) (ap h207 an)) (Qs.out rfl rfl)
inductive f34n3O where
 | norm
 | ret
def f34n3E (ba1 : Qd) : f34n3O → Ex × Tr × Hp
 | .norm => (.norm, mkS [], [])
 | .ret => (.ret, mkS [(2, (jI 8))], [])
def f34n3S (ba1 : Qd) : Tr × Hp := (mkS [(1, (.bp 0 0))], [some (.box ((Qd.cells ba1).map .pl))])
noncomputable def f34n3 (ba1 : Qd) : Option f34n3O :=
 (f34n8 FUEL ba1 0).bind fun o273 => match o273 with
 | .exit2 => some .norm
 | .ret => some .ret
theorem f34n3_ok (ba1 : Qd) {o : f34n3O} (h : (f34n3 ba1) = some o) : T Try.prog Try.f34.ntmps 0 (cL (Qn 0 (Qn 1 (Qn 2 c34)))) (f34n3S ba1) (fun r => r = f34n3E ba1 o) := by
 unfold f34n3 at h
 refine rN Qi 1 [j3] [] [] [0] [1, 4] (f34n8S ba1 0) an ?_
 obtain ⟨o273, h274, h⟩ := Qe h
 cases o273 with
 | exit2 =>
  obtain rfl := Qf h
  exact T.last' (T.bl (i := 2) (by kernel_rfl) (by kernel_rfl) (f34n8_ok FUEL ba1 0 h274)) (tds := []) (m := []) (keep := []) (st2 := (f34n3E ba1 .norm).2) (by kernel_rfl) an rfl
 | ret =>
  obtain rfl := Qf h
  exact T.last' (T.bl (i := 2) (by kernel_rfl) (by kernel_rfl) (f34n8_ok FUEL ba1 0 h274)) (tds := []) (m := []) (keep := [2]) (st2 := (f34n3E ba1 .ret).2) (by kernel_rfl) an rfl
inductive f34n0O where
 | ret (v277 : Int)
def f34n0E (a1 : Qd) : f34n0O → Ex × Tr × Hp
 | .ret v277 => (.ret, mkS [(2, (jI v277))], [])
def f34n0S (a1 : Qd) : Tr × Hp := (Qal [(jA Qd.cells a1)] 0 .leaf, [])
noncomputable def f34n0 (a1 : Qd) : Option f34n0O :=
 bif (decide (a1.Day < 0)) then
  some (.ret 8)
 else
  bif (decide (99999 < a1.Day)) then
   some (.ret 8)
  else
   bif (decide (200 < (a1.Positions.length : Int))) then
    some (.ret 8)
   else
    (f34n1 a1).bind fun o72 => match o72 with
    | .norm => (f34n3 a1).bind fun o275 => match o275 with
     | .norm => some (.ret 0)
     | .ret => some (.ret 8)
    | .ret => some (.ret 8)
theorem f34n0_ok (a1 : Qd) {o : f34n0O} (h : (f34n0 a1) = some o) : T Try.prog Try.f34.ntmps 0 c34 (f34n0S a1) (fun r => r = f34n0E a1 o) := by
 unfold f34n0 at h
 rcases Qg h with ⟨h5, h⟩ | ⟨h5, h⟩
 ·obtain rfl := Qf h
  exact rK Qi 2 [j3, (jT [4, 5, 6], [(7, .bool true)], []), j3] [none] [] [] [2] .ret ((f34n0E a1 (.ret 8)).2) (ap4 h5 an) rfl
 ·rcases Qg h with ⟨h6, h⟩ | ⟨h6, h⟩
  ·obtain rfl := Qf h
   exact rK Qi 2 [j3, (jF [4, 5, 6] ++ jT [9, 10, 11, 12], [(7, .bool false), (13, .bool true)], []), j3] [none] [] [] [2] .ret ((f34n0E a1 (.ret 8)).2) (ap4 h5 (ap h6 (ap4 h6 an))) rfl
  ·rcases Qg h with ⟨h7, h⟩ | ⟨h7, h⟩
   ·obtain rfl := Qf h
    exact rK Qi 2 [j3, (jF [4, 5, 6, 9, 10, 11, 12], [(7, .bool false), (13, .bool false)], [(11, .val (jI (a1.Positions.length : Int)))]), j3] [some true] [] [] [2] .ret ((f34n0E a1 (.ret 8)).2) (ap4 h5 (ap3 h6 (ap (Qo (xs := a1.Positions) (c := Qa.cells)) (ap2 h6 (ap h7 an))))) rfl
   ·refine rN Qi 2 [j3, (jF [4, 5, 6, 9, 10, 11, 12], [(7, .bool false), (13, .bool false)], [(11, .val (jI (a1.Positions.length : Int)))])] [some false] [] [0] [1] (f34n1S a1) (ap4 h5 (ap3 h6 (ap (Qo (xs := a1.Positions) (c := Qa.cells)) (ap2 h6 (ap h7 an))))) ?_
    obtain ⟨o72, h73, h⟩ := Qe h
    cases o72 with
    | norm =>
     refine T.oneN (by kernel_rfl) (f34n1_ok a1 h73) (st2 := (f34n1E a1 .norm).2) rfl ?_
     refine rN Qi 0 [] [] [] [0] [1] (f34n3S a1) an ?_
     obtain ⟨o275, h276, h⟩ := Qe h
     cases o275 with
     | norm =>
      refine T.oneN (by kernel_rfl) (f34n3_ok a1 h276) (st2 := (f34n3E a1 .norm).2) rfl ?_
      obtain rfl := Qf h
      exact rE Qi [j3] [] [] [] [2] (.ret, (f34n0E a1 (.ret 0)).2) an rfl
     | ret =>
      obtain rfl := Qf h
      exact T.oneX' (by kernel_rfl) (f34n3_ok a1 h276) (tds := []) (m := []) (keep := [2]) (st2 := (f34n0E a1 (.ret 8)).2) (by kernel_rfl) an rfl rfl
    | ret =>
     obtain rfl := Qf h
     exact T.oneX' (by kernel_rfl) (f34n1_ok a1 h73) (tds := []) (m := []) (keep := [2]) (st2 := (f34n0E a1 (.ret 8)).2) (by kernel_rfl) an rfl rfl
noncomputable def f34 (a1 : Qd) : Option Int := (f34n0 a1).bind fun o => match o with
 | .ret v277 => some v277
theorem Qcs (a1 : Qd) {r : Int} (h : (f34 a1) = some r) : Qq Try.prog false 34 [(jA Qd.cells a1)] [] (jI r) [] := by
 unfold f34 at h
 obtain ⟨o, ho, h⟩ := Qe h
 cases o with
 | ret v277 =>
  obtain rfl := Qf h
  exact Qq.plain Qi (f := Try.f34) (c := c34) (by kernel_rfl) (by kernel_rfl) (by kernel_rfl) (by kernel_rfl) ((f34n0_ok a1 ho).mono fun r e => by subst e; exact ⟨.inl rfl, (jI v277), (jI v277), by kernel_rfl, by kernel_rfl, ((Wk.refl _) : Wk (jI v277) (jI v277))⟩)

noncomputable def c50 : Code := Try.f50.body.getD .skip
inductive f50n2O where
 | exit0 (v119 : Bool) (v120 : List Qa)
def f50n2E (bg1 : List Qa) (bn2 : Qa) : f50n2O → Ex × Tr × Hp
 | .exit0 v119 v120 => ((.exit 0), mkS [(3, (.bp 0 0)), (5, (.own 1)), (6, (jB v119))], [some (.box ((Qa.cells bn2).map .pl)), jR 4 Qa.cells v120])
def f50n2S (bg1 : List Qa) (bn2 : Qa) (v72 : Bool) (v73 : Int) (v74 : List Qa) : Tr × Hp := (mkS [(0, (jL 4 Qa.cells bg1)), (3, (.bp 0 0)), (5, (.own 1)), (6, (jB v72)), (7, (jI v73))], [some (.box ((Qa.cells bn2).map .pl)), jR 4 Qa.cells v74])
noncomputable def f50n2 : Nat → List Qa → Qa → Bool → Int → List Qa → Option f50n2O
 | 0, _, _, _, _, _ => none
 | f + 1, bg1, bn2, v72, v73, v74 =>
  bif (decide (v73 < (bg1.length : Int))) then
   (at? bg1 v73).bind fun x98 =>
   bif (seq x98.Member bn2.Member) then
    bif (seq x98.Product bn2.Product) then
     req (fit (v74.length + 1) 48) <|
     (f50n2 f bg1 bn2 true (wr64 (v73 + 1)) (v74 ++ [(Qa.mk x98.Member x98.Product (wr64 (x98.Quantity + bn2.Quantity)) (wr64 (x98.Basis + bn2.Basis)))]))
    else
     bif v72 then
      req (fit (v74.length + 1) 48) <|
      (f50n2 f bg1 bn2 v72 (wr64 (v73 + 1)) (v74 ++ [x98]))
     else
      (f56 bn2 x98).bind fun x105 =>
      bif x105 then
       req (fit (v74.length + 1) 48) <|
       req (fit ((v74 ++ [bn2]).length + 1) 48) <|
       (f50n2 f bg1 bn2 true (wr64 (v73 + 1)) ((v74 ++ [bn2]) ++ [x98]))
      else
       req (fit (v74.length + 1) 48) <|
       (f50n2 f bg1 bn2 v72 (wr64 (v73 + 1)) (v74 ++ [x98]))
   else
    bif v72 then
     req (fit (v74.length + 1) 48) <|
     (f50n2 f bg1 bn2 v72 (wr64 (v73 + 1)) (v74 ++ [x98]))
    else
     (f56 bn2 x98).bind fun x113 =>
     bif x113 then
      req (fit (v74.length + 1) 48) <|
      req (fit ((v74 ++ [bn2]).length + 1) 48) <|
      (f50n2 f bg1 bn2 true (wr64 (v73 + 1)) ((v74 ++ [bn2]) ++ [x98]))
     else
      req (fit (v74.length + 1) 48) <|
      (f50n2 f bg1 bn2 v72 (wr64 (v73 + 1)) (v74 ++ [x98]))
  else
   some (.exit0 v72 v74)
theorem f50n2_ok : ∀ (f : Nat) (bg1 : List Qa) (bn2 : Qa) (v72 : Bool) (v73 : Int) (v74 : List Qa) {o : f50n2O}, (f50n2 f bg1 bn2 v72 v73 v74) = some o → TL Try.prog Try.f50.ntmps 0 f (cL (cL (Qn 1 (cL (Qn 3 c50))))) (f50n2S bg1 bn2 v72 v73 v74) (fun r => r = f50n2E bg1 bn2 o)
 | 0, _, _, _, _, _, o, h => by rw [f50n2] at h; cases h
 | f + 1, bg1, bn2, v72, v73, v74, o, h => by
  rw [f50n2] at h
  refine TL.body (K := fun s => ∃ v72 : Bool, ∃ v73 : Int, ∃ v74 : List Qa, s = (f50n2S bg1 bn2 v72 v73 v74) ∧ (f50n2 f bg1 bn2 v72 v73 v74) = some o) ?_ (by rintro _ ⟨v72, v73, v74, rfl, hk⟩; exact f50n2_ok f _ _ _ _ _ hk)
  rcases Qg h with ⟨h76, h⟩ | ⟨h76, h⟩
  ·obtain ⟨x98, h99, h⟩ := Qe h
   rcases Qg h with ⟨h100, h⟩ | ⟨h100, h⟩
   ·rcases Qg h with ⟨h101, h⟩ | ⟨h101, h⟩
    ·obtain ⟨h102, h⟩ := Qz h
     exact rE Qi [([], [], [(2, .val (jI (bg1.length : Int)))]), ([], [(2, .idx (Int.toNat v73) (Qa.cells x98))], []), (jT [6, 7, 8, 9, 10], [(11, .bool true)], []), j3, j3, j3, j3, ([], [(3, .fits)], [(3, .row 4 ((v74 ++ [(Qa.mk x98.Member x98.Product (wr64 (x98.Quantity + bn2.Quantity)) (wr64 (x98.Basis + bn2.Basis)))]).map Qa.cells))]), j3] [some true, some true, none] [] [0, 4] [0, 3, 5, 6, 7] (.norm, (f50n2S bg1 bn2 true (wr64 (v73 + 1)) (v74 ++ [(Qa.mk x98.Member x98.Product (wr64 (x98.Quantity + bn2.Quantity)) (wr64 (x98.Basis + bn2.Basis)))]))) (ap (Qo (xs := bg1) (c := Qa.cells)) (ap h76 (ap (Qh h99).1 (ap (Ql Qa.cells (Qh h99).2) (ap2 h100 (ap4 h100 (ap h101 (ap (Qaw (te := ti52) (xs := v74) (n := 1) (c := Qa.cells) h102 rfl) (ap (Qcg (xs := v74) (ys := [(Qa.mk x98.Member x98.Product (wr64 (x98.Quantity + bn2.Quantity)) (wr64 (x98.Basis + bn2.Basis)))]) (c := Qa.cells)) an))))))))) (Qs.norm ⟨true, (wr64 (v73 + 1)), (v74 ++ [(Qa.mk x98.Member x98.Product (wr64 (x98.Quantity + bn2.Quantity)) (wr64 (x98.Basis + bn2.Basis)))]), rfl, h⟩)
    ·rcases Qg h with ⟨h103, h⟩ | ⟨h103, h⟩
     ·obtain ⟨h104, h⟩ := Qz h
      exact rE Qi [([], [], [(2, .val (jI (bg1.length : Int)))]), ([], [(2, .idx (Int.toNat v73) (Qa.cells x98))], []), (jT [6, 7, 8, 9, 10], [(11, .bool true)], []), (jF [3, 4, 5], [(6, .bool false)], []), ([], [(3, .fits)], [(3, .row 4 ((v74 ++ [x98]).map Qa.cells))]), j3] [some true, some false, none] [] [0, 4] [0, 3, 5, 6, 7] (.norm, (f50n2S bg1 bn2 v72 (wr64 (v73 + 1)) (v74 ++ [x98]))) (ap (Qo (xs := bg1) (c := Qa.cells)) (ap h76 (ap (Qh h99).1 (ap (Ql Qa.cells (Qh h99).2) (ap2 h100 (ap4 h100 (ap h101 (ap4 (Qk h103) (ap (Qaw (te := ti52) (xs := v74) (n := 1) (c := Qa.cells) h104 rfl) (ap (Qcg (xs := v74) (ys := [x98]) (c := Qa.cells)) an)))))))))) (Qs.norm ⟨v72, (wr64 (v73 + 1)), (v74 ++ [x98]), rfl, h⟩)
     ·obtain ⟨x105, h106, h⟩ := Qe h
      rcases Qg h with ⟨h107, h⟩ | ⟨h107, h⟩
      ·obtain ⟨h108, h⟩ := Qz h
       obtain ⟨h109, h⟩ := Qz h
       exact rE Qi [([], [], [(2, .val (jI (bg1.length : Int)))]), ([], [(2, .idx (Int.toNat v73) (Qa.cells x98))], []), (jT [6, 7, 8, 9, 10], [(11, .bool true)], []), (jT [3, 4, 5], [jH 5 (jB x105), (6, .bool true)], []), ([], [(3, .fits)], [(3, .row 4 ((v74 ++ [bn2]).map Qa.cells))]), j3, ([], [(3, .fits)], [(3, .row 6 (((v74 ++ [bn2]) ++ [x98]).map Qa.cells))]), j3] [some true, some false, some true] [] [0, 6] [0, 3, 5, 6, 7] (.norm, (f50n2S bg1 bn2 true (wr64 (v73 + 1)) ((v74 ++ [bn2]) ++ [x98]))) (ap (Qo (xs := bg1) (c := Qa.cells)) (ap h76 (ap (Qh h99).1 (ap (Ql Qa.cells (Qh h99).2) (ap2 h100 (ap4 h100 (ap h101 (ap4 (Qr h103) (ap (f56_ok bn2 x98 h106) (ap h107 (ap (Qaw (te := ti52) (xs := v74) (n := 1) (c := Qa.cells) h108 rfl) (ap (Qcg (xs := v74) (ys := [bn2]) (c := Qa.cells)) (ap (Qaw (te := ti52) (xs := (v74 ++ [bn2])) (n := 1) (c := Qa.cells) h109 rfl) (ap (Qcg (xs := (v74 ++ [bn2])) (ys := [x98]) (c := Qa.cells)) an)))))))))))))) (Qs.norm ⟨true, (wr64 (v73 + 1)), ((v74 ++ [bn2]) ++ [x98]), rfl, h⟩)
      ·obtain ⟨h110, h⟩ := Qz h
       exact rE Qi [([], [], [(2, .val (jI (bg1.length : Int)))]), ([], [(2, .idx (Int.toNat v73) (Qa.cells x98))], []), (jT [6, 7, 8, 9, 10], [(11, .bool true)], []), (jT [3, 4, 5], [jH 5 (jB x105), (6, .bool true)], []), ([], [(3, .fits)], [(3, .row 4 ((v74 ++ [x98]).map Qa.cells))]), j3] [some true, some false, some false] [] [0, 4] [0, 3, 5, 6, 7] (.norm, (f50n2S bg1 bn2 v72 (wr64 (v73 + 1)) (v74 ++ [x98]))) (ap (Qo (xs := bg1) (c := Qa.cells)) (ap h76 (ap (Qh h99).1 (ap (Ql Qa.cells (Qh h99).2) (ap2 h100 (ap4 h100 (ap h101 (ap4 (Qr h103) (ap (f56_ok bn2 x98 h106) (ap h107 (ap (Qaw (te := ti52) (xs := v74) (n := 1) (c := Qa.cells) h110 rfl) (ap (Qcg (xs := v74) (ys := [x98]) (c := Qa.cells)) an)))))))))))) (Qs.norm ⟨v72, (wr64 (v73 + 1)), (v74 ++ [x98]), rfl, h⟩)
   ·rcases Qg h with ⟨h111, h⟩ | ⟨h111, h⟩
    ·obtain ⟨h112, h⟩ := Qz h
     exact rE Qi [([], [], [(2, .val (jI (bg1.length : Int)))]), ([], [(2, .idx (Int.toNat v73) (Qa.cells x98))], []), (jF [6, 7, 8, 9, 10], [(11, .bool false)], []), (jF [3, 4, 5], [(6, .bool false)], []), ([], [(3, .fits)], [(3, .row 4 ((v74 ++ [x98]).map Qa.cells))]), j3] [some true, none, none] [] [0, 4] [0, 3, 5, 6, 7] (.norm, (f50n2S bg1 bn2 v72 (wr64 (v73 + 1)) (v74 ++ [x98]))) (ap (Qo (xs := bg1) (c := Qa.cells)) (ap h76 (ap (Qh h99).1 (ap (Ql Qa.cells (Qh h99).2) (ap2 h100 (ap4 h100 (ap4 (Qk h111) (ap (Qaw (te := ti52) (xs := v74) (n := 1) (c := Qa.cells) h112 rfl) (ap (Qcg (xs := v74) (ys := [x98]) (c := Qa.cells)) an))))))))) (Qs.norm ⟨v72, (wr64 (v73 + 1)), (v74 ++ [x98]), rfl, h⟩)
    ·obtain ⟨x113, h114, h⟩ := Qe h
     rcases Qg h with ⟨h115, h⟩ | ⟨h115, h⟩
     ·obtain ⟨h116, h⟩ := Qz h
      obtain ⟨h117, h⟩ := Qz h
      exact rE Qi [([], [], [(2, .val (jI (bg1.length : Int)))]), ([], [(2, .idx (Int.toNat v73) (Qa.cells x98))], []), (jF [6, 7, 8, 9, 10], [(11, .bool false)], []), (jT [3, 4, 5], [jH 5 (jB x113), (6, .bool true)], []), ([], [(3, .fits)], [(3, .row 4 ((v74 ++ [bn2]).map Qa.cells))]), j3, ([], [(3, .fits)], [(3, .row 6 (((v74 ++ [bn2]) ++ [x98]).map Qa.cells))]), j3] [some true, none, some true] [] [0, 6] [0, 3, 5, 6, 7] (.norm, (f50n2S bg1 bn2 true (wr64 (v73 + 1)) ((v74 ++ [bn2]) ++ [x98]))) (ap (Qo (xs := bg1) (c := Qa.cells)) (ap h76 (ap (Qh h99).1 (ap (Ql Qa.cells (Qh h99).2) (ap2 h100 (ap4 h100 (ap4 (Qr h111) (ap (f56_ok bn2 x98 h114) (ap h115 (ap (Qaw (te := ti52) (xs := v74) (n := 1) (c := Qa.cells) h116 rfl) (ap (Qcg (xs := v74) (ys := [bn2]) (c := Qa.cells)) (ap (Qaw (te := ti52) (xs := (v74 ++ [bn2])) (n := 1) (c := Qa.cells) h117 rfl) (ap (Qcg (xs := (v74 ++ [bn2])) (ys := [x98]) (c := Qa.cells)) an))))))))))))) (Qs.norm ⟨true, (wr64 (v73 + 1)), ((v74 ++ [bn2]) ++ [x98]), rfl, h⟩)
     ·obtain ⟨h118, h⟩ := Qz h
      exact rE Qi [([], [], [(2, .val (jI (bg1.length : Int)))]), ([], [(2, .idx (Int.toNat v73) (Qa.cells x98))], []), (jF [6, 7, 8, 9, 10], [(11, .bool false)], []), (jT [3, 4, 5], [jH 5 (jB x113), (6, .bool true)], []), ([], [(3, .fits)], [(3, .row 4 ((v74 ++ [x98]).map Qa.cells))]), j3] [some true, none, some false] [] [0, 4] [0, 3, 5, 6, 7] (.norm, (f50n2S bg1 bn2 v72 (wr64 (v73 + 1)) (v74 ++ [x98]))) (ap (Qo (xs := bg1) (c := Qa.cells)) (ap h76 (ap (Qh h99).1 (ap (Ql Qa.cells (Qh h99).2) (ap2 h100 (ap4 h100 (ap4 (Qr h111) (ap (f56_ok bn2 x98 h114) (ap h115 (ap (Qaw (te := ti52) (xs := v74) (n := 1) (c := Qa.cells) h118 rfl) (ap (Qcg (xs := v74) (ys := [x98]) (c := Qa.cells)) an))))))))))) (Qs.norm ⟨v72, (wr64 (v73 + 1)), (v74 ++ [x98]), rfl, h⟩)
  ·obtain rfl := Qf h
   exact rK Qi 1 [([], [], [(2, .val (jI (bg1.length : Int)))])] [some false] [] [0, 1] [3, 5, 6] (.exit 0) ((f50n2E bg1 bn2 (.exit0 v72 v74)).2) (ap (Qo (xs := bg1) (c := Qa.cells)) (ap h76 an)) (Qs.out rfl rfl)
noncomputable def f50n2L (bg1 : List Qa) (bn2 : Qa) : List Qa → Bool → Int → (List Qa) → Option f50n2O
 | [], v72, v73, v74 =>
  some (.exit0 v72 v74)
 | x0 :: rest, v72, v73, v74 =>
  bif (seq x0.Member bn2.Member) then
   bif (seq x0.Product bn2.Product) then
    req (fit (v74.length + 1) 48) <|
    (f50n2L bg1 bn2 rest true (v73 + 1) (v74 ++ [(Qa.mk x0.Member x0.Product (wr64 (x0.Quantity + bn2.Quantity)) (wr64 (x0.Basis + bn2.Basis)))]))
   else
    bif v72 then
     req (fit (v74.length + 1) 48) <|
     (f50n2L bg1 bn2 rest v72 (v73 + 1) (v74 ++ [x0]))
    else
     (f56 bn2 x0).bind fun x105 =>
     bif x105 then
      req (fit (v74.length + 1) 48) <|
      req (fit ((v74 ++ [bn2]).length + 1) 48) <|
      (f50n2L bg1 bn2 rest true (v73 + 1) ((v74 ++ [bn2]) ++ [x0]))
     else
      req (fit (v74.length + 1) 48) <|
      (f50n2L bg1 bn2 rest v72 (v73 + 1) (v74 ++ [x0]))
  else
   bif v72 then
    req (fit (v74.length + 1) 48) <|
    (f50n2L bg1 bn2 rest v72 (v73 + 1) (v74 ++ [x0]))
   else
    (f56 bn2 x0).bind fun x113 =>
    bif x113 then
     req (fit (v74.length + 1) 48) <|
     req (fit ((v74 ++ [bn2]).length + 1) 48) <|
     (f50n2L bg1 bn2 rest true (v73 + 1) ((v74 ++ [bn2]) ++ [x0]))
    else
     req (fit (v74.length + 1) 48) <|
     (f50n2L bg1 bn2 rest v72 (v73 + 1) (v74 ++ [x0]))
theorem f50n2L_eq (bg1 : List Qa) (bn2 : Qa) : ∀ (rest : List Qa) (f k : Nat) (v72 : Bool) (v74 : List Qa), bg1.drop k = rest → bg1.length ≤ maxLen → rest.length < f → f50n2 f bg1 bn2 v72 (k : Int) v74 = f50n2L bg1 bn2 rest v72 (k : Int) v74
 | _, 0, _, _, _, _, _, hf => absurd hf (Nat.not_lt_zero _)
 | [], f + 1, k, v72, v74, hd, hm, hf => by
  have hk : ¬ ((k : Int) < (bg1.length : Int)) := by have := Qai hd; omega
  rw [f50n2, f50n2L]
  simp only [decide_eq_false hk, cond_false]
 | x0 :: rest, f + 1, k, v72, v74, hd, hm, hf => by
  obtain ⟨hx, hlt, hd'⟩ := Qab hd
  have hk : (k : Int) < (bg1.length : Int) := by omega
  have hw : wr64 ((k : Int) + 1) = (k : Int) + 1 := Qbe (by omega) (by unfold maxLen at hm; omega)
  have ih : ∀ (v72 : Bool) (v74 : List Qa), f50n2 f bg1 bn2 v72 ((k : Int) + 1) v74 = f50n2L bg1 bn2 rest v72 ((k : Int) + 1) v74 := fun v72 v74 => f50n2L_eq bg1 bn2 rest f (k + 1) v72 v74 hd' hm (by simpa using hf)
  rw [f50n2, f50n2L]
  simp only [decide_eq_true hk, cond_true, Qah, hx, Option.bind_some, hw, ih]
theorem f50n2_run (bg1 : List Qa) (bn2 : Qa) (v72 : Bool) (v74 : List Qa) (hm : bg1.length ≤ maxLen) : f50n2 FUEL bg1 bn2 v72 0 v74 = f50n2L bg1 bn2 bg1 v72 0 v74 := f50n2L_eq bg1 bn2 bg1 FUEL 0 v72 v74 List.drop_zero hm (Qat hm)
inductive f50n1O where
 | norm (v125 : Bool) (v126 : List Qa)
def f50n1E (bg1 : List Qa) (bn2 : Qa) : f50n1O → Ex × Tr × Hp
 | .norm v125 v126 => (.norm, mkS [(3, (.bp 0 0)), (5, (.own 1)), (6, (jB v125))], [some (.box ((Qa.cells bn2).map .pl)), jR 4 Qa.cells v126])
def f50n1S (bg1 : List Qa) (bn2 : Qa) : Tr × Hp := (mkS [(0, (jL 4 Qa.cells bg1)), (3, (.bp 0 0)), (5, (.pl (.sl .nil 0 []))), (6, (jB false))], [some (.box ((Qa.cells bn2).map .pl))])
noncomputable def f50n1 (bg1 : List Qa) (bn2 : Qa) : Option f50n1O :=
 (f50n2 FUEL bg1 bn2 false 0 []).bind fun o121 => match o121 with
 | .exit0 v123 v124 => some (.norm v123 v124)
theorem f50n1_ok (bg1 : List Qa) (bn2 : Qa) {o : f50n1O} (h : (f50n1 bg1 bn2) = some o) : T Try.prog Try.f50.ntmps 0 (cL (Qn 3 c50)) (f50n1S bg1 bn2) (fun r => r = f50n1E bg1 bn2 o) := by
 unfold f50n1 at h
 refine rN Qi 1 [j3] [] [.mat 5 4] [0, 1] [0, 3, 5, 6, 7] (f50n2S bg1 bn2 false 0 []) an ?_
 obtain ⟨o121, h122, h⟩ := Qe h
 cases o121 with
 | exit0 v123 v124 =>
  obtain rfl := Qf h
  exact T.last' (T.bl (i := 0) (by kernel_rfl) (by kernel_rfl) (f50n2_ok FUEL bg1 bn2 false 0 [] h122)) (tds := []) (m := [0, 1]) (keep := [3, 5, 6]) (st2 := (f50n1E bg1 bn2 (.norm v123 v124)).2) (by kernel_rfl) an rfl
inductive f50n0O where
 | ret (v135 : List Qa)
def f50n0E (a1 : List Qa) (a2 : Qa) : f50n0O → Ex × Tr × Hp
 | .ret v135 => (.ret, mkS [(4, (.own 0))], [jR 4 Qa.cells v135])
def f50n0S (a1 : List Qa) (a2 : Qa) : Tr × Hp := (Qal [(jL 4 Qa.cells a1), (jA Qa.cells a2)] 0 .leaf, [])
noncomputable def f50n0 (a1 : List Qa) (a2 : Qa) : Option f50n0O :=
 (f50n1 a1 a2).bind fun o127 => match o127 with
 | .norm v129 v130 => bif v129 then
   some (.ret v130)
  else
   req (fit (v130.length + 1) 48) <|
   some (.ret (v130 ++ [a2]))
theorem f50n0_ok (a1 : List Qa) (a2 : Qa) {o : f50n0O} (h : (f50n0 a1 a2) = some o) : T Try.prog Try.f50.ntmps 0 c50 (f50n0S a1 a2) (fun r => r = f50n0E a1 a2 o) := by
 unfold f50n0 at h
 refine rN Qi 3 [j3, j3, j3] [] [] [0] [0, 3, 5, 6] (f50n1S a1 a2) an ?_
 obtain ⟨o127, h128, h⟩ := Qe h
 cases o127 with
 | norm v129 v130 =>
  refine T.oneN (by kernel_rfl) (f50n1_ok a1 a2 h128) (st2 := (f50n1E a1 a2 (.norm v129 v130)).2) rfl ?_
  rcases Qg h with ⟨h133, h⟩ | ⟨h133, h⟩
  ·obtain rfl := Qf h
   exact rE Qi [j3, j3] [some false] [] [1] [4] (.ret, (f50n0E a1 a2 (.ret v130)).2) (ap (Qk h133) an) rfl
  ·obtain ⟨h134, h⟩ := Qz h
   obtain rfl := Qf h
   exact rE Qi [j3, ([], [(3, .fits)], [(3, .row 3 ((v130 ++ [a2]).map Qa.cells))]), j3] [some true] [] [3] [4] (.ret, (f50n0E a1 a2 (.ret (v130 ++ [a2]))).2) (ap (Qr h133) (ap (Qaw (te := ti52) (xs := v130) (n := 1) (c := Qa.cells) h134 rfl) (ap (Qcg (xs := v130) (ys := [a2]) (c := Qa.cells)) an))) rfl
noncomputable def f50 (a1 : List Qa) (a2 : Qa) : Option (List Qa) := (f50n0 a1 a2).bind fun o => match o with
 | .ret v135 => some v135
theorem f50_ok (a1 : List Qa) (a2 : Qa) {r : List Qa} (h : (f50 a1 a2) = some r) : Qq Try.prog false 50 [(jL 4 Qa.cells a1), (jA Qa.cells a2)] [] (jL 4 Qa.cells r) [] := by
 unfold f50 at h
 obtain ⟨o, ho, h⟩ := Qe h
 cases o with
 | ret v135 =>
  obtain rfl := Qf h
  exact Qq.plain Qi (f := Try.f50) (c := c50) (by kernel_rfl) (by kernel_rfl) (by kernel_rfl) (by kernel_rfl) ((f50n0_ok a1 a2 ho).mono fun r e => by subst e; exact ⟨.inl rfl, (.own 0), (jL 4 Qa.cells v135), by kernel_rfl, by kernel_rfl, ((Wk.refl _) : Wk (jL 4 Qa.cells v135) (jL 4 Qa.cells v135))⟩)

noncomputable def c43 : Code := Try.f43.body.getD .skip
inductive f43n0O where
 | ret (v4 : Int)
def f43n0E (a1 : Int) : f43n0O → Ex × Tr × Hp
 | .ret v4 => (.ret, mkS [(2, (jI v4))], [])
def f43n0S (a1 : Int) : Tr × Hp := (Qal [(jI a1)] 0 .leaf, [])
noncomputable def f43n0 (a1 : Int) : Option f43n0O :=
 bif (decide (a1 < 0)) then
  some (.ret (wr64 (0 - a1)))
 else
  some (.ret a1)
theorem f43n0_ok (a1 : Int) {o : f43n0O} (h : (f43n0 a1) = some o) : T Try.prog Try.f43.ntmps 0 c43 (f43n0S a1) (fun r => r = f43n0E a1 o) := by
 unfold f43n0 at h
 rcases Qg h with ⟨h3, h⟩ | ⟨h3, h⟩
 ·obtain rfl := Qf h
  exact rK Qi 2 [j3, j3, j3] [some true] [] [] [2] .ret ((f43n0E a1 (.ret (wr64 (0 - a1)))).2) (ap h3 an) rfl
 ·obtain rfl := Qf h
  exact rE Qi [j3, j3, j3] [some false] [] [] [2] (.ret, (f43n0E a1 (.ret a1)).2) (ap h3 an) rfl
noncomputable def f43 (a1 : Int) : Option Int := (f43n0 a1).bind fun o => match o with
 | .ret v4 => some v4
theorem f43_ok (a1 : Int) {r : Int} (h : (f43 a1) = some r) : Qq Try.prog false 43 [(jI a1)] [] (jI r) [] := by
 unfold f43 at h
 obtain ⟨o, ho, h⟩ := Qe h
 cases o with
 | ret v4 =>
  obtain rfl := Qf h
  exact Qq.plain Qi (f := Try.f43) (c := c43) (by kernel_rfl) (by kernel_rfl) (by kernel_rfl) (by kernel_rfl) ((f43n0_ok a1 ho).mono fun r e => by subst e; exact ⟨.inl rfl, (jI v4), (jI v4), by kernel_rfl, by kernel_rfl, ((Wk.refl _) : Wk (jI v4) (jI v4))⟩)

noncomputable def c17 : Code := Try.f17.body.getD .skip
inductive f17n2O where
 | exit0 (v149 : Int) (v150 : List Qa)
 | ret
def f17n2E (bg1 : List Qa) (ba2 : Qd) : f17n2O → Ex × Tr × Hp
 | .exit0 v149 v150 => ((.exit 0), mkS [(12, (.bp 0 0)), (15, (.bp 1 0)), (16, (jI v149))], [some (.box [(jI 0), (.pl (.sl .nil 0 []))]), some (.box [(jI ba2.Day), (.own 2)]), jR 4 Qa.cells v150])
 | .ret => (.ret, mkS [(12, (.bp 0 0)), (13, (jI 52))], [some (.box [(jI 0), (.pl (.sl .nil 0 []))])])
def f17n2S (bg1 : List Qa) (ba2 : Qd) (v112 : Int) (v113 : Int) (v114 : List Qa) : Tr × Hp := (mkS [(12, (.bp 0 0)), (14, (jL 4 Qa.cells bg1)), (15, (.bp 1 0)), (16, (jI v112)), (17, (jI v113))], [some (.box [(jI 0), (.pl (.sl .nil 0 []))]), some (.box [(jI ba2.Day), (.own 2)]), jR 4 Qa.cells v114])
noncomputable def f17n2 : Nat → List Qa → Qd → Int → Int → List Qa → Option f17n2O
 | 0, _, _, _, _, _ => none
 | f + 1, bg1, ba2, v112, v113, v114 =>
  bif (decide (v113 < (bg1.length : Int))) then
   (at? bg1 v113).bind fun x133 =>
   (f43 x133.Quantity).bind fun x135 =>
   bif (decide (1048576 < x135)) then
    some .ret
   else
    (f43 x133.Basis).bind fun x138 =>
    bif (decide (1125899906842624 < x138)) then
     bif (decide (x133.Quantity = 0)) then
      bif (decide (x133.Basis = 0)) then
       (f17n2 f bg1 ba2 14 (wr64 (v113 + 1)) v114)
      else
       req (fit (v114.length + 1) 48) <|
       (f17n2 f bg1 ba2 14 (wr64 (v113 + 1)) (v114 ++ [x133]))
     else
      req (fit (v114.length + 1) 48) <|
      (f17n2 f bg1 ba2 14 (wr64 (v113 + 1)) (v114 ++ [x133]))
    else
     bif (decide (x133.Quantity = 0)) then
      bif (decide (x133.Basis = 0)) then
       (f17n2 f bg1 ba2 v112 (wr64 (v113 + 1)) v114)
      else
       req (fit (v114.length + 1) 48) <|
       (f17n2 f bg1 ba2 v112 (wr64 (v113 + 1)) (v114 ++ [x133]))
     else
      req (fit (v114.length + 1) 48) <|
      (f17n2 f bg1 ba2 v112 (wr64 (v113 + 1)) (v114 ++ [x133]))
  else
   some (.exit0 v112 v114)
theorem f17n2_ok : ∀ (f : Nat) (bg1 : List Qa) (ba2 : Qd) (v112 : Int) (v113 : Int) (v114 : List Qa) {o : f17n2O}, (f17n2 f bg1 ba2 v112 v113 v114) = some o → TL Try.prog Try.f17.ntmps 0 f (cL (cL (Qn 1 (cL (Qn 4 (Qn 3 c17)))))) (f17n2S bg1 ba2 v112 v113 v114) (fun r => r = f17n2E bg1 ba2 o)
 | 0, _, _, _, _, _, o, h => by rw [f17n2] at h; cases h
 | f + 1, bg1, ba2, v112, v113, v114, o, h => by
  rw [f17n2] at h
  refine TL.body (K := fun s => ∃ v112 : Int, ∃ v113 : Int, ∃ v114 : List Qa, s = (f17n2S bg1 ba2 v112 v113 v114) ∧ (f17n2 f bg1 ba2 v112 v113 v114) = some o) ?_ (by rintro _ ⟨v112, v113, v114, rfl, hk⟩; exact f17n2_ok f _ _ _ _ _ hk)
  rcases Qg h with ⟨h116, h⟩ | ⟨h116, h⟩
  ·obtain ⟨x133, h134, h⟩ := Qe h
   obtain ⟨x135, h136, h⟩ := Qe h
   rcases Qg h with ⟨h137, h⟩ | ⟨h137, h⟩
   ·obtain rfl := Qf h
    exact rK Qi 2 [([], [], [(2, .val (jI (bg1.length : Int)))]), ([], [(2, .idx (Int.toNat v113) (Qa.cells x133)), jH 5 (jI x135)], []), j3] [some true, some true] [] [0] [12, 13] .ret ((f17n2E bg1 ba2 .ret).2) (ap (Qo (xs := bg1) (c := Qa.cells)) (ap h116 (ap (Qh h134).1 (ap (Ql Qa.cells (Qh h134).2) (ap (f43_ok x133.Quantity h136) (ap h137 an)))))) (Qs.out rfl rfl)
   ·obtain ⟨x138, h139, h⟩ := Qe h
    rcases Qg h with ⟨h140, h⟩ | ⟨h140, h⟩
    ·rcases Qg h with ⟨h141, h⟩ | ⟨h141, h⟩
     ·rcases Qg h with ⟨h142, h⟩ | ⟨h142, h⟩
      ·exact rE Qi [([], [], [(2, .val (jI (bg1.length : Int)))]), ([], [(2, .idx (Int.toNat v113) (Qa.cells x133)), jH 5 (jI x135)], []), ([], [(2, .idx (Int.toNat v113) (Qa.cells x133)), jH 5 (jI x138)], []), j3, (jF [7, 8, 9, 10, 11, 12], [(2, .idx (Int.toNat v113) (Qa.cells x133)), (9, .idx (Int.toNat v113) (Qa.cells x133)), (13, .bool false)], []), j3] [some true, some false, some true, some false] [] [0, 1, 2] [12, 14, 15, 16, 17] (.norm, (f17n2S bg1 ba2 14 (wr64 (v113 + 1)) v114)) (ap (Qo (xs := bg1) (c := Qa.cells)) (ap h116 (ap (Qh h134).1 (ap (Ql Qa.cells (Qh h134).2) (ap (f43_ok x133.Quantity h136) (ap h137 (ap (Qh h134).1 (ap (Ql Qa.cells (Qh h134).2) (ap (f43_ok x133.Basis h139) (ap h140 (ap (Qh h134).1 (ap (Ql Qa.cells (Qh h134).2) (ap3 (Qk h141) (ap (Qh h134).1 (ap (Ql Qa.cells (Qh h134).2) (ap4 (Qk h141) (ap (Qk h142) an))))))))))))))))) (Qs.norm ⟨14, (wr64 (v113 + 1)), v114, rfl, h⟩)
      ·obtain ⟨h143, h⟩ := Qz h
       exact rE Qi [([], [], [(2, .val (jI (bg1.length : Int)))]), ([], [(2, .idx (Int.toNat v113) (Qa.cells x133)), jH 5 (jI x135)], []), ([], [(2, .idx (Int.toNat v113) (Qa.cells x133)), jH 5 (jI x138)], []), j3, (jF [7, 8, 9, 10, 11, 12], [(2, .idx (Int.toNat v113) (Qa.cells x133)), (9, .idx (Int.toNat v113) (Qa.cells x133)), (13, .bool false)], []), ([], [(4, .idx (Int.toNat v113) (Qa.cells x133)), (7, .fits)], [(7, .row 4 ((v114 ++ [x133]).map Qa.cells))]), j3] [some true, some false, some true, some true] [] [0, 1, 4] [12, 14, 15, 16, 17] (.norm, (f17n2S bg1 ba2 14 (wr64 (v113 + 1)) (v114 ++ [x133]))) (ap (Qo (xs := bg1) (c := Qa.cells)) (ap h116 (ap (Qh h134).1 (ap (Ql Qa.cells (Qh h134).2) (ap (f43_ok x133.Quantity h136) (ap h137 (ap (Qh h134).1 (ap (Ql Qa.cells (Qh h134).2) (ap (f43_ok x133.Basis h139) (ap h140 (ap (Qh h134).1 (ap (Ql Qa.cells (Qh h134).2) (ap3 (Qk h141) (ap (Qh h134).1 (ap (Ql Qa.cells (Qh h134).2) (ap4 (Qk h141) (ap (Qr h142) (ap (Qh h134).1 (ap (Ql Qa.cells (Qh h134).2) (ap (Qaw (te := ti52) (xs := v114) (n := 1) (c := Qa.cells) h143 rfl) (ap (Qcg (xs := v114) (ys := [x133]) (c := Qa.cells)) an))))))))))))))))))))) (Qs.norm ⟨14, (wr64 (v113 + 1)), (v114 ++ [x133]), rfl, h⟩)
     ·obtain ⟨h144, h⟩ := Qz h
      exact rE Qi [([], [], [(2, .val (jI (bg1.length : Int)))]), ([], [(2, .idx (Int.toNat v113) (Qa.cells x133)), jH 5 (jI x135)], []), ([], [(2, .idx (Int.toNat v113) (Qa.cells x133)), jH 5 (jI x138)], []), j3, (jT [7, 8, 9, 10, 11, 12], [(2, .idx (Int.toNat v113) (Qa.cells x133)), (13, .bool true)], []), ([], [(4, .idx (Int.toNat v113) (Qa.cells x133)), (7, .fits)], [(7, .row 4 ((v114 ++ [x133]).map Qa.cells))]), j3] [some true, some false, some true, none] [] [0, 1, 4] [12, 14, 15, 16, 17] (.norm, (f17n2S bg1 ba2 14 (wr64 (v113 + 1)) (v114 ++ [x133]))) (ap (Qo (xs := bg1) (c := Qa.cells)) (ap h116 (ap (Qh h134).1 (ap (Ql Qa.cells (Qh h134).2) (ap (f43_ok x133.Quantity h136) (ap h137 (ap (Qh h134).1 (ap (Ql Qa.cells (Qh h134).2) (ap (f43_ok x133.Basis h139) (ap h140 (ap (Qh h134).1 (ap (Ql Qa.cells (Qh h134).2) (ap3 (Qr h141) (ap4 (Qr h141) (ap (Qh h134).1 (ap (Ql Qa.cells (Qh h134).2) (ap (Qaw (te := ti52) (xs := v114) (n := 1) (c := Qa.cells) h144 rfl) (ap (Qcg (xs := v114) (ys := [x133]) (c := Qa.cells)) an)))))))))))))))))) (Qs.norm ⟨14, (wr64 (v113 + 1)), (v114 ++ [x133]), rfl, h⟩)
    ·rcases Qg h with ⟨h145, h⟩ | ⟨h145, h⟩
     ·rcases Qg h with ⟨h146, h⟩ | ⟨h146, h⟩
      ·exact rE Qi [([], [], [(2, .val (jI (bg1.length : Int)))]), ([], [(2, .idx (Int.toNat v113) (Qa.cells x133)), jH 5 (jI x135)], []), ([], [(2, .idx (Int.toNat v113) (Qa.cells x133)), jH 5 (jI x138)], []), (jF [7, 8, 9, 10, 11, 12], [(2, .idx (Int.toNat v113) (Qa.cells x133)), (9, .idx (Int.toNat v113) (Qa.cells x133)), (13, .bool false)], []), j3] [some true, some false, some false, some false] [] [0, 1, 2] [12, 14, 15, 16, 17] (.norm, (f17n2S bg1 ba2 v112 (wr64 (v113 + 1)) v114)) (ap (Qo (xs := bg1) (c := Qa.cells)) (ap h116 (ap (Qh h134).1 (ap (Ql Qa.cells (Qh h134).2) (ap (f43_ok x133.Quantity h136) (ap h137 (ap (Qh h134).1 (ap (Ql Qa.cells (Qh h134).2) (ap (f43_ok x133.Basis h139) (ap h140 (ap (Qh h134).1 (ap (Ql Qa.cells (Qh h134).2) (ap3 (Qk h145) (ap (Qh h134).1 (ap (Ql Qa.cells (Qh h134).2) (ap4 (Qk h145) (ap (Qk h146) an))))))))))))))))) (Qs.norm ⟨v112, (wr64 (v113 + 1)), v114, rfl, h⟩)
      ·obtain ⟨h147, h⟩ := Qz h
       exact rE Qi [([], [], [(2, .val (jI (bg1.length : Int)))]), ([], [(2, .idx (Int.toNat v113) (Qa.cells x133)), jH 5 (jI x135)], []), ([], [(2, .idx (Int.toNat v113) (Qa.cells x133)), jH 5 (jI x138)], []), (jF [7, 8, 9, 10, 11, 12], [(2, .idx (Int.toNat v113) (Qa.cells x133)), (9, .idx (Int.toNat v113) (Qa.cells x133)), (13, .bool false)], []), ([], [(4, .idx (Int.toNat v113) (Qa.cells x133)), (7, .fits)], [(7, .row 4 ((v114 ++ [x133]).map Qa.cells))]), j3] [some true, some false, some false, some true] [] [0, 1, 4] [12, 14, 15, 16, 17] (.norm, (f17n2S bg1 ba2 v112 (wr64 (v113 + 1)) (v114 ++ [x133]))) (ap (Qo (xs := bg1) (c := Qa.cells)) (ap h116 (ap (Qh h134).1 (ap (Ql Qa.cells (Qh h134).2) (ap (f43_ok x133.Quantity h136) (ap h137 (ap (Qh h134).1 (ap (Ql Qa.cells (Qh h134).2) (ap (f43_ok x133.Basis h139) (ap h140 (ap (Qh h134).1 (ap (Ql Qa.cells (Qh h134).2) (ap3 (Qk h145) (ap (Qh h134).1 (ap (Ql Qa.cells (Qh h134).2) (ap4 (Qk h145) (ap (Qr h146) (ap (Qh h134).1 (ap (Ql Qa.cells (Qh h134).2) (ap (Qaw (te := ti52) (xs := v114) (n := 1) (c := Qa.cells) h147 rfl) (ap (Qcg (xs := v114) (ys := [x133]) (c := Qa.cells)) an))))))))))))))))))))) (Qs.norm ⟨v112, (wr64 (v113 + 1)), (v114 ++ [x133]), rfl, h⟩)
     ·obtain ⟨h148, h⟩ := Qz h
      exact rE Qi [([], [], [(2, .val (jI (bg1.length : Int)))]), ([], [(2, .idx (Int.toNat v113) (Qa.cells x133)), jH 5 (jI x135)], []), ([], [(2, .idx (Int.toNat v113) (Qa.cells x133)), jH 5 (jI x138)], []), (jT [7, 8, 9, 10, 11, 12], [(2, .idx (Int.toNat v113) (Qa.cells x133)), (13, .bool true)], []), ([], [(4, .idx (Int.toNat v113) (Qa.cells x133)), (7, .fits)], [(7, .row 4 ((v114 ++ [x133]).map Qa.cells))]), j3] [some true, some false, some false, none] [] [0, 1, 4] [12, 14, 15, 16, 17] (.norm, (f17n2S bg1 ba2 v112 (wr64 (v113 + 1)) (v114 ++ [x133]))) (ap (Qo (xs := bg1) (c := Qa.cells)) (ap h116 (ap (Qh h134).1 (ap (Ql Qa.cells (Qh h134).2) (ap (f43_ok x133.Quantity h136) (ap h137 (ap (Qh h134).1 (ap (Ql Qa.cells (Qh h134).2) (ap (f43_ok x133.Basis h139) (ap h140 (ap (Qh h134).1 (ap (Ql Qa.cells (Qh h134).2) (ap3 (Qr h145) (ap4 (Qr h145) (ap (Qh h134).1 (ap (Ql Qa.cells (Qh h134).2) (ap (Qaw (te := ti52) (xs := v114) (n := 1) (c := Qa.cells) h148 rfl) (ap (Qcg (xs := v114) (ys := [x133]) (c := Qa.cells)) an)))))))))))))))))) (Qs.norm ⟨v112, (wr64 (v113 + 1)), (v114 ++ [x133]), rfl, h⟩)
  ·obtain rfl := Qf h
   exact rK Qi 1 [([], [], [(2, .val (jI (bg1.length : Int)))])] [some false] [] [0, 1, 2] [12, 15, 16] (.exit 0) ((f17n2E bg1 ba2 (.exit0 v112 v114)).2) (ap (Qo (xs := bg1) (c := Qa.cells)) (ap h116 an)) (Qs.out rfl rfl)
noncomputable def f17n2L (bg1 : List Qa) (ba2 : Qd) : List Qa → Int → Int → (List Qa) → Option f17n2O
 | [], v112, v113, v114 =>
  some (.exit0 v112 v114)
 | x0 :: rest, v112, v113, v114 =>
  (f43 x0.Quantity).bind fun x135 =>
  bif (decide (1048576 < x135)) then
   some .ret
  else
   (f43 x0.Basis).bind fun x138 =>
   bif (decide (1125899906842624 < x138)) then
    bif (decide (x0.Quantity = 0)) then
     bif (decide (x0.Basis = 0)) then
      (f17n2L bg1 ba2 rest 14 (v113 + 1) v114)
     else
      req (fit (v114.length + 1) 48) <|
      (f17n2L bg1 ba2 rest 14 (v113 + 1) (v114 ++ [x0]))
    else
     req (fit (v114.length + 1) 48) <|
     (f17n2L bg1 ba2 rest 14 (v113 + 1) (v114 ++ [x0]))
   else
    bif (decide (x0.Quantity = 0)) then
     bif (decide (x0.Basis = 0)) then
      (f17n2L bg1 ba2 rest v112 (v113 + 1) v114)
     else
      req (fit (v114.length + 1) 48) <|
      (f17n2L bg1 ba2 rest v112 (v113 + 1) (v114 ++ [x0]))
    else
     req (fit (v114.length + 1) 48) <|
     (f17n2L bg1 ba2 rest v112 (v113 + 1) (v114 ++ [x0]))
theorem f17n2L_eq (bg1 : List Qa) (ba2 : Qd) : ∀ (rest : List Qa) (f k : Nat) (v112 : Int) (v114 : List Qa), bg1.drop k = rest → bg1.length ≤ maxLen → rest.length < f → f17n2 f bg1 ba2 v112 (k : Int) v114 = f17n2L bg1 ba2 rest v112 (k : Int) v114
 | _, 0, _, _, _, _, _, hf => absurd hf (Nat.not_lt_zero _)
 | [], f + 1, k, v112, v114, hd, hm, hf => by
  have hk : ¬ ((k : Int) < (bg1.length : Int)) := by have := Qai hd; omega
  rw [f17n2, f17n2L]
  simp only [decide_eq_false hk, cond_false]
 | x0 :: rest, f + 1, k, v112, v114, hd, hm, hf => by
  obtain ⟨hx, hlt, hd'⟩ := Qab hd
  have hk : (k : Int) < (bg1.length : Int) := by omega
  have hw : wr64 ((k : Int) + 1) = (k : Int) + 1 := Qbe (by omega) (by unfold maxLen at hm; omega)
  have ih : ∀ (v112 : Int) (v114 : List Qa), f17n2 f bg1 ba2 v112 ((k : Int) + 1) v114 = f17n2L bg1 ba2 rest v112 ((k : Int) + 1) v114 := fun v112 v114 => f17n2L_eq bg1 ba2 rest f (k + 1) v112 v114 hd' hm (by simpa using hf)
  rw [f17n2, f17n2L]
  simp only [decide_eq_true hk, cond_true, Qah, hx, Option.bind_some, hw, ih]
theorem f17n2_run (bg1 : List Qa) (ba2 : Qd) (v112 : Int) (v114 : List Qa) (hm : bg1.length ≤ maxLen) : f17n2 FUEL bg1 ba2 v112 0 v114 = f17n2L bg1 ba2 bg1 v112 0 v114 := f17n2L_eq bg1 ba2 bg1 FUEL 0 v112 v114 List.drop_zero hm (Qat hm)
inductive f17n1O where
 | norm (v155 : Int) (v156 : List Qa)
 | ret
def f17n1E (bg1 : List Qa) (ba2 : Qd) : f17n1O → Ex × Tr × Hp
 | .norm v155 v156 => (.norm, mkS [(12, (.bp 0 0)), (15, (.bp 1 0)), (16, (jI v155))], [some (.box [(jI 0), (.pl (.sl .nil 0 []))]), some (.box [(jI ba2.Day), (.own 2)]), jR 4 Qa.cells v156])
 | .ret => (.ret, mkS [(12, (.bp 0 0)), (13, (jI 52))], [some (.box [(jI 0), (.pl (.sl .nil 0 []))])])
def f17n1S (bg1 : List Qa) (ba2 : Qd) : Tr × Hp := (mkS [(12, (.bp 0 0)), (14, (jL 4 Qa.cells bg1)), (15, (.bp 1 0)), (16, (jI 0))], [some (.box [(jI 0), (.pl (.sl .nil 0 []))]), some (.box [(jI ba2.Day), (.pl (.sl .nil 0 []))])])
noncomputable def f17n1 (bg1 : List Qa) (ba2 : Qd) : Option f17n1O :=
 (f17n2 FUEL bg1 ba2 0 0 []).bind fun o151 => match o151 with
 | .exit0 v153 v154 => some (.norm v153 v154)
 | .ret => some .ret
theorem f17n1_ok (bg1 : List Qa) (ba2 : Qd) {o : f17n1O} (h : (f17n1 bg1 ba2) = some o) : T Try.prog Try.f17.ntmps 0 (cL (Qn 4 (Qn 3 c17))) (f17n1S bg1 ba2) (fun r => r = f17n1E bg1 ba2 o) := by
 unfold f17n1 at h
 refine rN Qi 1 [j3] [] [.matC 1 1 4] [0, 1, 2] [12, 14, 15, 16, 17] (f17n2S bg1 ba2 0 0 []) an ?_
 obtain ⟨o151, h152, h⟩ := Qe h
 cases o151 with
 | exit0 v153 v154 =>
  obtain rfl := Qf h
  exact T.last' (T.bl (i := 0) (by kernel_rfl) (by kernel_rfl) (f17n2_ok FUEL bg1 ba2 0 0 [] h152)) (tds := []) (m := [0, 1, 2]) (keep := [12, 15, 16]) (st2 := (f17n1E bg1 ba2 (.norm v153 v154)).2) (by kernel_rfl) an rfl
 | ret =>
  obtain rfl := Qf h
  exact T.last' (T.bl (i := 0) (by kernel_rfl) (by kernel_rfl) (f17n2_ok FUEL bg1 ba2 0 0 [] h152)) (tds := []) (m := [0]) (keep := [12, 13]) (st2 := (f17n1E bg1 ba2 .ret).2) (by kernel_rfl) an rfl
inductive f17n4O where
 | norm (v166 : Bool)
def f17n4E (be1 : Int) (ba2 : Qd) (bg3 : List Qa) : f17n4O → Ex × Tr × Hp
 | .norm v166 => (.norm, mkS [(12, (.bp 0 0)), (15, (.bp 1 0)), (16, (jI be1)), (132, (jB v166))], [some (.box [(jI 0), (.pl (.sl .nil 0 []))]), some (.box [(jI ba2.Day), (.own 2)]), jR 4 Qa.cells bg3])
def f17n4S (be1 : Int) (ba2 : Qd) (bg3 : List Qa) : Tr × Hp := (mkS [(12, (.bp 0 0)), (15, (.bp 1 0)), (16, (jI be1))], [some (.box [(jI 0), (.pl (.sl .nil 0 []))]), some (.box [(jI ba2.Day), (.own 2)]), jR 4 Qa.cells bg3])
noncomputable def f17n4 (be1 : Int) (ba2 : Qd) (bg3 : List Qa) : Option f17n4O :=
 bif (decide (be1 = 0)) then
  some (.norm (decide (200 < (bg3.length : Int))))
 else
  some (.norm false)
theorem f17n4_ok (be1 : Int) (ba2 : Qd) (bg3 : List Qa) {o : f17n4O} (h : (f17n4 be1 ba2 bg3) = some o) : T Try.prog Try.f17.ntmps 0 (cL (Qn 0 (cL (Qn 0 (Qn 1 (Qn 4 (Qn 3 c17))))))) (f17n4S be1 ba2 bg3) (fun r => r = f17n4E be1 ba2 bg3 o) := by
 unfold f17n4 at h
 rcases Qg h with ⟨h165, h⟩ | ⟨h165, h⟩
 ·obtain rfl := Qf h
  exact rE Qi [(jT [3, 4, 5, 6], [(7, .bool true)], [(5, .val (jI (bg3.length : Int)))])] [] [] [0, 1, 2] [12, 15, 16, 132] (.norm, (f17n4E be1 ba2 bg3 (.norm (decide (200 < (bg3.length : Int))))).2) (ap3 h165 (ap (Qo (xs := bg3) (c := Qa.cells)) (ap2 h165 an))) rfl
 ·obtain rfl := Qf h
  exact rE Qi [(jF [3, 4, 5, 6], [(7, .bool false)], [])] [] [] [0, 1, 2] [12, 15, 16, 132] (.norm, (f17n4E be1 ba2 bg3 (.norm false)).2) (ap h165 (ap4 h165 an)) rfl
inductive f17n3O where
 | norm (v172 : Int)
def f17n3E (be1 : Int) (ba2 : Qd) (bg3 : List Qa) : f17n3O → Ex × Tr × Hp
 | .norm v172 => (.norm, mkS [(12, (.bp 0 0)), (15, (.bp 1 0)), (16, (jI v172))], [some (.box [(jI 0), (.pl (.sl .nil 0 []))]), some (.box [(jI ba2.Day), (.own 2)]), jR 4 Qa.cells bg3])
def f17n3S (be1 : Int) (ba2 : Qd) (bg3 : List Qa) : Tr × Hp := (mkS [(12, (.bp 0 0)), (15, (.bp 1 0)), (16, (jI be1))], [some (.box [(jI 0), (.pl (.sl .nil 0 []))]), some (.box [(jI ba2.Day), (.own 2)]), jR 4 Qa.cells bg3])
noncomputable def f17n3 (be1 : Int) (ba2 : Qd) (bg3 : List Qa) : Option f17n3O :=
 (f17n4 be1 ba2 bg3).bind fun o167 => match o167 with
 | .norm v169 => bif v169 then
   some (.norm 22)
  else
   some (.norm be1)
theorem f17n3_ok (be1 : Int) (ba2 : Qd) (bg3 : List Qa) {o : f17n3O} (h : (f17n3 be1 ba2 bg3) = some o) : T Try.prog Try.f17.ntmps 0 (cL (Qn 0 (Qn 1 (Qn 4 (Qn 3 c17))))) (f17n3S be1 ba2 bg3) (fun r => r = f17n3E be1 ba2 bg3 o) := by
 unfold f17n3 at h
 refine rN Qi 0 [] [] [] [0, 1, 2] [12, 15, 16] (f17n4S be1 ba2 bg3) an ?_
 obtain ⟨o167, h168, h⟩ := Qe h
 cases o167 with
 | norm v169 =>
  refine T.oneN (by kernel_rfl) (f17n4_ok be1 ba2 bg3 h168) (st2 := (f17n4E be1 ba2 bg3 (.norm v169)).2) rfl ?_
  rcases Qg h with ⟨h171, h⟩ | ⟨h171, h⟩
  ·obtain rfl := Qf h
   exact rE Qi [j3] [some true] [] [0, 1, 2] [12, 15, 16] (.norm, (f17n3E be1 ba2 bg3 (.norm 22)).2) (ap h171 an) rfl
  ·obtain rfl := Qf h
   exact rE Qi [] [some false] [] [0, 1, 2] [12, 15, 16] (.norm, (f17n3E be1 ba2 bg3 (.norm be1)).2) (ap h171 an) rfl
inductive f17n0O where
 | ret (v178 : Int) (v179 : Int) (v180 : List Qa)
def f17n0E (a1 : Qd) (a2 : ByteArray) (a3 : ByteArray) (a4 : ByteArray) (a5 : Int) (a6 : Int) : f17n0O → Ex × Tr × Hp
 | .ret v178 v179 v180 => (.ret, mkS [(12, (.bp 0 0)), (13, (jI v178))], [some (.box [(jI v179), (.own 1)]), jR 4 Qa.cells v180])
def f17n0S (a1 : Qd) (a2 : ByteArray) (a3 : ByteArray) (a4 : ByteArray) (a5 : Int) (a6 : Int) : Tr × Hp := (Qal [(jA Qd.cells a1), (jS a2), (jS a3), (jS a4), (jI a5), (jI a6)] 0 .leaf, [])
noncomputable def f17n0 (a1 : Qd) (a2 : ByteArray) (a3 : ByteArray) (a4 : ByteArray) (a5 : Int) (a6 : Int) : Option f17n0O :=
 (f34 a1).bind fun x10 =>
 bif (decide (x10 = 0)) then
  (f48 a2).bind fun x27 =>
  bif x27 then
   (f48 a3).bind fun x30 =>
   bif x30 then
    bif (seq a2 a3) then
     some (.ret 2 0 [])
    else
     (f49 a4).bind fun x34 =>
     bif x34 then
      bif (decide (a5 < 1)) then
       some (.ret 2 0 [])
      else
       bif (decide (1048576 < a5)) then
        some (.ret 2 0 [])
       else
        bif (decide (a6 < (-536870912))) then
         some (.ret 2 0 [])
        else
         bif (decide (536870912 < a6)) then
          some (.ret 2 0 [])
         else
          (f50 a1.Positions (Qa.mk a2 a4 a5 (wr64 (a5 * a6)))).bind fun x43 =>
          (f50 x43 (Qa.mk a3 a4 (wr64 (0 - a5)) (wr64 ((wr64 (0 - a5)) * a6)))).bind fun x47 =>
          (f17n1 x47 a1).bind fun o157 => match o157 with
          | .norm v159 v160 => (f17n3 v159 a1 v160).bind fun o173 => match o173 with
           | .norm v175 => bif (decide (v175 = 0)) then
             some (.ret 0 a1.Day v160)
            else
             some (.ret v175 0 [])
          | .ret => some (.ret 52 0 [])
     else
      some (.ret 2 0 [])
   else
    some (.ret 2 0 [])
  else
   some (.ret 2 0 [])
 else
  some (.ret 8 0 [])
theorem f17n0_ok (a1 : Qd) (a2 : ByteArray) (a3 : ByteArray) (a4 : ByteArray) (a5 : Int) (a6 : Int) {o : f17n0O} (h : (f17n0 a1 a2 a3 a4 a5 a6) = some o) : T Try.prog Try.f17.ntmps 0 c17 (f17n0S a1 a2 a3 a4 a5 a6) (fun r => r = f17n0E a1 a2 a3 a4 a5 a6 o) := by
 unfold f17n0 at h
 obtain ⟨x10, h11, h⟩ := Qe h
 rcases Qg h with ⟨h12, h⟩ | ⟨h12, h⟩
 ·obtain ⟨x27, h28, h⟩ := Qe h
  rcases Qg h with ⟨h29, h⟩ | ⟨h29, h⟩
  ·obtain ⟨x30, h31, h⟩ := Qe h
   rcases Qg h with ⟨h32, h⟩ | ⟨h32, h⟩
   ·rcases Qg h with ⟨h33, h⟩ | ⟨h33, h⟩
    ·obtain rfl := Qf h
     exact rK Qi 3 [j3, ([], [jH 1 (jI x10)], []), (jF [4, 5, 6, 9, 10, 11] ++ jT [14, 15, 16], [jH 1 (jB x27), jH 5 (jB x30), (7, .bool false), (12, .bool false), (17, .bool true)], []), j3] [some false, none] [.matC 1 1 4] [1, 2] [12, 13] .ret ((f17n0E a1 a2 a3 a4 a5 a6 (.ret 2 0 [])).2) (ap (Qcs a1 h11) (ap (Qk h12) (ap4 (Qk h29) (ap4 (Qk h32) (ap4 h33 (ap (Qcv a2 h28) (ap (Qcv a3 h31) an))))))) rfl
    ·obtain ⟨x34, h35, h⟩ := Qe h
     rcases Qg h with ⟨h36, h⟩ | ⟨h36, h⟩
     ·rcases Qg h with ⟨h37, h⟩ | ⟨h37, h⟩
      ·obtain rfl := Qf h
       exact rK Qi 3 [j3, ([], [jH 1 (jI x10)], []), (jF [4, 5, 6, 9, 10, 11, 14, 15, 16, 19, 20] ++ jT [23, 24], [jH 1 (jB x27), jH 5 (jB x30), (7, .bool false), (12, .bool false), jH 15 (jB x34), (17, .bool false), (21, .bool false), (25, .bool true)], []), j3] [some false, none] [.matC 1 1 4] [1, 2] [12, 13] .ret ((f17n0E a1 a2 a3 a4 a5 a6 (.ret 2 0 [])).2) (ap (Qcs a1 h11) (ap (Qk h12) (ap4 (Qk h29) (ap4 (Qk h32) (ap4 h33 (ap3 (Qk h36) (ap3 h37 (ap (Qcv a2 h28) (ap (Qcv a3 h31) (ap (f49_ok a4 h35) an)))))))))) rfl
      ·rcases Qg h with ⟨h38, h⟩ | ⟨h38, h⟩
       ·obtain rfl := Qf h
        exact rK Qi 3 [j3, ([], [jH 1 (jI x10)], []), (jF [4, 5, 6, 9, 10, 11, 14, 15, 16, 19, 20, 23, 24] ++ jT [27, 28], [jH 1 (jB x27), jH 5 (jB x30), (7, .bool false), (12, .bool false), jH 15 (jB x34), (17, .bool false), (21, .bool false), (25, .bool false), (29, .bool true)], []), j3] [some false, none] [.matC 1 1 4] [1, 2] [12, 13] .ret ((f17n0E a1 a2 a3 a4 a5 a6 (.ret 2 0 [])).2) (ap (Qcs a1 h11) (ap (Qk h12) (ap4 (Qk h29) (ap4 (Qk h32) (ap4 h33 (ap3 (Qk h36) (ap3 h37 (ap3 h38 (ap (Qcv a2 h28) (ap (Qcv a3 h31) (ap (f49_ok a4 h35) an))))))))))) rfl
       ·rcases Qg h with ⟨h39, h⟩ | ⟨h39, h⟩
        ·obtain rfl := Qf h
         exact rK Qi 3 [j3, ([], [jH 1 (jI x10)], []), (jF [4, 5, 6, 9, 10, 11, 14, 15, 16, 19, 20, 23, 24, 27, 28] ++ jT [31, 32], [jH 1 (jB x27), jH 5 (jB x30), (7, .bool false), (12, .bool false), jH 15 (jB x34), (17, .bool false), (21, .bool false), (25, .bool false), (29, .bool false), (33, .bool true)], []), j3] [some false, none] [.matC 1 1 4] [1, 2] [12, 13] .ret ((f17n0E a1 a2 a3 a4 a5 a6 (.ret 2 0 [])).2) (ap (Qcs a1 h11) (ap (Qk h12) (ap4 (Qk h29) (ap4 (Qk h32) (ap4 h33 (ap3 (Qk h36) (ap3 h37 (ap3 h38 (ap3 h39 (ap (Qcv a2 h28) (ap (Qcv a3 h31) (ap (f49_ok a4 h35) an)))))))))))) rfl
        ·rcases Qg h with ⟨h40, h⟩ | ⟨h40, h⟩
         ·obtain rfl := Qf h
          exact rK Qi 3 [j3, ([], [jH 1 (jI x10)], []), (jF [4, 5, 6, 9, 10, 11, 14, 15, 16, 19, 20, 23, 24, 27, 28, 31, 32], [jH 1 (jB x27), jH 5 (jB x30), (7, .bool false), (12, .bool false), jH 15 (jB x34), (17, .bool false), (21, .bool false), (25, .bool false), (29, .bool false), (33, .bool false)], []), j3] [some false, some true] [.matC 1 1 4] [1, 2] [12, 13] .ret ((f17n0E a1 a2 a3 a4 a5 a6 (.ret 2 0 [])).2) (ap (Qcs a1 h11) (ap (Qk h12) (ap4 (Qk h29) (ap4 (Qk h32) (ap4 h33 (ap3 (Qk h36) (ap3 h37 (ap3 h38 (ap3 h39 (ap (Qcv a2 h28) (ap (Qcv a3 h31) (ap (f49_ok a4 h35) (ap h40 an))))))))))))) rfl
         ·refine rN Qi 3 [j3, ([], [jH 1 (jI x10)], []), (jF [4, 5, 6, 9, 10, 11, 14, 15, 16, 19, 20, 23, 24, 27, 28, 31, 32], [jH 1 (jB x27), jH 5 (jB x30), (7, .bool false), (12, .bool false), jH 15 (jB x34), (17, .bool false), (21, .bool false), (25, .bool false), (29, .bool false), (33, .bool false)], [])] [some false, some false] [] [0, 1] [1, 2, 3, 4, 5, 6, 12] (mkS [(1, (jS a2)), (2, (jS a3)), (3, (jS a4)), (4, (jI a5)), (5, (jI a6)), (6, (.bp 0 0)), (12, (.bp 1 0))], [some (.box ((Qd.cells a1).map .pl)), some (.box [(jI 0), (.pl (.sl .nil 0 []))])]) (ap (Qcs a1 h11) (ap (Qk h12) (ap4 (Qk h29) (ap4 (Qk h32) (ap4 h33 (ap3 (Qk h36) (ap3 h37 (ap3 h38 (ap3 h39 (ap (Qcv a2 h28) (ap (Qcv a3 h31) (ap (f49_ok a4 h35) (ap h40 an))))))))))))) ?_
          obtain ⟨x43, h44, h⟩ := Qe h
          obtain ⟨x47, h48, h⟩ := Qe h
          refine rN Qi 4 [([], [jH 9 (jL 4 Qa.cells x43)], []), ([], [jH 10 (jL 4 Qa.cells x47)], []), j3, j3] [] [] [1, 2] [12, 14, 15, 16] (f17n1S x47 a1) (ap (f50_ok a1.Positions (Qa.mk a2 a4 a5 (wr64 (a5 * a6))) h44) (ap (f50_ok x43 (Qa.mk a3 a4 (wr64 (0 - a5)) (wr64 ((wr64 (0 - a5)) * a6))) h48) an)) ?_
          obtain ⟨o157, h158, h⟩ := Qe h
          cases o157 with
          | norm v159 v160 =>
           refine T.oneN (by kernel_rfl) (f17n1_ok x47 a1 h158) (st2 := (f17n1E x47 a1 (.norm v159 v160)).2) rfl ?_
           refine rN Qi 0 [] [] [] [0, 1, 2] [12, 15, 16] (f17n3S v159 a1 v160) an ?_
           obtain ⟨o173, h174, h⟩ := Qe h
           cases o173 with
           | norm v175 =>
            refine T.oneN (by kernel_rfl) (f17n3_ok v159 a1 v160 h174) (st2 := (f17n3E v159 a1 v160 (.norm v175)).2) rfl ?_
            rcases Qg h with ⟨h177, h⟩ | ⟨h177, h⟩
            ·obtain rfl := Qf h
             exact rE Qi [j3, j3] [some false] [] [0, 2] [12, 13] (.ret, (f17n0E a1 a2 a3 a4 a5 a6 (.ret 0 a1.Day v160)).2) (ap (Qk h177) an) rfl
            ·obtain rfl := Qf h
             exact rK Qi 1 [j3, j3] [some true] [.matC 0 1 4] [0, 3] [12, 13] .ret ((f17n0E a1 a2 a3 a4 a5 a6 (.ret v175 0 [])).2) (ap (Qr h177) an) rfl
          | ret =>
           obtain rfl := Qf h
           exact T.oneX' (by kernel_rfl) (f17n1_ok x47 a1 h158) (tds := [.matC 0 1 4]) (m := [0, 1]) (keep := [12, 13]) (st2 := (f17n0E a1 a2 a3 a4 a5 a6 (.ret 52 0 [])).2) (by kernel_rfl) an rfl rfl
     ·obtain rfl := Qf h
      exact rK Qi 3 [j3, ([], [jH 1 (jI x10)], []), (jF [4, 5, 6, 9, 10, 11, 14, 15, 16] ++ jT [19, 20], [jH 1 (jB x27), jH 5 (jB x30), (7, .bool false), (12, .bool false), jH 15 (jB x34), (17, .bool false), (21, .bool true)], []), j3] [some false, none] [.matC 1 1 4] [1, 2] [12, 13] .ret ((f17n0E a1 a2 a3 a4 a5 a6 (.ret 2 0 [])).2) (ap (Qcs a1 h11) (ap (Qk h12) (ap4 (Qk h29) (ap4 (Qk h32) (ap4 h33 (ap3 (Qr h36) (ap (Qcv a2 h28) (ap (Qcv a3 h31) (ap (f49_ok a4 h35) an))))))))) rfl
   ·obtain rfl := Qf h
    exact rK Qi 3 [j3, ([], [jH 1 (jI x10)], []), (jF [4, 5, 6] ++ jT [9, 10, 11], [jH 1 (jB x27), jH 5 (jB x30), (7, .bool false), (12, .bool true)], []), j3] [some false, none] [.matC 1 1 4] [1, 2] [12, 13] .ret ((f17n0E a1 a2 a3 a4 a5 a6 (.ret 2 0 [])).2) (ap (Qcs a1 h11) (ap (Qk h12) (ap4 (Qk h29) (ap4 (Qr h32) (ap (Qcv a2 h28) (ap (Qcv a3 h31) an)))))) rfl
  ·obtain rfl := Qf h
   exact rK Qi 3 [j3, ([], [jH 1 (jI x10)], []), (jT [4, 5, 6], [jH 1 (jB x27), (7, .bool true)], []), j3] [some false, none] [.matC 1 1 4] [1, 2] [12, 13] .ret ((f17n0E a1 a2 a3 a4 a5 a6 (.ret 2 0 [])).2) (ap (Qcs a1 h11) (ap (Qk h12) (ap4 (Qr h29) (ap (Qcv a2 h28) an)))) rfl
 ·obtain rfl := Qf h
  exact rK Qi 2 [j3, ([], [jH 1 (jI x10)], []), j3] [some true] [.matC 1 1 4] [1, 2] [12, 13] .ret ((f17n0E a1 a2 a3 a4 a5 a6 (.ret 8 0 [])).2) (ap (Qcs a1 h11) (ap (Qr h12) an)) rfl
noncomputable def f17 (a1 : Qd) (a2 : ByteArray) (a3 : ByteArray) (a4 : ByteArray) (a5 : Int) (a6 : Int) : Option (Qd × Int) := (f17n0 a1 a2 a3 a4 a5 a6).bind fun o => match o with
 | .ret v178 v179 v180 => some ((Qd.mk v179 v180), v178)
theorem f17_ok (a1 : Qd) (a2 : ByteArray) (a3 : ByteArray) (a4 : ByteArray) (a5 : Int) (a6 : Int) {r : Qd × Int} (h : (f17 a1 a2 a3 a4 a5 a6) = some r) : Qq Try.prog false 17 [(jA Qd.cells a1), (jS a2), (jS a3), (jS a4), (jI a5), (jI a6)] [] (.tup [(jA Qd.cells r.1), (jI r.2)]) [] := by
 unfold f17 at h
 obtain ⟨o, ho, h⟩ := Qe h
 cases o with
 | ret v178 v179 v180 =>
  obtain rfl := Qf h
  exact Qq.plain Qi (f := Try.f17) (c := c17) (by kernel_rfl) (by kernel_rfl) (by kernel_rfl) (by kernel_rfl) ((f17n0_ok a1 a2 a3 a4 a5 a6 ho).mono fun r e => by subst e; exact ⟨.inl rfl, (.tup [(.agg [(jI v179), (.own 1)]), (jI v178)]), (.tup [(.pl (.agg (Qd.cells (Qd.mk v179 v180)))), (jI v178)]), by kernel_rfl, by kernel_rfl, ((Wk.refl _) : Wk (.tup [(.pl (.agg (Qd.cells (Qd.mk v179 v180)))), (jI v178)]) (.tup [(.pl (.agg (Qd.cells (Qd.mk v179 v180)))), (jI v178)]))⟩)

noncomputable def c18 : Code := Try.f18.body.getD .skip
inductive f18n2O where
 | exit0
 | ret
def f18n2E (ba1 : Qd) (ba2 : Qd) : f18n2O → Ex × Tr × Hp
 | .exit0 => ((.exit 0), mkS [], [])
 | .ret => (.ret, mkS [(4, (jB false))], [])
def f18n2S (ba1 : Qd) (ba2 : Qd) (v32 : Int) : Tr × Hp := (mkS [(2, (.bp 0 0)), (3, (.bp 1 0)), (5, (jI v32))], [some (.box ((Qd.cells ba1).map .pl)), some (.box ((Qd.cells ba2).map .pl))])
noncomputable def f18n2 : Nat → Qd → Qd → Int → Option f18n2O
 | 0, _, _, _ => none
 | f + 1, ba1, ba2, v32 =>
  bif (decide (v32 < (ba1.Positions.length : Int))) then
   (at? ba1.Positions v32).bind fun x40 =>
   (at? ba2.Positions v32).bind fun x42 =>
   bif (Qa.eqb x40 x42) then
    (f18n2 f ba1 ba2 (wr64 (v32 + 1)))
   else
    some .ret
  else
   some .exit0
theorem f18n2_ok : ∀ (f : Nat) (ba1 : Qd) (ba2 : Qd) (v32 : Int) {o : f18n2O}, (f18n2 f ba1 ba2 v32) = some o → TL Try.prog Try.f18.ntmps 0 f (cL (cL (Qn 1 (cL (Qn 2 c18))))) (f18n2S ba1 ba2 v32) (fun r => r = f18n2E ba1 ba2 o)
 | 0, _, _, _, o, h => by rw [f18n2] at h; cases h
 | f + 1, ba1, ba2, v32, o, h => by
  rw [f18n2] at h
  refine TL.body (K := fun s => ∃ v32 : Int, s = (f18n2S ba1 ba2 v32) ∧ (f18n2 f ba1 ba2 v32) = some o) ?_ (by rintro _ ⟨v32, rfl, hk⟩; exact f18n2_ok f _ _ _ hk)
  rcases Qg h with ⟨h34, h⟩ | ⟨h34, h⟩
  ·obtain ⟨x40, h41, h⟩ := Qe h
   obtain ⟨x42, h43, h⟩ := Qe h
   rcases Qg h with ⟨h44, h⟩ | ⟨h44, h⟩
   ·exact rE Qi [([], [], [(3, .val (jI (ba1.Positions.length : Int)))]), ([], [(3, .idx (Int.toNat v32) (Qa.cells x40)), (8, .idx (Int.toNat v32) (Qa.cells x42)), (10, .bool (Qa.eqb x40 x42))], []), j3] [some true, some false] [] [0, 1] [2, 3, 5] (.norm, (f18n2S ba1 ba2 (wr64 (v32 + 1)))) (ap (Qo (xs := ba1.Positions) (c := Qa.cells)) (ap h34 (ap (Qh h41).1 (ap (Ql Qa.cells (Qh h41).2) (ap (Qh h43).1 (ap (Ql Qa.cells (Qh h43).2) (ap (Qa.eqb_ok x40 x42) (ap (Qk h44) an)))))))) (Qs.norm ⟨(wr64 (v32 + 1)), rfl, h⟩)
   ·obtain rfl := Qf h
    exact rK Qi 2 [([], [], [(3, .val (jI (ba1.Positions.length : Int)))]), ([], [(3, .idx (Int.toNat v32) (Qa.cells x40)), (8, .idx (Int.toNat v32) (Qa.cells x42)), (10, .bool (Qa.eqb x40 x42))], []), j3] [some true, some true] [] [] [4] .ret ((f18n2E ba1 ba2 .ret).2) (ap (Qo (xs := ba1.Positions) (c := Qa.cells)) (ap h34 (ap (Qh h41).1 (ap (Ql Qa.cells (Qh h41).2) (ap (Qh h43).1 (ap (Ql Qa.cells (Qh h43).2) (ap (Qa.eqb_ok x40 x42) (ap (Qr h44) an)))))))) (Qs.out rfl rfl)
  ·obtain rfl := Qf h
   exact rK Qi 1 [([], [], [(3, .val (jI (ba1.Positions.length : Int)))])] [some false] [] [] [] (.exit 0) ((f18n2E ba1 ba2 .exit0).2) (ap (Qo (xs := ba1.Positions) (c := Qa.cells)) (ap h34 an)) (Qs.out rfl rfl)
noncomputable def f18n2L (ba1 : Qd) (ba2 : Qd) : List Qa → Int → Option f18n2O
 | [], v32 =>
  some .exit0
 | x0 :: rest, v32 =>
  (at? ba2.Positions v32).bind fun x42 =>
  bif (Qa.eqb x0 x42) then
   (f18n2L ba1 ba2 rest (v32 + 1))
  else
   some .ret
theorem f18n2L_eq (ba1 : Qd) (ba2 : Qd) : ∀ (rest : List Qa) (f k : Nat), ba1.Positions.drop k = rest → ba1.Positions.length ≤ maxLen → rest.length < f → f18n2 f ba1 ba2 (k : Int) = f18n2L ba1 ba2 rest (k : Int)
 | _, 0, _, _, _, hf => absurd hf (Nat.not_lt_zero _)
 | [], f + 1, k, hd, hm, hf => by
  have hk : ¬ ((k : Int) < (ba1.Positions.length : Int)) := by have := Qai hd; omega
  rw [f18n2, f18n2L]
  simp only [decide_eq_false hk, cond_false]
 | x0 :: rest, f + 1, k, hd, hm, hf => by
  obtain ⟨hx, hlt, hd'⟩ := Qab hd
  have hk : (k : Int) < (ba1.Positions.length : Int) := by omega
  have hw : wr64 ((k : Int) + 1) = (k : Int) + 1 := Qbe (by omega) (by unfold maxLen at hm; omega)
  have ih : f18n2 f ba1 ba2 ((k : Int) + 1) = f18n2L ba1 ba2 rest ((k : Int) + 1) := f18n2L_eq ba1 ba2 rest f (k + 1) hd' hm (by simpa using hf)
  rw [f18n2, f18n2L]
  simp only [decide_eq_true hk, cond_true, Qah, hx, Option.bind_some, hw, ih]
theorem f18n2_run (ba1 : Qd) (ba2 : Qd) (hm : ba1.Positions.length ≤ maxLen) : f18n2 FUEL ba1 ba2 0 = f18n2L ba1 ba2 ba1.Positions 0 := f18n2L_eq ba1 ba2 ba1.Positions FUEL 0 List.drop_zero hm (Qat hm)
inductive f18n1O where
 | norm
 | ret
def f18n1E (ba1 : Qd) (ba2 : Qd) : f18n1O → Ex × Tr × Hp
 | .norm => (.norm, mkS [], [])
 | .ret => (.ret, mkS [(4, (jB false))], [])
def f18n1S (ba1 : Qd) (ba2 : Qd) : Tr × Hp := (mkS [(2, (.bp 0 0)), (3, (.bp 1 0))], [some (.box ((Qd.cells ba1).map .pl)), some (.box ((Qd.cells ba2).map .pl))])
noncomputable def f18n1 (ba1 : Qd) (ba2 : Qd) : Option f18n1O :=
 (f18n2 FUEL ba1 ba2 0).bind fun o45 => match o45 with
 | .exit0 => some .norm
 | .ret => some .ret
theorem f18n1_ok (ba1 : Qd) (ba2 : Qd) {o : f18n1O} (h : (f18n1 ba1 ba2) = some o) : T Try.prog Try.f18.ntmps 0 (cL (Qn 2 c18)) (f18n1S ba1 ba2) (fun r => r = f18n1E ba1 ba2 o) := by
 unfold f18n1 at h
 refine rN Qi 1 [j3] [] [] [0, 1] [2, 3, 5] (f18n2S ba1 ba2 0) an ?_
 obtain ⟨o45, h46, h⟩ := Qe h
 cases o45 with
 | exit0 =>
  obtain rfl := Qf h
  exact T.last' (T.bl (i := 0) (by kernel_rfl) (by kernel_rfl) (f18n2_ok FUEL ba1 ba2 0 h46)) (tds := []) (m := []) (keep := []) (st2 := (f18n1E ba1 ba2 .norm).2) (by kernel_rfl) an rfl
 | ret =>
  obtain rfl := Qf h
  exact T.last' (T.bl (i := 0) (by kernel_rfl) (by kernel_rfl) (f18n2_ok FUEL ba1 ba2 0 h46)) (tds := []) (m := []) (keep := [4]) (st2 := (f18n1E ba1 ba2 .ret).2) (by kernel_rfl) an rfl
inductive f18n0O where
 | ret (v49 : Bool)
def f18n0E (a1 : Qd) (a2 : Qd) : f18n0O → Ex × Tr × Hp
 | .ret v49 => (.ret, mkS [(4, (jB v49))], [])
def f18n0S (a1 : Qd) (a2 : Qd) : Tr × Hp := (Qal [(jA Qd.cells a1), (jA Qd.cells a2)] 0 .leaf, [])
noncomputable def f18n0 (a1 : Qd) (a2 : Qd) : Option f18n0O :=
 bif (decide (a1.Day = a2.Day)) then
  bif (decide ((a1.Positions.length : Int) = (a2.Positions.length : Int))) then
   (f18n1 a1 a2).bind fun o47 => match o47 with
   | .norm => some (.ret true)
   | .ret => some (.ret false)
  else
   some (.ret false)
 else
  some (.ret false)
theorem f18n0_ok (a1 : Qd) (a2 : Qd) {o : f18n0O} (h : (f18n0 a1 a2) = some o) : T Try.prog Try.f18.ntmps 0 c18 (f18n0S a1 a2) (fun r => r = f18n0E a1 a2 o) := by
 unfold f18n0 at h
 rcases Qg h with ⟨h5, h⟩ | ⟨h5, h⟩
 ·rcases Qg h with ⟨h6, h⟩ | ⟨h6, h⟩
  ·refine rN Qi 2 [j3, (jF [6, 7, 8, 9, 10, 11, 12], [(13, .bool false)], [(8, .val (jI (a1.Positions.length : Int))), (11, .val (jI (a2.Positions.length : Int)))])] [some false] [] [0, 1] [2, 3] (f18n1S a1 a2) (ap3 (Qk h5) (ap (Qo (xs := a1.Positions) (c := Qa.cells)) (ap3 (Qk h5) (ap (Qo (xs := a2.Positions) (c := Qa.cells)) (ap2 (Qk h5) (ap (Qk h6) an)))))) ?_
   obtain ⟨o47, h48, h⟩ := Qe h
   cases o47 with
   | norm =>
    refine T.oneN (by kernel_rfl) (f18n1_ok a1 a2 h48) (st2 := (f18n1E a1 a2 .norm).2) rfl ?_
    obtain rfl := Qf h
    exact rE Qi [j3] [] [] [] [4] (.ret, (f18n0E a1 a2 (.ret true)).2) an rfl
   | ret =>
    obtain rfl := Qf h
    exact T.oneX' (by kernel_rfl) (f18n1_ok a1 a2 h48) (tds := []) (m := []) (keep := [4]) (st2 := (f18n0E a1 a2 (.ret false)).2) (by kernel_rfl) an rfl rfl
  ·obtain rfl := Qf h
   exact rK Qi 2 [j3, (jF [6, 7, 8, 9, 10, 11, 12], [(13, .bool false)], [(8, .val (jI (a1.Positions.length : Int))), (11, .val (jI (a2.Positions.length : Int)))]), j3] [some true] [] [] [4] .ret ((f18n0E a1 a2 (.ret false)).2) (ap3 (Qk h5) (ap (Qo (xs := a1.Positions) (c := Qa.cells)) (ap3 (Qk h5) (ap (Qo (xs := a2.Positions) (c := Qa.cells)) (ap2 (Qk h5) (ap (Qr h6) an)))))) rfl
 ·obtain rfl := Qf h
  exact rK Qi 2 [j3, (jT [6, 7, 8, 9, 10, 11, 12], [(13, .bool true)], []), j3] [none] [] [] [4] .ret ((f18n0E a1 a2 (.ret false)).2) (ap4 (Qr h5) (ap4 (Qr h5) an)) rfl
noncomputable def f18 (a1 : Qd) (a2 : Qd) : Option Bool := (f18n0 a1 a2).bind fun o => match o with
 | .ret v49 => some v49
theorem f18_ok (a1 : Qd) (a2 : Qd) {r : Bool} (h : (f18 a1 a2) = some r) : Qq Try.prog false 18 [(jA Qd.cells a1), (jA Qd.cells a2)] [] (jB r) [] := by
 unfold f18 at h
 obtain ⟨o, ho, h⟩ := Qe h
 cases o with
 | ret v49 =>
  obtain rfl := Qf h
  exact Qq.plain Qi (f := Try.f18) (c := c18) (by kernel_rfl) (by kernel_rfl) (by kernel_rfl) (by kernel_rfl) ((f18n0_ok a1 a2 ho).mono fun r e => by subst e; exact ⟨.inl rfl, (jB v49), (jB v49), by kernel_rfl, by kernel_rfl, ((Wk.refl _) : Wk (jB v49) (jB v49))⟩)

noncomputable def c30 : Code := Try.f30.body.getD .skip
inductive f30r1n1O where
 | exit0 (v25 : List Qa)
def f30r1n1E (a1 : Int) : f30r1n1O → Ex × Tr × Hp
 | .exit0 v25 => ((.exit 0), mkS [], [jR 4 Qa.cells v25])
def f30r1n1S (a1 : Int) (v17 : Int) (v18 : List Qa) : Tr × Hp := (mkS [(1, (.bp 1 0)), (2, (jI v17))], [jR 4 Qa.cells v18, some (.box [(jI a1), (.own 0)])])
noncomputable def f30r1n1 : Nat → Int → Int → List Qa → Option f30r1n1O
 | 0, _, _, _ => none
 | f + 1, a1, v17, v18 =>
  bif (decide (v17 < (v18.length : Int))) then
   (at? v18 v17).bind fun x23 =>
   (f30r1n1 f a1 (wr64 (v17 + 1)) (v18.set (Int.toNat v17) (Qa.mk x23.Member x23.Product x23.Quantity (-77))))
  else
   some (.exit0 v18)
theorem f30r1n1_ok : ∀ (f : Nat) (a1 : Int) (v17 : Int) (v18 : List Qa) {o : f30r1n1O}, (f30r1n1 f a1 v17 v18) = some o → TL Try.prog Try.f30.ntmps 1 f (cL (cL (Qn 2 c30))) (f30r1n1S a1 v17 v18) (fun r => r = f30r1n1E a1 o)
 | 0, _, _, _, o, h => by rw [f30r1n1] at h; cases h
 | f + 1, a1, v17, v18, o, h => by
  rw [f30r1n1] at h
  refine TL.body (K := fun s => ∃ v17 : Int, ∃ v18 : List Qa, s = (f30r1n1S a1 v17 v18) ∧ (f30r1n1 f a1 v17 v18) = some o) ?_ (by rintro _ ⟨v17, v18, rfl, hk⟩; exact f30r1n1_ok f _ _ _ hk)
  rcases Qg h with ⟨h20, h⟩ | ⟨h20, h⟩
  ·obtain ⟨x23, h24, h⟩ := Qe h
   exact rE Qi [([], [], [(3, .val (jI (v18.length : Int)))]), ([], [(3, .at_ (Int.toNat v17)), (5, .idx 0 (Qa.cells x23))], [(5, .row 0 ((v18.set (Int.toNat v17) (Qa.mk x23.Member x23.Product x23.Quantity (-77))).map Qa.cells))]), j3] [some true] [] [1] [1, 2] (.norm, (f30r1n1S a1 (wr64 (v17 + 1)) (v18.set (Int.toNat v17) (Qa.mk x23.Member x23.Product x23.Quantity (-77))))) (ap (Qo (xs := v18) (c := Qa.cells)) (ap h20 (ap (Qh h24).1 (ap (Qay Qa.cells (Qh h24).2) (ap (Ql Qa.cells (Qh h24).2) (ap (set_cv (xs := v18) (c := Qa.cells) (k := (Int.toNat v17)) (x := (Qa.mk x23.Member x23.Product x23.Quantity (-77)))) an)))))) (Qs.norm ⟨(wr64 (v17 + 1)), (v18.set (Int.toNat v17) (Qa.mk x23.Member x23.Product x23.Quantity (-77))), rfl, h⟩)
  ·obtain rfl := Qf h
   exact rK Qi 1 [([], [], [(3, .val (jI (v18.length : Int)))])] [some false] [] [] [] (.exit 0) ((f30r1n1E a1 (.exit0 v18)).2) (ap (Qo (xs := v18) (c := Qa.cells)) (ap h20 an)) (Qs.out rfl rfl)
inductive f30r1n0O where
 | norm (v29 : List Qa)
def f30r1n0E (a1 : Int) (a2 : List Qa) : f30r1n0O → Ex × Tr × Hp
 | .norm v29 => (.norm, mkS [], [jR 4 Qa.cells v29])
def f30r1n0S (a1 : Int) (a2 : List Qa) : Tr × Hp := (Qal [(.agg [(jI a1), (.own 0)])] 0 .leaf, [jR 4 Qa.cells a2])
noncomputable def f30r1n0 (a1 : Int) (a2 : List Qa) : Option f30r1n0O :=
 (f30r1n1 FUEL a1 0 a2).bind fun o26 => match o26 with
 | .exit0 v28 => some (.norm v28)
theorem f30r1n0_ok (a1 : Int) (a2 : List Qa) {o : f30r1n0O} (h : (f30r1n0 a1 a2) = some o) : T Try.prog Try.f30.ntmps 1 c30 (f30r1n0S a1 a2) (fun r => r = f30r1n0E a1 a2 o) := by
 unfold f30r1n0 at h
 refine rN Qi 2 [j3, j3] [] [] [1] [1, 2] (f30r1n1S a1 0 a2) an ?_
 obtain ⟨o26, h27, h⟩ := Qe h
 cases o26 with
 | exit0 v28 =>
  obtain rfl := Qf h
  exact T.last' (T.bl (i := 0) (by kernel_rfl) (by kernel_rfl) (f30r1n1_ok FUEL a1 0 a2 h27)) (tds := []) (m := []) (keep := []) (st2 := (f30r1n0E a1 a2 (.norm v28)).2) (by kernel_rfl) an rfl
noncomputable def f30r1 (a1 : Int) (a2 : List Qa) : Option (List Qa) := (f30r1n0 a1 a2).bind fun o => match o with
 | .norm v29 => some v29
theorem f30r1_ok (a1 : Int) (a2 : List Qa) {r : List Qa} (h : (f30r1 a1 a2) = some r) : Qq Try.prog true 30 [(.agg [(jI a1), (.own 0)])] [jR 4 Qa.cells a2] (.tup []) [jR 4 Qa.cells r] := by
 unfold f30r1 at h
 obtain ⟨o, ho, h⟩ := Qe h
 cases o with
 | norm v29 =>
  obtain rfl := Qf h
  exact Qq.shared Qi (f := Try.f30) (c := c30) (by kernel_rfl) (by kernel_rfl) (by kernel_rfl) ((f30r1n0_ok a1 a2 ho).mono fun r e => by subst e; exact ⟨.inr rfl, by kernel_rfl, by kernel_rfl⟩)

noncomputable def c41 : Code := Try.f41.body.getD .skip
inductive f41n2O where
 | exit0
 | ret
def f41n2E (bh1 : List Qc) : f41n2O → Ex × Tr × Hp
 | .exit0 => ((.exit 0), mkS [], [])
 | .ret => (.ret, mkS [(2, (jB false))], [])
def f41n2S (bh1 : List Qc) (v49 : Int) : Tr × Hp := (mkS [(0, (jL 2 Qc.cells bh1)), (3, (jI v49))], [])
noncomputable def f41n2 : Nat → List Qc → Int → Option f41n2O
 | 0, _, _ => none
 | f + 1, bh1, v49 =>
  bif (decide (v49 < (bh1.length : Int))) then
   (at? bh1 v49).bind fun x65 =>
   (f49 x65.Product).bind fun x67 =>
   bif x67 then
    bif (decide (0 < v49)) then
     (at? bh1 (wr64 (v49 - 1))).bind fun x71 =>
     bif (slt x71.Product x65.Product) then
      bif (decide (x65.Price < (-536870912))) then
       some .ret
      else
       bif (decide (536870912 < x65.Price)) then
        some .ret
       else
        (f41n2 f bh1 (wr64 (v49 + 1)))
     else
      some .ret
    else
     bif (decide (x65.Price < (-536870912))) then
      some .ret
     else
      bif (decide (536870912 < x65.Price)) then
       some .ret
      else
       (f41n2 f bh1 (wr64 (v49 + 1)))
   else
    some .ret
  else
   some .exit0
theorem f41n2_ok : ∀ (f : Nat) (bh1 : List Qc) (v49 : Int) {o : f41n2O}, (f41n2 f bh1 v49) = some o → TL Try.prog Try.f41.ntmps 0 f (cL (cL (Qn 1 (cL (Qn 2 c41))))) (f41n2S bh1 v49) (fun r => r = f41n2E bh1 o)
 | 0, _, _, o, h => by rw [f41n2] at h; cases h
 | f + 1, bh1, v49, o, h => by
  rw [f41n2] at h
  refine TL.body (K := fun s => ∃ v49 : Int, s = (f41n2S bh1 v49) ∧ (f41n2 f bh1 v49) = some o) ?_ (by rintro _ ⟨v49, rfl, hk⟩; exact f41n2_ok f _ _ hk)
  rcases Qg h with ⟨h51, h⟩ | ⟨h51, h⟩
  ·obtain ⟨x65, h66, h⟩ := Qe h
   obtain ⟨x67, h68, h⟩ := Qe h
   rcases Qg h with ⟨h69, h⟩ | ⟨h69, h⟩
   ·rcases Qg h with ⟨h70, h⟩ | ⟨h70, h⟩
    ·obtain ⟨x71, h72, h⟩ := Qe h
     rcases Qg h with ⟨h73, h⟩ | ⟨h73, h⟩
     ·rcases Qg h with ⟨h74, h⟩ | ⟨h74, h⟩
      ·obtain rfl := Qf h
       exact rK Qi 2 [([], [], [(2, .val (jI (bh1.length : Int)))]), (jF [8, 9, 10, 23, 26, 27, 28, 29, 30, 31] ++ jT [11, 12, 13, 14, 15, 16, 17, 18, 19, 20, 21, 22, 34, 35, 36, 37, 38, 39], [(2, .idx (Int.toNat v49) (Qc.cells x65)), jH 5 (jB x67), (14, .idx (Int.toNat (wr64 (v49 - 1))) (Qc.cells x71)), (19, .idx (Int.toNat v49) (Qc.cells x65)), (23, .bool true), (24, .bool false), (28, .idx (Int.toNat v49) (Qc.cells x65)), (32, .bool false), (40, .bool true)], []), j3] [some true, none] [] [] [2] .ret ((f41n2E bh1 .ret).2) (ap (Qo (xs := bh1) (c := Qc.cells)) (ap h51 (ap (Qh h66).1 (ap (Ql Qc.cells (Qh h66).2) (ap3 (Qk h69) (ap4 h70 (ap (Qh h72).1 (ap (Ql Qc.cells (Qh h72).2) (ap h70 (ap4 h70 (ap (Qh h66).1 (ap (Ql Qc.cells (Qh h66).2) (ap3 h70 (ap (Qk h69) (ap h70 (ap (Qk h69) (ap3 (Qk h73) (ap (Qh h66).1 (ap (Ql Qc.cells (Qh h66).2) (ap4 (Qk h73) (ap3 h74 (ap4 h74 (ap (f49_ok x65.Product h68) an))))))))))))))))))))))) (Qs.out rfl rfl)
      ·rcases Qg h with ⟨h75, h⟩ | ⟨h75, h⟩
       ·obtain rfl := Qf h
        exact rK Qi 2 [([], [], [(2, .val (jI (bh1.length : Int)))]), (jF [8, 9, 10, 23, 26, 27, 28, 29, 30, 31, 34, 35, 36, 37, 38, 39] ++ jT [11, 12, 13, 14, 15, 16, 17, 18, 19, 20, 21, 22], [(2, .idx (Int.toNat v49) (Qc.cells x65)), jH 5 (jB x67), (14, .idx (Int.toNat (wr64 (v49 - 1))) (Qc.cells x71)), (19, .idx (Int.toNat v49) (Qc.cells x65)), (23, .bool true), (24, .bool false), (28, .idx (Int.toNat v49) (Qc.cells x65)), (32, .bool false), (36, .idx (Int.toNat v49) (Qc.cells x65)), (40, .bool false)], []), j3] [some true, some true] [] [] [2] .ret ((f41n2E bh1 .ret).2) (ap (Qo (xs := bh1) (c := Qc.cells)) (ap h51 (ap (Qh h66).1 (ap (Ql Qc.cells (Qh h66).2) (ap3 (Qk h69) (ap4 h70 (ap (Qh h72).1 (ap (Ql Qc.cells (Qh h72).2) (ap h70 (ap4 h70 (ap (Qh h66).1 (ap (Ql Qc.cells (Qh h66).2) (ap3 h70 (ap (Qk h69) (ap h70 (ap (Qk h69) (ap3 (Qk h73) (ap (Qh h66).1 (ap (Ql Qc.cells (Qh h66).2) (ap4 (Qk h73) (ap3 h74 (ap (Qh h66).1 (ap (Ql Qc.cells (Qh h66).2) (ap4 h74 (ap (f49_ok x65.Product h68) (ap h75 an)))))))))))))))))))))))))) (Qs.out rfl rfl)
       ·exact rE Qi [([], [], [(2, .val (jI (bh1.length : Int)))]), (jF [8, 9, 10, 23, 26, 27, 28, 29, 30, 31, 34, 35, 36, 37, 38, 39] ++ jT [11, 12, 13, 14, 15, 16, 17, 18, 19, 20, 21, 22], [(2, .idx (Int.toNat v49) (Qc.cells x65)), jH 5 (jB x67), (14, .idx (Int.toNat (wr64 (v49 - 1))) (Qc.cells x71)), (19, .idx (Int.toNat v49) (Qc.cells x65)), (23, .bool true), (24, .bool false), (28, .idx (Int.toNat v49) (Qc.cells x65)), (32, .bool false), (36, .idx (Int.toNat v49) (Qc.cells x65)), (40, .bool false)], []), j3] [some true, some false] [] [] [0, 3] (.norm, (f41n2S bh1 (wr64 (v49 + 1)))) (ap (Qo (xs := bh1) (c := Qc.cells)) (ap h51 (ap (Qh h66).1 (ap (Ql Qc.cells (Qh h66).2) (ap3 (Qk h69) (ap4 h70 (ap (Qh h72).1 (ap (Ql Qc.cells (Qh h72).2) (ap h70 (ap4 h70 (ap (Qh h66).1 (ap (Ql Qc.cells (Qh h66).2) (ap3 h70 (ap (Qk h69) (ap h70 (ap (Qk h69) (ap3 (Qk h73) (ap (Qh h66).1 (ap (Ql Qc.cells (Qh h66).2) (ap4 (Qk h73) (ap3 h74 (ap (Qh h66).1 (ap (Ql Qc.cells (Qh h66).2) (ap4 h74 (ap (f49_ok x65.Product h68) (ap h75 an)))))))))))))))))))))))))) (Qs.norm ⟨(wr64 (v49 + 1)), rfl, h⟩)
     ·obtain rfl := Qf h
      exact rK Qi 2 [([], [], [(2, .val (jI (bh1.length : Int)))]), (jF [8, 9, 10, 23] ++ jT [11, 12, 13, 14, 15, 16, 17, 18, 19, 20, 21, 22, 26, 27, 28, 29, 30, 31], [(2, .idx (Int.toNat v49) (Qc.cells x65)), jH 5 (jB x67), (14, .idx (Int.toNat (wr64 (v49 - 1))) (Qc.cells x71)), (19, .idx (Int.toNat v49) (Qc.cells x65)), (23, .bool true), (24, .bool false), (32, .bool true)], []), j3] [some true, none] [] [] [2] .ret ((f41n2E bh1 .ret).2) (ap (Qo (xs := bh1) (c := Qc.cells)) (ap h51 (ap (Qh h66).1 (ap (Ql Qc.cells (Qh h66).2) (ap3 (Qk h69) (ap4 h70 (ap (Qh h72).1 (ap (Ql Qc.cells (Qh h72).2) (ap h70 (ap4 h70 (ap (Qh h66).1 (ap (Ql Qc.cells (Qh h66).2) (ap3 h70 (ap (Qk h69) (ap h70 (ap (Qk h69) (ap3 (Qr h73) (ap4 (Qr h73) (ap (f49_ok x65.Product h68) an))))))))))))))))))) (Qs.out rfl rfl)
    ·rcases Qg h with ⟨h76, h⟩ | ⟨h76, h⟩
     ·obtain rfl := Qf h
      exact rK Qi 2 [([], [], [(2, .val (jI (bh1.length : Int)))]), (jF [8, 9, 10, 11, 12, 13, 14, 15, 16, 17, 18, 19, 20, 21, 22, 23] ++ jT [34, 35, 36, 37, 38, 39], [(2, .idx (Int.toNat v49) (Qc.cells x65)), jH 5 (jB x67), (23, .bool false), (24, .bool false), (28, .idx (Int.toNat v49) (Qc.cells x65)), (40, .bool true)], []), j3] [some true, none] [] [] [2] .ret ((f41n2E bh1 .ret).2) (ap (Qo (xs := bh1) (c := Qc.cells)) (ap h51 (ap (Qh h66).1 (ap (Ql Qc.cells (Qh h66).2) (ap3 (Qk h69) (ap4 h70 (ap4 h70 (ap4 h70 (ap (Qk h69) (ap h70 (ap (Qk h69) (ap (Qh h66).1 (ap (Ql Qc.cells (Qh h66).2) (ap3 h76 (ap4 h76 (ap (f49_ok x65.Product h68) an)))))))))))))))) (Qs.out rfl rfl)
     ·rcases Qg h with ⟨h77, h⟩ | ⟨h77, h⟩
      ·obtain rfl := Qf h
       exact rK Qi 2 [([], [], [(2, .val (jI (bh1.length : Int)))]), (jF [8, 9, 10, 11, 12, 13, 14, 15, 16, 17, 18, 19, 20, 21, 22, 23, 34, 35, 36, 37, 38, 39], [(2, .idx (Int.toNat v49) (Qc.cells x65)), jH 5 (jB x67), (23, .bool false), (24, .bool false), (28, .idx (Int.toNat v49) (Qc.cells x65)), (36, .idx (Int.toNat v49) (Qc.cells x65)), (40, .bool false)], []), j3] [some true, some true] [] [] [2] .ret ((f41n2E bh1 .ret).2) (ap (Qo (xs := bh1) (c := Qc.cells)) (ap h51 (ap (Qh h66).1 (ap (Ql Qc.cells (Qh h66).2) (ap3 (Qk h69) (ap4 h70 (ap4 h70 (ap4 h70 (ap (Qk h69) (ap h70 (ap (Qk h69) (ap (Qh h66).1 (ap (Ql Qc.cells (Qh h66).2) (ap3 h76 (ap (Qh h66).1 (ap (Ql Qc.cells (Qh h66).2) (ap4 h76 (ap (f49_ok x65.Product h68) (ap h77 an))))))))))))))))))) (Qs.out rfl rfl)
      ·exact rE Qi [([], [], [(2, .val (jI (bh1.length : Int)))]), (jF [8, 9, 10, 11, 12, 13, 14, 15, 16, 17, 18, 19, 20, 21, 22, 23, 34, 35, 36, 37, 38, 39], [(2, .idx (Int.toNat v49) (Qc.cells x65)), jH 5 (jB x67), (23, .bool false), (24, .bool false), (28, .idx (Int.toNat v49) (Qc.cells x65)), (36, .idx (Int.toNat v49) (Qc.cells x65)), (40, .bool false)], []), j3] [some true, some false] [] [] [0, 3] (.norm, (f41n2S bh1 (wr64 (v49 + 1)))) (ap (Qo (xs := bh1) (c := Qc.cells)) (ap h51 (ap (Qh h66).1 (ap (Ql Qc.cells (Qh h66).2) (ap3 (Qk h69) (ap4 h70 (ap4 h70 (ap4 h70 (ap (Qk h69) (ap h70 (ap (Qk h69) (ap (Qh h66).1 (ap (Ql Qc.cells (Qh h66).2) (ap3 h76 (ap (Qh h66).1 (ap (Ql Qc.cells (Qh h66).2) (ap4 h76 (ap (f49_ok x65.Product h68) (ap h77 an))))))))))))))))))) (Qs.norm ⟨(wr64 (v49 + 1)), rfl, h⟩)
   ·obtain rfl := Qf h
    exact rK Qi 2 [([], [], [(2, .val (jI (bh1.length : Int)))]), (jT [8, 9, 10, 23], [(2, .idx (Int.toNat v49) (Qc.cells x65)), jH 5 (jB x67), (24, .bool true)], []), j3] [some true, none] [] [] [2] .ret ((f41n2E bh1 .ret).2) (ap (Qo (xs := bh1) (c := Qc.cells)) (ap h51 (ap (Qh h66).1 (ap (Ql Qc.cells (Qh h66).2) (ap (Qr h69) (ap4 (Qr h69) (ap (f49_ok x65.Product h68) an))))))) (Qs.out rfl rfl)
  ·obtain rfl := Qf h
   exact rK Qi 1 [([], [], [(2, .val (jI (bh1.length : Int)))])] [some false] [] [] [] (.exit 0) ((f41n2E bh1 .exit0).2) (ap (Qo (xs := bh1) (c := Qc.cells)) (ap h51 an)) (Qs.out rfl rfl)
noncomputable def f41n2L (bh1 : List Qc) : List Qc → Int → Option f41n2O
 | [], v49 =>
  some .exit0
 | x0 :: rest, v49 =>
  (f49 x0.Product).bind fun x67 =>
  bif x67 then
   bif (decide (0 < v49)) then
    (at? bh1 (wr64 (v49 - 1))).bind fun x71 =>
    bif (slt x71.Product x0.Product) then
     bif (decide (x0.Price < (-536870912))) then
      some .ret
     else
      bif (decide (536870912 < x0.Price)) then
       some .ret
      else
       (f41n2L bh1 rest (v49 + 1))
    else
     some .ret
   else
    bif (decide (x0.Price < (-536870912))) then
     some .ret
    else
     bif (decide (536870912 < x0.Price)) then
      some .ret
     else
      (f41n2L bh1 rest (v49 + 1))
  else
   some .ret
theorem f41n2L_eq (bh1 : List Qc) : ∀ (rest : List Qc) (f k : Nat), bh1.drop k = rest → bh1.length ≤ maxLen → rest.length < f → f41n2 f bh1 (k : Int) = f41n2L bh1 rest (k : Int)
 | _, 0, _, _, _, hf => absurd hf (Nat.not_lt_zero _)
 | [], f + 1, k, hd, hm, hf => by
  have hk : ¬ ((k : Int) < (bh1.length : Int)) := by have := Qai hd; omega
  rw [f41n2, f41n2L]
  simp only [decide_eq_false hk, cond_false]
 | x0 :: rest, f + 1, k, hd, hm, hf => by
  obtain ⟨hx, hlt, hd'⟩ := Qab hd
  have hk : (k : Int) < (bh1.length : Int) := by omega
  have hw : wr64 ((k : Int) + 1) = (k : Int) + 1 := Qbe (by omega) (by unfold maxLen at hm; omega)
  have ih : f41n2 f bh1 ((k : Int) + 1) = f41n2L bh1 rest ((k : Int) + 1) := f41n2L_eq bh1 rest f (k + 1) hd' hm (by simpa using hf)
  rw [f41n2, f41n2L]
  simp only [decide_eq_true hk, cond_true, Qah, hx, Option.bind_some, hw, ih]
theorem f41n2_run (bh1 : List Qc) (hm : bh1.length ≤ maxLen) : f41n2 FUEL bh1 0 = f41n2L bh1 bh1 0 := f41n2L_eq bh1 bh1 FUEL 0 List.drop_zero hm (Qat hm)
inductive f41n1O where
 | norm
 | ret
def f41n1E (bh1 : List Qc) : f41n1O → Ex × Tr × Hp
 | .norm => (.norm, mkS [], [])
 | .ret => (.ret, mkS [(2, (jB false))], [])
def f41n1S (bh1 : List Qc) : Tr × Hp := (mkS [(0, (jL 2 Qc.cells bh1))], [])
noncomputable def f41n1 (bh1 : List Qc) : Option f41n1O :=
 (f41n2 FUEL bh1 0).bind fun o78 => match o78 with
 | .exit0 => some .norm
 | .ret => some .ret
theorem f41n1_ok (bh1 : List Qc) {o : f41n1O} (h : (f41n1 bh1) = some o) : T Try.prog Try.f41.ntmps 0 (cL (Qn 2 c41)) (f41n1S bh1) (fun r => r = f41n1E bh1 o) := by
 unfold f41n1 at h
 refine rN Qi 1 [j3] [] [] [] [0, 3] (f41n2S bh1 0) an ?_
 obtain ⟨o78, h79, h⟩ := Qe h
 cases o78 with
 | exit0 =>
  obtain rfl := Qf h
  exact T.last' (T.bl (i := 0) (by kernel_rfl) (by kernel_rfl) (f41n2_ok FUEL bh1 0 h79)) (tds := []) (m := []) (keep := []) (st2 := (f41n1E bh1 .norm).2) (by kernel_rfl) an rfl
 | ret =>
  obtain rfl := Qf h
  exact T.last' (T.bl (i := 0) (by kernel_rfl) (by kernel_rfl) (f41n2_ok FUEL bh1 0 h79)) (tds := []) (m := []) (keep := [2]) (st2 := (f41n1E bh1 .ret).2) (by kernel_rfl) an rfl
inductive f41n0O where
 | ret (v82 : Bool)
def f41n0E (a1 : List Qc) : f41n0O → Ex × Tr × Hp
 | .ret v82 => (.ret, mkS [(2, (jB v82))], [])
def f41n0S (a1 : List Qc) : Tr × Hp := (Qal [(jL 2 Qc.cells a1)] 0 .leaf, [])
noncomputable def f41n0 (a1 : List Qc) : Option f41n0O :=
 bif (decide (200 < (a1.length : Int))) then
  some (.ret false)
 else
  (f41n1 a1).bind fun o80 => match o80 with
  | .norm => some (.ret true)
  | .ret => some (.ret false)
theorem f41n0_ok (a1 : List Qc) {o : f41n0O} (h : (f41n0 a1) = some o) : T Try.prog Try.f41.ntmps 0 c41 (f41n0S a1) (fun r => r = f41n0E a1 o) := by
 unfold f41n0 at h
 rcases Qg h with ⟨h3, h⟩ | ⟨h3, h⟩
 ·obtain rfl := Qf h
  exact rK Qi 2 [j3, ([], [], [(1, .val (jI (a1.length : Int)))]), j3] [some true] [] [] [2] .ret ((f41n0E a1 (.ret false)).2) (ap (Qo (xs := a1) (c := Qc.cells)) (ap h3 an)) rfl
 ·refine rN Qi 2 [j3, ([], [], [(1, .val (jI (a1.length : Int)))])] [some false] [] [] [0] (f41n1S a1) (ap (Qo (xs := a1) (c := Qc.cells)) (ap h3 an)) ?_
  obtain ⟨o80, h81, h⟩ := Qe h
  cases o80 with
  | norm =>
   refine T.oneN (by kernel_rfl) (f41n1_ok a1 h81) (st2 := (f41n1E a1 .norm).2) rfl ?_
   obtain rfl := Qf h
   exact rE Qi [j3] [] [] [] [2] (.ret, (f41n0E a1 (.ret true)).2) an rfl
  | ret =>
   obtain rfl := Qf h
   exact T.oneX' (by kernel_rfl) (f41n1_ok a1 h81) (tds := []) (m := []) (keep := [2]) (st2 := (f41n0E a1 (.ret false)).2) (by kernel_rfl) an rfl rfl
noncomputable def f41 (a1 : List Qc) : Option Bool := (f41n0 a1).bind fun o => match o with
 | .ret v82 => some v82
theorem f41_ok (a1 : List Qc) {r : Bool} (h : (f41 a1) = some r) : Qq Try.prog false 41 [(jL 2 Qc.cells a1)] [] (jB r) [] := by
 unfold f41 at h
 obtain ⟨o, ho, h⟩ := Qe h
 cases o with
 | ret v82 =>
  obtain rfl := Qf h
  exact Qq.plain Qi (f := Try.f41) (c := c41) (by kernel_rfl) (by kernel_rfl) (by kernel_rfl) (by kernel_rfl) ((f41n0_ok a1 ho).mono fun r e => by subst e; exact ⟨.inl rfl, (jB v82), (jB v82), by kernel_rfl, by kernel_rfl, ((Wk.refl _) : Wk (jB v82) (jB v82))⟩)
end Go.Proofs.Ytelblamgfbkhbaa
namespace Go.Proofs.Ytelblamgfbkhbaa
set_option linter.unusedVariables false
set_option linter.unusedSimpArgs false
set_option maxRecDepth 100000
open Go.RowKit
noncomputable def c42 : Code := Try.f42.body.getD .skip
inductive f42n2O where
 | exit0
 | ret (v29 : Int)
def f42n2E (bh1 : List Qc) (bn2 : Qa) : f42n2O → Ex × Tr × Hp
 | .exit0 => ((.exit 0), mkS [(2, (.bp 0 0))], [some (.box ((Qa.cells bn2).map .pl))])
 | .ret v29 => (.ret, mkS [(4, (jI v29)), (5, (jB true))], [])
def f42n2S (bh1 : List Qc) (bn2 : Qa) (v20 : Int) : Tr × Hp := (mkS [(1, (jL 2 Qc.cells bh1)), (2, (.bp 0 0)), (6, (jI v20))], [some (.box ((Qa.cells bn2).map .pl))])
noncomputable def f42n2 : Nat → List Qc → Qa → Int → Option f42n2O
 | 0, _, _, _ => none
 | f + 1, bh1, bn2, v20 =>
  bif (decide (v20 < (bh1.length : Int))) then
   (at? bh1 v20).bind fun x26 =>
   bif (seq x26.Product bn2.Product) then
    some (.ret (wr64 (bn2.Quantity * x26.Price)))
   else
    (f42n2 f bh1 bn2 (wr64 (v20 + 1)))
  else
   some .exit0
theorem f42n2_ok : ∀ (f : Nat) (bh1 : List Qc) (bn2 : Qa) (v20 : Int) {o : f42n2O}, (f42n2 f bh1 bn2 v20) = some o → TL Try.prog Try.f42.ntmps 0 f (cL (cL (Qn 1 (cL (Qn 1 c42))))) (f42n2S bh1 bn2 v20) (fun r => r = f42n2E bh1 bn2 o)
 | 0, _, _, _, o, h => by rw [f42n2] at h; cases h
 | f + 1, bh1, bn2, v20, o, h => by
  rw [f42n2] at h
  refine TL.body (K := fun s => ∃ v20 : Int, s = (f42n2S bh1 bn2 v20) ∧ (f42n2 f bh1 bn2 v20) = some o) ?_ (by rintro _ ⟨v20, rfl, hk⟩; exact f42n2_ok f _ _ _ hk)
  rcases Qg h with ⟨h22, h⟩ | ⟨h22, h⟩
  ·obtain ⟨x26, h27, h⟩ := Qe h
   rcases Qg h with ⟨h28, h⟩ | ⟨h28, h⟩
   ·obtain rfl := Qf h
    exact rK Qi 2 [([], [], [(2, .val (jI (bh1.length : Int)))]), ([], [(2, .idx (Int.toNat v20) (Qc.cells x26))], []), ([], [(4, .idx (Int.toNat v20) (Qc.cells x26))], [])] [some true, some true] [] [] [4, 5] .ret ((f42n2E bh1 bn2 (.ret (wr64 (bn2.Quantity * x26.Price)))).2) (ap (Qo (xs := bh1) (c := Qc.cells)) (ap h22 (ap (Qh h27).1 (ap (Ql Qc.cells (Qh h27).2) (ap h28 (ap (Qh h27).1 (ap (Ql Qc.cells (Qh h27).2) an))))))) (Qs.out rfl rfl)
   ·exact rE Qi [([], [], [(2, .val (jI (bh1.length : Int)))]), ([], [(2, .idx (Int.toNat v20) (Qc.cells x26))], []), j3] [some true, some false] [] [0] [1, 2, 6] (.norm, (f42n2S bh1 bn2 (wr64 (v20 + 1)))) (ap (Qo (xs := bh1) (c := Qc.cells)) (ap h22 (ap (Qh h27).1 (ap (Ql Qc.cells (Qh h27).2) (ap h28 an))))) (Qs.norm ⟨(wr64 (v20 + 1)), rfl, h⟩)
  ·obtain rfl := Qf h
   exact rK Qi 1 [([], [], [(2, .val (jI (bh1.length : Int)))])] [some false] [] [0] [2] (.exit 0) ((f42n2E bh1 bn2 .exit0).2) (ap (Qo (xs := bh1) (c := Qc.cells)) (ap h22 an)) (Qs.out rfl rfl)
noncomputable def f42n2L (bh1 : List Qc) (bn2 : Qa) : List Qc → Int → Option f42n2O
 | [], v20 =>
  some .exit0
 | x0 :: rest, v20 =>
  bif (seq x0.Product bn2.Product) then
   some (.ret (wr64 (bn2.Quantity * x0.Price)))
  else
   (f42n2L bh1 bn2 rest (v20 + 1))
theorem f42n2L_eq (bh1 : List Qc) (bn2 : Qa) : ∀ (rest : List Qc) (f k : Nat), bh1.drop k = rest → bh1.length ≤ maxLen → rest.length < f → f42n2 f bh1 bn2 (k : Int) = f42n2L bh1 bn2 rest (k : Int)
 | _, 0, _, _, _, hf => absurd hf (Nat.not_lt_zero _)
 | [], f + 1, k, hd, hm, hf => by
  have hk : ¬ ((k : Int) < (bh1.length : Int)) := by have := Qai hd; omega
  rw [f42n2, f42n2L]
  simp only [decide_eq_false hk, cond_false]
 | x0 :: rest, f + 1, k, hd, hm, hf => by
  obtain ⟨hx, hlt, hd'⟩ := Qab hd
  have hk : (k : Int) < (bh1.length : Int) := by omega
  have hw : wr64 ((k : Int) + 1) = (k : Int) + 1 := Qbe (by omega) (by unfold maxLen at hm; omega)
  have ih : f42n2 f bh1 bn2 ((k : Int) + 1) = f42n2L bh1 bn2 rest ((k : Int) + 1) := f42n2L_eq bh1 bn2 rest f (k + 1) hd' hm (by simpa using hf)
  rw [f42n2, f42n2L]
  simp only [decide_eq_true hk, cond_true, Qah, hx, Option.bind_some, hw, ih]
theorem f42n2_run (bh1 : List Qc) (bn2 : Qa) (hm : bh1.length ≤ maxLen) : f42n2 FUEL bh1 bn2 0 = f42n2L bh1 bn2 bh1 0 := f42n2L_eq bh1 bn2 bh1 FUEL 0 List.drop_zero hm (Qat hm)
inductive f42n1O where
 | norm
 | ret (v33 : Int)
def f42n1E (bh1 : List Qc) (bn2 : Qa) : f42n1O → Ex × Tr × Hp
 | .norm => (.norm, mkS [(2, (.bp 0 0))], [some (.box ((Qa.cells bn2).map .pl))])
 | .ret v33 => (.ret, mkS [(4, (jI v33)), (5, (jB true))], [])
def f42n1S (bh1 : List Qc) (bn2 : Qa) : Tr × Hp := (mkS [(1, (jL 2 Qc.cells bh1)), (2, (.bp 0 0))], [some (.box ((Qa.cells bn2).map .pl))])
noncomputable def f42n1 (bh1 : List Qc) (bn2 : Qa) : Option f42n1O :=
 (f42n2 FUEL bh1 bn2 0).bind fun o30 => match o30 with
 | .exit0 => some .norm
 | .ret v32 => some (.ret v32)
theorem f42n1_ok (bh1 : List Qc) (bn2 : Qa) {o : f42n1O} (h : (f42n1 bh1 bn2) = some o) : T Try.prog Try.f42.ntmps 0 (cL (Qn 1 c42)) (f42n1S bh1 bn2) (fun r => r = f42n1E bh1 bn2 o) := by
 unfold f42n1 at h
 refine rN Qi 1 [j3] [] [] [0] [1, 2, 6] (f42n2S bh1 bn2 0) an ?_
 obtain ⟨o30, h31, h⟩ := Qe h
 cases o30 with
 | exit0 =>
  obtain rfl := Qf h
  exact T.last' (T.bl (i := 0) (by kernel_rfl) (by kernel_rfl) (f42n2_ok FUEL bh1 bn2 0 h31)) (tds := []) (m := [0]) (keep := [2]) (st2 := (f42n1E bh1 bn2 .norm).2) (by kernel_rfl) an rfl
 | ret v32 =>
  obtain rfl := Qf h
  exact T.last' (T.bl (i := 0) (by kernel_rfl) (by kernel_rfl) (f42n2_ok FUEL bh1 bn2 0 h31)) (tds := []) (m := []) (keep := [4, 5]) (st2 := (f42n1E bh1 bn2 (.ret v32)).2) (by kernel_rfl) an rfl
inductive f42n0O where
 | ret (v37 : Int) (v38 : Bool)
def f42n0E (a1 : Qa) (a2 : List Qc) : f42n0O → Ex × Tr × Hp
 | .ret v37 v38 => (.ret, mkS [(4, (jI v37)), (5, (jB v38))], [])
def f42n0S (a1 : Qa) (a2 : List Qc) : Tr × Hp := (Qal [(jA Qa.cells a1), (jL 2 Qc.cells a2)] 0 .leaf, [])
noncomputable def f42n0 (a1 : Qa) (a2 : List Qc) : Option f42n0O :=
 (f42n1 a2 a1).bind fun o34 => match o34 with
 | .norm => some (.ret 0 (decide (a1.Quantity = 0)))
 | .ret v36 => some (.ret v36 true)
theorem f42n0_ok (a1 : Qa) (a2 : List Qc) {o : f42n0O} (h : (f42n0 a1 a2) = some o) : T Try.prog Try.f42.ntmps 0 c42 (f42n0S a1 a2) (fun r => r = f42n0E a1 a2 o) := by
 unfold f42n0 at h
 refine rN Qi 1 [j3] [] [] [0] [1, 2] (f42n1S a2 a1) an ?_
 obtain ⟨o34, h35, h⟩ := Qe h
 cases o34 with
 | norm =>
  refine T.oneN (by kernel_rfl) (f42n1_ok a2 a1 h35) (st2 := (f42n1E a2 a1 .norm).2) rfl ?_
  obtain rfl := Qf h
  exact rE Qi [j3] [] [] [] [4, 5] (.ret, (f42n0E a1 a2 (.ret 0 (decide (a1.Quantity = 0)))).2) an rfl
 | ret v36 =>
  obtain rfl := Qf h
  exact T.oneX' (by kernel_rfl) (f42n1_ok a2 a1 h35) (tds := []) (m := []) (keep := [4, 5]) (st2 := (f42n0E a1 a2 (.ret v36 true)).2) (by kernel_rfl) an rfl rfl
noncomputable def f42 (a1 : Qa) (a2 : List Qc) : Option (Int × Bool) := (f42n0 a1 a2).bind fun o => match o with
 | .ret v37 v38 => some (v37, v38)
theorem f42_ok (a1 : Qa) (a2 : List Qc) {r : Int × Bool} (h : (f42 a1 a2) = some r) : Qq Try.prog false 42 [(jA Qa.cells a1), (jL 2 Qc.cells a2)] [] (.tup [(jI r.1), (jB r.2)]) [] := by
 unfold f42 at h
 obtain ⟨o, ho, h⟩ := Qe h
 cases o with
 | ret v37 v38 =>
  obtain rfl := Qf h
  exact Qq.plain Qi (f := Try.f42) (c := c42) (by kernel_rfl) (by kernel_rfl) (by kernel_rfl) (by kernel_rfl) ((f42n0_ok a1 a2 ho).mono fun r e => by subst e; exact ⟨.inl rfl, (.tup [(jI v37), (jB v38)]), (.tup [(jI v37), (jB v38)]), by kernel_rfl, by kernel_rfl, ((Wk.refl _) : Wk (.tup [(jI v37), (jB v38)]) (.tup [(jI v37), (jB v38)]))⟩)

noncomputable def c15 : Code := Try.f15.body.getD .skip
inductive f15n2O where
 | exit0 (v130 : List Qb) (v131 : List Qa)
 | ret
def f15n2E (bh1 : List Qc) (ba2 : Qd) (be3 : Int) : f15n2O → Ex × Tr × Hp
 | .exit0 v130 v131 => ((.exit 0), mkS [(6, (.bp 0 0)), (9, (.bp 1 0)), (10, (.own 2))], [some (.box [(jI 0), (.pl (.sl .nil 0 []))]), some (.box [(jI be3), (.own 3)]), jR 2 Qb.cells v130, jR 4 Qa.cells v131])
 | .ret => (.ret, mkS [(6, (.bp 0 0)), (7, (.pl (.sl .nil 0 []))), (8, (jI 30))], [some (.box [(jI 0), (.pl (.sl .nil 0 []))])])
def f15n2S (bh1 : List Qc) (ba2 : Qd) (be3 : Int) (v83 : Int) (v84 : List Qb) (v85 : List Qa) : Tr × Hp := (mkS [(2, (jL 2 Qc.cells bh1)), (3, (.bp 0 0)), (6, (.bp 1 0)), (9, (.bp 2 0)), (10, (.own 3)), (11, (jI v83))], [some (.box ((Qd.cells ba2).map .pl)), some (.box [(jI 0), (.pl (.sl .nil 0 []))]), some (.box [(jI be3), (.own 4)]), jR 2 Qb.cells v84, jR 4 Qa.cells v85])
noncomputable def f15n2 : Nat → List Qc → Qd → Int → Int → List Qb → List Qa → Option f15n2O
 | 0, _, _, _, _, _, _ => none
 | f + 1, bh1, ba2, be3, v83, v84, v85 =>
  bif (decide (v83 < (ba2.Positions.length : Int))) then
   (at? ba2.Positions v83).bind fun x109 =>
   (f42 x109 bh1).bind fun x111 =>
   bif x111.2 then
    bif (decide ((v84.length : Int) = 0)) then
     req (fit (v84.length + 1) 24) <|
     (at? (v84 ++ [(Qb.mk x109.Member 0)]) (wr64 (((v84 ++ [(Qb.mk x109.Member 0)]).length : Int) - 1))).bind fun x116 =>
     bif (decide (x109.Quantity = 0)) then
      (f15n2 f bh1 ba2 be3 (wr64 (v83 + 1)) ((v84 ++ [(Qb.mk x109.Member 0)]).set (Int.toNat (wr64 (((v84 ++ [(Qb.mk x109.Member 0)]).length : Int) - 1))) (Qb.mk x116.Member (wr64 ((wr64 (x116.Amount + x111.1)) - x109.Basis)))) v85)
     else
      req (fit (v85.length + 1) 48) <|
      (f15n2 f bh1 ba2 be3 (wr64 (v83 + 1)) ((v84 ++ [(Qb.mk x109.Member 0)]).set (Int.toNat (wr64 (((v84 ++ [(Qb.mk x109.Member 0)]).length : Int) - 1))) (Qb.mk x116.Member (wr64 ((wr64 (x116.Amount + x111.1)) - x109.Basis)))) (v85 ++ [(Qa.mk x109.Member x109.Product x109.Quantity x111.1)]))
    else
     (at? v84 (wr64 ((v84.length : Int) - 1))).bind fun x120 =>
     bif (seq x120.Member x109.Member) then
      bif (decide (x109.Quantity = 0)) then
       (f15n2 f bh1 ba2 be3 (wr64 (v83 + 1)) (v84.set (Int.toNat (wr64 ((v84.length : Int) - 1))) (Qb.mk x120.Member (wr64 ((wr64 (x120.Amount + x111.1)) - x109.Basis)))) v85)
      else
       req (fit (v85.length + 1) 48) <|
       (f15n2 f bh1 ba2 be3 (wr64 (v83 + 1)) (v84.set (Int.toNat (wr64 ((v84.length : Int) - 1))) (Qb.mk x120.Member (wr64 ((wr64 (x120.Amount + x111.1)) - x109.Basis)))) (v85 ++ [(Qa.mk x109.Member x109.Product x109.Quantity x111.1)]))
     else
      req (fit (v84.length + 1) 24) <|
      (at? (v84 ++ [(Qb.mk x109.Member 0)]) (wr64 (((v84 ++ [(Qb.mk x109.Member 0)]).length : Int) - 1))).bind fun x126 =>
      bif (decide (x109.Quantity = 0)) then
       (f15n2 f bh1 ba2 be3 (wr64 (v83 + 1)) ((v84 ++ [(Qb.mk x109.Member 0)]).set (Int.toNat (wr64 (((v84 ++ [(Qb.mk x109.Member 0)]).length : Int) - 1))) (Qb.mk x126.Member (wr64 ((wr64 (x126.Amount + x111.1)) - x109.Basis)))) v85)
      else
       req (fit (v85.length + 1) 48) <|
       (f15n2 f bh1 ba2 be3 (wr64 (v83 + 1)) ((v84 ++ [(Qb.mk x109.Member 0)]).set (Int.toNat (wr64 (((v84 ++ [(Qb.mk x109.Member 0)]).length : Int) - 1))) (Qb.mk x126.Member (wr64 ((wr64 (x126.Amount + x111.1)) - x109.Basis)))) (v85 ++ [(Qa.mk x109.Member x109.Product x109.Quantity x111.1)]))
   else
    some .ret
  else
   some (.exit0 v84 v85)
theorem f15n2_ok : ∀ (f : Nat) (bh1 : List Qc) (ba2 : Qd) (be3 : Int) (v83 : Int) (v84 : List Qb) (v85 : List Qa) {o : f15n2O}, (f15n2 f bh1 ba2 be3 v83 v84 v85) = some o → TL Try.prog Try.f15.ntmps 0 f (cL (cL (Qn 1 (cL (Qn 6 c15))))) (f15n2S bh1 ba2 be3 v83 v84 v85) (fun r => r = f15n2E bh1 ba2 be3 o)
 | 0, _, _, _, _, _, _, o, h => by rw [f15n2] at h; cases h
 | f + 1, bh1, ba2, be3, v83, v84, v85, o, h => by
  rw [f15n2] at h
  refine TL.body (K := fun s => ∃ v83 : Int, ∃ v84 : List Qb, ∃ v85 : List Qa, s = (f15n2S bh1 ba2 be3 v83 v84 v85) ∧ (f15n2 f bh1 ba2 be3 v83 v84 v85) = some o) ?_ (by rintro _ ⟨v83, v84, v85, rfl, hk⟩; exact f15n2_ok f _ _ _ _ _ _ hk)
  rcases Qg h with ⟨h87, h⟩ | ⟨h87, h⟩
  ·obtain ⟨x109, h110, h⟩ := Qe h
   obtain ⟨x111, h112, h⟩ := Qe h
   rcases Qg h with ⟨h113, h⟩ | ⟨h113, h⟩
   ·rcases Qg h with ⟨h114, h⟩ | ⟨h114, h⟩
    ·obtain ⟨h115, h⟩ := Qz h
     obtain ⟨x116, h117, h⟩ := Qe h
     rcases Qg h with ⟨h118, h⟩ | ⟨h118, h⟩
     ·exact rE Qi [([], [], [(3, .val (jI (ba2.Positions.length : Int)))]), ([], [(3, .idx (Int.toNat v83) (Qa.cells x109))], []), ([], [jH 2 (.tup [(jI x111.1), (jB x111.2)])], []), j3, (jT [4, 5, 6, 7, 8, 9, 10, 11, 12, 13], [(14, .bool true)], [(1, .val (jI (v84.length : Int)))]), ([], [(5, .fits)], [(5, .row 8 ((v84 ++ [(Qb.mk x109.Member 0)]).map Qb.cells))]), ([], [(8, .at_ (Int.toNat (wr64 (((v84 ++ [(Qb.mk x109.Member 0)]).length : Int) - 1)))), (10, .idx 0 (Qb.cells x116)), (16, .at_ (Int.toNat (wr64 (((v84 ++ [(Qb.mk x109.Member 0)]).length : Int) - 1)))), (18, .idx 0 (Qb.cells x116))], [(2, .val (jI ((v84 ++ [(Qb.mk x109.Member 0)]).length : Int))), (6, .val (jI ((v84 ++ [(Qb.mk x109.Member 0)]).length : Int))), (18, .row 8 (((v84 ++ [(Qb.mk x109.Member 0)]).set (Int.toNat (wr64 (((v84 ++ [(Qb.mk x109.Member 0)]).length : Int) - 1))) (Qb.mk x116.Member (wr64 ((wr64 (x116.Amount + x111.1)) - x109.Basis)))).map Qb.cells))]), j3, j3, j3] [some true, some false, none, some false] [] [0, 1, 2, 8, 4] [2, 3, 6, 9, 10, 11] (.norm, (f15n2S bh1 ba2 be3 (wr64 (v83 + 1)) ((v84 ++ [(Qb.mk x109.Member 0)]).set (Int.toNat (wr64 (((v84 ++ [(Qb.mk x109.Member 0)]).length : Int) - 1))) (Qb.mk x116.Member (wr64 ((wr64 (x116.Amount + x111.1)) - x109.Basis)))) v85)) (ap (Qo (xs := ba2.Positions) (c := Qa.cells)) (ap h87 (ap (Qh h110).1 (ap (Ql Qa.cells (Qh h110).2) (ap (f42_ok x109 bh1 h112) (ap (Qk h113) (ap (Qo (xs := v84) (c := Qb.cells)) (ap3 h114 (ap4 h114 (ap4 h114 (ap (Qaw (te := ti48) (xs := v84) (n := 1) (c := Qb.cells) h115 rfl) (ap (Qcg (xs := v84) (ys := [(Qb.mk x109.Member 0)]) (c := Qb.cells)) (ap2 (Qo (xs := (v84 ++ [(Qb.mk x109.Member 0)])) (c := Qb.cells)) (ap (Qh h117).1 (ap (Qay Qb.cells (Qh h117).2) (ap (Ql Qb.cells (Qh h117).2) (ap (Qh h117).1 (ap (Qay Qb.cells (Qh h117).2) (ap (Ql Qb.cells (Qh h117).2) (ap (set_cv (xs := (v84 ++ [(Qb.mk x109.Member 0)])) (c := Qb.cells) (k := (Int.toNat (wr64 (((v84 ++ [(Qb.mk x109.Member 0)]).length : Int) - 1)))) (x := (Qb.mk x116.Member (wr64 ((wr64 (x116.Amount + x111.1)) - x109.Basis))))) (ap (Qk h118) an))))))))))))))))))))) (Qs.norm ⟨(wr64 (v83 + 1)), ((v84 ++ [(Qb.mk x109.Member 0)]).set (Int.toNat (wr64 (((v84 ++ [(Qb.mk x109.Member 0)]).length : Int) - 1))) (Qb.mk x116.Member (wr64 ((wr64 (x116.Amount + x111.1)) - x109.Basis)))), v85, rfl, h⟩)
     ·obtain ⟨h119, h⟩ := Qz h
      exact rE Qi [([], [], [(3, .val (jI (ba2.Positions.length : Int)))]), ([], [(3, .idx (Int.toNat v83) (Qa.cells x109))], []), ([], [jH 2 (.tup [(jI x111.1), (jB x111.2)])], []), j3, (jT [4, 5, 6, 7, 8, 9, 10, 11, 12, 13], [(14, .bool true)], [(1, .val (jI (v84.length : Int)))]), ([], [(5, .fits)], [(5, .row 8 ((v84 ++ [(Qb.mk x109.Member 0)]).map Qb.cells))]), ([], [(8, .at_ (Int.toNat (wr64 (((v84 ++ [(Qb.mk x109.Member 0)]).length : Int) - 1)))), (10, .idx 0 (Qb.cells x116)), (16, .at_ (Int.toNat (wr64 (((v84 ++ [(Qb.mk x109.Member 0)]).length : Int) - 1)))), (18, .idx 0 (Qb.cells x116))], [(2, .val (jI ((v84 ++ [(Qb.mk x109.Member 0)]).length : Int))), (6, .val (jI ((v84 ++ [(Qb.mk x109.Member 0)]).length : Int))), (18, .row 8 (((v84 ++ [(Qb.mk x109.Member 0)]).set (Int.toNat (wr64 (((v84 ++ [(Qb.mk x109.Member 0)]).length : Int) - 1))) (Qb.mk x116.Member (wr64 ((wr64 (x116.Amount + x111.1)) - x109.Basis)))).map Qb.cells))]), j3, j3, ([], [(4, .fits)], [(4, .row 11 ((v85 ++ [(Qa.mk x109.Member x109.Product x109.Quantity x111.1)]).map Qa.cells))]), j3] [some true, some false, none, some true] [] [0, 1, 2, 8, 11] [2, 3, 6, 9, 10, 11] (.norm, (f15n2S bh1 ba2 be3 (wr64 (v83 + 1)) ((v84 ++ [(Qb.mk x109.Member 0)]).set (Int.toNat (wr64 (((v84 ++ [(Qb.mk x109.Member 0)]).length : Int) - 1))) (Qb.mk x116.Member (wr64 ((wr64 (x116.Amount + x111.1)) - x109.Basis)))) (v85 ++ [(Qa.mk x109.Member x109.Product x109.Quantity x111.1)]))) (ap (Qo (xs := ba2.Positions) (c := Qa.cells)) (ap h87 (ap (Qh h110).1 (ap (Ql Qa.cells (Qh h110).2) (ap (f42_ok x109 bh1 h112) (ap (Qk h113) (ap (Qo (xs := v84) (c := Qb.cells)) (ap3 h114 (ap4 h114 (ap4 h114 (ap (Qaw (te := ti48) (xs := v84) (n := 1) (c := Qb.cells) h115 rfl) (ap (Qcg (xs := v84) (ys := [(Qb.mk x109.Member 0)]) (c := Qb.cells)) (ap2 (Qo (xs := (v84 ++ [(Qb.mk x109.Member 0)])) (c := Qb.cells)) (ap (Qh h117).1 (ap (Qay Qb.cells (Qh h117).2) (ap (Ql Qb.cells (Qh h117).2) (ap (Qh h117).1 (ap (Qay Qb.cells (Qh h117).2) (ap (Ql Qb.cells (Qh h117).2) (ap (set_cv (xs := (v84 ++ [(Qb.mk x109.Member 0)])) (c := Qb.cells) (k := (Int.toNat (wr64 (((v84 ++ [(Qb.mk x109.Member 0)]).length : Int) - 1)))) (x := (Qb.mk x116.Member (wr64 ((wr64 (x116.Amount + x111.1)) - x109.Basis))))) (ap (Qr h118) (ap (Qaw (te := ti52) (xs := v85) (n := 1) (c := Qa.cells) h119 rfl) (ap (Qcg (xs := v85) (ys := [(Qa.mk x109.Member x109.Product x109.Quantity x111.1)]) (c := Qa.cells)) an))))))))))))))))))))))) (Qs.norm ⟨(wr64 (v83 + 1)), ((v84 ++ [(Qb.mk x109.Member 0)]).set (Int.toNat (wr64 (((v84 ++ [(Qb.mk x109.Member 0)]).length : Int) - 1))) (Qb.mk x116.Member (wr64 ((wr64 (x116.Amount + x111.1)) - x109.Basis)))), (v85 ++ [(Qa.mk x109.Member x109.Product x109.Quantity x111.1)]), rfl, h⟩)
    ·obtain ⟨x120, h121, h⟩ := Qe h
     rcases Qg h with ⟨h122, h⟩ | ⟨h122, h⟩
     ·rcases Qg h with ⟨h123, h⟩ | ⟨h123, h⟩
      ·exact rE Qi [([], [], [(3, .val (jI (ba2.Positions.length : Int)))]), ([], [(3, .idx (Int.toNat v83) (Qa.cells x109))], []), ([], [jH 2 (.tup [(jI x111.1), (jB x111.2)])], []), j3, (jF [4, 5, 6, 7, 8, 9, 10, 11, 12, 13], [(8, .at_ (Int.toNat (wr64 ((v84.length : Int) - 1)))), (10, .idx 0 (Qb.cells x120)), (14, .bool false)], [(1, .val (jI (v84.length : Int))), (6, .val (jI (v84.length : Int)))]), ([], [(8, .at_ (Int.toNat (wr64 ((v84.length : Int) - 1)))), (10, .idx 0 (Qb.cells x120)), (16, .at_ (Int.toNat (wr64 ((v84.length : Int) - 1)))), (18, .idx 0 (Qb.cells x120))], [(2, .val (jI (v84.length : Int))), (6, .val (jI (v84.length : Int))), (18, .row 3 ((v84.set (Int.toNat (wr64 ((v84.length : Int) - 1))) (Qb.mk x120.Member (wr64 ((wr64 (x120.Amount + x111.1)) - x109.Basis)))).map Qb.cells))]), j3, j3, j3] [some true, some false, some false, some false] [] [0, 1, 2, 3, 4] [2, 3, 6, 9, 10, 11] (.norm, (f15n2S bh1 ba2 be3 (wr64 (v83 + 1)) (v84.set (Int.toNat (wr64 ((v84.length : Int) - 1))) (Qb.mk x120.Member (wr64 ((wr64 (x120.Amount + x111.1)) - x109.Basis)))) v85)) (ap (Qo (xs := ba2.Positions) (c := Qa.cells)) (ap h87 (ap (Qh h110).1 (ap (Ql Qa.cells (Qh h110).2) (ap (f42_ok x109 bh1 h112) (ap (Qk h113) (ap (Qo (xs := v84) (c := Qb.cells)) (ap3 h114 (ap (Qo (xs := v84) (c := Qb.cells)) (ap2 h114 (ap (Qh h121).1 (ap (Qay Qb.cells (Qh h121).2) (ap2 h114 (ap (Ql Qb.cells (Qh h121).2) (ap4 h114 (ap (Qk h122) (ap2 (Qo (xs := v84) (c := Qb.cells)) (ap (Qh h121).1 (ap (Qay Qb.cells (Qh h121).2) (ap (Ql Qb.cells (Qh h121).2) (ap (Qh h121).1 (ap (Qay Qb.cells (Qh h121).2) (ap (Ql Qb.cells (Qh h121).2) (ap (set_cv (xs := v84) (c := Qb.cells) (k := (Int.toNat (wr64 ((v84.length : Int) - 1)))) (x := (Qb.mk x120.Member (wr64 ((wr64 (x120.Amount + x111.1)) - x109.Basis))))) (ap (Qk h123) an))))))))))))))))))))))))) (Qs.norm ⟨(wr64 (v83 + 1)), (v84.set (Int.toNat (wr64 ((v84.length : Int) - 1))) (Qb.mk x120.Member (wr64 ((wr64 (x120.Amount + x111.1)) - x109.Basis)))), v85, rfl, h⟩)
      ·obtain ⟨h124, h⟩ := Qz h
       exact rE Qi [([], [], [(3, .val (jI (ba2.Positions.length : Int)))]), ([], [(3, .idx (Int.toNat v83) (Qa.cells x109))], []), ([], [jH 2 (.tup [(jI x111.1), (jB x111.2)])], []), j3, (jF [4, 5, 6, 7, 8, 9, 10, 11, 12, 13], [(8, .at_ (Int.toNat (wr64 ((v84.length : Int) - 1)))), (10, .idx 0 (Qb.cells x120)), (14, .bool false)], [(1, .val (jI (v84.length : Int))), (6, .val (jI (v84.length : Int)))]), ([], [(8, .at_ (Int.toNat (wr64 ((v84.length : Int) - 1)))), (10, .idx 0 (Qb.cells x120)), (16, .at_ (Int.toNat (wr64 ((v84.length : Int) - 1)))), (18, .idx 0 (Qb.cells x120))], [(2, .val (jI (v84.length : Int))), (6, .val (jI (v84.length : Int))), (18, .row 3 ((v84.set (Int.toNat (wr64 ((v84.length : Int) - 1))) (Qb.mk x120.Member (wr64 ((wr64 (x120.Amount + x111.1)) - x109.Basis)))).map Qb.cells))]), j3, j3, ([], [(4, .fits)], [(4, .row 9 ((v85 ++ [(Qa.mk x109.Member x109.Product x109.Quantity x111.1)]).map Qa.cells))]), j3] [some true, some false, some false, some true] [] [0, 1, 2, 3, 9] [2, 3, 6, 9, 10, 11] (.norm, (f15n2S bh1 ba2 be3 (wr64 (v83 + 1)) (v84.set (Int.toNat (wr64 ((v84.length : Int) - 1))) (Qb.mk x120.Member (wr64 ((wr64 (x120.Amount + x111.1)) - x109.Basis)))) (v85 ++ [(Qa.mk x109.Member x109.Product x109.Quantity x111.1)]))) (ap (Qo (xs := ba2.Positions) (c := Qa.cells)) (ap h87 (ap (Qh h110).1 (ap (Ql Qa.cells (Qh h110).2) (ap (f42_ok x109 bh1 h112) (ap (Qk h113) (ap (Qo (xs := v84) (c := Qb.cells)) (ap3 h114 (ap (Qo (xs := v84) (c := Qb.cells)) (ap2 h114 (ap (Qh h121).1 (ap (Qay Qb.cells (Qh h121).2) (ap2 h114 (ap (Ql Qb.cells (Qh h121).2) (ap4 h114 (ap (Qk h122) (ap2 (Qo (xs := v84) (c := Qb.cells)) (ap (Qh h121).1 (ap (Qay Qb.cells (Qh h121).2) (ap (Ql Qb.cells (Qh h121).2) (ap (Qh h121).1 (ap (Qay Qb.cells (Qh h121).2) (ap (Ql Qb.cells (Qh h121).2) (ap (set_cv (xs := v84) (c := Qb.cells) (k := (Int.toNat (wr64 ((v84.length : Int) - 1)))) (x := (Qb.mk x120.Member (wr64 ((wr64 (x120.Amount + x111.1)) - x109.Basis))))) (ap (Qr h123) (ap (Qaw (te := ti52) (xs := v85) (n := 1) (c := Qa.cells) h124 rfl) (ap (Qcg (xs := v85) (ys := [(Qa.mk x109.Member x109.Product x109.Quantity x111.1)]) (c := Qa.cells)) an))))))))))))))))))))))))))) (Qs.norm ⟨(wr64 (v83 + 1)), (v84.set (Int.toNat (wr64 ((v84.length : Int) - 1))) (Qb.mk x120.Member (wr64 ((wr64 (x120.Amount + x111.1)) - x109.Basis)))), (v85 ++ [(Qa.mk x109.Member x109.Product x109.Quantity x111.1)]), rfl, h⟩)
     ·obtain ⟨h125, h⟩ := Qz h
      obtain ⟨x126, h127, h⟩ := Qe h
      rcases Qg h with ⟨h128, h⟩ | ⟨h128, h⟩
      ·exact rE Qi [([], [], [(3, .val (jI (ba2.Positions.length : Int)))]), ([], [(3, .idx (Int.toNat v83) (Qa.cells x109))], []), ([], [jH 2 (.tup [(jI x111.1), (jB x111.2)])], []), j3, (jF [4, 5, 6, 7, 8, 9, 10, 11, 12, 13], [(8, .at_ (Int.toNat (wr64 ((v84.length : Int) - 1)))), (10, .idx 0 (Qb.cells x120)), (14, .bool false)], [(1, .val (jI (v84.length : Int))), (6, .val (jI (v84.length : Int)))]), ([], [(5, .fits)], [(5, .row 8 ((v84 ++ [(Qb.mk x109.Member 0)]).map Qb.cells))]), ([], [(8, .at_ (Int.toNat (wr64 (((v84 ++ [(Qb.mk x109.Member 0)]).length : Int) - 1)))), (10, .idx 0 (Qb.cells x126)), (16, .at_ (Int.toNat (wr64 (((v84 ++ [(Qb.mk x109.Member 0)]).length : Int) - 1)))), (18, .idx 0 (Qb.cells x126))], [(2, .val (jI ((v84 ++ [(Qb.mk x109.Member 0)]).length : Int))), (6, .val (jI ((v84 ++ [(Qb.mk x109.Member 0)]).length : Int))), (18, .row 8 (((v84 ++ [(Qb.mk x109.Member 0)]).set (Int.toNat (wr64 (((v84 ++ [(Qb.mk x109.Member 0)]).length : Int) - 1))) (Qb.mk x126.Member (wr64 ((wr64 (x126.Amount + x111.1)) - x109.Basis)))).map Qb.cells))]), j3, j3, j3] [some true, some false, some true, some false] [] [0, 1, 2, 8, 4] [2, 3, 6, 9, 10, 11] (.norm, (f15n2S bh1 ba2 be3 (wr64 (v83 + 1)) ((v84 ++ [(Qb.mk x109.Member 0)]).set (Int.toNat (wr64 (((v84 ++ [(Qb.mk x109.Member 0)]).length : Int) - 1))) (Qb.mk x126.Member (wr64 ((wr64 (x126.Amount + x111.1)) - x109.Basis)))) v85)) (ap (Qo (xs := ba2.Positions) (c := Qa.cells)) (ap h87 (ap (Qh h110).1 (ap (Ql Qa.cells (Qh h110).2) (ap (f42_ok x109 bh1 h112) (ap (Qk h113) (ap (Qo (xs := v84) (c := Qb.cells)) (ap3 h114 (ap (Qo (xs := v84) (c := Qb.cells)) (ap2 h114 (ap (Qh h121).1 (ap (Qay Qb.cells (Qh h121).2) (ap2 h114 (ap (Ql Qb.cells (Qh h121).2) (ap4 h114 (ap (Qr h122) (ap (Qaw (te := ti48) (xs := v84) (n := 1) (c := Qb.cells) h125 rfl) (ap (Qcg (xs := v84) (ys := [(Qb.mk x109.Member 0)]) (c := Qb.cells)) (ap2 (Qo (xs := (v84 ++ [(Qb.mk x109.Member 0)])) (c := Qb.cells)) (ap (Qh h127).1 (ap (Qay Qb.cells (Qh h127).2) (ap (Ql Qb.cells (Qh h127).2) (ap (Qh h127).1 (ap (Qay Qb.cells (Qh h127).2) (ap (Ql Qb.cells (Qh h127).2) (ap (set_cv (xs := (v84 ++ [(Qb.mk x109.Member 0)])) (c := Qb.cells) (k := (Int.toNat (wr64 (((v84 ++ [(Qb.mk x109.Member 0)]).length : Int) - 1)))) (x := (Qb.mk x126.Member (wr64 ((wr64 (x126.Amount + x111.1)) - x109.Basis))))) (ap (Qk h128) an))))))))))))))))))))))))))) (Qs.norm ⟨(wr64 (v83 + 1)), ((v84 ++ [(Qb.mk x109.Member 0)]).set (Int.toNat (wr64 (((v84 ++ [(Qb.mk x109.Member 0)]).length : Int) - 1))) (Qb.mk x126.Member (wr64 ((wr64 (x126.Amount + x111.1)) - x109.Basis)))), v85, rfl, h⟩)
      ·obtain ⟨h129, h⟩ := Qz h
       exact rE Qi [([], [], [(3, .val (jI (ba2.Positions.length : Int)))]), ([], [(3, .idx (Int.toNat v83) (Qa.cells x109))], []), ([], [jH 2 (.tup [(jI x111.1), (jB x111.2)])], []), j3, (jF [4, 5, 6, 7, 8, 9, 10, 11, 12, 13], [(8, .at_ (Int.toNat (wr64 ((v84.length : Int) - 1)))), (10, .idx 0 (Qb.cells x120)), (14, .bool false)], [(1, .val (jI (v84.length : Int))), (6, .val (jI (v84.length : Int)))]), ([], [(5, .fits)], [(5, .row 8 ((v84 ++ [(Qb.mk x109.Member 0)]).map Qb.cells))]), ([], [(8, .at_ (Int.toNat (wr64 (((v84 ++ [(Qb.mk x109.Member 0)]).length : Int) - 1)))), (10, .idx 0 (Qb.cells x126)), (16, .at_ (Int.toNat (wr64 (((v84 ++ [(Qb.mk x109.Member 0)]).length : Int) - 1)))), (18, .idx 0 (Qb.cells x126))], [(2, .val (jI ((v84 ++ [(Qb.mk x109.Member 0)]).length : Int))), (6, .val (jI ((v84 ++ [(Qb.mk x109.Member 0)]).length : Int))), (18, .row 8 (((v84 ++ [(Qb.mk x109.Member 0)]).set (Int.toNat (wr64 (((v84 ++ [(Qb.mk x109.Member 0)]).length : Int) - 1))) (Qb.mk x126.Member (wr64 ((wr64 (x126.Amount + x111.1)) - x109.Basis)))).map Qb.cells))]), j3, j3, ([], [(4, .fits)], [(4, .row 11 ((v85 ++ [(Qa.mk x109.Member x109.Product x109.Quantity x111.1)]).map Qa.cells))]), j3] [some true, some false, some true, some true] [] [0, 1, 2, 8, 11] [2, 3, 6, 9, 10, 11] (.norm, (f15n2S bh1 ba2 be3 (wr64 (v83 + 1)) ((v84 ++ [(Qb.mk x109.Member 0)]).set (Int.toNat (wr64 (((v84 ++ [(Qb.mk x109.Member 0)]).length : Int) - 1))) (Qb.mk x126.Member (wr64 ((wr64 (x126.Amount + x111.1)) - x109.Basis)))) (v85 ++ [(Qa.mk x109.Member x109.Product x109.Quantity x111.1)]))) (ap (Qo (xs := ba2.Positions) (c := Qa.cells)) (ap h87 (ap (Qh h110).1 (ap (Ql Qa.cells (Qh h110).2) (ap (f42_ok x109 bh1 h112) (ap (Qk h113) (ap (Qo (xs := v84) (c := Qb.cells)) (ap3 h114 (ap (Qo (xs := v84) (c := Qb.cells)) (ap2 h114 (ap (Qh h121).1 (ap (Qay Qb.cells (Qh h121).2) (ap2 h114 (ap (Ql Qb.cells (Qh h121).2) (ap4 h114 (ap (Qr h122) (ap (Qaw (te := ti48) (xs := v84) (n := 1) (c := Qb.cells) h125 rfl) (ap (Qcg (xs := v84) (ys := [(Qb.mk x109.Member 0)]) (c := Qb.cells)) (ap2 (Qo (xs := (v84 ++ [(Qb.mk x109.Member 0)])) (c := Qb.cells)) (ap (Qh h127).1 (ap (Qay Qb.cells (Qh h127).2) (ap (Ql Qb.cells (Qh h127).2) (ap (Qh h127).1 (ap (Qay Qb.cells (Qh h127).2) (ap (Ql Qb.cells (Qh h127).2) (ap (set_cv (xs := (v84 ++ [(Qb.mk x109.Member 0)])) (c := Qb.cells) (k := (Int.toNat (wr64 (((v84 ++ [(Qb.mk x109.Member 0)]).length : Int) - 1)))) (x := (Qb.mk x126.Member (wr64 ((wr64 (x126.Amount + x111.1)) - x109.Basis))))) (ap (Qr h128) (ap (Qaw (te := ti52) (xs := v85) (n := 1) (c := Qa.cells) h129 rfl) (ap (Qcg (xs := v85) (ys := [(Qa.mk x109.Member x109.Product x109.Quantity x111.1)]) (c := Qa.cells)) an))))))))))))))))))))))))))))) (Qs.norm ⟨(wr64 (v83 + 1)), ((v84 ++ [(Qb.mk x109.Member 0)]).set (Int.toNat (wr64 (((v84 ++ [(Qb.mk x109.Member 0)]).length : Int) - 1))) (Qb.mk x126.Member (wr64 ((wr64 (x126.Amount + x111.1)) - x109.Basis)))), (v85 ++ [(Qa.mk x109.Member x109.Product x109.Quantity x111.1)]), rfl, h⟩)
   ·obtain rfl := Qf h
    exact rK Qi 2 [([], [], [(3, .val (jI (ba2.Positions.length : Int)))]), ([], [(3, .idx (Int.toNat v83) (Qa.cells x109))], []), ([], [jH 2 (.tup [(jI x111.1), (jB x111.2)])], []), j3, j3] [some true, some true] [] [1] [6, 7, 8] .ret ((f15n2E bh1 ba2 be3 .ret).2) (ap (Qo (xs := ba2.Positions) (c := Qa.cells)) (ap h87 (ap (Qh h110).1 (ap (Ql Qa.cells (Qh h110).2) (ap (f42_ok x109 bh1 h112) (ap (Qr h113) an)))))) (Qs.out rfl rfl)
  ·obtain rfl := Qf h
   exact rK Qi 1 [([], [], [(3, .val (jI (ba2.Positions.length : Int)))])] [some false] [] [1, 2, 3, 4] [6, 9, 10] (.exit 0) ((f15n2E bh1 ba2 be3 (.exit0 v84 v85)).2) (ap (Qo (xs := ba2.Positions) (c := Qa.cells)) (ap h87 an)) (Qs.out rfl rfl)
noncomputable def f15n2L (bh1 : List Qc) (ba2 : Qd) (be3 : Int) : List Qa → Int → (List Qb) → (List Qa) → Option f15n2O
 | [], v83, v84, v85 =>
  some (.exit0 v84 v85)
 | x0 :: rest, v83, v84, v85 =>
  (f42 x0 bh1).bind fun x111 =>
  bif x111.2 then
   bif (decide ((v84.length : Int) = 0)) then
    req (fit (v84.length + 1) 24) <|
    (at? (v84 ++ [(Qb.mk x0.Member 0)]) (wr64 (((v84 ++ [(Qb.mk x0.Member 0)]).length : Int) - 1))).bind fun x116 =>
    bif (decide (x0.Quantity = 0)) then
     (f15n2L bh1 ba2 be3 rest (v83 + 1) ((v84 ++ [(Qb.mk x0.Member 0)]).set (Int.toNat (wr64 (((v84 ++ [(Qb.mk x0.Member 0)]).length : Int) - 1))) (Qb.mk x116.Member (wr64 ((wr64 (x116.Amount + x111.1)) - x0.Basis)))) v85)
    else
     req (fit (v85.length + 1) 48) <|
     (f15n2L bh1 ba2 be3 rest (v83 + 1) ((v84 ++ [(Qb.mk x0.Member 0)]).set (Int.toNat (wr64 (((v84 ++ [(Qb.mk x0.Member 0)]).length : Int) - 1))) (Qb.mk x116.Member (wr64 ((wr64 (x116.Amount + x111.1)) - x0.Basis)))) (v85 ++ [(Qa.mk x0.Member x0.Product x0.Quantity x111.1)]))
   else
    (at? v84 (wr64 ((v84.length : Int) - 1))).bind fun x120 =>
    bif (seq x120.Member x0.Member) then
     bif (decide (x0.Quantity = 0)) then
      (f15n2L bh1 ba2 be3 rest (v83 + 1) (v84.set (Int.toNat (wr64 ((v84.length : Int) - 1))) (Qb.mk x120.Member (wr64 ((wr64 (x120.Amount + x111.1)) - x0.Basis)))) v85)
     else
      req (fit (v85.length + 1) 48) <|
      (f15n2L bh1 ba2 be3 rest (v83 + 1) (v84.set (Int.toNat (wr64 ((v84.length : Int) - 1))) (Qb.mk x120.Member (wr64 ((wr64 (x120.Amount + x111.1)) - x0.Basis)))) (v85 ++ [(Qa.mk x0.Member x0.Product x0.Quantity x111.1)]))
    else
     req (fit (v84.length + 1) 24) <|
     (at? (v84 ++ [(Qb.mk x0.Member 0)]) (wr64 (((v84 ++ [(Qb.mk x0.Member 0)]).length : Int) - 1))).bind fun x126 =>
     bif (decide (x0.Quantity = 0)) then
      (f15n2L bh1 ba2 be3 rest (v83 + 1) ((v84 ++ [(Qb.mk x0.Member 0)]).set (Int.toNat (wr64 (((v84 ++ [(Qb.mk x0.Member 0)]).length : Int) - 1))) (Qb.mk x126.Member (wr64 ((wr64 (x126.Amount + x111.1)) - x0.Basis)))) v85)
     else
      req (fit (v85.length + 1) 48) <|
      (f15n2L bh1 ba2 be3 rest (v83 + 1) ((v84 ++ [(Qb.mk x0.Member 0)]).set (Int.toNat (wr64 (((v84 ++ [(Qb.mk x0.Member 0)]).length : Int) - 1))) (Qb.mk x126.Member (wr64 ((wr64 (x126.Amount + x111.1)) - x0.Basis)))) (v85 ++ [(Qa.mk x0.Member x0.Product x0.Quantity x111.1)]))
  else
   some .ret
theorem f15n2L_eq (bh1 : List Qc) (ba2 : Qd) (be3 : Int) : ∀ (rest : List Qa) (f k : Nat) (v84 : List Qb) (v85 : List Qa), ba2.Positions.drop k = rest → ba2.Positions.length ≤ maxLen → rest.length < f → f15n2 f bh1 ba2 be3 (k : Int) v84 v85 = f15n2L bh1 ba2 be3 rest (k : Int) v84 v85
 | _, 0, _, _, _, _, _, hf => absurd hf (Nat.not_lt_zero _)
 | [], f + 1, k, v84, v85, hd, hm, hf => by
  have hk : ¬ ((k : Int) < (ba2.Positions.length : Int)) := by have := Qai hd; omega
  rw [f15n2, f15n2L]
  simp only [decide_eq_false hk, cond_false]
 | x0 :: rest, f + 1, k, v84, v85, hd, hm, hf => by
  obtain ⟨hx, hlt, hd'⟩ := Qab hd
  have hk : (k : Int) < (ba2.Positions.length : Int) := by omega
  have hw : wr64 ((k : Int) + 1) = (k : Int) + 1 := Qbe (by omega) (by unfold maxLen at hm; omega)
  have ih : ∀ (v84 : List Qb) (v85 : List Qa), f15n2 f bh1 ba2 be3 ((k : Int) + 1) v84 v85 = f15n2L bh1 ba2 be3 rest ((k : Int) + 1) v84 v85 := fun v84 v85 => f15n2L_eq bh1 ba2 be3 rest f (k + 1) v84 v85 hd' hm (by simpa using hf)
  rw [f15n2, f15n2L]
  simp only [decide_eq_true hk, cond_true, Qah, hx, Option.bind_some, hw, ih]
theorem f15n2_run (bh1 : List Qc) (ba2 : Qd) (be3 : Int) (v84 : List Qb) (v85 : List Qa) (hm : ba2.Positions.length ≤ maxLen) : f15n2 FUEL bh1 ba2 be3 0 v84 v85 = f15n2L bh1 ba2 be3 ba2.Positions 0 v84 v85 := f15n2L_eq bh1 ba2 be3 ba2.Positions FUEL 0 v84 v85 List.drop_zero hm (Qat hm)
inductive f15n1O where
 | norm (v136 : List Qb) (v137 : List Qa)
 | ret
def f15n1E (bh1 : List Qc) (ba2 : Qd) (be3 : Int) : f15n1O → Ex × Tr × Hp
 | .norm v136 v137 => (.norm, mkS [(6, (.bp 0 0)), (9, (.bp 1 0)), (10, (.own 2))], [some (.box [(jI 0), (.pl (.sl .nil 0 []))]), some (.box [(jI be3), (.own 3)]), jR 2 Qb.cells v136, jR 4 Qa.cells v137])
 | .ret => (.ret, mkS [(6, (.bp 0 0)), (7, (.pl (.sl .nil 0 []))), (8, (jI 30))], [some (.box [(jI 0), (.pl (.sl .nil 0 []))])])
def f15n1S (bh1 : List Qc) (ba2 : Qd) (be3 : Int) : Tr × Hp := (mkS [(2, (jL 2 Qc.cells bh1)), (3, (.bp 0 0)), (6, (.bp 1 0)), (9, (.bp 2 0)), (10, (.pl (.sl .nil 0 [])))], [some (.box ((Qd.cells ba2).map .pl)), some (.box [(jI 0), (.pl (.sl .nil 0 []))]), some (.box [(jI be3), (.pl (.sl .nil 0 []))])])
noncomputable def f15n1 (bh1 : List Qc) (ba2 : Qd) (be3 : Int) : Option f15n1O :=
 (f15n2 FUEL bh1 ba2 be3 0 [] []).bind fun o132 => match o132 with
 | .exit0 v134 v135 => some (.norm v134 v135)
 | .ret => some .ret
theorem f15n1_ok (bh1 : List Qc) (ba2 : Qd) (be3 : Int) {o : f15n1O} (h : (f15n1 bh1 ba2 be3) = some o) : T Try.prog Try.f15.ntmps 0 (cL (Qn 6 c15)) (f15n1S bh1 ba2 be3) (fun r => r = f15n1E bh1 ba2 be3 o) := by
 unfold f15n1 at h
 refine rN Qi 1 [j3] [] [.mat 10 2, .matC 2 1 4] [0, 1, 2, 3, 4] [2, 3, 6, 9, 10, 11] (f15n2S bh1 ba2 be3 0 [] []) an ?_
 obtain ⟨o132, h133, h⟩ := Qe h
 cases o132 with
 | exit0 v134 v135 =>
  obtain rfl := Qf h
  exact T.last' (T.bl (i := 0) (by kernel_rfl) (by kernel_rfl) (f15n2_ok FUEL bh1 ba2 be3 0 [] [] h133)) (tds := []) (m := [0, 1, 2, 3]) (keep := [6, 9, 10]) (st2 := (f15n1E bh1 ba2 be3 (.norm v134 v135)).2) (by kernel_rfl) an rfl
 | ret =>
  obtain rfl := Qf h
  exact T.last' (T.bl (i := 0) (by kernel_rfl) (by kernel_rfl) (f15n2_ok FUEL bh1 ba2 be3 0 [] [] h133)) (tds := []) (m := [0]) (keep := [6, 7, 8]) (st2 := (f15n1E bh1 ba2 be3 .ret).2) (by kernel_rfl) an rfl
inductive f15n4O where
 | exit2 (v192 : List Qb)
 | ret
def f15n4E (be1 : Int) (bj2 : List Qb) (bg3 : List Qa) : f15n4O → Ex × Tr × Hp
 | .exit2 v192 => ((.exit 2), mkS [(6, (.bp 0 0)), (9, (.bp 1 0)), (15, (.own 2))], [some (.box [(jI 0), (.pl (.sl .nil 0 []))]), some (.box [(jI be1), (.own 3)]), jR 2 Qb.cells v192, jR 4 Qa.cells bg3])
 | .ret => (.ret, mkS [(6, (.bp 0 0)), (7, (.pl (.sl .nil 0 []))), (8, (jI 14))], [some (.box [(jI 0), (.pl (.sl .nil 0 []))])])
def f15n4S (be1 : Int) (bj2 : List Qb) (bg3 : List Qa) (v174 : Int) (v175 : List Qb) : Tr × Hp := (mkS [(6, (.bp 0 0)), (9, (.bp 1 0)), (10, (.own 2)), (15, (.own 3)), (16, (jI v174))], [some (.box [(jI 0), (.pl (.sl .nil 0 []))]), some (.box [(jI be1), (.own 4)]), jR 2 Qb.cells bj2, jR 2 Qb.cells v175, jR 4 Qa.cells bg3])
noncomputable def f15n4 : Nat → Int → List Qb → List Qa → Int → List Qb → Option f15n4O
 | 0, _, _, _, _, _ => none
 | f + 1, be1, bj2, bg3, v174, v175 =>
  bif (decide (v174 < (bj2.length : Int))) then
   (at? bj2 v174).bind fun x185 =>
   (f43 x185.Amount).bind fun x187 =>
   bif (decide (1125899906842624 < x187)) then
    some .ret
   else
    bif (decide (x185.Amount = 0)) then
     (f15n4 f be1 bj2 bg3 (wr64 (v174 + 1)) v175)
    else
     req (fit (v175.length + 1) 24) <|
     (f15n4 f be1 bj2 bg3 (wr64 (v174 + 1)) (v175 ++ [x185]))
  else
   some (.exit2 v175)
theorem f15n4_ok : ∀ (f : Nat) (be1 : Int) (bj2 : List Qb) (bg3 : List Qa) (v174 : Int) (v175 : List Qb) {o : f15n4O}, (f15n4 f be1 bj2 bg3 v174 v175) = some o → TL Try.prog Try.f15.ntmps 0 f (cL (cL (Qn 1 (cL (Qn 1 (Qn 1 (Qn 6 c15))))))) (f15n4S be1 bj2 bg3 v174 v175) (fun r => r = f15n4E be1 bj2 bg3 o)
 | 0, _, _, _, _, _, o, h => by rw [f15n4] at h; cases h
 | f + 1, be1, bj2, bg3, v174, v175, o, h => by
  rw [f15n4] at h
  refine TL.body (K := fun s => ∃ v174 : Int, ∃ v175 : List Qb, s = (f15n4S be1 bj2 bg3 v174 v175) ∧ (f15n4 f be1 bj2 bg3 v174 v175) = some o) ?_ (by rintro _ ⟨v174, v175, rfl, hk⟩; exact f15n4_ok f _ _ _ _ _ hk)
  rcases Qg h with ⟨h177, h⟩ | ⟨h177, h⟩
  ·obtain ⟨x185, h186, h⟩ := Qe h
   obtain ⟨x187, h188, h⟩ := Qe h
   rcases Qg h with ⟨h189, h⟩ | ⟨h189, h⟩
   ·obtain rfl := Qf h
    exact rK Qi 2 [([], [], [(2, .val (jI (bj2.length : Int)))]), ([], [(2, .at_ (Int.toNat v174)), (4, .idx 0 (Qb.cells x185)), jH 5 (jI x187)], []), j3] [some true, some true] [] [0] [6, 7, 8] .ret ((f15n4E be1 bj2 bg3 .ret).2) (ap (Qo (xs := bj2) (c := Qb.cells)) (ap h177 (ap (Qh h186).1 (ap (Qay Qb.cells (Qh h186).2) (ap (Ql Qb.cells (Qh h186).2) (ap (f43_ok x185.Amount h188) (ap h189 an))))))) (Qs.out rfl rfl)
   ·rcases Qg h with ⟨h190, h⟩ | ⟨h190, h⟩
    ·exact rE Qi [([], [], [(2, .val (jI (bj2.length : Int)))]), ([], [(2, .at_ (Int.toNat v174)), (4, .idx 0 (Qb.cells x185)), jH 5 (jI x187)], []), ([], [(2, .at_ (Int.toNat v174)), (4, .idx 0 (Qb.cells x185))], []), j3] [some true, some false, some false] [] [0, 1, 2, 3, 4] [6, 9, 10, 15, 16] (.norm, (f15n4S be1 bj2 bg3 (wr64 (v174 + 1)) v175)) (ap (Qo (xs := bj2) (c := Qb.cells)) (ap h177 (ap (Qh h186).1 (ap (Qay Qb.cells (Qh h186).2) (ap (Ql Qb.cells (Qh h186).2) (ap (f43_ok x185.Amount h188) (ap h189 (ap (Qh h186).1 (ap (Qay Qb.cells (Qh h186).2) (ap (Ql Qb.cells (Qh h186).2) (ap (Qk h190) an))))))))))) (Qs.norm ⟨(wr64 (v174 + 1)), v175, rfl, h⟩)
    ·obtain ⟨h191, h⟩ := Qz h
     exact rE Qi [([], [], [(2, .val (jI (bj2.length : Int)))]), ([], [(2, .at_ (Int.toNat v174)), (4, .idx 0 (Qb.cells x185)), jH 5 (jI x187)], []), ([], [(2, .at_ (Int.toNat v174)), (4, .idx 0 (Qb.cells x185))], []), ([], [(3, .at_ (Int.toNat v174)), (4, .idx 0 (Qb.cells x185)), (6, .fits)], [(6, .row 6 ((v175 ++ [x185]).map Qb.cells))]), j3] [some true, some false, some true] [] [0, 1, 2, 6, 4] [6, 9, 10, 15, 16] (.norm, (f15n4S be1 bj2 bg3 (wr64 (v174 + 1)) (v175 ++ [x185]))) (ap (Qo (xs := bj2) (c := Qb.cells)) (ap h177 (ap (Qh h186).1 (ap (Qay Qb.cells (Qh h186).2) (ap (Ql Qb.cells (Qh h186).2) (ap (f43_ok x185.Amount h188) (ap h189 (ap (Qh h186).1 (ap (Qay Qb.cells (Qh h186).2) (ap (Ql Qb.cells (Qh h186).2) (ap (Qr h190) (ap (Qh h186).1 (ap (Qay Qb.cells (Qh h186).2) (ap (Ql Qb.cells (Qh h186).2) (ap (Qaw (te := ti48) (xs := v175) (n := 1) (c := Qb.cells) h191 rfl) (ap (Qcg (xs := v175) (ys := [x185]) (c := Qb.cells)) an)))))))))))))))) (Qs.norm ⟨(wr64 (v174 + 1)), (v175 ++ [x185]), rfl, h⟩)
  ·obtain rfl := Qf h
   exact rK Qi 1 [([], [], [(2, .val (jI (bj2.length : Int)))])] [some false] [] [0, 1, 3, 4] [6, 9, 15] (.exit 2) ((f15n4E be1 bj2 bg3 (.exit2 v175)).2) (ap (Qo (xs := bj2) (c := Qb.cells)) (ap h177 an)) (Qs.out rfl rfl)
noncomputable def f15n4L (be1 : Int) (bj2 : List Qb) (bg3 : List Qa) : List Qb → Int → (List Qb) → Option f15n4O
 | [], v174, v175 =>
  some (.exit2 v175)
 | x0 :: rest, v174, v175 =>
  (f43 x0.Amount).bind fun x187 =>
  bif (decide (1125899906842624 < x187)) then
   some .ret
  else
   bif (decide (x0.Amount = 0)) then
    (f15n4L be1 bj2 bg3 rest (v174 + 1) v175)
   else
    req (fit (v175.length + 1) 24) <|
    (f15n4L be1 bj2 bg3 rest (v174 + 1) (v175 ++ [x0]))
theorem f15n4L_eq (be1 : Int) (bj2 : List Qb) (bg3 : List Qa) : ∀ (rest : List Qb) (f k : Nat) (v175 : List Qb), bj2.drop k = rest → bj2.length ≤ maxLen → rest.length < f → f15n4 f be1 bj2 bg3 (k : Int) v175 = f15n4L be1 bj2 bg3 rest (k : Int) v175
 | _, 0, _, _, _, _, hf => absurd hf (Nat.not_lt_zero _)
 | [], f + 1, k, v175, hd, hm, hf => by
  have hk : ¬ ((k : Int) < (bj2.length : Int)) := by have := Qai hd; omega
  rw [f15n4, f15n4L]
  simp only [decide_eq_false hk, cond_false]
 | x0 :: rest, f + 1, k, v175, hd, hm, hf => by
  obtain ⟨hx, hlt, hd'⟩ := Qab hd
  have hk : (k : Int) < (bj2.length : Int) := by omega
  have hw : wr64 ((k : Int) + 1) = (k : Int) + 1 := Qbe (by omega) (by unfold maxLen at hm; omega)
  have ih : ∀ (v175 : List Qb), f15n4 f be1 bj2 bg3 ((k : Int) + 1) v175 = f15n4L be1 bj2 bg3 rest ((k : Int) + 1) v175 := fun v175 => f15n4L_eq be1 bj2 bg3 rest f (k + 1) v175 hd' hm (by simpa using hf)
  rw [f15n4, f15n4L]
  simp only [decide_eq_true hk, cond_true, Qah, hx, Option.bind_some, hw, ih]
theorem f15n4_run (be1 : Int) (bj2 : List Qb) (bg3 : List Qa) (v175 : List Qb) (hm : bj2.length ≤ maxLen) : f15n4 FUEL be1 bj2 bg3 0 v175 = f15n4L be1 bj2 bg3 bj2 0 v175 := f15n4L_eq be1 bj2 bg3 bj2 FUEL 0 v175 List.drop_zero hm (Qat hm)
inductive f15n3O where
 | norm (v196 : List Qb)
 | ret
def f15n3E (be1 : Int) (bj2 : List Qb) (bg3 : List Qa) : f15n3O → Ex × Tr × Hp
 | .norm v196 => (.norm, mkS [(6, (.bp 0 0)), (9, (.bp 1 0)), (15, (.own 2))], [some (.box [(jI 0), (.pl (.sl .nil 0 []))]), some (.box [(jI be1), (.own 3)]), jR 2 Qb.cells v196, jR 4 Qa.cells bg3])
 | .ret => (.ret, mkS [(6, (.bp 0 0)), (7, (.pl (.sl .nil 0 []))), (8, (jI 14))], [some (.box [(jI 0), (.pl (.sl .nil 0 []))])])
def f15n3S (be1 : Int) (bj2 : List Qb) (bg3 : List Qa) : Tr × Hp := (mkS [(6, (.bp 0 0)), (9, (.bp 1 0)), (10, (.own 2)), (15, (.pl (.sl .nil 0 [])))], [some (.box [(jI 0), (.pl (.sl .nil 0 []))]), some (.box [(jI be1), (.own 3)]), jR 2 Qb.cells bj2, jR 4 Qa.cells bg3])
noncomputable def f15n3 (be1 : Int) (bj2 : List Qb) (bg3 : List Qa) : Option f15n3O :=
 (f15n4 FUEL be1 bj2 bg3 0 []).bind fun o193 => match o193 with
 | .exit2 v195 => some (.norm v195)
 | .ret => some .ret
theorem f15n3_ok (be1 : Int) (bj2 : List Qb) (bg3 : List Qa) {o : f15n3O} (h : (f15n3 be1 bj2 bg3) = some o) : T Try.prog Try.f15.ntmps 0 (cL (Qn 1 (Qn 1 (Qn 6 c15)))) (f15n3S be1 bj2 bg3) (fun r => r = f15n3E be1 bj2 bg3 o) := by
 unfold f15n3 at h
 refine rN Qi 1 [j3] [] [.mat 15 2] [0, 1, 2, 4, 3] [6, 9, 10, 15, 16] (f15n4S be1 bj2 bg3 0 []) an ?_
 obtain ⟨o193, h194, h⟩ := Qe h
 cases o193 with
 | exit2 v195 =>
  obtain rfl := Qf h
  exact T.last' (T.bl (i := 2) (by kernel_rfl) (by kernel_rfl) (f15n4_ok FUEL be1 bj2 bg3 0 [] h194)) (tds := []) (m := [0, 1, 2, 3]) (keep := [6, 9, 15]) (st2 := (f15n3E be1 bj2 bg3 (.norm v195)).2) (by kernel_rfl) an rfl
 | ret =>
  obtain rfl := Qf h
  exact T.last' (T.bl (i := 2) (by kernel_rfl) (by kernel_rfl) (f15n4_ok FUEL be1 bj2 bg3 0 [] h194)) (tds := []) (m := [0]) (keep := [6, 7, 8]) (st2 := (f15n3E be1 bj2 bg3 .ret).2) (by kernel_rfl) an rfl
inductive f15n0O where
 | ret (v200 : Int) (v201 : Int) (v202 : List Qb) (v203 : List Qa)
def f15n0E (a1 : Qd) (a2 : Int) (a3 : List Qc) : f15n0O → Ex × Tr × Hp
 | .ret v200 v201 v202 v203 => (.ret, mkS [(6, (.bp 0 0)), (7, (.own 1)), (8, (jI v200))], [some (.box [(jI v201), (.own 2)]), jR 2 Qb.cells v202, jR 4 Qa.cells v203])
def f15n0S (a1 : Qd) (a2 : Int) (a3 : List Qc) : Tr × Hp := (Qal [(jA Qd.cells a1), (jI a2), (jL 2 Qc.cells a3)] 0 .leaf, [])
noncomputable def f15n0 (a1 : Qd) (a2 : Int) (a3 : List Qc) : Option f15n0O :=
 (f34 a1).bind fun x7 =>
 bif (decide (x7 = 0)) then
  bif (decide (a2 < 0)) then
   some (.ret 2 0 [] [])
  else
   bif (decide (99999 < a2)) then
    some (.ret 2 0 [] [])
   else
    (f41 a3).bind fun x17 =>
    bif x17 then
     bif (decide (a2 ≤ a1.Day)) then
      some (.ret 21 0 [] [])
     else
      (f15n1 a3 a1 a2).bind fun o138 => match o138 with
      | .norm v140 v141 => (f15n3 a2 v140 v141).bind fun o197 => match o197 with
       | .norm v199 => some (.ret 0 a2 v199 v141)
       | .ret => some (.ret 14 0 [] [])
      | .ret => some (.ret 30 0 [] [])
    else
     some (.ret 2 0 [] [])
 else
  some (.ret 8 0 [] [])
theorem f15n0_ok (a1 : Qd) (a2 : Int) (a3 : List Qc) {o : f15n0O} (h : (f15n0 a1 a2 a3) = some o) : T Try.prog Try.f15.ntmps 0 c15 (f15n0S a1 a2 a3) (fun r => r = f15n0E a1 a2 a3 o) := by
 unfold f15n0 at h
 obtain ⟨x7, h8, h⟩ := Qe h
 rcases Qg h with ⟨h9, h⟩ | ⟨h9, h⟩
 ·rcases Qg h with ⟨h15, h⟩ | ⟨h15, h⟩
  ·obtain rfl := Qf h
   exact rK Qi 3 [j3, ([], [jH 1 (jI x7)], []), ([(3, true), (4, true)], [(5, .bool true)], []), j3] [some false, none] [.mat 7 2, .matC 1 1 4] [1, 2, 3] [6, 7, 8] .ret ((f15n0E a1 a2 a3 (.ret 2 0 [] [])).2) (ap (Qcs a1 h8) (ap (Qk h9) (ap3 h15 an))) rfl
  ·rcases Qg h with ⟨h16, h⟩ | ⟨h16, h⟩
   ·obtain rfl := Qf h
    exact rK Qi 3 [j3, ([], [jH 1 (jI x7)], []), (jF [3, 4] ++ jT [7, 8, 9], [(5, .bool false), (10, .bool true)], []), j3] [some false, none] [.mat 7 2, .matC 1 1 4] [1, 2, 3] [6, 7, 8] .ret ((f15n0E a1 a2 a3 (.ret 2 0 [] [])).2) (ap (Qcs a1 h8) (ap (Qk h9) (ap3 h15 (ap4 h16 an)))) rfl
   ·obtain ⟨x17, h18, h⟩ := Qe h
    rcases Qg h with ⟨h19, h⟩ | ⟨h19, h⟩
    ·rcases Qg h with ⟨h21, h⟩ | ⟨h21, h⟩
     ·obtain rfl := Qf h
      exact rK Qi 4 [j3, ([], [jH 1 (jI x7)], []), (jF [3, 4, 7, 8, 9], [(5, .bool false), jH 8 (jB x17), (10, .bool false)], []), j3, j3] [some false, some false, some true] [.mat 7 2, .matC 1 1 4] [1, 2, 3] [6, 7, 8] .ret ((f15n0E a1 a2 a3 (.ret 21 0 [] [])).2) (ap (Qcs a1 h8) (ap (Qk h9) (ap3 h15 (ap4 h16 (ap (f41_ok a3 h18) (ap (Qk h19) (ap h21 an))))))) rfl
     ·refine rN Qi 6 [j3, ([], [jH 1 (jI x7)], []), (jF [3, 4, 7, 8, 9], [(5, .bool false), jH 8 (jB x17), (10, .bool false)], []), j3, j3, j3] [some false, some false, some false] [] [0, 1, 2] [2, 3, 6, 9, 10] (f15n1S a3 a1 a2) (ap (Qcs a1 h8) (ap (Qk h9) (ap3 h15 (ap4 h16 (ap (f41_ok a3 h18) (ap (Qk h19) (ap h21 an))))))) ?_
      obtain ⟨o138, h139, h⟩ := Qe h
      cases o138 with
      | norm v140 v141 =>
       refine T.oneN (by kernel_rfl) (f15n1_ok a3 a1 a2 h139) (st2 := (f15n1E a3 a1 a2 (.norm v140 v141)).2) rfl ?_
       refine rN Qi 1 [j3] [] [] [0, 1, 2, 3] [6, 9, 10, 15] (f15n3S a2 v140 v141) an ?_
       obtain ⟨o197, h198, h⟩ := Qe h
       cases o197 with
       | norm v199 =>
        refine T.oneN (by kernel_rfl) (f15n3_ok a2 v140 v141 h198) (st2 := (f15n3E a2 v140 v141 (.norm v199)).2) rfl ?_
        obtain rfl := Qf h
        exact rE Qi [j3] [] [] [0, 2, 3] [6, 7, 8] (.ret, (f15n0E a1 a2 a3 (.ret 0 a2 v199 v141)).2) an rfl
       | ret =>
        obtain rfl := Qf h
        exact T.oneX' (by kernel_rfl) (f15n3_ok a2 v140 v141 h198) (tds := [.mat 7 2, .matC 0 1 4]) (m := [0, 1, 2]) (keep := [6, 7, 8]) (st2 := (f15n0E a1 a2 a3 (.ret 14 0 [] [])).2) (by kernel_rfl) an rfl rfl
      | ret =>
       obtain rfl := Qf h
       exact T.oneX' (by kernel_rfl) (f15n1_ok a3 a1 a2 h139) (tds := [.mat 7 2, .matC 0 1 4]) (m := [0, 1, 2]) (keep := [6, 7, 8]) (st2 := (f15n0E a1 a2 a3 (.ret 30 0 [] [])).2) (by kernel_rfl) an rfl rfl
    ·obtain rfl := Qf h
     exact rK Qi 3 [j3, ([], [jH 1 (jI x7)], []), (jF [3, 4, 7, 8, 9], [(5, .bool false), jH 8 (jB x17), (10, .bool false)], []), j3] [some false, some true] [.mat 7 2, .matC 1 1 4] [1, 2, 3] [6, 7, 8] .ret ((f15n0E a1 a2 a3 (.ret 2 0 [] [])).2) (ap (Qcs a1 h8) (ap (Qk h9) (ap3 h15 (ap4 h16 (ap (f41_ok a3 h18) (ap (Qr h19) an)))))) rfl
 ·obtain rfl := Qf h
  exact rK Qi 2 [j3, ([], [jH 1 (jI x7)], []), j3] [some true] [.mat 7 2, .matC 1 1 4] [1, 2, 3] [6, 7, 8] .ret ((f15n0E a1 a2 a3 (.ret 8 0 [] [])).2) (ap (Qcs a1 h8) (ap (Qr h9) an)) rfl
noncomputable def f15 (a1 : Qd) (a2 : Int) (a3 : List Qc) : Option (Qd × (List Qb) × Int) := (f15n0 a1 a2 a3).bind fun o => match o with
 | .ret v200 v201 v202 v203 => some ((Qd.mk v201 v203), v202, v200)
theorem f15_ok (a1 : Qd) (a2 : Int) (a3 : List Qc) {r : Qd × (List Qb) × Int} (h : (f15 a1 a2 a3) = some r) : Qq Try.prog false 15 [(jA Qd.cells a1), (jI a2), (jL 2 Qc.cells a3)] [] (.tup [(jA Qd.cells r.1), (jL 2 Qb.cells r.2.1), (jI r.2.2)]) [] := by
 unfold f15 at h
 obtain ⟨o, ho, h⟩ := Qe h
 cases o with
 | ret v200 v201 v202 v203 =>
  obtain rfl := Qf h
  exact Qq.plain Qi (f := Try.f15) (c := c15) (by kernel_rfl) (by kernel_rfl) (by kernel_rfl) (by kernel_rfl) ((f15n0_ok a1 a2 a3 ho).mono fun r e => by subst e; exact ⟨.inl rfl, (.tup [(.agg [(jI v201), (.own 2)]), (.own 1), (jI v200)]), (.tup [(.pl (.agg (Qd.cells (Qd.mk v201 v203)))), (jL 2 Qb.cells v202), (jI v200)]), by kernel_rfl, by kernel_rfl, ((Wk.refl _) : Wk (.tup [(.pl (.agg (Qd.cells (Qd.mk v201 v203)))), (jL 2 Qb.cells v202), (jI v200)]) (.tup [(.pl (.agg (Qd.cells (Qd.mk v201 v203)))), (jL 2 Qb.cells v202), (jI v200)]))⟩)

noncomputable def c52 : Code := Try.f52.body.getD .skip
inductive f52r1n0O where
 | ret (v6 : Bool)
def f52r1n0E (a1 : Qa) (a2 : ByteArray) (a3 : ByteArray) : f52r1n0O → Ex × Tr × Hp
 | .ret v6 => (.ret, mkS [(4, (jB v6))], [some (.box ((cStr a2).map .pl)), some (.box ((cStr a3).map .pl))])
def f52r1n0S (a1 : Qa) (a2 : ByteArray) (a3 : ByteArray) : Tr × Hp := (Qal [(jA Qa.cells a1), (.bp 0 0), (.bp 1 0)] 0 .leaf, [some (.box ((cStr a2).map .pl)), some (.box ((cStr a3).map .pl))])
noncomputable def f52r1n0 (a1 : Qa) (a2 : ByteArray) (a3 : ByteArray) : Option f52r1n0O :=
 bif (seq a1.Member a2) then
  some (.ret (seq a1.Product a3))
 else
  some (.ret false)
theorem f52r1n0_ok (a1 : Qa) (a2 : ByteArray) (a3 : ByteArray) {o : f52r1n0O} (h : (f52r1n0 a1 a2 a3) = some o) : T Try.prog Try.f52.ntmps 2 c52 (f52r1n0S a1 a2 a3) (fun r => r = f52r1n0E a1 a2 a3 o) := by
 unfold f52r1n0 at h
 rcases Qg h with ⟨h5, h⟩ | ⟨h5, h⟩
 ·obtain rfl := Qf h
  exact rE Qi [j3, (jT [5, 6, 7, 8], [(9, .bool true)], [])] [] [] [] [4] (.ret, (f52r1n0E a1 a2 a3 (.ret (seq a1.Product a3))).2) (ap h5 (ap4 h5 an)) rfl
 ·obtain rfl := Qf h
  exact rE Qi [j3, (jF [5, 6, 7, 8], [(9, .bool false)], [])] [] [] [] [4] (.ret, (f52r1n0E a1 a2 a3 (.ret false)).2) (ap h5 (ap4 h5 an)) rfl
noncomputable def f52r1 (a1 : Qa) (a2 : ByteArray) (a3 : ByteArray) : Option Bool := (f52r1n0 a1 a2 a3).bind fun o => match o with
 | .ret v6 => some v6
theorem f52r1_ok (a1 : Qa) (a2 : ByteArray) (a3 : ByteArray) {r : Bool} (h : (f52r1 a1 a2 a3) = some r) : Qq Try.prog true 52 [(jA Qa.cells a1), (.bp 0 0), (.bp 1 0)] [some (.box ((cStr a2).map .pl)), some (.box ((cStr a3).map .pl))] (jB r) [some (.box ((cStr a2).map .pl)), some (.box ((cStr a3).map .pl))] := by
 unfold f52r1 at h
 obtain ⟨o, ho, h⟩ := Qe h
 cases o with
 | ret v6 =>
  obtain rfl := Qf h
  exact Qq.shared Qi (f := Try.f52) (c := c52) (by kernel_rfl) (by kernel_rfl) (by kernel_rfl) ((f52r1n0_ok a1 a2 a3 ho).mono fun r e => by subst e; exact ⟨.inl rfl, by kernel_rfl, by kernel_rfl⟩)

noncomputable def c51 : Code := Try.f51.body.getD .skip
inductive f51r1n2O where
 | exit0
 | ret (v42 : Int)
def f51r1n2E (bg1 : List Qa) (bb2 : ByteArray) (bb3 : ByteArray) : f51r1n2O → Ex × Tr × Hp
 | .exit0 => ((.exit 0), mkS [], [some (.box ((cStr bb2).map .pl)), some (.box ((cStr bb3).map .pl))])
 | .ret v42 => (.ret, mkS [(4, (jI v42))], [some (.box ((cStr bb2).map .pl)), some (.box ((cStr bb3).map .pl))])
def f51r1n2S (bg1 : List Qa) (bb2 : ByteArray) (bb3 : ByteArray) (v29 : Int) : Tr × Hp := (mkS [(0, (jL 4 Qa.cells bg1)), (1, (.clo 52 [(.bp 0 0), (.bp 1 0)])), (7, (jI (bg1.length : Int))), (8, (jI v29))], [some (.box ((cStr bb2).map .pl)), some (.box ((cStr bb3).map .pl))])
noncomputable def f51r1n2 : Nat → List Qa → ByteArray → ByteArray → Int → Option f51r1n2O
 | 0, _, _, _, _ => none
 | f + 1, bg1, bb2, bb3, v29 =>
  bif (decide (v29 < (bg1.length : Int))) then
   (at? bg1 v29).bind fun x37 =>
   (f52r1 x37 bb2 bb3).bind fun x39 =>
   bif x39 then
    some (.ret v29)
   else
    (f51r1n2 f bg1 bb2 bb3 (wr64 (v29 + 1)))
  else
   some .exit0
theorem f51r1n2_ok : ∀ (f : Nat) (bg1 : List Qa) (bb2 : ByteArray) (bb3 : ByteArray) (v29 : Int) {o : f51r1n2O}, (f51r1n2 f bg1 bb2 bb3 v29) = some o → TL Try.prog Try.f51.ntmps 2 f (cL (cL (Qn 1 (cL (Qn 1 c51))))) (f51r1n2S bg1 bb2 bb3 v29) (fun r => r = f51r1n2E bg1 bb2 bb3 o)
 | 0, _, _, _, _, o, h => by rw [f51r1n2] at h; cases h
 | f + 1, bg1, bb2, bb3, v29, o, h => by
  rw [f51r1n2] at h
  refine TL.body (K := fun s => ∃ v29 : Int, s = (f51r1n2S bg1 bb2 bb3 v29) ∧ (f51r1n2 f bg1 bb2 bb3 v29) = some o) ?_ (by rintro _ ⟨v29, rfl, hk⟩; exact f51r1n2_ok f _ _ _ _ hk)
  rcases Qg h with ⟨h31, h⟩ | ⟨h31, h⟩
  ·obtain ⟨x37, h38, h⟩ := Qe h
   obtain ⟨x39, h40, h⟩ := Qe h
   rcases Qg h with ⟨h41, h⟩ | ⟨h41, h⟩
   ·obtain rfl := Qf h
    exact rK Qi 3 [j3, j3, ([], [(3, .idx (Int.toNat v29) (Qa.cells x37)), (5, .call (jB x39) [some (.box ((cStr bb2).map .pl)), some (.box ((cStr bb3).map .pl))])], []), j3] [some true, some true] [] [] [4] .ret ((f51r1n2E bg1 bb2 bb3 (.ret v29)).2) (ap h31 (ap (Qh h38).1 (ap (Ql Qa.cells (Qh h38).2) (ap (f52r1_ok x37 bb2 bb3 h40) (ap h41 an))))) (Qs.out rfl rfl)
   ·exact rE Qi [j3, j3, ([], [(3, .idx (Int.toNat v29) (Qa.cells x37)), (5, .call (jB x39) [some (.box ((cStr bb2).map .pl)), some (.box ((cStr bb3).map .pl))])], []), j3] [some true, some false] [] [] [0, 1, 7, 8] (.norm, (f51r1n2S bg1 bb2 bb3 (wr64 (v29 + 1)))) (ap h31 (ap (Qh h38).1 (ap (Ql Qa.cells (Qh h38).2) (ap (f52r1_ok x37 bb2 bb3 h40) (ap h41 an))))) (Qs.norm ⟨(wr64 (v29 + 1)), rfl, h⟩)
  ·obtain rfl := Qf h
   exact rK Qi 2 [j3] [some false] [] [] [] (.exit 0) ((f51r1n2E bg1 bb2 bb3 .exit0).2) (ap h31 an) (Qs.out rfl rfl)
noncomputable def f51r1n2L (bg1 : List Qa) (bb2 : ByteArray) (bb3 : ByteArray) : List Qa → Int → Option f51r1n2O
 | [], v29 =>
  some .exit0
 | x0 :: rest, v29 =>
  (f52r1 x0 bb2 bb3).bind fun x39 =>
  bif x39 then
   some (.ret v29)
  else
   (f51r1n2L bg1 bb2 bb3 rest (v29 + 1))
theorem f51r1n2L_eq (bg1 : List Qa) (bb2 : ByteArray) (bb3 : ByteArray) : ∀ (rest : List Qa) (f k : Nat), bg1.drop k = rest → bg1.length ≤ maxLen → rest.length < f → f51r1n2 f bg1 bb2 bb3 (k : Int) = f51r1n2L bg1 bb2 bb3 rest (k : Int)
 | _, 0, _, _, _, hf => absurd hf (Nat.not_lt_zero _)
 | [], f + 1, k, hd, hm, hf => by
  have hk : ¬ ((k : Int) < (bg1.length : Int)) := by have := Qai hd; omega
  rw [f51r1n2, f51r1n2L]
  simp only [decide_eq_false hk, cond_false]
 | x0 :: rest, f + 1, k, hd, hm, hf => by
  obtain ⟨hx, hlt, hd'⟩ := Qab hd
  have hk : (k : Int) < (bg1.length : Int) := by omega
  have hw : wr64 ((k : Int) + 1) = (k : Int) + 1 := Qbe (by omega) (by unfold maxLen at hm; omega)
  have ih : f51r1n2 f bg1 bb2 bb3 ((k : Int) + 1) = f51r1n2L bg1 bb2 bb3 rest ((k : Int) + 1) := f51r1n2L_eq bg1 bb2 bb3 rest f (k + 1) hd' hm (by simpa using hf)
  rw [f51r1n2, f51r1n2L]
  simp only [decide_eq_true hk, cond_true, Qah, hx, Option.bind_some, hw, ih]
theorem f51r1n2_run (bg1 : List Qa) (bb2 : ByteArray) (bb3 : ByteArray) (hm : bg1.length ≤ maxLen) : f51r1n2 FUEL bg1 bb2 bb3 0 = f51r1n2L bg1 bb2 bb3 bg1 0 := f51r1n2L_eq bg1 bb2 bb3 bg1 FUEL 0 List.drop_zero hm (Qat hm)
inductive f51r1n1O where
 | norm
 | ret (v46 : Int)
def f51r1n1E (bg1 : List Qa) (bb2 : ByteArray) (bb3 : ByteArray) : f51r1n1O → Ex × Tr × Hp
 | .norm => (.norm, mkS [], [some (.box ((cStr bb2).map .pl)), some (.box ((cStr bb3).map .pl))])
 | .ret v46 => (.ret, mkS [(4, (jI v46))], [some (.box ((cStr bb2).map .pl)), some (.box ((cStr bb3).map .pl))])
def f51r1n1S (bg1 : List Qa) (bb2 : ByteArray) (bb3 : ByteArray) : Tr × Hp := (mkS [(0, (jL 4 Qa.cells bg1)), (1, (.clo 52 [(.bp 0 0), (.bp 1 0)]))], [some (.box ((cStr bb2).map .pl)), some (.box ((cStr bb3).map .pl))])
noncomputable def f51r1n1 (bg1 : List Qa) (bb2 : ByteArray) (bb3 : ByteArray) : Option f51r1n1O :=
 (f51r1n2 FUEL bg1 bb2 bb3 0).bind fun o43 => match o43 with
 | .exit0 => some .norm
 | .ret v45 => some (.ret v45)
theorem f51r1n1_ok (bg1 : List Qa) (bb2 : ByteArray) (bb3 : ByteArray) {o : f51r1n1O} (h : (f51r1n1 bg1 bb2 bb3) = some o) : T Try.prog Try.f51.ntmps 2 (cL (Qn 1 c51)) (f51r1n1S bg1 bb2 bb3) (fun r => r = f51r1n1E bg1 bb2 bb3 o) := by
 unfold f51r1n1 at h
 refine rN Qi 1 [([], [], [(1, .val (jI (bg1.length : Int)))])] [] [] [] [0, 1, 7, 8] (f51r1n2S bg1 bb2 bb3 0) (ap (Qo (xs := bg1) (c := Qa.cells)) an) ?_
 obtain ⟨o43, h44, h⟩ := Qe h
 cases o43 with
 | exit0 =>
  obtain rfl := Qf h
  exact T.last' (T.bl (i := 0) (by kernel_rfl) (by kernel_rfl) (f51r1n2_ok FUEL bg1 bb2 bb3 0 h44)) (tds := []) (m := []) (keep := []) (st2 := (f51r1n1E bg1 bb2 bb3 .norm).2) (by kernel_rfl) an rfl
 | ret v45 =>
  obtain rfl := Qf h
  exact T.last' (T.bl (i := 0) (by kernel_rfl) (by kernel_rfl) (f51r1n2_ok FUEL bg1 bb2 bb3 0 h44)) (tds := []) (m := []) (keep := [4]) (st2 := (f51r1n1E bg1 bb2 bb3 (.ret v45)).2) (by kernel_rfl) an rfl
inductive f51r1n0O where
 | ret (v50 : Int)
def f51r1n0E (a1 : List Qa) (a2 : ByteArray) (a3 : ByteArray) : f51r1n0O → Ex × Tr × Hp
 | .ret v50 => (.ret, mkS [(4, (jI v50))], [some (.box ((cStr a2).map .pl)), some (.box ((cStr a3).map .pl))])
def f51r1n0S (a1 : List Qa) (a2 : ByteArray) (a3 : ByteArray) : Tr × Hp := (Qal [(jL 4 Qa.cells a1), (.clo 52 [(.bp 0 0), (.bp 1 0)])] 0 .leaf, [some (.box ((cStr a2).map .pl)), some (.box ((cStr a3).map .pl))])
noncomputable def f51r1n0 (a1 : List Qa) (a2 : ByteArray) (a3 : ByteArray) : Option f51r1n0O :=
 (f51r1n1 a1 a2 a3).bind fun o47 => match o47 with
 | .norm => some (.ret (-1))
 | .ret v49 => some (.ret v49)
theorem f51r1n0_ok (a1 : List Qa) (a2 : ByteArray) (a3 : ByteArray) {o : f51r1n0O} (h : (f51r1n0 a1 a2 a3) = some o) : T Try.prog Try.f51.ntmps 2 c51 (f51r1n0S a1 a2 a3) (fun r => r = f51r1n0E a1 a2 a3 o) := by
 unfold f51r1n0 at h
 refine rN Qi 1 [j3] [] [] [] [0, 1] (f51r1n1S a1 a2 a3) an ?_
 obtain ⟨o47, h48, h⟩ := Qe h
 cases o47 with
 | norm =>
  refine T.oneN (by kernel_rfl) (f51r1n1_ok a1 a2 a3 h48) (st2 := (f51r1n1E a1 a2 a3 .norm).2) rfl ?_
  obtain rfl := Qf h
  exact rE Qi [j3] [] [] [] [4] (.ret, (f51r1n0E a1 a2 a3 (.ret (-1))).2) an rfl
 | ret v49 =>
  obtain rfl := Qf h
  exact T.oneX' (by kernel_rfl) (f51r1n1_ok a1 a2 a3 h48) (tds := []) (m := []) (keep := [4]) (st2 := (f51r1n0E a1 a2 a3 (.ret v49)).2) (by kernel_rfl) an rfl rfl
noncomputable def f51r1 (a1 : List Qa) (a2 : ByteArray) (a3 : ByteArray) : Option Int := (f51r1n0 a1 a2 a3).bind fun o => match o with
 | .ret v50 => some v50
theorem f51r1_ok (a1 : List Qa) (a2 : ByteArray) (a3 : ByteArray) {r : Int} (h : (f51r1 a1 a2 a3) = some r) : Qq Try.prog true 51 [(jL 4 Qa.cells a1), (.clo 52 [(.bp 0 0), (.bp 1 0)])] [some (.box ((cStr a2).map .pl)), some (.box ((cStr a3).map .pl))] (jI r) [some (.box ((cStr a2).map .pl)), some (.box ((cStr a3).map .pl))] := by
 unfold f51r1 at h
 obtain ⟨o, ho, h⟩ := Qe h
 cases o with
 | ret v50 =>
  obtain rfl := Qf h
  exact Qq.shared Qi (f := Try.f51) (c := c51) (by kernel_rfl) (by kernel_rfl) (by kernel_rfl) ((f51r1n0_ok a1 a2 a3 ho).mono fun r e => by subst e; exact ⟨.inl rfl, by kernel_rfl, by kernel_rfl⟩)

noncomputable def c22 : Code := Try.f22.body.getD .skip
inductive f22n0O where
 | ret (v14 : Bool) (v15 : Qa)
def f22n0E (a1 : Qd) (a2 : ByteArray) (a3 : ByteArray) : f22n0O → Ex × Tr × Hp
 | .ret v14 v15 => (.ret, mkS [(6, (.bp 0 0)), (7, (jB v14))], [some (.box ((Qa.cells v15).map .pl))])
def f22n0S (a1 : Qd) (a2 : ByteArray) (a3 : ByteArray) : Tr × Hp := (Qal [(jA Qd.cells a1), (jS a2), (jS a3)] 0 .leaf, [])
noncomputable def f22n0 (a1 : Qd) (a2 : ByteArray) (a3 : ByteArray) : Option f22n0O :=
 (f51r1 a1.Positions a2 a3).bind fun x6 =>
 bif (decide (x6 < 0)) then
  some (.ret false (Qa.mk str_x str_x 0 0))
 else
  (at? a1.Positions x6).bind fun x12 =>
  some (.ret true x12)
theorem f22n0_ok (a1 : Qd) (a2 : ByteArray) (a3 : ByteArray) {o : f22n0O} (h : (f22n0 a1 a2 a3) = some o) : T Try.prog Try.f22.ntmps 0 c22 (f22n0S a1 a2 a3) (fun r => r = f22n0E a1 a2 a3 o) := by
 unfold f22n0 at h
 obtain ⟨x6, h7, h⟩ := Qe h
 rcases Qg h with ⟨h9, h⟩ | ⟨h9, h⟩
 ·obtain rfl := Qf h
  exact rK Qi 3 [j3, ([], [(3, .call (jI x6) [none, some (.box ((cStr a2).map .pl)), some (.box ((cStr a3).map .pl)), none])], []), j3, j3] [some true] [] [3] [6, 7] .ret ((f22n0E a1 a2 a3 (.ret false (Qa.mk str_x str_x 0 0))).2) (ap (Qq.rn 4 [1, 2] (f51r1_ok a1.Positions a2 a3 h7)) (ap h9 an)) rfl
 ·obtain ⟨x12, h13, h⟩ := Qe h
  obtain rfl := Qf h
  exact rE Qi [j3, ([], [(3, .call (jI x6) [none, some (.box ((cStr a2).map .pl)), some (.box ((cStr a3).map .pl)), none])], []), j3, ([], [(3, .idx (Int.toNat x6) (Qa.cells x12))], [])] [some false] [] [3] [6, 7] (.ret, (f22n0E a1 a2 a3 (.ret true x12)).2) (ap (Qq.rn 4 [1, 2] (f51r1_ok a1.Positions a2 a3 h7)) (ap h9 (ap (Qh h13).1 (ap (Ql Qa.cells (Qh h13).2) an)))) rfl
noncomputable def f22 (a1 : Qd) (a2 : ByteArray) (a3 : ByteArray) : Option (Qa × Bool) := (f22n0 a1 a2 a3).bind fun o => match o with
 | .ret v14 v15 => some (v15, v14)
theorem f22_ok (a1 : Qd) (a2 : ByteArray) (a3 : ByteArray) {r : Qa × Bool} (h : (f22 a1 a2 a3) = some r) : Qq Try.prog false 22 [(jA Qd.cells a1), (jS a2), (jS a3)] [] (.tup [(jA Qa.cells r.1), (jB r.2)]) [] := by
 unfold f22 at h
 obtain ⟨o, ho, h⟩ := Qe h
 cases o with
 | ret v14 v15 =>
  obtain rfl := Qf h
  exact Qq.plain Qi (f := Try.f22) (c := c22) (by kernel_rfl) (by kernel_rfl) (by kernel_rfl) (by kernel_rfl) ((f22n0_ok a1 a2 a3 ho).mono fun r e => by subst e; exact ⟨.inl rfl, (.tup [(jA Qa.cells v15), (jB v14)]), (.tup [(jA Qa.cells v15), (jB v14)]), by kernel_rfl, by kernel_rfl, ((Wk.refl _) : Wk (.tup [(jA Qa.cells v15), (jB v14)]) (.tup [(jA Qa.cells v15), (jB v14)]))⟩)

noncomputable def c31 : Code := Try.f31.body.getD .skip
inductive f31n2O where
 | exit0
 | ret (v36 : Qa)
def f31n2E (bb1 : ByteArray) (bb2 : ByteArray) (ba3 : Qd) : f31n2O → Ex × Tr × Hp
 | .exit0 => ((.exit 0), mkS [(6, (.bp 0 0))], [some (.box ((Qa.cells (Qa.mk str_x str_x 0 0)).map .pl))])
 | .ret v36 => (.ret, mkS [(6, (.bp 0 0)), (7, (jB true))], [some (.box ((Qa.cells v36).map .pl))])
def f31n2S (bb1 : ByteArray) (bb2 : ByteArray) (ba3 : Qd) (v25 : Int) : Tr × Hp := (mkS [(1, (jS bb1)), (2, (jS bb2)), (3, (.bp 0 0)), (6, (.bp 1 0)), (8, (jI v25))], [some (.box ((Qd.cells ba3).map .pl)), some (.box ((Qa.cells (Qa.mk str_x str_x 0 0)).map .pl))])
noncomputable def f31n2 : Nat → ByteArray → ByteArray → Qd → Int → Option f31n2O
 | 0, _, _, _, _ => none
 | f + 1, bb1, bb2, ba3, v25 =>
  bif (decide (v25 < (ba3.Positions.length : Int))) then
   (at? ba3.Positions v25).bind fun x32 =>
   bif (seq x32.Member bb1) then
    bif (seq x32.Product bb2) then
     some (.ret x32)
    else
     (f31n2 f bb1 bb2 ba3 (wr64 (v25 + 1)))
   else
    (f31n2 f bb1 bb2 ba3 (wr64 (v25 + 1)))
  else
   some .exit0
theorem f31n2_ok : ∀ (f : Nat) (bb1 : ByteArray) (bb2 : ByteArray) (ba3 : Qd) (v25 : Int) {o : f31n2O}, (f31n2 f bb1 bb2 ba3 v25) = some o → TL Try.prog Try.f31.ntmps 0 f (cL (cL (Qn 1 (cL (Qn 1 c31))))) (f31n2S bb1 bb2 ba3 v25) (fun r => r = f31n2E bb1 bb2 ba3 o)
 | 0, _, _, _, _, o, h => by rw [f31n2] at h; cases h
 | f + 1, bb1, bb2, ba3, v25, o, h => by
  rw [f31n2] at h
  refine TL.body (K := fun s => ∃ v25 : Int, s = (f31n2S bb1 bb2 ba3 v25) ∧ (f31n2 f bb1 bb2 ba3 v25) = some o) ?_ (by rintro _ ⟨v25, rfl, hk⟩; exact f31n2_ok f _ _ _ _ hk)
  rcases Qg h with ⟨h27, h⟩ | ⟨h27, h⟩
  ·obtain ⟨x32, h33, h⟩ := Qe h
   rcases Qg h with ⟨h34, h⟩ | ⟨h34, h⟩
   ·rcases Qg h with ⟨h35, h⟩ | ⟨h35, h⟩
    ·obtain rfl := Qf h
     exact rK Qi 2 [([], [], [(3, .val (jI (ba3.Positions.length : Int)))]), (jT [9, 10, 11, 12, 13, 14, 15, 16], [(3, .idx (Int.toNat v25) (Qa.cells x32)), (12, .idx (Int.toNat v25) (Qa.cells x32)), (17, .bool true)], []), ([], [(3, .idx (Int.toNat v25) (Qa.cells x32))], [])] [some true, some true] [] [1] [6, 7] .ret ((f31n2E bb1 bb2 ba3 (.ret x32)).2) (ap (Qo (xs := ba3.Positions) (c := Qa.cells)) (ap h27 (ap (Qh h33).1 (ap (Ql Qa.cells (Qh h33).2) (ap4 h34 (ap (Qh h33).1 (ap (Ql Qa.cells (Qh h33).2) (ap h34 (ap4 h34 (ap h35 (ap (Qh h33).1 (ap (Ql Qa.cells (Qh h33).2) an)))))))))))) (Qs.out rfl rfl)
    ·exact rE Qi [([], [], [(3, .val (jI (ba3.Positions.length : Int)))]), (jT [9, 10, 11, 12, 13, 14, 15, 16], [(3, .idx (Int.toNat v25) (Qa.cells x32)), (12, .idx (Int.toNat v25) (Qa.cells x32)), (17, .bool true)], []), j3] [some true, some false] [] [0, 1] [1, 2, 3, 6, 8] (.norm, (f31n2S bb1 bb2 ba3 (wr64 (v25 + 1)))) (ap (Qo (xs := ba3.Positions) (c := Qa.cells)) (ap h27 (ap (Qh h33).1 (ap (Ql Qa.cells (Qh h33).2) (ap4 h34 (ap (Qh h33).1 (ap (Ql Qa.cells (Qh h33).2) (ap h34 (ap4 h34 (ap h35 an)))))))))) (Qs.norm ⟨(wr64 (v25 + 1)), rfl, h⟩)
   ·exact rE Qi [([], [], [(3, .val (jI (ba3.Positions.length : Int)))]), (jF [9, 10, 11, 12, 13, 14, 15, 16], [(3, .idx (Int.toNat v25) (Qa.cells x32)), (17, .bool false)], []), j3] [some true, none] [] [0, 1] [1, 2, 3, 6, 8] (.norm, (f31n2S bb1 bb2 ba3 (wr64 (v25 + 1)))) (ap (Qo (xs := ba3.Positions) (c := Qa.cells)) (ap h27 (ap (Qh h33).1 (ap (Ql Qa.cells (Qh h33).2) (ap h34 (ap4 h34 (ap4 h34 an))))))) (Qs.norm ⟨(wr64 (v25 + 1)), rfl, h⟩)
  ·obtain rfl := Qf h
   exact rK Qi 1 [([], [], [(3, .val (jI (ba3.Positions.length : Int)))])] [some false] [] [1] [6] (.exit 0) ((f31n2E bb1 bb2 ba3 .exit0).2) (ap (Qo (xs := ba3.Positions) (c := Qa.cells)) (ap h27 an)) (Qs.out rfl rfl)
noncomputable def f31n2L (bb1 : ByteArray) (bb2 : ByteArray) (ba3 : Qd) : List Qa → Int → Option f31n2O
 | [], v25 =>
  some .exit0
 | x0 :: rest, v25 =>
  bif (seq x0.Member bb1) then
   bif (seq x0.Product bb2) then
    some (.ret x0)
   else
    (f31n2L bb1 bb2 ba3 rest (v25 + 1))
  else
   (f31n2L bb1 bb2 ba3 rest (v25 + 1))
theorem f31n2L_eq (bb1 : ByteArray) (bb2 : ByteArray) (ba3 : Qd) : ∀ (rest : List Qa) (f k : Nat), ba3.Positions.drop k = rest → ba3.Positions.length ≤ maxLen → rest.length < f → f31n2 f bb1 bb2 ba3 (k : Int) = f31n2L bb1 bb2 ba3 rest (k : Int)
 | _, 0, _, _, _, hf => absurd hf (Nat.not_lt_zero _)
 | [], f + 1, k, hd, hm, hf => by
  have hk : ¬ ((k : Int) < (ba3.Positions.length : Int)) := by have := Qai hd; omega
  rw [f31n2, f31n2L]
  simp only [decide_eq_false hk, cond_false]
 | x0 :: rest, f + 1, k, hd, hm, hf => by
  obtain ⟨hx, hlt, hd'⟩ := Qab hd
  have hk : (k : Int) < (ba3.Positions.length : Int) := by omega
  have hw : wr64 ((k : Int) + 1) = (k : Int) + 1 := Qbe (by omega) (by unfold maxLen at hm; omega)
  have ih : f31n2 f bb1 bb2 ba3 ((k : Int) + 1) = f31n2L bb1 bb2 ba3 rest ((k : Int) + 1) := f31n2L_eq bb1 bb2 ba3 rest f (k + 1) hd' hm (by simpa using hf)
  rw [f31n2, f31n2L]
  simp only [decide_eq_true hk, cond_true, Qah, hx, Option.bind_some, hw, ih]
theorem f31n2_run (bb1 : ByteArray) (bb2 : ByteArray) (ba3 : Qd) (hm : ba3.Positions.length ≤ maxLen) : f31n2 FUEL bb1 bb2 ba3 0 = f31n2L bb1 bb2 ba3 ba3.Positions 0 := f31n2L_eq bb1 bb2 ba3 ba3.Positions FUEL 0 List.drop_zero hm (Qat hm)
inductive f31n1O where
 | norm
 | ret (v40 : Qa)
def f31n1E (bb1 : ByteArray) (bb2 : ByteArray) (ba3 : Qd) : f31n1O → Ex × Tr × Hp
 | .norm => (.norm, mkS [(6, (.bp 0 0))], [some (.box ((Qa.cells (Qa.mk str_x str_x 0 0)).map .pl))])
 | .ret v40 => (.ret, mkS [(6, (.bp 0 0)), (7, (jB true))], [some (.box ((Qa.cells v40).map .pl))])
def f31n1S (bb1 : ByteArray) (bb2 : ByteArray) (ba3 : Qd) : Tr × Hp := (mkS [(1, (jS bb1)), (2, (jS bb2)), (3, (.bp 0 0)), (6, (.bp 1 0))], [some (.box ((Qd.cells ba3).map .pl)), some (.box ((Qa.cells (Qa.mk str_x str_x 0 0)).map .pl))])
noncomputable def f31n1 (bb1 : ByteArray) (bb2 : ByteArray) (ba3 : Qd) : Option f31n1O :=
 (f31n2 FUEL bb1 bb2 ba3 0).bind fun o37 => match o37 with
 | .exit0 => some .norm
 | .ret v39 => some (.ret v39)
theorem f31n1_ok (bb1 : ByteArray) (bb2 : ByteArray) (ba3 : Qd) {o : f31n1O} (h : (f31n1 bb1 bb2 ba3) = some o) : T Try.prog Try.f31.ntmps 0 (cL (Qn 1 c31)) (f31n1S bb1 bb2 ba3) (fun r => r = f31n1E bb1 bb2 ba3 o) := by
 unfold f31n1 at h
 refine rN Qi 1 [j3] [] [] [0, 1] [1, 2, 3, 6, 8] (f31n2S bb1 bb2 ba3 0) an ?_
 obtain ⟨o37, h38, h⟩ := Qe h
 cases o37 with
 | exit0 =>
  obtain rfl := Qf h
  exact T.last' (T.bl (i := 0) (by kernel_rfl) (by kernel_rfl) (f31n2_ok FUEL bb1 bb2 ba3 0 h38)) (tds := []) (m := [0]) (keep := [6]) (st2 := (f31n1E bb1 bb2 ba3 .norm).2) (by kernel_rfl) an rfl
 | ret v39 =>
  obtain rfl := Qf h
  exact T.last' (T.bl (i := 0) (by kernel_rfl) (by kernel_rfl) (f31n2_ok FUEL bb1 bb2 ba3 0 h38)) (tds := []) (m := [0]) (keep := [6, 7]) (st2 := (f31n1E bb1 bb2 ba3 (.ret v39)).2) (by kernel_rfl) an rfl
inductive f31n0O where
 | ret (v44 : Bool) (v45 : Qa)
def f31n0E (a1 : Qd) (a2 : ByteArray) (a3 : ByteArray) : f31n0O → Ex × Tr × Hp
 | .ret v44 v45 => (.ret, mkS [(6, (.bp 0 0)), (7, (jB v44))], [some (.box ((Qa.cells v45).map .pl))])
def f31n0S (a1 : Qd) (a2 : ByteArray) (a3 : ByteArray) : Tr × Hp := (Qal [(jA Qd.cells a1), (jS a2), (jS a3)] 0 .leaf, [])
noncomputable def f31n0 (a1 : Qd) (a2 : ByteArray) (a3 : ByteArray) : Option f31n0O :=
 (f31n1 a2 a3 a1).bind fun o41 => match o41 with
 | .norm => some (.ret false (Qa.mk str_x str_x 0 0))
 | .ret v43 => some (.ret true v43)
theorem f31n0_ok (a1 : Qd) (a2 : ByteArray) (a3 : ByteArray) {o : f31n0O} (h : (f31n0 a1 a2 a3) = some o) : T Try.prog Try.f31.ntmps 0 c31 (f31n0S a1 a2 a3) (fun r => r = f31n0E a1 a2 a3 o) := by
 unfold f31n0 at h
 refine rN Qi 1 [j3] [] [] [0, 1] [1, 2, 3, 6] (f31n1S a2 a3 a1) an ?_
 obtain ⟨o41, h42, h⟩ := Qe h
 cases o41 with
 | norm =>
  refine T.oneN (by kernel_rfl) (f31n1_ok a2 a3 a1 h42) (st2 := (f31n1E a2 a3 a1 .norm).2) rfl ?_
  obtain rfl := Qf h
  exact rE Qi [j3] [] [] [0] [6, 7] (.ret, (f31n0E a1 a2 a3 (.ret false (Qa.mk str_x str_x 0 0))).2) an rfl
 | ret v43 =>
  obtain rfl := Qf h
  exact T.oneX' (by kernel_rfl) (f31n1_ok a2 a3 a1 h42) (tds := []) (m := [0]) (keep := [6, 7]) (st2 := (f31n0E a1 a2 a3 (.ret true v43)).2) (by kernel_rfl) an rfl rfl
noncomputable def f31 (a1 : Qd) (a2 : ByteArray) (a3 : ByteArray) : Option (Qa × Bool) := (f31n0 a1 a2 a3).bind fun o => match o with
 | .ret v44 v45 => some (v45, v44)
theorem f31_ok (a1 : Qd) (a2 : ByteArray) (a3 : ByteArray) {r : Qa × Bool} (h : (f31 a1 a2 a3) = some r) : Qq Try.prog false 31 [(jA Qd.cells a1), (jS a2), (jS a3)] [] (.tup [(jA Qa.cells r.1), (jB r.2)]) [] := by
 unfold f31 at h
 obtain ⟨o, ho, h⟩ := Qe h
 cases o with
 | ret v44 v45 =>
  obtain rfl := Qf h
  exact Qq.plain Qi (f := Try.f31) (c := c31) (by kernel_rfl) (by kernel_rfl) (by kernel_rfl) (by kernel_rfl) ((f31n0_ok a1 a2 a3 ho).mono fun r e => by subst e; exact ⟨.inl rfl, (.tup [(jA Qa.cells v45), (jB v44)]), (.tup [(jA Qa.cells v45), (jB v44)]), by kernel_rfl, by kernel_rfl, ((Wk.refl _) : Wk (.tup [(jA Qa.cells v45), (jB v44)]) (.tup [(jA Qa.cells v45), (jB v44)]))⟩)

noncomputable def c24 : Code := Try.f24.body.getD .skip
inductive f24n2O where
 | exit0 (v62 : Int)
 | ret
def f24n2E (bb1 : ByteArray) (bh2 : List Qc) (ba3 : Qd) : f24n2O → Ex × Tr × Hp
 | .exit0 v62 => ((.exit 0), mkS [(9, (jI v62))], [])
 | .ret => (.ret, mkS [(6, (jI 0)), (7, (jI 30))], [])
def f24n2S (bb1 : ByteArray) (bh2 : List Qc) (ba3 : Qd) (v46 : Int) (v47 : Int) : Tr × Hp := (mkS [(1, (jS bb1)), (2, (jL 2 Qc.cells bh2)), (9, (jI v46)), (23, (jL 4 Qa.cells ba3.Positions)), (24, (jI (ba3.Positions.length : Int))), (25, (jI v47))], [])
noncomputable def f24n2 : Nat → ByteArray → List Qc → Qd → Int → Int → Option f24n2O
 | 0, _, _, _, _, _ => none
 | f + 1, bb1, bh2, ba3, v46, v47 =>
  bif (decide (v47 < (ba3.Positions.length : Int))) then
   (at? ba3.Positions v47).bind fun x56 =>
   bif (seq x56.Member bb1) then
    (f36 x56 bh2).bind fun x59 =>
    bif x59.2 then
     (f24n2 f bb1 bh2 ba3 (wr64 (v46 + x59.1)) (wr64 (v47 + 1)))
    else
     some .ret
   else
    (f24n2 f bb1 bh2 ba3 v46 (wr64 (v47 + 1)))
  else
   some (.exit0 v46)
theorem f24n2_ok : ∀ (f : Nat) (bb1 : ByteArray) (bh2 : List Qc) (ba3 : Qd) (v46 : Int) (v47 : Int) {o : f24n2O}, (f24n2 f bb1 bh2 ba3 v46 v47) = some o → TL Try.prog Try.f24.ntmps 0 f (cL (cL (Qn 1 (cL (Qn 4 c24))))) (f24n2S bb1 bh2 ba3 v46 v47) (fun r => r = f24n2E bb1 bh2 ba3 o)
 | 0, _, _, _, _, _, o, h => by rw [f24n2] at h; cases h
 | f + 1, bb1, bh2, ba3, v46, v47, o, h => by
  rw [f24n2] at h
  refine TL.body (K := fun s => ∃ v46 : Int, ∃ v47 : Int, s = (f24n2S bb1 bh2 ba3 v46 v47) ∧ (f24n2 f bb1 bh2 ba3 v46 v47) = some o) ?_ (by rintro _ ⟨v46, v47, rfl, hk⟩; exact f24n2_ok f _ _ _ _ _ hk)
  rcases Qg h with ⟨h49, h⟩ | ⟨h49, h⟩
  ·obtain ⟨x56, h57, h⟩ := Qe h
   rcases Qg h with ⟨h58, h⟩ | ⟨h58, h⟩
   ·obtain ⟨x59, h60, h⟩ := Qe h
    rcases Qg h with ⟨h61, h⟩ | ⟨h61, h⟩
    ·exact rE Qi [j3, ([], [(0, .idx (Int.toNat v47) (Qa.cells x56))], []), j3, ([], [jH 2 (.tup [(jI x59.1), (jB x59.2)])], []), j3, j3, j3] [some true, some false, some false] [] [] [1, 2, 9, 23, 24, 25] (.norm, (f24n2S bb1 bh2 ba3 (wr64 (v46 + x59.1)) (wr64 (v47 + 1)))) (ap h49 (ap (Qh h57).1 (ap (Ql Qa.cells (Qh h57).2) (ap (Qk h58) (ap (f36_ok x56 bh2 h60) (ap (Qk h61) an)))))) (Qs.norm ⟨(wr64 (v46 + x59.1)), (wr64 (v47 + 1)), rfl, h⟩)
    ·obtain rfl := Qf h
     exact rK Qi 3 [j3, ([], [(0, .idx (Int.toNat v47) (Qa.cells x56))], []), j3, ([], [jH 2 (.tup [(jI x59.1), (jB x59.2)])], []), j3, j3] [some true, some false, some true] [] [] [6, 7] .ret ((f24n2E bb1 bh2 ba3 .ret).2) (ap h49 (ap (Qh h57).1 (ap (Ql Qa.cells (Qh h57).2) (ap (Qk h58) (ap (f36_ok x56 bh2 h60) (ap (Qr h61) an)))))) (Qs.out rfl rfl)
   ·exact rE Qi [j3, ([], [(0, .idx (Int.toNat v47) (Qa.cells x56))], []), j3, j3] [some true, some true] [] [] [1, 2, 9, 23, 24, 25] (.norm, (f24n2S bb1 bh2 ba3 v46 (wr64 (v47 + 1)))) (ap h49 (ap (Qh h57).1 (ap (Ql Qa.cells (Qh h57).2) (ap (Qr h58) an)))) (Qs.norm ⟨v46, (wr64 (v47 + 1)), rfl, h⟩)
  ·obtain rfl := Qf h
   exact rK Qi 2 [j3] [some false] [] [] [9] (.exit 0) ((f24n2E bb1 bh2 ba3 (.exit0 v46)).2) (ap h49 an) (Qs.out rfl rfl)
noncomputable def f24n2L (bb1 : ByteArray) (bh2 : List Qc) (ba3 : Qd) : List Qa → Int → Int → Option f24n2O
 | [], v46, v47 =>
  some (.exit0 v46)
 | x0 :: rest, v46, v47 =>
  bif (seq x0.Member bb1) then
   (f36 x0 bh2).bind fun x59 =>
   bif x59.2 then
    (f24n2L bb1 bh2 ba3 rest (wr64 (v46 + x59.1)) (v47 + 1))
   else
    some .ret
  else
   (f24n2L bb1 bh2 ba3 rest v46 (v47 + 1))
theorem f24n2L_eq (bb1 : ByteArray) (bh2 : List Qc) (ba3 : Qd) : ∀ (rest : List Qa) (f k : Nat) (v46 : Int), ba3.Positions.drop k = rest → ba3.Positions.length ≤ maxLen → rest.length < f → f24n2 f bb1 bh2 ba3 v46 (k : Int) = f24n2L bb1 bh2 ba3 rest v46 (k : Int)
 | _, 0, _, _, _, _, hf => absurd hf (Nat.not_lt_zero _)
 | [], f + 1, k, v46, hd, hm, hf => by
  have hk : ¬ ((k : Int) < (ba3.Positions.length : Int)) := by have := Qai hd; omega
  rw [f24n2, f24n2L]
  simp only [decide_eq_false hk, cond_false]
 | x0 :: rest, f + 1, k, v46, hd, hm, hf => by
  obtain ⟨hx, hlt, hd'⟩ := Qab hd
  have hk : (k : Int) < (ba3.Positions.length : Int) := by omega
  have hw : wr64 ((k : Int) + 1) = (k : Int) + 1 := Qbe (by omega) (by unfold maxLen at hm; omega)
  have ih : ∀ (v46 : Int), f24n2 f bb1 bh2 ba3 v46 ((k : Int) + 1) = f24n2L bb1 bh2 ba3 rest v46 ((k : Int) + 1) := fun v46 => f24n2L_eq bb1 bh2 ba3 rest f (k + 1) v46 hd' hm (by simpa using hf)
  rw [f24n2, f24n2L]
  simp only [decide_eq_true hk, cond_true, Qah, hx, Option.bind_some, hw, ih]
theorem f24n2_run (bb1 : ByteArray) (bh2 : List Qc) (ba3 : Qd) (v46 : Int) (hm : ba3.Positions.length ≤ maxLen) : f24n2 FUEL bb1 bh2 ba3 v46 0 = f24n2L bb1 bh2 ba3 ba3.Positions v46 0 := f24n2L_eq bb1 bh2 ba3 ba3.Positions FUEL 0 v46 List.drop_zero hm (Qat hm)
inductive f24n1O where
 | norm (v66 : Int)
 | ret
def f24n1E (bb1 : ByteArray) (bh2 : List Qc) (ba3 : Qd) : f24n1O → Ex × Tr × Hp
 | .norm v66 => (.norm, mkS [(9, (jI v66))], [])
 | .ret => (.ret, mkS [(6, (jI 0)), (7, (jI 30))], [])
def f24n1S (bb1 : ByteArray) (bh2 : List Qc) (ba3 : Qd) : Tr × Hp := (mkS [(1, (jS bb1)), (2, (jL 2 Qc.cells bh2)), (3, (.bp 0 0)), (9, (jI 0))], [some (.box ((Qd.cells ba3).map .pl))])
noncomputable def f24n1 (bb1 : ByteArray) (bh2 : List Qc) (ba3 : Qd) : Option f24n1O :=
 (f24n2 FUEL bb1 bh2 ba3 0 0).bind fun o63 => match o63 with
 | .exit0 v65 => some (.norm v65)
 | .ret => some .ret
theorem f24n1_ok (bb1 : ByteArray) (bh2 : List Qc) (ba3 : Qd) {o : f24n1O} (h : (f24n1 bb1 bh2 ba3) = some o) : T Try.prog Try.f24.ntmps 0 (cL (Qn 4 c24)) (f24n1S bb1 bh2 ba3) (fun r => r = f24n1E bb1 bh2 ba3 o) := by
 unfold f24n1 at h
 refine rN Qi 1 [([], [], [(2, .val (jI (ba3.Positions.length : Int)))])] [] [] [] [1, 2, 9, 23, 24, 25] (f24n2S bb1 bh2 ba3 0 0) (ap (Qo (xs := ba3.Positions) (c := Qa.cells)) an) ?_
 obtain ⟨o63, h64, h⟩ := Qe h
 cases o63 with
 | exit0 v65 =>
  obtain rfl := Qf h
  exact T.last' (T.bl (i := 0) (by kernel_rfl) (by kernel_rfl) (f24n2_ok FUEL bb1 bh2 ba3 0 0 h64)) (tds := []) (m := []) (keep := [9]) (st2 := (f24n1E bb1 bh2 ba3 (.norm v65)).2) (by kernel_rfl) an rfl
 | ret =>
  obtain rfl := Qf h
  exact T.last' (T.bl (i := 0) (by kernel_rfl) (by kernel_rfl) (f24n2_ok FUEL bb1 bh2 ba3 0 0 h64)) (tds := []) (m := []) (keep := [6, 7]) (st2 := (f24n1E bb1 bh2 ba3 .ret).2) (by kernel_rfl) an rfl
inductive f24n0O where
 | ret (v76 : Int) (v77 : Int)
def f24n0E (a1 : Qd) (a2 : ByteArray) (a3 : List Qc) : f24n0O → Ex × Tr × Hp
 | .ret v76 v77 => (.ret, mkS [(6, (jI v76)), (7, (jI v77))], [])
def f24n0S (a1 : Qd) (a2 : ByteArray) (a3 : List Qc) : Tr × Hp := (Qal [(jA Qd.cells a1), (jS a2), (jL 2 Qc.cells a3)] 0 .leaf, [])
noncomputable def f24n0 (a1 : Qd) (a2 : ByteArray) (a3 : List Qc) : Option f24n0O :=
 (f26 a1).bind fun x7 =>
 bif (decide (x7 = 0)) then
  (f35 a3).bind fun x13 =>
  bif x13 then
   (f24n1 a2 a3 a1).bind fun o67 => match o67 with
   | .norm v69 => (f37 v69 1125899906842624).bind fun x73 =>
    bif x73 then
     some (.ret v69 0)
    else
     some (.ret 0 14)
   | .ret => some (.ret 0 30)
  else
   some (.ret 0 2)
 else
  some (.ret 0 x7)
theorem f24n0_ok (a1 : Qd) (a2 : ByteArray) (a3 : List Qc) {o : f24n0O} (h : (f24n0 a1 a2 a3) = some o) : T Try.prog Try.f24.ntmps 0 c24 (f24n0S a1 a2 a3) (fun r => r = f24n0E a1 a2 a3 o) := by
 unfold f24n0 at h
 obtain ⟨x7, h8, h⟩ := Qe h
 rcases Qg h with ⟨h9, h⟩ | ⟨h9, h⟩
 ·obtain ⟨x13, h14, h⟩ := Qe h
  rcases Qg h with ⟨h15, h⟩ | ⟨h15, h⟩
  ·refine rN Qi 4 [j3, ([], [jH 1 (jI x7)], []), j3, ([], [jH 1 (jB x13)], []), j3] [some false, some false] [] [0] [1, 2, 3, 9] (f24n1S a2 a3 a1) (ap (Qby a1 h8) (ap (Qk h9) (ap (f35_ok a3 h14) (ap (Qk h15) an)))) ?_
   obtain ⟨o67, h68, h⟩ := Qe h
   cases o67 with
   | norm v69 =>
    refine T.oneN (by kernel_rfl) (f24n1_ok a2 a3 a1 h68) (st2 := (f24n1E a2 a3 a1 (.norm v69)).2) rfl ?_
    obtain ⟨x73, h74, h⟩ := Qe h
    rcases Qg h with ⟨h75, h⟩ | ⟨h75, h⟩
    ·obtain rfl := Qf h
     exact rE Qi [([], [jH 1 (jB x73)], []), j3] [some false] [] [] [6, 7] (.ret, (f24n0E a1 a2 a3 (.ret v69 0)).2) (ap (Qv v69 1125899906842624 h74) (ap (Qk h75) an)) rfl
    ·obtain rfl := Qf h
     exact rK Qi 1 [([], [jH 1 (jB x73)], []), j3] [some true] [] [] [6, 7] .ret ((f24n0E a1 a2 a3 (.ret 0 14)).2) (ap (Qv v69 1125899906842624 h74) (ap (Qr h75) an)) rfl
   | ret =>
    obtain rfl := Qf h
    exact T.oneX' (by kernel_rfl) (f24n1_ok a2 a3 a1 h68) (tds := []) (m := []) (keep := [6, 7]) (st2 := (f24n0E a1 a2 a3 (.ret 0 30)).2) (by kernel_rfl) an rfl rfl
  ·obtain rfl := Qf h
   exact rK Qi 3 [j3, ([], [jH 1 (jI x7)], []), j3, ([], [jH 1 (jB x13)], []), j3] [some false, some true] [] [] [6, 7] .ret ((f24n0E a1 a2 a3 (.ret 0 2)).2) (ap (Qby a1 h8) (ap (Qk h9) (ap (f35_ok a3 h14) (ap (Qr h15) an)))) rfl
 ·obtain rfl := Qf h
  exact rK Qi 2 [j3, ([], [jH 1 (jI x7)], []), j3, j3] [some true] [] [] [6, 7] .ret ((f24n0E a1 a2 a3 (.ret 0 x7)).2) (ap (Qby a1 h8) (ap (Qr h9) an)) rfl
noncomputable def f24 (a1 : Qd) (a2 : ByteArray) (a3 : List Qc) : Option (Int × Int) := (f24n0 a1 a2 a3).bind fun o => match o with
 | .ret v76 v77 => some (v76, v77)
theorem f24_ok (a1 : Qd) (a2 : ByteArray) (a3 : List Qc) {r : Int × Int} (h : (f24 a1 a2 a3) = some r) : Qq Try.prog false 24 [(jA Qd.cells a1), (jS a2), (jL 2 Qc.cells a3)] [] (.tup [(jI r.1), (jI r.2)]) [] := by
 unfold f24 at h
 obtain ⟨o, ho, h⟩ := Qe h
 cases o with
 | ret v76 v77 =>
  obtain rfl := Qf h
  exact Qq.plain Qi (f := Try.f24) (c := c24) (by kernel_rfl) (by kernel_rfl) (by kernel_rfl) (by kernel_rfl) ((f24n0_ok a1 a2 a3 ho).mono fun r e => by subst e; exact ⟨.inl rfl, (.tup [(jI v76), (jI v77)]), (.tup [(jI v76), (jI v77)]), by kernel_rfl, by kernel_rfl, ((Wk.refl _) : Wk (.tup [(jI v76), (jI v77)]) (.tup [(jI v76), (jI v77)]))⟩)

noncomputable def c54 : Code := Try.f54.body.getD .skip
inductive f54n0O where
 | ret (v8 : Int) (v9 : Int)
def f54n0E (a1 : Int) : f54n0O → Ex × Tr × Hp
 | .ret v8 v9 => (.ret, mkS [(2, (jI v8)), (3, (jI v9))], [])
def f54n0S (a1 : Int) : Tr × Hp := (Qal [(jI a1)] 0 .leaf, [])
noncomputable def f54n0 (a1 : Int) : Option f54n0O :=
 (f43 a1).bind fun x5 =>
 bif (decide (1125899906842624 < x5)) then
  some (.ret 0 14)
 else
  some (.ret a1 0)
theorem f54n0_ok (a1 : Int) {o : f54n0O} (h : (f54n0 a1) = some o) : T Try.prog Try.f54.ntmps 0 c54 (f54n0S a1) (fun r => r = f54n0E a1 o) := by
 unfold f54n0 at h
 obtain ⟨x5, h6, h⟩ := Qe h
 rcases Qg h with ⟨h7, h⟩ | ⟨h7, h⟩
 ·obtain rfl := Qf h
  exact rK Qi 2 [j3, ([], [jH 1 (jI x5)], []), j3] [some true] [] [] [2, 3] .ret ((f54n0E a1 (.ret 0 14)).2) (ap (f43_ok a1 h6) (ap h7 an)) rfl
 ·obtain rfl := Qf h
  exact rE Qi [j3, ([], [jH 1 (jI x5)], []), j3] [some false] [] [] [2, 3] (.ret, (f54n0E a1 (.ret a1 0)).2) (ap (f43_ok a1 h6) (ap h7 an)) rfl
noncomputable def f54 (a1 : Int) : Option (Int × Int) := (f54n0 a1).bind fun o => match o with
 | .ret v8 v9 => some (v8, v9)
theorem f54_ok (a1 : Int) {r : Int × Int} (h : (f54 a1) = some r) : Qq Try.prog false 54 [(jI a1)] [] (.tup [(jI r.1), (jI r.2)]) [] := by
 unfold f54 at h
 obtain ⟨o, ho, h⟩ := Qe h
 cases o with
 | ret v8 v9 =>
  obtain rfl := Qf h
  exact Qq.plain Qi (f := Try.f54) (c := c54) (by kernel_rfl) (by kernel_rfl) (by kernel_rfl) (by kernel_rfl) ((f54n0_ok a1 ho).mono fun r e => by subst e; exact ⟨.inl rfl, (.tup [(jI v8), (jI v9)]), (.tup [(jI v8), (jI v9)]), by kernel_rfl, by kernel_rfl, ((Wk.refl _) : Wk (.tup [(jI v8), (jI v9)]) (.tup [(jI v8), (jI v9)]))⟩)

noncomputable def c32 : Code := Try.f32.body.getD .skip
inductive f32n2O where
 | exit0 (v62 : Int)
 | ret
def f32n2E (bb1 : ByteArray) (bh2 : List Qc) (ba3 : Qd) : f32n2O → Ex × Tr × Hp
 | .exit0 v62 => ((.exit 0), mkS [(8, (jI v62))], [])
 | .ret => (.ret, mkS [(6, (jI 0)), (7, (jI 30))], [])
def f32n2S (bb1 : ByteArray) (bh2 : List Qc) (ba3 : Qd) (v46 : Int) (v47 : Int) : Tr × Hp := (mkS [(1, (jS bb1)), (2, (jL 2 Qc.cells bh2)), (3, (.bp 0 0)), (8, (jI v46)), (9, (jI v47))], [some (.box ((Qd.cells ba3).map .pl))])
noncomputable def f32n2 : Nat → ByteArray → List Qc → Qd → Int → Int → Option f32n2O
 | 0, _, _, _, _, _ => none
 | f + 1, bb1, bh2, ba3, v46, v47 =>
  bif (decide (v47 < (ba3.Positions.length : Int))) then
   (at? ba3.Positions v47).bind fun x56 =>
   (f42 x56 bh2).bind fun x58 =>
   bif (seq x56.Member bb1) then
    bif x58.2 then
     (f32n2 f bb1 bh2 ba3 (wr64 (v46 + x58.1)) (wr64 (v47 + 1)))
    else
     some .ret
   else
    (f32n2 f bb1 bh2 ba3 v46 (wr64 (v47 + 1)))
  else
   some (.exit0 v46)
theorem f32n2_ok : ∀ (f : Nat) (bb1 : ByteArray) (bh2 : List Qc) (ba3 : Qd) (v46 : Int) (v47 : Int) {o : f32n2O}, (f32n2 f bb1 bh2 ba3 v46 v47) = some o → TL Try.prog Try.f32.ntmps 0 f (cL (cL (Qn 1 (cL (Qn 4 c32))))) (f32n2S bb1 bh2 ba3 v46 v47) (fun r => r = f32n2E bb1 bh2 ba3 o)
 | 0, _, _, _, _, _, o, h => by rw [f32n2] at h; cases h
 | f + 1, bb1, bh2, ba3, v46, v47, o, h => by
  rw [f32n2] at h
  refine TL.body (K := fun s => ∃ v46 : Int, ∃ v47 : Int, s = (f32n2S bb1 bh2 ba3 v46 v47) ∧ (f32n2 f bb1 bh2 ba3 v46 v47) = some o) ?_ (by rintro _ ⟨v46, v47, rfl, hk⟩; exact f32n2_ok f _ _ _ _ _ hk)
  rcases Qg h with ⟨h49, h⟩ | ⟨h49, h⟩
  ·obtain ⟨x56, h57, h⟩ := Qe h
   obtain ⟨x58, h59, h⟩ := Qe h
   rcases Qg h with ⟨h60, h⟩ | ⟨h60, h⟩
   ·rcases Qg h with ⟨h61, h⟩ | ⟨h61, h⟩
    ·exact rE Qi [([], [], [(3, .val (jI (ba3.Positions.length : Int)))]), ([], [(3, .idx (Int.toNat v47) (Qa.cells x56)), jH 6 (.tup [(jI x58.1), (jB x58.2)])], []), ([], [(3, .idx (Int.toNat v47) (Qa.cells x56))], []), j3, j3, j3] [some true, some false, some false] [] [0] [1, 2, 3, 8, 9] (.norm, (f32n2S bb1 bh2 ba3 (wr64 (v46 + x58.1)) (wr64 (v47 + 1)))) (ap (Qo (xs := ba3.Positions) (c := Qa.cells)) (ap h49 (ap (Qh h57).1 (ap (Ql Qa.cells (Qh h57).2) (ap (f42_ok x56 bh2 h59) (ap (Qh h57).1 (ap (Ql Qa.cells (Qh h57).2) (ap (Qk h60) (ap (Qk h61) an))))))))) (Qs.norm ⟨(wr64 (v46 + x58.1)), (wr64 (v47 + 1)), rfl, h⟩)
    ·obtain rfl := Qf h
     exact rK Qi 2 [([], [], [(3, .val (jI (ba3.Positions.length : Int)))]), ([], [(3, .idx (Int.toNat v47) (Qa.cells x56)), jH 6 (.tup [(jI x58.1), (jB x58.2)])], []), ([], [(3, .idx (Int.toNat v47) (Qa.cells x56))], []), j3, j3] [some true, some false, some true] [] [] [6, 7] .ret ((f32n2E bb1 bh2 ba3 .ret).2) (ap (Qo (xs := ba3.Positions) (c := Qa.cells)) (ap h49 (ap (Qh h57).1 (ap (Ql Qa.cells (Qh h57).2) (ap (f42_ok x56 bh2 h59) (ap (Qh h57).1 (ap (Ql Qa.cells (Qh h57).2) (ap (Qk h60) (ap (Qr h61) an))))))))) (Qs.out rfl rfl)
   ·exact rE Qi [([], [], [(3, .val (jI (ba3.Positions.length : Int)))]), ([], [(3, .idx (Int.toNat v47) (Qa.cells x56)), jH 6 (.tup [(jI x58.1), (jB x58.2)])], []), ([], [(3, .idx (Int.toNat v47) (Qa.cells x56))], []), j3] [some true, some true] [] [0] [1, 2, 3, 8, 9] (.norm, (f32n2S bb1 bh2 ba3 v46 (wr64 (v47 + 1)))) (ap (Qo (xs := ba3.Positions) (c := Qa.cells)) (ap h49 (ap (Qh h57).1 (ap (Ql Qa.cells (Qh h57).2) (ap (f42_ok x56 bh2 h59) (ap (Qh h57).1 (ap (Ql Qa.cells (Qh h57).2) (ap (Qr h60) an)))))))) (Qs.norm ⟨v46, (wr64 (v47 + 1)), rfl, h⟩)
  ·obtain rfl := Qf h
   exact rK Qi 1 [([], [], [(3, .val (jI (ba3.Positions.length : Int)))])] [some false] [] [] [8] (.exit 0) ((f32n2E bb1 bh2 ba3 (.exit0 v46)).2) (ap (Qo (xs := ba3.Positions) (c := Qa.cells)) (ap h49 an)) (Qs.out rfl rfl)
noncomputable def f32n2L (bb1 : ByteArray) (bh2 : List Qc) (ba3 : Qd) : List Qa → Int → Int → Option f32n2O
 | [], v46, v47 =>
  some (.exit0 v46)
 | x0 :: rest, v46, v47 =>
  (f42 x0 bh2).bind fun x58 =>
  bif (seq x0.Member bb1) then
   bif x58.2 then
    (f32n2L bb1 bh2 ba3 rest (wr64 (v46 + x58.1)) (v47 + 1))
   else
    some .ret
  else
   (f32n2L bb1 bh2 ba3 rest v46 (v47 + 1))
theorem f32n2L_eq (bb1 : ByteArray) (bh2 : List Qc) (ba3 : Qd) : ∀ (rest : List Qa) (f k : Nat) (v46 : Int), ba3.Positions.drop k = rest → ba3.Positions.length ≤ maxLen → rest.length < f → f32n2 f bb1 bh2 ba3 v46 (k : Int) = f32n2L bb1 bh2 ba3 rest v46 (k : Int)
 | _, 0, _, _, _, _, hf => absurd hf (Nat.not_lt_zero _)
 | [], f + 1, k, v46, hd, hm, hf => by
  have hk : ¬ ((k : Int) < (ba3.Positions.length : Int)) := by have := Qai hd; omega
  rw [f32n2, f32n2L]
  simp only [decide_eq_false hk, cond_false]
 | x0 :: rest, f + 1, k, v46, hd, hm, hf => by
  obtain ⟨hx, hlt, hd'⟩ := Qab hd
  have hk : (k : Int) < (ba3.Positions.length : Int) := by omega
  have hw : wr64 ((k : Int) + 1) = (k : Int) + 1 := Qbe (by omega) (by unfold maxLen at hm; omega)
  have ih : ∀ (v46 : Int), f32n2 f bb1 bh2 ba3 v46 ((k : Int) + 1) = f32n2L bb1 bh2 ba3 rest v46 ((k : Int) + 1) := fun v46 => f32n2L_eq bb1 bh2 ba3 rest f (k + 1) v46 hd' hm (by simpa using hf)
  rw [f32n2, f32n2L]
  simp only [decide_eq_true hk, cond_true, Qah, hx, Option.bind_some, hw, ih]
theorem f32n2_run (bb1 : ByteArray) (bh2 : List Qc) (ba3 : Qd) (v46 : Int) (hm : ba3.Positions.length ≤ maxLen) : f32n2 FUEL bb1 bh2 ba3 v46 0 = f32n2L bb1 bh2 ba3 ba3.Positions v46 0 := f32n2L_eq bb1 bh2 ba3 ba3.Positions FUEL 0 v46 List.drop_zero hm (Qat hm)
inductive f32n1O where
 | norm (v66 : Int)
 | ret
def f32n1E (bb1 : ByteArray) (bh2 : List Qc) (ba3 : Qd) : f32n1O → Ex × Tr × Hp
 | .norm v66 => (.norm, mkS [(8, (jI v66))], [])
 | .ret => (.ret, mkS [(6, (jI 0)), (7, (jI 30))], [])
def f32n1S (bb1 : ByteArray) (bh2 : List Qc) (ba3 : Qd) : Tr × Hp := (mkS [(1, (jS bb1)), (2, (jL 2 Qc.cells bh2)), (3, (.bp 0 0)), (8, (jI 0))], [some (.box ((Qd.cells ba3).map .pl))])
noncomputable def f32n1 (bb1 : ByteArray) (bh2 : List Qc) (ba3 : Qd) : Option f32n1O :=
 (f32n2 FUEL bb1 bh2 ba3 0 0).bind fun o63 => match o63 with
 | .exit0 v65 => some (.norm v65)
 | .ret => some .ret
theorem f32n1_ok (bb1 : ByteArray) (bh2 : List Qc) (ba3 : Qd) {o : f32n1O} (h : (f32n1 bb1 bh2 ba3) = some o) : T Try.prog Try.f32.ntmps 0 (cL (Qn 4 c32)) (f32n1S bb1 bh2 ba3) (fun r => r = f32n1E bb1 bh2 ba3 o) := by
 unfold f32n1 at h
 refine rN Qi 1 [j3] [] [] [0] [1, 2, 3, 8, 9] (f32n2S bb1 bh2 ba3 0 0) an ?_
 obtain ⟨o63, h64, h⟩ := Qe h
 cases o63 with
 | exit0 v65 =>
  obtain rfl := Qf h
  exact T.last' (T.bl (i := 0) (by kernel_rfl) (by kernel_rfl) (f32n2_ok FUEL bb1 bh2 ba3 0 0 h64)) (tds := []) (m := []) (keep := [8]) (st2 := (f32n1E bb1 bh2 ba3 (.norm v65)).2) (by kernel_rfl) an rfl
 | ret =>
  obtain rfl := Qf h
  exact T.last' (T.bl (i := 0) (by kernel_rfl) (by kernel_rfl) (f32n2_ok FUEL bb1 bh2 ba3 0 0 h64)) (tds := []) (m := []) (keep := [6, 7]) (st2 := (f32n1E bb1 bh2 ba3 .ret).2) (by kernel_rfl) an rfl
inductive f32n0O where
 | ret (v74 : Int) (v75 : Int)
def f32n0E (a1 : Qd) (a2 : ByteArray) (a3 : List Qc) : f32n0O → Ex × Tr × Hp
 | .ret v74 v75 => (.ret, mkS [(6, (jI v74)), (7, (jI v75))], [])
def f32n0S (a1 : Qd) (a2 : ByteArray) (a3 : List Qc) : Tr × Hp := (Qal [(jA Qd.cells a1), (jS a2), (jL 2 Qc.cells a3)] 0 .leaf, [])
noncomputable def f32n0 (a1 : Qd) (a2 : ByteArray) (a3 : List Qc) : Option f32n0O :=
 (f34 a1).bind fun x7 =>
 bif (decide (x7 = 0)) then
  (f41 a3).bind fun x13 =>
  bif x13 then
   (f32n1 a2 a3 a1).bind fun o67 => match o67 with
   | .norm v69 => (f54 v69).bind fun x72 =>
    some (.ret x72.1 x72.2)
   | .ret => some (.ret 0 30)
  else
   some (.ret 0 2)
 else
  some (.ret 0 8)
theorem f32n0_ok (a1 : Qd) (a2 : ByteArray) (a3 : List Qc) {o : f32n0O} (h : (f32n0 a1 a2 a3) = some o) : T Try.prog Try.f32.ntmps 0 c32 (f32n0S a1 a2 a3) (fun r => r = f32n0E a1 a2 a3 o) := by
 unfold f32n0 at h
 obtain ⟨x7, h8, h⟩ := Qe h
 rcases Qg h with ⟨h9, h⟩ | ⟨h9, h⟩
 ·obtain ⟨x13, h14, h⟩ := Qe h
  rcases Qg h with ⟨h15, h⟩ | ⟨h15, h⟩
  ·refine rN Qi 4 [j3, ([], [jH 1 (jI x7)], []), ([], [jH 1 (jB x13)], []), j3] [some false, some false] [] [0] [1, 2, 3, 8] (f32n1S a2 a3 a1) (ap (Qcs a1 h8) (ap (Qk h9) (ap (f41_ok a3 h14) (ap (Qk h15) an)))) ?_
   obtain ⟨o67, h68, h⟩ := Qe h
   cases o67 with
   | norm v69 =>
    refine T.oneN (by kernel_rfl) (f32n1_ok a2 a3 a1 h68) (st2 := (f32n1E a2 a3 a1 (.norm v69)).2) rfl ?_
    obtain ⟨x72, h73, h⟩ := Qe h
    obtain rfl := Qf h
    exact rE Qi [([], [jH 1 (.tup [(jI x72.1), (jI x72.2)])], [])] [] [] [] [6, 7] (.ret, (f32n0E a1 a2 a3 (.ret x72.1 x72.2)).2) (ap (f54_ok v69 h73) an) rfl
   | ret =>
    obtain rfl := Qf h
    exact T.oneX' (by kernel_rfl) (f32n1_ok a2 a3 a1 h68) (tds := []) (m := []) (keep := [6, 7]) (st2 := (f32n0E a1 a2 a3 (.ret 0 30)).2) (by kernel_rfl) an rfl rfl
  ·obtain rfl := Qf h
   exact rK Qi 3 [j3, ([], [jH 1 (jI x7)], []), ([], [jH 1 (jB x13)], []), j3] [some false, some true] [] [] [6, 7] .ret ((f32n0E a1 a2 a3 (.ret 0 2)).2) (ap (Qcs a1 h8) (ap (Qk h9) (ap (f41_ok a3 h14) (ap (Qr h15) an)))) rfl
 ·obtain rfl := Qf h
  exact rK Qi 2 [j3, ([], [jH 1 (jI x7)], []), j3] [some true] [] [] [6, 7] .ret ((f32n0E a1 a2 a3 (.ret 0 8)).2) (ap (Qcs a1 h8) (ap (Qr h9) an)) rfl
noncomputable def f32 (a1 : Qd) (a2 : ByteArray) (a3 : List Qc) : Option (Int × Int) := (f32n0 a1 a2 a3).bind fun o => match o with
 | .ret v74 v75 => some (v74, v75)
theorem f32_ok (a1 : Qd) (a2 : ByteArray) (a3 : List Qc) {r : Int × Int} (h : (f32 a1 a2 a3) = some r) : Qq Try.prog false 32 [(jA Qd.cells a1), (jS a2), (jL 2 Qc.cells a3)] [] (.tup [(jI r.1), (jI r.2)]) [] := by
 unfold f32 at h
 obtain ⟨o, ho, h⟩ := Qe h
 cases o with
 | ret v74 v75 =>
  obtain rfl := Qf h
  exact Qq.plain Qi (f := Try.f32) (c := c32) (by kernel_rfl) (by kernel_rfl) (by kernel_rfl) (by kernel_rfl) ((f32n0_ok a1 a2 a3 ho).mono fun r e => by subst e; exact ⟨.inl rfl, (.tup [(jI v74), (jI v75)]), (.tup [(jI v74), (jI v75)]), by kernel_rfl, by kernel_rfl, ((Wk.refl _) : Wk (.tup [(jI v74), (jI v75)]) (.tup [(jI v74), (jI v75)]))⟩)

noncomputable def c28 : Code := Try.f28.body.getD .skip
inductive f28n2O where
 | exit0 (v37 : Int)
def f28n2E (bb1 : ByteArray) (ba2 : Qd) : f28n2O → Ex × Tr × Hp
 | .exit0 v37 => ((.exit 0), mkS [(7, (jI v37))], [])
def f28n2S (bb1 : ByteArray) (ba2 : Qd) (v27 : Int) (v28 : Int) : Tr × Hp := (mkS [(1, (jS bb1)), (7, (jI v27)), (16, (jL 4 Qa.cells ba2.Positions)), (17, (jI (ba2.Positions.length : Int))), (18, (jI v28))], [])
noncomputable def f28n2 : Nat → ByteArray → Qd → Int → Int → Option f28n2O
 | 0, _, _, _, _ => none
 | f + 1, bb1, ba2, v27, v28 =>
  bif (decide (v28 < (ba2.Positions.length : Int))) then
   (at? ba2.Positions v28).bind fun x34 =>
   bif (seq x34.Member bb1) then
    (f28n2 f bb1 ba2 (wr64 (v27 + x34.Basis)) (wr64 (v28 + 1)))
   else
    (f28n2 f bb1 ba2 v27 (wr64 (v28 + 1)))
  else
   some (.exit0 v27)
theorem f28n2_ok : ∀ (f : Nat) (bb1 : ByteArray) (ba2 : Qd) (v27 : Int) (v28 : Int) {o : f28n2O}, (f28n2 f bb1 ba2 v27 v28) = some o → TL Try.prog Try.f28.ntmps 0 f (cL (cL (Qn 1 (cL (Qn 3 c28))))) (f28n2S bb1 ba2 v27 v28) (fun r => r = f28n2E bb1 ba2 o)
 | 0, _, _, _, _, o, h => by rw [f28n2] at h; cases h
 | f + 1, bb1, ba2, v27, v28, o, h => by
  rw [f28n2] at h
  refine TL.body (K := fun s => ∃ v27 : Int, ∃ v28 : Int, s = (f28n2S bb1 ba2 v27 v28) ∧ (f28n2 f bb1 ba2 v27 v28) = some o) ?_ (by rintro _ ⟨v27, v28, rfl, hk⟩; exact f28n2_ok f _ _ _ _ hk)
  rcases Qg h with ⟨h30, h⟩ | ⟨h30, h⟩
  ·obtain ⟨x34, h35, h⟩ := Qe h
   rcases Qg h with ⟨h36, h⟩ | ⟨h36, h⟩
   ·exact rE Qi [j3, ([], [(0, .idx (Int.toNat v28) (Qa.cells x34))], []), j3, j3, j3] [some true, some true] [] [] [1, 7, 16, 17, 18] (.norm, (f28n2S bb1 ba2 (wr64 (v27 + x34.Basis)) (wr64 (v28 + 1)))) (ap h30 (ap (Qh h35).1 (ap (Ql Qa.cells (Qh h35).2) (ap h36 an)))) (Qs.norm ⟨(wr64 (v27 + x34.Basis)), (wr64 (v28 + 1)), rfl, h⟩)
   ·exact rE Qi [j3, ([], [(0, .idx (Int.toNat v28) (Qa.cells x34))], []), j3, j3] [some true, some false] [] [] [1, 7, 16, 17, 18] (.norm, (f28n2S bb1 ba2 v27 (wr64 (v28 + 1)))) (ap h30 (ap (Qh h35).1 (ap (Ql Qa.cells (Qh h35).2) (ap h36 an)))) (Qs.norm ⟨v27, (wr64 (v28 + 1)), rfl, h⟩)
  ·obtain rfl := Qf h
   exact rK Qi 2 [j3] [some false] [] [] [7] (.exit 0) ((f28n2E bb1 ba2 (.exit0 v27)).2) (ap h30 an) (Qs.out rfl rfl)
noncomputable def f28n2L (bb1 : ByteArray) (ba2 : Qd) : List Qa → Int → Int → Option f28n2O
 | [], v27, v28 =>
  some (.exit0 v27)
 | x0 :: rest, v27, v28 =>
  bif (seq x0.Member bb1) then
   (f28n2L bb1 ba2 rest (wr64 (v27 + x0.Basis)) (v28 + 1))
  else
   (f28n2L bb1 ba2 rest v27 (v28 + 1))
theorem f28n2L_eq (bb1 : ByteArray) (ba2 : Qd) : ∀ (rest : List Qa) (f k : Nat) (v27 : Int), ba2.Positions.drop k = rest → ba2.Positions.length ≤ maxLen → rest.length < f → f28n2 f bb1 ba2 v27 (k : Int) = f28n2L bb1 ba2 rest v27 (k : Int)
 | _, 0, _, _, _, _, hf => absurd hf (Nat.not_lt_zero _)
 | [], f + 1, k, v27, hd, hm, hf => by
  have hk : ¬ ((k : Int) < (ba2.Positions.length : Int)) := by have := Qai hd; omega
  rw [f28n2, f28n2L]
  simp only [decide_eq_false hk, cond_false]
 | x0 :: rest, f + 1, k, v27, hd, hm, hf => by
  obtain ⟨hx, hlt, hd'⟩ := Qab hd
  have hk : (k : Int) < (ba2.Positions.length : Int) := by omega
  have hw : wr64 ((k : Int) + 1) = (k : Int) + 1 := Qbe (by omega) (by unfold maxLen at hm; omega)
  have ih : ∀ (v27 : Int), f28n2 f bb1 ba2 v27 ((k : Int) + 1) = f28n2L bb1 ba2 rest v27 ((k : Int) + 1) := fun v27 => f28n2L_eq bb1 ba2 rest f (k + 1) v27 hd' hm (by simpa using hf)
  rw [f28n2, f28n2L]
  simp only [decide_eq_true hk, cond_true, Qah, hx, Option.bind_some, hw, ih]
theorem f28n2_run (bb1 : ByteArray) (ba2 : Qd) (v27 : Int) (hm : ba2.Positions.length ≤ maxLen) : f28n2 FUEL bb1 ba2 v27 0 = f28n2L bb1 ba2 ba2.Positions v27 0 := f28n2L_eq bb1 ba2 ba2.Positions FUEL 0 v27 List.drop_zero hm (Qat hm)
inductive f28n1O where
 | norm (v41 : Int)
def f28n1E (bb1 : ByteArray) (ba2 : Qd) : f28n1O → Ex × Tr × Hp
 | .norm v41 => (.norm, mkS [(7, (jI v41))], [])
def f28n1S (bb1 : ByteArray) (ba2 : Qd) : Tr × Hp := (mkS [(1, (jS bb1)), (2, (.bp 0 0)), (7, (jI 0))], [some (.box ((Qd.cells ba2).map .pl))])
noncomputable def f28n1 (bb1 : ByteArray) (ba2 : Qd) : Option f28n1O :=
 (f28n2 FUEL bb1 ba2 0 0).bind fun o38 => match o38 with
 | .exit0 v40 => some (.norm v40)
theorem f28n1_ok (bb1 : ByteArray) (ba2 : Qd) {o : f28n1O} (h : (f28n1 bb1 ba2) = some o) : T Try.prog Try.f28.ntmps 0 (cL (Qn 3 c28)) (f28n1S bb1 ba2) (fun r => r = f28n1E bb1 ba2 o) := by
 unfold f28n1 at h
 refine rN Qi 1 [([], [], [(2, .val (jI (ba2.Positions.length : Int)))])] [] [] [] [1, 7, 16, 17, 18] (f28n2S bb1 ba2 0 0) (ap (Qo (xs := ba2.Positions) (c := Qa.cells)) an) ?_
 obtain ⟨o38, h39, h⟩ := Qe h
 cases o38 with
 | exit0 v40 =>
  obtain rfl := Qf h
  exact T.last' (T.bl (i := 0) (by kernel_rfl) (by kernel_rfl) (f28n2_ok FUEL bb1 ba2 0 0 h39)) (tds := []) (m := []) (keep := [7]) (st2 := (f28n1E bb1 ba2 (.norm v40)).2) (by kernel_rfl) an rfl
inductive f28n0O where
 | ret (v51 : Int) (v52 : Int)
def f28n0E (a1 : Qd) (a2 : ByteArray) : f28n0O → Ex × Tr × Hp
 | .ret v51 v52 => (.ret, mkS [(4, (jI v51)), (5, (jI v52))], [])
def f28n0S (a1 : Qd) (a2 : ByteArray) : Tr × Hp := (Qal [(jA Qd.cells a1), (jS a2)] 0 .leaf, [])
noncomputable def f28n0 (a1 : Qd) (a2 : ByteArray) : Option f28n0O :=
 (f26 a1).bind fun x6 =>
 bif (decide (x6 = 0)) then
  (f28n1 a2 a1).bind fun o42 => match o42 with
  | .norm v44 => (f37 v44 1125899906842624).bind fun x48 =>
   bif x48 then
    some (.ret v44 0)
   else
    some (.ret 0 14)
 else
  some (.ret 0 x6)
theorem f28n0_ok (a1 : Qd) (a2 : ByteArray) {o : f28n0O} (h : (f28n0 a1 a2) = some o) : T Try.prog Try.f28.ntmps 0 c28 (f28n0S a1 a2) (fun r => r = f28n0E a1 a2 o) := by
 unfold f28n0 at h
 obtain ⟨x6, h7, h⟩ := Qe h
 rcases Qg h with ⟨h8, h⟩ | ⟨h8, h⟩
 ·refine rN Qi 3 [j3, ([], [jH 1 (jI x6)], []), j3, j3] [some false] [] [0] [1, 2, 7] (f28n1S a2 a1) (ap (Qby a1 h7) (ap (Qk h8) an)) ?_
  obtain ⟨o42, h43, h⟩ := Qe h
  cases o42 with
  | norm v44 =>
   refine T.oneN (by kernel_rfl) (f28n1_ok a2 a1 h43) (st2 := (f28n1E a2 a1 (.norm v44)).2) rfl ?_
   obtain ⟨x48, h49, h⟩ := Qe h
   rcases Qg h with ⟨h50, h⟩ | ⟨h50, h⟩
   ·obtain rfl := Qf h
    exact rE Qi [([], [jH 1 (jB x48)], []), j3] [some false] [] [] [4, 5] (.ret, (f28n0E a1 a2 (.ret v44 0)).2) (ap (Qv v44 1125899906842624 h49) (ap (Qk h50) an)) rfl
   ·obtain rfl := Qf h
    exact rK Qi 1 [([], [jH 1 (jB x48)], []), j3] [some true] [] [] [4, 5] .ret ((f28n0E a1 a2 (.ret 0 14)).2) (ap (Qv v44 1125899906842624 h49) (ap (Qr h50) an)) rfl
 ·obtain rfl := Qf h
  exact rK Qi 2 [j3, ([], [jH 1 (jI x6)], []), j3, j3] [some true] [] [] [4, 5] .ret ((f28n0E a1 a2 (.ret 0 x6)).2) (ap (Qby a1 h7) (ap (Qr h8) an)) rfl
noncomputable def f28 (a1 : Qd) (a2 : ByteArray) : Option (Int × Int) := (f28n0 a1 a2).bind fun o => match o with
 | .ret v51 v52 => some (v51, v52)
theorem f28_ok (a1 : Qd) (a2 : ByteArray) {r : Int × Int} (h : (f28 a1 a2) = some r) : Qq Try.prog false 28 [(jA Qd.cells a1), (jS a2)] [] (.tup [(jI r.1), (jI r.2)]) [] := by
 unfold f28 at h
 obtain ⟨o, ho, h⟩ := Qe h
 cases o with
 | ret v51 v52 =>
  obtain rfl := Qf h
  exact Qq.plain Qi (f := Try.f28) (c := c28) (by kernel_rfl) (by kernel_rfl) (by kernel_rfl) (by kernel_rfl) ((f28n0_ok a1 a2 ho).mono fun r e => by subst e; exact ⟨.inl rfl, (.tup [(jI v51), (jI v52)]), (.tup [(jI v51), (jI v52)]), by kernel_rfl, by kernel_rfl, ((Wk.refl _) : Wk (.tup [(jI v51), (jI v52)]) (.tup [(jI v51), (jI v52)]))⟩)
end Go.Proofs.Ytelblamgfbkhbaa
