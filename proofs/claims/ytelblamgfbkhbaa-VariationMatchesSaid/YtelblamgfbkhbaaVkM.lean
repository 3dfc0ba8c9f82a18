/- Several texts in one. No condition. -/
import Derived.Test.YtelblamgfbkhbaaM4
namespace Go.Proofs.Ytelblamgfbkhbaa
set_option linter.unusedVariables false
set_option linter.unusedSimpArgs false
set_option maxRecDepth 100000
open Go.RowKit
noncomputable def c33 : Code := Try.f33.body.getD .skip
inductive f33n2O where
 | exit0 (v37 : Int)
def f33n2E (bb1 : ByteArray) (ba2 : Qd) : f33n2O → Ex × Tr × Hp
 | .exit0 v37 => ((.exit 0), mkS [(6, (jI v37))], [])
def f33n2S (bb1 : ByteArray) (ba2 : Qd) (v27 : Int) (v28 : Int) : Tr × Hp := (mkS [(1, (jS bb1)), (2, (.bp 0 0)), (6, (jI v27)), (7, (jI v28))], [some (.box ((Qd.cells ba2).map .pl))])
noncomputable def f33n2 : Nat → ByteArray → Qd → Int → Int → Option f33n2O
 | 0, _, _, _, _ => none
 | f + 1, bb1, ba2, v27, v28 =>
  bif (decide (v28 < (ba2.Positions.length : Int))) then
   (at? ba2.Positions v28).bind fun x34 =>
   bif (seq x34.Member bb1) then
    (f33n2 f bb1 ba2 (wr64 (v27 + x34.Basis)) (wr64 (v28 + 1)))
   else
    (f33n2 f bb1 ba2 v27 (wr64 (v28 + 1)))
  else
   some (.exit0 v27)
theorem f33n2_ok : ∀ (f : Nat) (bb1 : ByteArray) (ba2 : Qd) (v27 : Int) (v28 : Int) {o : f33n2O}, (f33n2 f bb1 ba2 v27 v28) = some o → TL Try.prog Try.f33.ntmps 0 f (cL (cL (Qn 1 (cL (Qn 3 c33))))) (f33n2S bb1 ba2 v27 v28) (fun r => r = f33n2E bb1 ba2 o)
 | 0, _, _, _, _, o, h => by rw [f33n2] at h; cases h
 | f + 1, bb1, ba2, v27, v28, o, h => by
  rw [f33n2] at h
  refine TL.body (K := fun s => ∃ v27 : Int, ∃ v28 : Int, s = (f33n2S bb1 ba2 v27 v28) ∧ (f33n2 f bb1 ba2 v27 v28) = some o) ?_ (by rintro _ ⟨v27, v28, rfl, hk⟩; exact f33n2_ok f _ _ _ _ hk)
  rcases Qg h with ⟨h30, h⟩ | ⟨h30, h⟩
  ·obtain ⟨x34, h35, h⟩ := Qe h
   rcases Qg h with ⟨h36, h⟩ | ⟨h36, h⟩
   ·exact rE Qi [([], [], [(3, .val (jI (ba2.Positions.length : Int)))]), ([], [(3, .idx (Int.toNat v28) (Qa.cells x34))], []), ([], [(4, .idx (Int.toNat v28) (Qa.cells x34))], []), j3] [some true, some true] [] [0] [1, 2, 6, 7] (.norm, (f33n2S bb1 ba2 (wr64 (v27 + x34.Basis)) (wr64 (v28 + 1)))) (ap (Qo (xs := ba2.Positions) (c := Qa.cells)) (ap h30 (ap (Qh h35).1 (ap (Ql Qa.cells (Qh h35).2) (ap h36 (ap (Qh h35).1 (ap (Ql Qa.cells (Qh h35).2) an))))))) (Qs.norm ⟨(wr64 (v27 + x34.Basis)), (wr64 (v28 + 1)), rfl, h⟩)
   ·exact rE Qi [([], [], [(3, .val (jI (ba2.Positions.length : Int)))]), ([], [(3, .idx (Int.toNat v28) (Qa.cells x34))], []), j3] [some true, some false] [] [0] [1, 2, 6, 7] (.norm, (f33n2S bb1 ba2 v27 (wr64 (v28 + 1)))) (ap (Qo (xs := ba2.Positions) (c := Qa.cells)) (ap h30 (ap (Qh h35).1 (ap (Ql Qa.cells (Qh h35).2) (ap h36 an))))) (Qs.norm ⟨v27, (wr64 (v28 + 1)), rfl, h⟩)
  ·obtain rfl := Qf h
   exact rK Qi 1 [([], [], [(3, .val (jI (ba2.Positions.length : Int)))])] [some false] [] [] [6] (.exit 0) ((f33n2E bb1 ba2 (.exit0 v27)).2) (ap (Qo (xs := ba2.Positions) (c := Qa.cells)) (ap h30 an)) (Qs.out rfl rfl)
noncomputable def f33n2L (bb1 : ByteArray) (ba2 : Qd) : List Qa → Int → Int → Option f33n2O
 | [], v27, v28 =>
  some (.exit0 v27)
 | x0 :: rest, v27, v28 =>
  bif (seq x0.Member bb1) then
   (f33n2L bb1 ba2 rest (wr64 (v27 + x0.Basis)) (v28 + 1))
  else
   (f33n2L bb1 ba2 rest v27 (v28 + 1))
theorem f33n2L_eq (bb1 : ByteArray) (ba2 : Qd) : ∀ (rest : List Qa) (f k : Nat) (v27 : Int), ba2.Positions.drop k = rest → ba2.Positions.length ≤ maxLen → rest.length < f → f33n2 f bb1 ba2 v27 (k : Int) = f33n2L bb1 ba2 rest v27 (k : Int)
 | _, 0, _, _, _, _, hf => absurd hf (Nat.not_lt_zero _)
 | [], f + 1, k, v27, hd, hm, hf => by
  have hk : ¬ ((k : Int) < (ba2.Positions.length : Int)) := by have := Qai hd; omega
  rw [f33n2, f33n2L]
  simp only [decide_eq_false hk, cond_false]
 | x0 :: rest, f + 1, k, v27, hd, hm, hf => by
  obtain ⟨hx, hlt, hd'⟩ := Qab hd
  have hk : (k : Int) < (ba2.Positions.length : Int) := by omega
  have hw : wr64 ((k : Int) + 1) = (k : Int) + 1 := Qbe (by omega) (by unfold maxLen at hm; omega)
  have ih : ∀ (v27 : Int), f33n2 f bb1 ba2 v27 ((k : Int) + 1) = f33n2L bb1 ba2 rest v27 ((k : Int) + 1) := fun v27 => f33n2L_eq bb1 ba2 rest f (k + 1) v27 hd' hm (by simpa using hf)
  rw [f33n2, f33n2L]
  simp only [decide_eq_true hk, cond_true, Qah, hx, Option.bind_some, hw, ih]
theorem f33n2_run (bb1 : ByteArray) (ba2 : Qd) (v27 : Int) (hm : ba2.Positions.length ≤ maxLen) : f33n2 FUEL bb1 ba2 v27 0 = f33n2L bb1 ba2 ba2.Positions v27 0 := f33n2L_eq bb1 ba2 ba2.Positions FUEL 0 v27 List.drop_zero hm (Qat hm)
inductive f33n1O where
 | norm (v41 : Int)
def f33n1E (bb1 : ByteArray) (ba2 : Qd) : f33n1O → Ex × Tr × Hp
 | .norm v41 => (.norm, mkS [(6, (jI v41))], [])
def f33n1S (bb1 : ByteArray) (ba2 : Qd) : Tr × Hp := (mkS [(1, (jS bb1)), (2, (.bp 0 0)), (6, (jI 0))], [some (.box ((Qd.cells ba2).map .pl))])
noncomputable def f33n1 (bb1 : ByteArray) (ba2 : Qd) : Option f33n1O :=
 (f33n2 FUEL bb1 ba2 0 0).bind fun o38 => match o38 with
 | .exit0 v40 => some (.norm v40)
theorem f33n1_ok (bb1 : ByteArray) (ba2 : Qd) {o : f33n1O} (h : (f33n1 bb1 ba2) = some o) : T Try.prog Try.f33.ntmps 0 (cL (Qn 3 c33)) (f33n1S bb1 ba2) (fun r => r = f33n1E bb1 ba2 o) := by
 unfold f33n1 at h
 refine rN Qi 1 [j3] [] [] [0] [1, 2, 6, 7] (f33n2S bb1 ba2 0 0) an ?_
 obtain ⟨o38, h39, h⟩ := Qe h
 cases o38 with
 | exit0 v40 =>
  obtain rfl := Qf h
  exact T.last' (T.bl (i := 0) (by kernel_rfl) (by kernel_rfl) (f33n2_ok FUEL bb1 ba2 0 0 h39)) (tds := []) (m := []) (keep := [6]) (st2 := (f33n1E bb1 ba2 (.norm v40)).2) (by kernel_rfl) an rfl
inductive f33n0O where
 | ret (v49 : Int) (v50 : Int)
def f33n0E (a1 : Qd) (a2 : ByteArray) : f33n0O → Ex × Tr × Hp
 | .ret v49 v50 => (.ret, mkS [(4, (jI v49)), (5, (jI v50))], [])
def f33n0S (a1 : Qd) (a2 : ByteArray) : Tr × Hp := (Qal [(jA Qd.cells a1), (jS a2)] 0 .leaf, [])
noncomputable def f33n0 (a1 : Qd) (a2 : ByteArray) : Option f33n0O :=
 (f34 a1).bind fun x6 =>
 bif (decide (x6 = 0)) then
  (f33n1 a2 a1).bind fun o42 => match o42 with
  | .norm v44 => (f54 v44).bind fun x47 =>
   some (.ret x47.1 x47.2)
 else
  some (.ret 0 8)
theorem f33n0_ok (a1 : Qd) (a2 : ByteArray) {o : f33n0O} (h : (f33n0 a1 a2) = some o) : T Try.prog Try.f33.ntmps 0 c33 (f33n0S a1 a2) (fun r => r = f33n0E a1 a2 o) := by
 unfold f33n0 at h
 obtain ⟨x6, h7, h⟩ := Qe h
 rcases Qg h with ⟨h8, h⟩ | ⟨h8, h⟩
 ·refine rN Qi 3 [j3, ([], [jH 1 (jI x6)], []), j3] [some false] [] [0] [1, 2, 6] (f33n1S a2 a1) (ap (Qcs a1 h7) (ap (Qk h8) an)) ?_
  obtain ⟨o42, h43, h⟩ := Qe h
  cases o42 with
  | norm v44 =>
   refine T.oneN (by kernel_rfl) (f33n1_ok a2 a1 h43) (st2 := (f33n1E a2 a1 (.norm v44)).2) rfl ?_
   obtain ⟨x47, h48, h⟩ := Qe h
   obtain rfl := Qf h
   exact rE Qi [([], [jH 1 (.tup [(jI x47.1), (jI x47.2)])], [])] [] [] [] [4, 5] (.ret, (f33n0E a1 a2 (.ret x47.1 x47.2)).2) (ap (f54_ok v44 h48) an) rfl
 ·obtain rfl := Qf h
  exact rK Qi 2 [j3, ([], [jH 1 (jI x6)], []), j3] [some true] [] [] [4, 5] .ret ((f33n0E a1 a2 (.ret 0 8)).2) (ap (Qcs a1 h7) (ap (Qr h8) an)) rfl
noncomputable def f33 (a1 : Qd) (a2 : ByteArray) : Option (Int × Int) := (f33n0 a1 a2).bind fun o => match o with
 | .ret v49 v50 => some (v49, v50)
theorem f33_ok (a1 : Qd) (a2 : ByteArray) {r : Int × Int} (h : (f33 a1 a2) = some r) : Qq Try.prog false 33 [(jA Qd.cells a1), (jS a2)] [] (.tup [(jI r.1), (jI r.2)]) [] := by
 unfold f33 at h
 obtain ⟨o, ho, h⟩ := Qe h
 cases o with
 | ret v49 v50 =>
  obtain rfl := Qf h
  exact Qq.plain Qi (f := Try.f33) (c := c33) (by kernel_rfl) (by kernel_rfl) (by kernel_rfl) (by kernel_rfl) ((f33n0_ok a1 a2 ho).mono fun r e => by subst e; exact ⟨.inl rfl, (.tup [(jI v49), (jI v50)]), (.tup [(jI v49), (jI v50)]), by kernel_rfl, by kernel_rfl, ((Wk.refl _) : Wk (.tup [(jI v49), (jI v50)]) (.tup [(jI v49), (jI v50)]))⟩)

noncomputable def c13 : Code := Try.f13.body.getD .skip
inductive f13n0O where
 | ret (v6 : Int) (v7 : Int)
def f13n0E (a1 : Int) : f13n0O → Ex × Tr × Hp
 | .ret v6 v7 => (.ret, mkS [(2, (.bp 0 0)), (3, (jI v6))], [some (.box [(jI v7), (.pl (.sl .nil 0 []))])])
def f13n0S (a1 : Int) : Tr × Hp := (Qal [(jI a1)] 0 .leaf, [])
noncomputable def f13n0 (a1 : Int) : Option f13n0O :=
 bif (decide (a1 < 0)) then
  some (.ret 2 0)
 else
  bif (decide (99999 < a1)) then
   some (.ret 2 0)
  else
   some (.ret 0 a1)
theorem f13n0_ok (a1 : Int) {o : f13n0O} (h : (f13n0 a1) = some o) : T Try.prog Try.f13.ntmps 0 c13 (f13n0S a1) (fun r => r = f13n0E a1 o) := by
 unfold f13n0 at h
 rcases Qg h with ⟨h4, h⟩ | ⟨h4, h⟩
 ·obtain rfl := Qf h
  exact rK Qi 2 [j3, ([(3, true), (4, true)], [(5, .bool true)], []), j3] [none] [] [0] [2, 3] .ret ((f13n0E a1 (.ret 2 0)).2) (ap3 h4 an) rfl
 ·rcases Qg h with ⟨h5, h⟩ | ⟨h5, h⟩
  ·obtain rfl := Qf h
   exact rK Qi 2 [j3, ([(3, false), (4, false)], [(5, .bool false)], []), j3] [some true] [] [0] [2, 3] .ret ((f13n0E a1 (.ret 2 0)).2) (ap3 h4 (ap h5 an)) rfl
  ·obtain rfl := Qf h
   exact rE Qi [j3, ([(3, false), (4, false)], [(5, .bool false)], []), j3] [some false] [] [0] [2, 3] (.ret, (f13n0E a1 (.ret 0 a1)).2) (ap3 h4 (ap h5 an)) rfl
noncomputable def f13 (a1 : Int) : Option (Qd × Int) := (f13n0 a1).bind fun o => match o with
 | .ret v6 v7 => some ((Qd.mk v7 []), v6)
theorem f13_ok (a1 : Int) {r : Qd × Int} (h : (f13 a1) = some r) : Qq Try.prog false 13 [(jI a1)] [] (.tup [(jA Qd.cells r.1), (jI r.2)]) [] := by
 unfold f13 at h
 obtain ⟨o, ho, h⟩ := Qe h
 cases o with
 | ret v6 v7 =>
  obtain rfl := Qf h
  exact Qq.plain Qi (f := Try.f13) (c := c13) (by kernel_rfl) (by kernel_rfl) (by kernel_rfl) (by kernel_rfl) ((f13n0_ok a1 ho).mono fun r e => by subst e; exact ⟨.inl rfl, (.tup [(.pl (.agg [(.int .i64 v7), (.sl .nil 0 [])])), (jI v6)]), (.tup [(.pl (.agg [(.int .i64 v7), (.sl .nil 0 [])])), (jI v6)]), by kernel_rfl, by kernel_rfl, ((Wk.tup (wlc (Wk.pl (WkP.agg (wpc (WkP.refl _) (wpc (WkP.nil (f := .nil) (sz := 0) (sz' := 4)) wpn)))) (wlc (Wk.refl _) wln))) : Wk (.tup [(.pl (.agg [(.int .i64 v7), (.sl .nil 0 [])])), (jI v6)]) (.tup [(.pl (.agg (Qd.cells (Qd.mk v7 [])))), (jI v6)]))⟩)

noncomputable def c9 : Code := Try.f9.body.getD .skip
inductive f9n1O where
 | norm (v28 : List Qc) (v29 : List Qa)
def f9n1E (bb1 : ByteArray) (bk2 : Bool) (ba3 : Qd) (bl4 : Op_) : f9n1O → Ex × Tr × Hp
 | .norm v28 v29 => (.norm, mkS [(2, (jS bb1)), (3, (.bp 0 0)), (4, (.bp 1 0)), (7, (jB bk2)), (8, (.bp 2 0)), (9, (.own 3))], [some (.box ((Qd.cells ba3).map .pl)), some (.box ((Op_.cells bl4).map .pl)), some (.box [(jI ba3.Day), (.own 4)]), jR 2 Qc.cells v28, jR 4 Qa.cells v29])
def f9n1S (bb1 : ByteArray) (bk2 : Bool) (ba3 : Qd) (bl4 : Op_) : Tr × Hp := (mkS [(2, (jS bb1)), (3, (.bp 0 0)), (4, (.bp 1 0)), (7, (jB bk2))], [some (.box ((Qd.cells ba3).map .pl)), some (.box ((Op_.cells bl4).map .pl))])
noncomputable def f9n1 (bb1 : ByteArray) (bk2 : Bool) (ba3 : Qd) (bl4 : Op_) : Option f9n1O :=
 (f20r1 ba3).bind fun x24 =>
 bif (bl4.Prices.isEmpty) then
  some (.norm [] x24)
 else
  req (fit bl4.Prices.length 24) <|
  some (.norm bl4.Prices x24)
theorem f9n1_ok (bb1 : ByteArray) (bk2 : Bool) (ba3 : Qd) (bl4 : Op_) {o : f9n1O} (h : (f9n1 bb1 bk2 ba3 bl4) = some o) : T Try.prog Try.f9.ntmps 0 (cL (Qn 3 c9)) (f9n1S bb1 bk2 ba3 bl4) (fun r => r = f9n1E bb1 bk2 ba3 bl4 o) := by
 unfold f9n1 at h
 obtain ⟨x24, h25, h⟩ := Qe h
 rcases Qg h with ⟨h26, h⟩ | ⟨h26, h⟩
 ·obtain rfl := Qf h
  exact rE Qi [([], [(1, .call (.agg [(jI ba3.Day), (.own 7)]) (jN 6 [some (.box [(jI ba3.Day), (.own 7)]), jR 4 Qa.cells x24])), (5, .app false)], [])] [] [] [0, 1, 4, 2, 7] [2, 3, 4, 7, 8, 9] (.norm, (f9n1E bb1 bk2 ba3 bl4 (.norm [] x24)).2) (ap (nil_map (c := Qc.cells) h26) (ap (Qq.rn 6 [] (f20r1_ok ba3 h25)) an)) rfl
 ·obtain ⟨h27, h⟩ := Qz h
  obtain rfl := Qf h
  exact rE Qi [([], [(1, .call (.agg [(jI ba3.Day), (.own 7)]) (jN 6 [some (.box [(jI ba3.Day), (.own 7)]), jR 4 Qa.cells x24])), (5, .app true)], [])] [] [] [0, 1, 4, 3, 7] [2, 3, 4, 7, 8, 9] (.norm, (f9n1E bb1 bk2 ba3 bl4 (.norm bl4.Prices x24)).2) (ap (fit_map0z (te := ti72) (xs := bl4.Prices) (c := Qc.cells) h27 rfl) (ap (ne_map (c := Qc.cells) h26) (ap (len_all (c := Qc.cells) (xs := bl4.Prices) (n := 2) (fun _ => rfl)) (ap (Qq.rn 6 [] (f20r1_ok ba3 h25)) an)))) rfl
inductive f9n2O where
 | norm (v51 : Bool)
def f9n2E (bb1 : ByteArray) (bk2 : Bool) (bo3 : Int × Int × (List Qa)) (bp4 : Qd × Int) (ba5 : Qd) (bl6 : Op_) (bh7 : List Qc) (bg8 : List Qa) : f9n2O → Ex × Tr × Hp
 | .norm v51 => (.norm, mkS [(2, (jS bb1)), (3, (.bp 0 0)), (4, (.bp 1 0)), (7, (jB bk2)), (8, (.bp 2 0)), (9, (.own 3)), (10, (.bp 4 0)), (14, (jB v51))], [some (.box ((Qd.cells ba5).map .pl)), some (.box ((Op_.cells bl6).map .pl)), some (.box [(jI ba5.Day), (.own 5)]), jR 2 Qc.cells bh7, some (.box [(jI bo3.2.1), (.own 6)]), jR 4 Qa.cells bg8, jR 4 Qa.cells bo3.2.2])
def f9n2S (bb1 : ByteArray) (bk2 : Bool) (bo3 : Int × Int × (List Qa)) (bp4 : Qd × Int) (ba5 : Qd) (bl6 : Op_) (bh7 : List Qc) (bg8 : List Qa) : Tr × Hp := (mkS [(2, (jS bb1)), (3, (.bp 0 0)), (4, (.bp 1 0)), (7, (jB bk2)), (8, (.bp 2 0)), (9, (.own 3)), (10, (.bp 4 0)), (11, (jI bo3.1)), (12, (.bp 5 0)), (13, (jI bp4.2))], [some (.box ((Qd.cells ba5).map .pl)), some (.box ((Op_.cells bl6).map .pl)), some (.box [(jI ba5.Day), (.own 6)]), jR 2 Qc.cells bh7, some (.box [(jI bo3.2.1), (.own 7)]), some (.box ((Qd.cells bp4.1).map .pl)), jR 4 Qa.cells bg8, jR 4 Qa.cells bo3.2.2])
noncomputable def f9n2 (bb1 : ByteArray) (bk2 : Bool) (bo3 : Int × Int × (List Qa)) (bp4 : Qd × Int) (ba5 : Qd) (bl6 : Op_) (bh7 : List Qc) (bg8 : List Qa) : Option f9n2O :=
 (f18 (Qd.mk bo3.2.1 bo3.2.2) bp4.1).bind fun x48 =>
 bif x48 then
  some (.norm (decide (bo3.1 = bp4.2)))
 else
  some (.norm false)
theorem f9n2_ok (bb1 : ByteArray) (bk2 : Bool) (bo3 : Int × Int × (List Qa)) (bp4 : Qd × Int) (ba5 : Qd) (bl6 : Op_) (bh7 : List Qc) (bg8 : List Qa) {o : f9n2O} (h : (f9n2 bb1 bk2 bo3 bp4 ba5 bl6 bh7 bg8) = some o) : T Try.prog Try.f9.ntmps 0 (cL (Qn 2 (Qn 1 (Qn 3 c9)))) (f9n2S bb1 bk2 bo3 bp4 ba5 bl6 bh7 bg8) (fun r => r = f9n2E bb1 bk2 bo3 bp4 ba5 bl6 bh7 bg8 o) := by
 unfold f9n2 at h
 obtain ⟨x48, h49, h⟩ := Qe h
 rcases Qg h with ⟨h50, h⟩ | ⟨h50, h⟩
 ·obtain rfl := Qf h
  exact rE Qi [(jT [4, 5, 6], [jH 2 (jB x48), (7, .bool true)], [])] [] [] [0, 1, 2, 3, 4, 6, 7] [2, 3, 4, 7, 8, 9, 10, 14] (.norm, (f9n2E bb1 bk2 bo3 bp4 ba5 bl6 bh7 bg8 (.norm (decide (bo3.1 = bp4.2)))).2) (ap4 h50 (ap (f18_ok (Qd.mk bo3.2.1 bo3.2.2) bp4.1 h49) an)) rfl
 ·obtain rfl := Qf h
  exact rE Qi [(jF [4, 5, 6], [jH 2 (jB x48), (7, .bool false)], [])] [] [] [0, 1, 2, 3, 4, 6, 7] [2, 3, 4, 7, 8, 9, 10, 14] (.norm, (f9n2E bb1 bk2 bo3 bp4 ba5 bl6 bh7 bg8 (.norm false)).2) (ap4 h50 (ap (f18_ok (Qd.mk bo3.2.1 bo3.2.2) bp4.1 h49) an)) rfl
inductive f9n3O where
 | norm (v88 : Bool)
def f9n3E (bb1 : ByteArray) (bk2 : Bool) (bk3 : Bool) (bq4 : Int × Int × (List Qb) × (List Qa)) (br5 : Qd × (List Qb) × Int) (ba6 : Qd) (bl7 : Op_) (bh8 : List Qc) (bg9 : List Qa) : f9n3O → Ex × Tr × Hp
 | .norm v88 => (.norm, mkS [(2, (jS bb1)), (3, (.bp 0 0)), (4, (.bp 1 0)), (7, (jB bk2)), (8, (.bp 2 0)), (9, (.own 3)), (14, (jB v88)), (15, (.bp 4 0))], [some (.box ((Qd.cells ba6).map .pl)), some (.box ((Op_.cells bl7).map .pl)), some (.box [(jI ba6.Day), (.own 5)]), jR 2 Qc.cells bh8, some (.box [(jI bq4.2.1), (.own 6)]), jR 4 Qa.cells bg9, jR 4 Qa.cells bq4.2.2.2])
def f9n3S (bb1 : ByteArray) (bk2 : Bool) (bk3 : Bool) (bq4 : Int × Int × (List Qb) × (List Qa)) (br5 : Qd × (List Qb) × Int) (ba6 : Qd) (bl7 : Op_) (bh8 : List Qc) (bg9 : List Qa) : Tr × Hp := (mkS [(2, (jS bb1)), (3, (.bp 0 0)), (4, (.bp 1 0)), (7, (jB bk2)), (8, (.bp 2 0)), (9, (.own 3)), (14, (jB bk3)), (15, (.bp 4 0)), (16, (.own 5)), (17, (jI bq4.1)), (18, (.bp 6 0)), (19, (jL 2 Qb.cells br5.2.1)), (20, (jI br5.2.2))], [some (.box ((Qd.cells ba6).map .pl)), some (.box ((Op_.cells bl7).map .pl)), some (.box [(jI ba6.Day), (.own 7)]), jR 2 Qc.cells bh8, some (.box [(jI bq4.2.1), (.own 8)]), jR 2 Qb.cells bq4.2.2.1, some (.box ((Qd.cells br5.1).map .pl)), jR 4 Qa.cells bg9, jR 4 Qa.cells bq4.2.2.2])
noncomputable def f9n3 (bb1 : ByteArray) (bk2 : Bool) (bk3 : Bool) (bq4 : Int × Int × (List Qb) × (List Qa)) (br5 : Qd × (List Qb) × Int) (ba6 : Qd) (bl7 : Op_) (bh8 : List Qc) (bg9 : List Qa) : Option f9n3O :=
 bif bk3 then
  (f18 (Qd.mk bq4.2.1 bq4.2.2.2) br5.1).bind fun x82 =>
  bif x82 then
   (f19 bq4.2.2.1 br5.2.1).bind fun x85 =>
   bif x85 then
    some (.norm (decide (bq4.1 = br5.2.2)))
   else
    some (.norm false)
  else
   some (.norm false)
 else
  some (.norm false)
theorem f9n3_ok (bb1 : ByteArray) (bk2 : Bool) (bk3 : Bool) (bq4 : Int × Int × (List Qb) × (List Qa)) (br5 : Qd × (List Qb) × Int) (ba6 : Qd) (bl7 : Op_) (bh8 : List Qc) (bg9 : List Qa) {o : f9n3O} (h : (f9n3 bb1 bk2 bk3 bq4 br5 ba6 bl7 bh8 bg9) = some o) : T Try.prog Try.f9.ntmps 0 (cL (Qn 1 (Qn 2 (Qn 1 (Qn 2 (Qn 1 (Qn 3 c9))))))) (f9n3S bb1 bk2 bk3 bq4 br5 ba6 bl7 bh8 bg9) (fun r => r = f9n3E bb1 bk2 bk3 bq4 br5 ba6 bl7 bh8 bg9 o) := by
 unfold f9n3 at h
 rcases Qg h with ⟨h81, h⟩ | ⟨h81, h⟩
 ·obtain ⟨x82, h83, h⟩ := Qe h
  rcases Qg h with ⟨h84, h⟩ | ⟨h84, h⟩
  ·obtain ⟨x85, h86, h⟩ := Qe h
   rcases Qg h with ⟨h87, h⟩ | ⟨h87, h⟩
   ·obtain rfl := Qf h
    exact rE Qi [(jT [2, 3, 4, 7, 8, 9, 12, 13, 14], [jH 4 (jB x82), (5, .bool true), jH 9 (jB x85), (10, .bool true), (15, .bool true)], [])] [] [] [0, 1, 2, 3, 4, 7, 8] [2, 3, 4, 7, 8, 9, 14, 15] (.norm, (f9n3E bb1 bk2 bk3 bq4 br5 ba6 bl7 bh8 bg9 (.norm (decide (bq4.1 = br5.2.2)))).2) (ap4 h81 (ap4 h84 (ap4 h87 (ap (f18_ok (Qd.mk bq4.2.1 bq4.2.2.2) br5.1 h83) (ap (f19_ok bq4.2.2.1 br5.2.1 h86) an))))) rfl
   ·obtain rfl := Qf h
    exact rE Qi [(jF [12, 13, 14] ++ jT [2, 3, 4, 7, 8, 9], [jH 4 (jB x82), (5, .bool true), jH 9 (jB x85), (10, .bool true), (15, .bool false)], [])] [] [] [0, 1, 2, 3, 4, 7, 8] [2, 3, 4, 7, 8, 9, 14, 15] (.norm, (f9n3E bb1 bk2 bk3 bq4 br5 ba6 bl7 bh8 bg9 (.norm false)).2) (ap4 h81 (ap4 h84 (ap4 h87 (ap (f18_ok (Qd.mk bq4.2.1 bq4.2.2.2) br5.1 h83) (ap (f19_ok bq4.2.2.1 br5.2.1 h86) an))))) rfl
  ·obtain rfl := Qf h
   exact rE Qi [(jF [7, 8, 9] ++ jT [2, 3, 4], [jH 4 (jB x82), (5, .bool true), (10, .bool false)], [])] [] [] [0, 1, 2, 3, 4, 7, 8] [2, 3, 4, 7, 8, 9, 14, 15] (.norm, (f9n3E bb1 bk2 bk3 bq4 br5 ba6 bl7 bh8 bg9 (.norm false)).2) (ap4 h81 (ap4 h84 (ap (f18_ok (Qd.mk bq4.2.1 bq4.2.2.2) br5.1 h83) an))) rfl
 ·obtain rfl := Qf h
  exact rE Qi [(jF [2, 3, 4], [(5, .bool false)], [])] [] [] [0, 1, 2, 3, 4, 7, 8] [2, 3, 4, 7, 8, 9, 14, 15] (.norm, (f9n3E bb1 bk2 bk3 bq4 br5 ba6 bl7 bh8 bg9 (.norm false)).2) (ap4 h81 an) rfl
inductive f9n4O where
 | norm (v170 : Bool)
def f9n4E (bk1 : Bool) (bk2 : Bool) (bs3 : Qa × Bool) (bs4 : Qa × Bool) (bt5 : Int × Int) (bt6 : Int × Int) (bt7 : Int × Int) (bt8 : Int × Int) (bp9 : Qd × Int) (bp10 : Qd × Int) (ba11 : Qd) (bl12 : Op_) (bh13 : List Qc) (bg14 : List Qa) : f9n4O → Ex × Tr × Hp
 | .norm v170 => (.norm, mkS [(3, (.bp 0 0)), (4, (.bp 1 0)), (7, (jB bk1)), (8, (.bp 2 0)), (9, (.own 3)), (14, (jB bk2)), (37, (jB v170))], [some (.box ((Qd.cells ba11).map .pl)), some (.box ((Op_.cells bl12).map .pl)), some (.box [(jI ba11.Day), (.own 4)]), jR 2 Qc.cells bh13, jR 4 Qa.cells bg14])
def f9n4S (bk1 : Bool) (bk2 : Bool) (bs3 : Qa × Bool) (bs4 : Qa × Bool) (bt5 : Int × Int) (bt6 : Int × Int) (bt7 : Int × Int) (bt8 : Int × Int) (bp9 : Qd × Int) (bp10 : Qd × Int) (ba11 : Qd) (bl12 : Op_) (bh13 : List Qc) (bg14 : List Qa) : Tr × Hp := (mkS [(3, (.bp 0 0)), (4, (.bp 1 0)), (7, (jB bk1)), (8, (.bp 2 0)), (9, (.own 3)), (14, (jB bk2)), (21, (.bp 4 0)), (22, (jB bs3.2)), (23, (.bp 5 0)), (24, (jB bs4.2)), (25, (jI bt5.1)), (26, (jI bt5.2)), (27, (jI bt6.1)), (28, (jI bt6.2)), (29, (jI bt7.1)), (30, (jI bt7.2)), (31, (jI bt8.1)), (32, (jI bt8.2)), (33, (.bp 6 0)), (34, (jI bp9.2)), (35, (.bp 7 0)), (36, (jI bp10.2))], [some (.box ((Qd.cells ba11).map .pl)), some (.box ((Op_.cells bl12).map .pl)), some (.box [(jI ba11.Day), (.own 8)]), jR 2 Qc.cells bh13, some (.box ((Qa.cells bs3.1).map .pl)), some (.box ((Qa.cells bs4.1).map .pl)), some (.box ((Qd.cells bp9.1).map .pl)), some (.box ((Qd.cells bp10.1).map .pl)), jR 4 Qa.cells bg14])
noncomputable def f9n4 (bk1 : Bool) (bk2 : Bool) (bs3 : Qa × Bool) (bs4 : Qa × Bool) (bt5 : Int × Int) (bt6 : Int × Int) (bt7 : Int × Int) (bt8 : Int × Int) (bp9 : Qd × Int) (bp10 : Qd × Int) (ba11 : Qd) (bl12 : Op_) (bh13 : List Qc) (bg14 : List Qa) : Option f9n4O :=
 bif (Qa.eqb bs3.1 bs4.1) then
  bif (bs3.2 == bs4.2) then
   bif (decide (bt5.1 = bt6.1)) then
    bif (decide (bt5.2 = bt6.2)) then
     bif (decide (bt7.1 = bt8.1)) then
      bif (decide (bt7.2 = bt8.2)) then
       (f18 bp9.1 bp10.1).bind fun x162 =>
       bif x162 then
        bif (decide (bp9.2 = bp10.2)) then
         (f26 (Qd.mk ba11.Day bg14)).bind fun x166 =>
         (f34 ba11).bind fun x168 =>
         some (.norm (decide (x166 = x168)))
        else
         some (.norm false)
       else
        some (.norm false)
      else
       some (.norm false)
     else
      some (.norm false)
    else
     some (.norm false)
   else
    some (.norm false)
  else
   some (.norm false)
 else
  some (.norm false)
theorem f9n4_ok (bk1 : Bool) (bk2 : Bool) (bs3 : Qa × Bool) (bs4 : Qa × Bool) (bt5 : Int × Int) (bt6 : Int × Int) (bt7 : Int × Int) (bt8 : Int × Int) (bp9 : Qd × Int) (bp10 : Qd × Int) (ba11 : Qd) (bl12 : Op_) (bh13 : List Qc) (bg14 : List Qa) {o : f9n4O} (h : (f9n4 bk1 bk2 bs3 bs4 bt5 bt6 bt7 bt8 bp9 bp10 ba11 bl12 bh13 bg14) = some o) : T Try.prog Try.f9.ntmps 0 (cL (Qn 5 (Qn 4 (Qn 1 (Qn 1 (Qn 2 (Qn 1 (Qn 2 (Qn 1 (Qn 3 c9)))))))))) (f9n4S bk1 bk2 bs3 bs4 bt5 bt6 bt7 bt8 bp9 bp10 ba11 bl12 bh13 bg14) (fun r => r = f9n4E bk1 bk2 bs3 bs4 bt5 bt6 bt7 bt8 bp9 bp10 ba11 bl12 bh13 bg14 o) := by
 unfold f9n4 at h
 rcases Qg h with ⟨h156, h⟩ | ⟨h156, h⟩
 ·rcases Qg h with ⟨h157, h⟩ | ⟨h157, h⟩
  ·rcases Qg h with ⟨h158, h⟩ | ⟨h158, h⟩
   ·rcases Qg h with ⟨h159, h⟩ | ⟨h159, h⟩
    ·rcases Qg h with ⟨h160, h⟩ | ⟨h160, h⟩
     ·rcases Qg h with ⟨h161, h⟩ | ⟨h161, h⟩
      ·obtain ⟨x162, h163, h⟩ := Qe h
       rcases Qg h with ⟨h164, h⟩ | ⟨h164, h⟩
       ·rcases Qg h with ⟨h165, h⟩ | ⟨h165, h⟩
        ·obtain ⟨x166, h167, h⟩ := Qe h
         obtain ⟨x168, h169, h⟩ := Qe h
         obtain rfl := Qf h
         exact rE Qi [(jT [4, 5, 6, 9, 10, 11, 14, 15, 16, 19, 20, 21, 24, 25, 26, 29, 30, 31, 34, 35, 36, 39, 40, 41, 42, 43], [(2, .bool (Qa.eqb bs3.1 bs4.1)), (7, .bool true), (12, .bool true), (17, .bool true), (22, .bool true), (27, .bool true), jH 31 (jB x162), (32, .bool true), (37, .bool true), jH 40 (jI x166), jH 42 (jI x168), (44, .bool true)], [])] [] [] [0, 1, 2, 3, 8] [3, 4, 7, 8, 9, 14, 37] (.norm, (f9n4E bk1 bk2 bs3 bs4 bt5 bt6 bt7 bt8 bp9 bp10 ba11 bl12 bh13 bg14 (.norm (decide (x166 = x168)))).2) (ap (Qa.eqb_ok bs3.1 bs4.1) (ap4 h156 (ap4 h157 (ap4 h158 (ap4 h159 (ap4 h160 (ap4 h161 (ap4 h164 (ap2 h165 (ap4 h165 (ap (f18_ok bp9.1 bp10.1 h163) (ap (Qby (Qd.mk ba11.Day bg14) h167) (ap (Qcs ba11 h169) an))))))))))))) rfl
        ·obtain rfl := Qf h
         exact rE Qi [(jF [39, 40, 41, 42, 43] ++ jT [4, 5, 6, 9, 10, 11, 14, 15, 16, 19, 20, 21, 24, 25, 26, 29, 30, 31, 34, 35, 36], [(2, .bool (Qa.eqb bs3.1 bs4.1)), (7, .bool true), (12, .bool true), (17, .bool true), (22, .bool true), (27, .bool true), jH 31 (jB x162), (32, .bool true), (37, .bool true), (44, .bool false)], [])] [] [] [0, 1, 2, 3, 8] [3, 4, 7, 8, 9, 14, 37] (.norm, (f9n4E bk1 bk2 bs3 bs4 bt5 bt6 bt7 bt8 bp9 bp10 ba11 bl12 bh13 bg14 (.norm false)).2) (ap (Qa.eqb_ok bs3.1 bs4.1) (ap4 h156 (ap4 h157 (ap4 h158 (ap4 h159 (ap4 h160 (ap4 h161 (ap4 h164 (ap2 h165 (ap4 h165 (ap (f18_ok bp9.1 bp10.1 h163) an))))))))))) rfl
       ·obtain rfl := Qf h
        exact rE Qi [(jF [34, 35, 36] ++ jT [4, 5, 6, 9, 10, 11, 14, 15, 16, 19, 20, 21, 24, 25, 26, 29, 30, 31], [(2, .bool (Qa.eqb bs3.1 bs4.1)), (7, .bool true), (12, .bool true), (17, .bool true), (22, .bool true), (27, .bool true), jH 31 (jB x162), (32, .bool true), (37, .bool false)], [])] [] [] [0, 1, 2, 3, 8] [3, 4, 7, 8, 9, 14, 37] (.norm, (f9n4E bk1 bk2 bs3 bs4 bt5 bt6 bt7 bt8 bp9 bp10 ba11 bl12 bh13 bg14 (.norm false)).2) (ap (Qa.eqb_ok bs3.1 bs4.1) (ap4 h156 (ap4 h157 (ap4 h158 (ap4 h159 (ap4 h160 (ap4 h161 (ap4 h164 (ap (f18_ok bp9.1 bp10.1 h163) an))))))))) rfl
      ·obtain rfl := Qf h
       exact rE Qi [(jF [29, 30, 31] ++ jT [4, 5, 6, 9, 10, 11, 14, 15, 16, 19, 20, 21, 24, 25, 26], [(2, .bool (Qa.eqb bs3.1 bs4.1)), (7, .bool true), (12, .bool true), (17, .bool true), (22, .bool true), (27, .bool true), (32, .bool false)], [])] [] [] [0, 1, 2, 3, 8] [3, 4, 7, 8, 9, 14, 37] (.norm, (f9n4E bk1 bk2 bs3 bs4 bt5 bt6 bt7 bt8 bp9 bp10 ba11 bl12 bh13 bg14 (.norm false)).2) (ap (Qa.eqb_ok bs3.1 bs4.1) (ap4 h156 (ap4 h157 (ap4 h158 (ap4 h159 (ap4 h160 (ap4 h161 an))))))) rfl
     ·obtain rfl := Qf h
      exact rE Qi [(jF [24, 25, 26] ++ jT [4, 5, 6, 9, 10, 11, 14, 15, 16, 19, 20, 21], [(2, .bool (Qa.eqb bs3.1 bs4.1)), (7, .bool true), (12, .bool true), (17, .bool true), (22, .bool true), (27, .bool false)], [])] [] [] [0, 1, 2, 3, 8] [3, 4, 7, 8, 9, 14, 37] (.norm, (f9n4E bk1 bk2 bs3 bs4 bt5 bt6 bt7 bt8 bp9 bp10 ba11 bl12 bh13 bg14 (.norm false)).2) (ap (Qa.eqb_ok bs3.1 bs4.1) (ap4 h156 (ap4 h157 (ap4 h158 (ap4 h159 (ap4 h160 an)))))) rfl
    ·obtain rfl := Qf h
     exact rE Qi [(jF [19, 20, 21] ++ jT [4, 5, 6, 9, 10, 11, 14, 15, 16], [(2, .bool (Qa.eqb bs3.1 bs4.1)), (7, .bool true), (12, .bool true), (17, .bool true), (22, .bool false)], [])] [] [] [0, 1, 2, 3, 8] [3, 4, 7, 8, 9, 14, 37] (.norm, (f9n4E bk1 bk2 bs3 bs4 bt5 bt6 bt7 bt8 bp9 bp10 ba11 bl12 bh13 bg14 (.norm false)).2) (ap (Qa.eqb_ok bs3.1 bs4.1) (ap4 h156 (ap4 h157 (ap4 h158 (ap4 h159 an))))) rfl
   ·obtain rfl := Qf h
    exact rE Qi [(jF [14, 15, 16] ++ jT [4, 5, 6, 9, 10, 11], [(2, .bool (Qa.eqb bs3.1 bs4.1)), (7, .bool true), (12, .bool true), (17, .bool false)], [])] [] [] [0, 1, 2, 3, 8] [3, 4, 7, 8, 9, 14, 37] (.norm, (f9n4E bk1 bk2 bs3 bs4 bt5 bt6 bt7 bt8 bp9 bp10 ba11 bl12 bh13 bg14 (.norm false)).2) (ap (Qa.eqb_ok bs3.1 bs4.1) (ap4 h156 (ap4 h157 (ap4 h158 an)))) rfl
  ·obtain rfl := Qf h
   exact rE Qi [(jF [9, 10, 11] ++ jT [4, 5, 6], [(2, .bool (Qa.eqb bs3.1 bs4.1)), (7, .bool true), (12, .bool false)], [])] [] [] [0, 1, 2, 3, 8] [3, 4, 7, 8, 9, 14, 37] (.norm, (f9n4E bk1 bk2 bs3 bs4 bt5 bt6 bt7 bt8 bp9 bp10 ba11 bl12 bh13 bg14 (.norm false)).2) (ap (Qa.eqb_ok bs3.1 bs4.1) (ap4 h156 (ap4 h157 an))) rfl
 ·obtain rfl := Qf h
  exact rE Qi [(jF [4, 5, 6], [(2, .bool (Qa.eqb bs3.1 bs4.1)), (7, .bool false)], [])] [] [] [0, 1, 2, 3, 8] [3, 4, 7, 8, 9, 14, 37] (.norm, (f9n4E bk1 bk2 bs3 bs4 bt5 bt6 bt7 bt8 bp9 bp10 ba11 bl12 bh13 bg14 (.norm false)).2) (ap (Qa.eqb_ok bs3.1 bs4.1) (ap4 h156 an)) rfl
inductive f9n6O where
 | exit0 (v214 : Bool)
def f9n6E (bk1 : Bool) (bk2 : Bool) (ba4 : Qd) (bl5 : Op_) (bh6 : List Qc) (bg7 : List Qa) : f9n6O → Ex × Tr × Hp
 | .exit0 v214 => ((.exit 0), mkS [(3, (.bp 0 0)), (7, (jB bk1)), (8, (.bp 1 0)), (14, (jB bk2)), (37, (jB v214))], [some (.box ((Qd.cells ba4).map .pl)), some (.box [(jI ba4.Day), (.own 2)]), jR 4 Qa.cells bg7])
def f9n6S (bk1 : Bool) (bk2 : Bool) (ba4 : Qd) (bl5 : Op_) (bh6 : List Qc) (bg7 : List Qa) (v200 : Bool) (v201 : Int) : Tr × Hp := (mkS [(3, (.bp 0 0)), (4, (.bp 1 0)), (7, (jB bk1)), (8, (.bp 2 0)), (9, (.own 3)), (14, (jB bk2)), (37, (jB v200)), (38, (jI v201))], [some (.box ((Qd.cells ba4).map .pl)), some (.box ((Op_.cells bl5).map .pl)), some (.box [(jI ba4.Day), (.own 4)]), jR 2 Qc.cells bh6, jR 4 Qa.cells bg7])
noncomputable def f9n6 : Nat → Bool → Bool → Qd → Op_ → List Qc → List Qa → Bool → Int → Option f9n6O
 | 0, _, _, _, _, _, _, _, _ => none
 | f + 1, bk1, bk2, ba4, bl5, bh6, bg7, v200, v201 =>
  bif (decide (v201 < (bh6.length : Int))) then
   bif v200 then
    (at? bh6 v201).bind fun x210 =>
    (at? bl5.Prices v201).bind fun x212 =>
    (f9n6 f bk1 bk2 ba4 bl5 bh6 bg7 (Qc.eqb x210 x212) (wr64 (v201 + 1)))
   else
    (f9n6 f bk1 bk2 ba4 bl5 bh6 bg7 false (wr64 (v201 + 1)))
  else
   some (.exit0 v200)
theorem f9n6_ok : ∀ (f : Nat) (bk1 : Bool) (bk2 : Bool) (ba4 : Qd) (bl5 : Op_) (bh6 : List Qc) (bg7 : List Qa) (v200 : Bool) (v201 : Int) {o : f9n6O}, (f9n6 f bk1 bk2 ba4 bl5 bh6 bg7 v200 v201) = some o → TL Try.prog Try.f9.ntmps 0 f (cL (cL (Qn 1 (cL (Qn 0 (Qn 1 (Qn 5 (Qn 4 (Qn 1 (Qn 1 (Qn 2 (Qn 1 (Qn 2 (Qn 1 (Qn 3 c9))))))))))))))) (f9n6S bk1 bk2 ba4 bl5 bh6 bg7 v200 v201) (fun r => r = f9n6E bk1 bk2 ba4 bl5 bh6 bg7 o)
 | 0, _, _, _, _, _, _, _, _, o, h => by rw [f9n6] at h; cases h
 | f + 1, bk1, bk2, ba4, bl5, bh6, bg7, v200, v201, o, h => by
  rw [f9n6] at h
  refine TL.body (K := fun s => ∃ v200 : Bool, ∃ v201 : Int, s = (f9n6S bk1 bk2 ba4 bl5 bh6 bg7 v200 v201) ∧ (f9n6 f bk1 bk2 ba4 bl5 bh6 bg7 v200 v201) = some o) ?_ (by rintro _ ⟨v200, v201, rfl, hk⟩; exact f9n6_ok f _ _ _ _ _ _ _ _ hk)
  rcases Qg h with ⟨h203, h⟩ | ⟨h203, h⟩
  ·rcases Qg h with ⟨h209, h⟩ | ⟨h209, h⟩
   ·obtain ⟨x210, h211, h⟩ := Qe h
    obtain ⟨x212, h213, h⟩ := Qe h
    exact rE Qi [([], [], [(2, .val (jI (bh6.length : Int)))]), (jT [2, 3, 4, 5, 6, 7, 8, 9, 10, 11], [(4, .at_ (Int.toNat v201)), (5, .idx 0 (Qc.cells x210)), (9, .idx (Int.toNat v201) (Qc.cells x212)), (11, .bool (Qc.eqb x210 x212)), (12, .bool true)], []), j3] [some true] [] [0, 1, 2, 3, 4] [3, 4, 7, 8, 9, 14, 37, 38] (.norm, (f9n6S bk1 bk2 ba4 bl5 bh6 bg7 (Qc.eqb x210 x212) (wr64 (v201 + 1)))) (ap (Qo (xs := bh6) (c := Qc.cells)) (ap h203 (ap3 h209 (ap (Qh h211).1 (ap (Qay Qc.cells (Qh h211).2) (ap h209 (ap (Ql Qc.cells (Qh h211).2) (ap4 h209 (ap (Qh h213).1 (ap (Ql Qc.cells (Qh h213).2) (ap2 h209 (ap (Qc.eqb_ok x210 x212) (ap h209 an))))))))))))) (Qs.norm ⟨(Qc.eqb x210 x212), (wr64 (v201 + 1)), rfl, h⟩)
   ·exact rE Qi [([], [], [(2, .val (jI (bh6.length : Int)))]), (jF [2, 3, 4, 5, 6, 7, 8, 9, 10, 11], [(12, .bool false)], []), j3] [some true] [] [0, 1, 2, 3, 4] [3, 4, 7, 8, 9, 14, 37, 38] (.norm, (f9n6S bk1 bk2 ba4 bl5 bh6 bg7 false (wr64 (v201 + 1)))) (ap (Qo (xs := bh6) (c := Qc.cells)) (ap h203 (ap3 h209 (ap4 h209 (ap4 h209 an))))) (Qs.norm ⟨false, (wr64 (v201 + 1)), rfl, h⟩)
  ·obtain rfl := Qf h
   exact rK Qi 1 [([], [], [(2, .val (jI (bh6.length : Int)))])] [some false] [] [0, 2, 4] [3, 7, 8, 14, 37] (.exit 0) ((f9n6E bk1 bk2 ba4 bl5 bh6 bg7 (.exit0 v200)).2) (ap (Qo (xs := bh6) (c := Qc.cells)) (ap h203 an)) (Qs.out rfl rfl)
noncomputable def f9n6L (bk1 : Bool) (bk2 : Bool) (ba4 : Qd) (bl5 : Op_) (bh6 : List Qc) (bg7 : List Qa) : List Qc → Bool → Int → Option f9n6O
 | [], v200, v201 =>
  some (.exit0 v200)
 | x0 :: rest, v200, v201 =>
  bif v200 then
   (at? bl5.Prices v201).bind fun x212 =>
   (f9n6L bk1 bk2 ba4 bl5 bh6 bg7 rest (Qc.eqb x0 x212) (v201 + 1))
  else
   (f9n6L bk1 bk2 ba4 bl5 bh6 bg7 rest false (v201 + 1))
theorem f9n6L_eq (bk1 : Bool) (bk2 : Bool) (ba4 : Qd) (bl5 : Op_) (bh6 : List Qc) (bg7 : List Qa) : ∀ (rest : List Qc) (f k : Nat) (v200 : Bool), bh6.drop k = rest → bh6.length ≤ maxLen → rest.length < f → f9n6 f bk1 bk2 ba4 bl5 bh6 bg7 v200 (k : Int) = f9n6L bk1 bk2 ba4 bl5 bh6 bg7 rest v200 (k : Int)
 | _, 0, _, _, _, _, hf => absurd hf (Nat.not_lt_zero _)
 | [], f + 1, k, v200, hd, hm, hf => by
  have hk : ¬ ((k : Int) < (bh6.length : Int)) := by have := Qai hd; omega
  rw [f9n6, f9n6L]
  simp only [decide_eq_false hk, cond_false]
 | x0 :: rest, f + 1, k, v200, hd, hm, hf => by
  obtain ⟨hx, hlt, hd'⟩ := Qab hd
  have hk : (k : Int) < (bh6.length : Int) := by omega
  have hw : wr64 ((k : Int) + 1) = (k : Int) + 1 := Qbe (by omega) (by unfold maxLen at hm; omega)
  have ih : ∀ (v200 : Bool), f9n6 f bk1 bk2 ba4 bl5 bh6 bg7 v200 ((k : Int) + 1) = f9n6L bk1 bk2 ba4 bl5 bh6 bg7 rest v200 ((k : Int) + 1) := fun v200 => f9n6L_eq bk1 bk2 ba4 bl5 bh6 bg7 rest f (k + 1) v200 hd' hm (by simpa using hf)
  rw [f9n6, f9n6L]
  simp only [decide_eq_true hk, cond_true, Qah, hx, Option.bind_some, hw, ih]
theorem f9n6_run (bk1 : Bool) (bk2 : Bool) (ba4 : Qd) (bl5 : Op_) (bh6 : List Qc) (bg7 : List Qa) (v200 : Bool) (hm : bh6.length ≤ maxLen) : f9n6 FUEL bk1 bk2 ba4 bl5 bh6 bg7 v200 0 = f9n6L bk1 bk2 ba4 bl5 bh6 bg7 bh6 v200 0 := f9n6L_eq bk1 bk2 ba4 bl5 bh6 bg7 bh6 FUEL 0 v200 List.drop_zero hm (Qat hm)
inductive f9n5O where
 | norm (v218 : Bool)
def f9n5E (bk1 : Bool) (bk2 : Bool) (bk3 : Bool) (ba4 : Qd) (bl5 : Op_) (bh6 : List Qc) (bg7 : List Qa) : f9n5O → Ex × Tr × Hp
 | .norm v218 => (.norm, mkS [(3, (.bp 0 0)), (7, (jB bk1)), (8, (.bp 1 0)), (14, (jB bk2)), (37, (jB v218))], [some (.box ((Qd.cells ba4).map .pl)), some (.box [(jI ba4.Day), (.own 2)]), jR 4 Qa.cells bg7])
def f9n5S (bk1 : Bool) (bk2 : Bool) (bk3 : Bool) (ba4 : Qd) (bl5 : Op_) (bh6 : List Qc) (bg7 : List Qa) : Tr × Hp := (mkS [(3, (.bp 0 0)), (4, (.bp 1 0)), (7, (jB bk1)), (8, (.bp 2 0)), (9, (.own 3)), (14, (jB bk2)), (37, (jB bk3))], [some (.box ((Qd.cells ba4).map .pl)), some (.box ((Op_.cells bl5).map .pl)), some (.box [(jI ba4.Day), (.own 4)]), jR 2 Qc.cells bh6, jR 4 Qa.cells bg7])
noncomputable def f9n5 (bk1 : Bool) (bk2 : Bool) (bk3 : Bool) (ba4 : Qd) (bl5 : Op_) (bh6 : List Qc) (bg7 : List Qa) : Option f9n5O :=
 (f9n6 FUEL bk1 bk2 ba4 bl5 bh6 bg7 bk3 0).bind fun o215 => match o215 with
 | .exit0 v217 => some (.norm v217)
theorem f9n5_ok (bk1 : Bool) (bk2 : Bool) (bk3 : Bool) (ba4 : Qd) (bl5 : Op_) (bh6 : List Qc) (bg7 : List Qa) {o : f9n5O} (h : (f9n5 bk1 bk2 bk3 ba4 bl5 bh6 bg7) = some o) : T Try.prog Try.f9.ntmps 0 (cL (Qn 0 (Qn 1 (Qn 5 (Qn 4 (Qn 1 (Qn 1 (Qn 2 (Qn 1 (Qn 2 (Qn 1 (Qn 3 c9)))))))))))) (f9n5S bk1 bk2 bk3 ba4 bl5 bh6 bg7) (fun r => r = f9n5E bk1 bk2 bk3 ba4 bl5 bh6 bg7 o) := by
 unfold f9n5 at h
 refine rN Qi 1 [j3] [] [] [0, 1, 2, 3, 4] [3, 4, 7, 8, 9, 14, 37, 38] (f9n6S bk1 bk2 ba4 bl5 bh6 bg7 bk3 0) an ?_
 obtain ⟨o215, h216, h⟩ := Qe h
 cases o215 with
 | exit0 v217 =>
  obtain rfl := Qf h
  exact T.last' (T.bl (i := 0) (by kernel_rfl) (by kernel_rfl) (f9n6_ok FUEL bk1 bk2 ba4 bl5 bh6 bg7 bk3 0 h216)) (tds := []) (m := [0, 1, 2]) (keep := [3, 7, 8, 14, 37]) (st2 := (f9n5E bk1 bk2 bk3 ba4 bl5 bh6 bg7 (.norm v217)).2) (by kernel_rfl) an rfl
inductive f9n0O where
 | ret (v230 : Bool)
def f9n0E (a1 : Qd) (a2 : Op_) (a3 : ByteArray) : f9n0O → Ex × Tr × Hp
 | .ret v230 => (.ret, mkS [(6, (jB v230))], [])
def f9n0S (a1 : Qd) (a2 : Op_) (a3 : ByteArray) : Tr × Hp := (Qal [(jA Qd.cells a1), (jA Op_.cells a2), (jS a3)] 0 .leaf, [])
noncomputable def f9n0 (a1 : Qd) (a2 : Op_) (a3 : ByteArray) : Option f9n0O :=
 f10.bind fun x6 =>
 (f29 a1 a2.Prices).bind fun x12 =>
 bif x12 then
  some (.ret x6)
 else
  bif x6 then
   (f9n1 a3 x6 a1 a2).bind fun o30 => match o30 with
   | .norm v32 v33 => (f16r2 a1.Day a2.Buyer a2.Seller a2.Product a2.Quantity a2.Price v33).bind fun x36 =>
    (f17 a1 a2.Buyer a2.Seller a2.Product a2.Quantity a2.Price).bind fun x40 =>
    (f9n2 a3 x6 x36 x40 a1 a2 v32 v33).bind fun o52 => match o52 with
    | .norm v54 => (f30r1 x36.2.1 x36.2.2).bind fun x57 =>
     (f14r1 a1.Day a2.Day v33 v32).bind fun x61 =>
     (f15 a1 a2.Day a2.Prices).bind fun x65 =>
     (f9n3 a3 x6 v54 x61 x65 a1 a2 v32 v33).bind fun o89 => match o89 with
     | .norm v91 => (f30r1 x61.2.1 x61.2.2.2).bind fun x94 =>
      (f22 (Qd.mk a1.Day v33) a3 a2.Product).bind fun x98 =>
      (f31 a1 a3 a2.Product).bind fun x102 =>
      (f24 (Qd.mk a1.Day v33) a3 v32).bind fun x106 =>
      (f32 a1 a3 a2.Prices).bind fun x110 =>
      (f28 (Qd.mk a1.Day v33) a3).bind fun x114 =>
      (f33 a1 a3).bind fun x118 =>
      (f12 a2.Day).bind fun x122 =>
      (f13 a2.Day).bind fun x126 =>
      (f9n4 x6 v91 x98 x102 x106 x110 x114 x118 x122 x126 a1 a2 v32 v33).bind fun o171 => match o171 with
      | .norm v173 => (f9n5 x6 v91 v173 a1 a2 v32 v33).bind fun o219 => match o219 with
       | .norm v221 => bif v91 then
         bif v221 then
          (f18 (Qd.mk a1.Day v33) a1).bind fun x228 =>
          some (.ret x228)
         else
          some (.ret false)
        else
         some (.ret false)
  else
   some (.ret x6)
theorem f9n0_ok (a1 : Qd) (a2 : Op_) (a3 : ByteArray) {o : f9n0O} (h : (f9n0 a1 a2 a3) = some o) : T Try.prog Try.f9.ntmps 0 c9 (f9n0S a1 a2 a3) (fun r => r = f9n0E a1 a2 a3 o) := by
 unfold f9n0 at h
 obtain ⟨x6, h7, h⟩ := Qe h
 obtain ⟨x12, h13, h⟩ := Qe h
 rcases Qg h with ⟨h14, h⟩ | ⟨h14, h⟩
 ·obtain rfl := Qf h
  exact rK Qi 3 [j3, ([], [jH 0 (jB x6)], []), ([(5, true), (6, true)], [jH 3 (jB x12), (7, .bool true)], []), j3] [none] [] [] [6] .ret ((f9n0E a1 a2 a3 (.ret x6)).2) (ap (f10_ok h7) (ap3 h14 (ap (f29_ok a1 a2.Prices h13) an))) rfl
 ·rcases Qg h with ⟨h15, h⟩ | ⟨h15, h⟩
  ·refine rN Qi 3 [j3, ([], [jH 0 (jB x6)], []), ([(5, false), (6, false)], [jH 3 (jB x12), (7, .bool false)], [])] [some false] [] [0, 1] [2, 3, 4, 7] (f9n1S a3 x6 a1 a2) (ap (f10_ok h7) (ap3 h14 (ap (f29_ok a1 a2.Prices h13) (ap (Qk h15) an)))) ?_
   obtain ⟨o30, h31, h⟩ := Qe h
   cases o30 with
   | norm v32 v33 =>
    refine T.oneN (by kernel_rfl) (f9n1_ok a3 x6 a1 a2 h31) (st2 := (f9n1E a3 x6 a1 a2 (.norm v32 v33)).2) rfl ?_
    obtain ⟨x36, h37, h⟩ := Qe h
    obtain ⟨x40, h41, h⟩ := Qe h
    refine rN Qi 2 [([], [(11, .call (.tup [(.agg [(jI x36.2.1), (.own 6)]), (jI x36.1)]) (jN 4 [jR 4 Qa.cells v33, some (.box [(jI x36.2.1), (.own 6)]), jR 4 Qa.cells x36.2.2]))], []), ([], [jH 11 (.tup [(jA Qd.cells x40.1), (jI x40.2)])], [])] [] [] [0, 1, 2, 3, 7, 8, 4, 6] [2, 3, 4, 7, 8, 9, 10, 11, 12, 13] (f9n2S a3 x6 x36 x40 a1 a2 v32 v33) (ap (Qq.rn 5 [4] (f16r2_ok a1.Day a2.Buyer a2.Seller a2.Product a2.Quantity a2.Price v33 h37)) (ap (f17_ok a1 a2.Buyer a2.Seller a2.Product a2.Quantity a2.Price h41) an)) ?_
    obtain ⟨o52, h53, h⟩ := Qe h
    cases o52 with
    | norm v54 =>
     refine T.oneN (by kernel_rfl) (f9n2_ok a3 x6 x36 x40 a1 a2 v32 v33 h53) (st2 := (f9n2E a3 x6 x36 x40 a1 a2 v32 v33 (.norm v54)).2) rfl ?_
     obtain ⟨x57, h58, h⟩ := Qe h
     obtain ⟨x61, h62, h⟩ := Qe h
     refine rN Qi 2 [([], [(1, .call (.tup []) (jN 6 [jR 4 Qa.cells x57]))], []), ([], [(4, .call (.tup [(.agg [(jI x61.2.1), (.own 9)]), (.own 8), (jI x61.1)]) (jN 3 [jR 2 Qc.cells v32, none, jR 4 Qa.cells v33, none, some (.box [(jI x61.2.1), (.own 9)]), jR 2 Qb.cells x61.2.2.1, jR 4 Qa.cells x61.2.2.2]))], [])] [] [] [0, 1, 2, 3, 10, 8, 5, 9] [2, 3, 4, 7, 8, 9, 14, 15, 16, 17] (mkS [(2, (jS a3)), (3, (.bp 0 0)), (4, (.bp 1 0)), (7, (jB x6)), (8, (.bp 2 0)), (9, (.own 3)), (14, (jB v54)), (15, (.bp 4 0)), (16, (.own 5)), (17, (jI x61.1))], [some (.box ((Qd.cells a1).map .pl)), some (.box ((Op_.cells a2).map .pl)), some (.box [(jI a1.Day), (.own 6)]), jR 2 Qc.cells v32, some (.box [(jI x61.2.1), (.own 7)]), jR 2 Qb.cells x61.2.2.1, jR 4 Qa.cells v33, jR 4 Qa.cells x61.2.2.2]) (ap (Qq.rn 7 [6] (f30r1_ok x36.2.1 x36.2.2 h58)) (ap (Qq.rn 7 [5, 3] (f14r1_ok a1.Day a2.Day v33 v32 h62)) an)) ?_
     obtain ⟨x65, h66, h⟩ := Qe h
     refine rN Qi 1 [([], [jH 5 (.tup [(jA Qd.cells x65.1), (jL 2 Qb.cells x65.2.1), (jI x65.2.2)])], [])] [] [] [0, 1, 2, 3, 4, 5, 8, 6, 7] [2, 3, 4, 7, 8, 9, 14, 15, 16, 17, 18, 19, 20] (f9n3S a3 x6 v54 x61 x65 a1 a2 v32 v33) (ap (f15_ok a1 a2.Day a2.Prices h66) an) ?_
     obtain ⟨o89, h90, h⟩ := Qe h
     cases o89 with
     | norm v91 =>
      refine T.oneN (by kernel_rfl) (f9n3_ok a3 x6 v54 x61 x65 a1 a2 v32 v33 h90) (st2 := (f9n3E a3 x6 v54 x61 x65 a1 a2 v32 v33 (.norm v91)).2) rfl ?_
      obtain ⟨x94, h95, h⟩ := Qe h
      obtain ⟨x98, h99, h⟩ := Qe h
      obtain ⟨x102, h103, h⟩ := Qe h
      obtain ⟨x106, h107, h⟩ := Qe h
      refine rN Qi 4 [([], [(1, .call (.tup []) (jN 6 [jR 4 Qa.cells x94]))], []), ([], [jH 4 (.tup [(jA Qa.cells x98.1), (jB x98.2)])], []), ([], [jH 4 (.tup [(jA Qa.cells x102.1), (jB x102.2)])], []), ([], [jH 3 (.tup [(jI x106.1), (jI x106.2)])], [])] [] [] [0, 1, 2, 3, 7, 8, 5] [2, 3, 4, 7, 8, 9, 14, 21, 22, 23, 24, 25, 26] (mkS [(2, (jS a3)), (3, (.bp 0 0)), (4, (.bp 1 0)), (7, (jB x6)), (8, (.bp 2 0)), (9, (.own 3)), (14, (jB v91)), (21, (.bp 4 0)), (22, (jB x98.2)), (23, (.bp 5 0)), (24, (jB x102.2)), (25, (jI x106.1)), (26, (jI x106.2))], [some (.box ((Qd.cells a1).map .pl)), some (.box ((Op_.cells a2).map .pl)), some (.box [(jI a1.Day), (.own 6)]), jR 2 Qc.cells v32, some (.box ((Qa.cells x98.1).map .pl)), some (.box ((Qa.cells x102.1).map .pl)), jR 4 Qa.cells v33]) (ap (Qq.rn 7 [6] (f30r1_ok x61.2.1 x61.2.2.2 h95)) (ap (f22_ok (Qd.mk a1.Day v33) a3 a2.Product h99) (ap (f31_ok a1 a3 a2.Product h103) (ap (f24_ok (Qd.mk a1.Day v33) a3 v32 h107) an)))) ?_
      obtain ⟨x110, h111, h⟩ := Qe h
      obtain ⟨x114, h115, h⟩ := Qe h
      obtain ⟨x118, h119, h⟩ := Qe h
      obtain ⟨x122, h123, h⟩ := Qe h
      obtain ⟨x126, h127, h⟩ := Qe h
      refine rN Qi 5 [([], [jH 4 (.tup [(jI x110.1), (jI x110.2)])], []), ([], [jH 2 (.tup [(jI x114.1), (jI x114.2)])], []), ([], [jH 2 (.tup [(jI x118.1), (jI x118.2)])], []), ([], [jH 2 (.tup [(jA Qd.cells x122.1), (jI x122.2)])], []), ([], [jH 2 (.tup [(jA Qd.cells x126.1), (jI x126.2)])], [])] [] [] [0, 1, 2, 3, 4, 5, 7, 8, 6] [3, 4, 7, 8, 9, 14, 21, 22, 23, 24, 25, 26, 27, 28, 29, 30, 31, 32, 33, 34, 35, 36] (f9n4S x6 v91 x98 x102 x106 x110 x114 x118 x122 x126 a1 a2 v32 v33) (ap (f32_ok a1 a3 a2.Prices h111) (ap (f28_ok (Qd.mk a1.Day v33) a3 h115) (ap (f33_ok a1 a3 h119) (ap (f12_ok a2.Day h123) (ap (f13_ok a2.Day h127) an))))) ?_
      obtain ⟨o171, h172, h⟩ := Qe h
      cases o171 with
      | norm v173 =>
       refine T.oneN (by kernel_rfl) (f9n4_ok x6 v91 x98 x102 x106 x110 x114 x118 x122 x126 a1 a2 v32 v33 h172) (st2 := (f9n4E x6 v91 x98 x102 x106 x110 x114 x118 x122 x126 a1 a2 v32 v33 (.norm v173)).2) rfl ?_
       refine rN Qi 0 [] [] [] [0, 1, 2, 3, 4] [3, 4, 7, 8, 9, 14, 37] (f9n5S x6 v91 v173 a1 a2 v32 v33) an ?_
       obtain ⟨o219, h220, h⟩ := Qe h
       cases o219 with
       | norm v221 =>
        refine T.oneN (by kernel_rfl) (f9n5_ok x6 v91 v173 a1 a2 v32 v33 h220) (st2 := (f9n5E x6 v91 v173 a1 a2 v32 v33 (.norm v221)).2) rfl ?_
        rcases Qg h with ⟨h226, h⟩ | ⟨h226, h⟩
        ·rcases Qg h with ⟨h227, h⟩ | ⟨h227, h⟩
         ·obtain ⟨x228, h229, h⟩ := Qe h
          obtain rfl := Qf h
          exact rE Qi [(jT [2, 5, 8, 9, 10], [(3, .bool true), (6, .bool true), jH 10 (jB x228), (11, .bool true)], [])] [] [] [] [6] (.ret, (f9n0E a1 a2 a3 (.ret x228)).2) (ap2 h15 (ap2 h226 (ap4 h227 (ap (f18_ok (Qd.mk a1.Day v33) a1 h229) an)))) rfl
         ·obtain rfl := Qf h
          exact rE Qi [(jF [8, 9, 10] ++ jT [2, 5], [(3, .bool true), (6, .bool true), (11, .bool false)], [])] [] [] [] [6] (.ret, (f9n0E a1 a2 a3 (.ret false)).2) (ap2 h15 (ap2 h226 (ap4 h227 an))) rfl
        ·obtain rfl := Qf h
         exact rE Qi [([(2, true), (5, false)], [(3, .bool true), (6, .bool false)], [])] [] [] [] [6] (.ret, (f9n0E a1 a2 a3 (.ret false)).2) (ap2 h15 (ap2 h226 an)) rfl
  ·obtain rfl := Qf h
   exact rK Qi 3 [j3, ([], [jH 0 (jB x6)], []), ([(5, false), (6, false)], [jH 3 (jB x12), (7, .bool false)], []), j3] [some true] [] [] [6] .ret ((f9n0E a1 a2 a3 (.ret x6)).2) (ap (f10_ok h7) (ap3 h14 (ap (f29_ok a1 a2.Prices h13) (ap (Qr h15) an)))) rfl
noncomputable def f9 (a1 : Qd) (a2 : Op_) (a3 : ByteArray) : Option Bool := (f9n0 a1 a2 a3).bind fun o => match o with
 | .ret v230 => some v230
theorem f9_ok (a1 : Qd) (a2 : Op_) (a3 : ByteArray) {r : Bool} (h : (f9 a1 a2 a3) = some r) : Qq Try.prog false 9 [(jA Qd.cells a1), (jA Op_.cells a2), (jS a3)] [] (jB r) [] := by
 unfold f9 at h
 obtain ⟨o, ho, h⟩ := Qe h
 cases o with
 | ret v230 =>
  obtain rfl := Qf h
  exact Qq.plain Qi (f := Try.f9) (c := c9) (by kernel_rfl) (by kernel_rfl) (by kernel_rfl) (by kernel_rfl) ((f9n0_ok a1 a2 a3 ho).mono fun r e => by subst e; exact ⟨.inl rfl, (jB v230), (jB v230), by kernel_rfl, by kernel_rfl, ((Wk.refl _) : Wk (jB v230) (jB v230))⟩)
end Go.Proofs.Ytelblamgfbkhbaa
namespace Go.Proofs.Ytelblamgfbkhbaa
set_option linter.unusedVariables false
theorem perm_two {α : Type} {a b : α} {p : List α} (h : p.Perm [a, b]) : p = [a, b] ∨ p = [b, a] := by
 match p, h with
 | [], h => exact absurd h.length_eq (by simp)
 | [_], h => exact absurd h.length_eq (by simp)
 | _ :: _ :: _ :: _, h => exact absurd h.length_eq (by simp)
 | [x, y], h =>
  rcases List.mem_cons.1 (h.mem_iff.1 (List.mem_cons_self)) with rfl | hx
  ·left
   have := List.Perm.cons_inv h
   rw [List.perm_singleton.1 this]
  ·right
   obtain rfl := List.mem_singleton.1 hx
   have h2 : [x, y].Perm [x, a] := h.trans (List.Perm.swap _ _ _)
   have := List.Perm.cons_inv h2
   rw [List.perm_singleton.1 this]
theorem f14_two {d0 : Int} {l : List Qa} {d : Int} {ps : List Qc} {a b : ByteArray × Int} {out : List Qa} {o : f14r1n0O} (h1 : f26 ⟨d0, l⟩ = some 0) (h2 : f14r1n1 d 0 l ps d0 = some (.norm 0)) (h3 : f14r1n2 l ps d0 d = some (.norm [a, b] out))
  (h4 : ((f14r1n4 l ps d [a, b] out [a, b]).bind fun o143 => match o143 with
    | .norm v145 => (so38_39 v145).bind fun x148 => some (.ret 0 d x148 out)
    | .ret => some (.ret 14 0 [] [])) = some o)
  (h5 : ((f14r1n4 l ps d [a, b] out [b, a]).bind fun o143 => match o143 with
    | .norm v145 => (so38_39 v145).bind fun x148 => some (.ret 0 d x148 out)
    | .ret => some (.ret 14 0 [] [])) = some o) : Qcd d0 d l ps = some o := by
 unfold Qcd
 rw [h1]
 simp only [Option.bind_some]
 rw [h2]
 simp only [Option.bind_some, decide_true, cond_true]
 rw [h3]
 simp only [Option.bind_some]
 refine anyOrder_of fun p hp => ?_
 rcases perm_two hp with rfl | rfl
 ·exact h4
 ·exact h5
theorem f14_of {d0 : Int} {l : List Qa} {d : Int} {ps : List Qc} {v150 v151 : Int} {v152 : List Qb} {v153 : List Qa} (h : Qcd d0 d l ps = some (.ret v150 v151 v152 v153)) : f14r1 d0 d l ps = some (v150, v151, v152, v153) := by
 unfold f14r1; rw [h]; rfl
def exS : Qd := ⟨0, [⟨str_a, Qcw, -3, -30⟩, ⟨str_b, Qcw, 3, 30⟩]⟩
def exT : Qd := ⟨1, [⟨str_a, Qcw, -3, -36⟩, ⟨str_b, Qcw, 3, 36⟩]⟩
theorem ex1 : f16r1 (Qd.mk 0 []) str_b str_a Qcw 3 10 = some (0, 0, exS.Positions) := by kernel_rfl
theorem ex2 : f14r1 0 1 exS.Positions [(Qc.mk Qcw 12)] = some (0, 1, [⟨str_a, -6⟩, ⟨str_b, 6⟩], exT.Positions) :=
 f14_of (f14_two (a := (str_a, -6)) (b := (str_b, 6)) (out := exT.Positions) (by kernel_rfl) (by kernel_rfl) (by kernel_rfl) (by kernel_rfl) (by kernel_rfl))
theorem ex3 : f14r1 1 2 exT.Positions [(Qc.mk Qcw 11)] = some (0, 2, [⟨str_a, 3⟩, ⟨str_b, -3⟩], [⟨str_a, Qcw, -3, -33⟩, ⟨str_b, Qcw, 3, 33⟩]) :=
 f14_of (f14_two (a := (str_a, 3)) (b := (str_b, -3)) (out := [⟨str_a, Qcw, -3, -33⟩, ⟨str_b, Qcw, 3, 33⟩]) (by kernel_rfl) (by kernel_rfl) (by kernel_rfl) (by kernel_rfl) (by kernel_rfl))
theorem ex4 : f14r1 0 2 exS.Positions [(Qc.mk Qcw 11)] = some (0, 2, [⟨str_a, -3⟩, ⟨str_b, 3⟩], [⟨str_a, Qcw, -3, -33⟩, ⟨str_b, Qcw, 3, 33⟩]) :=
 f14_of (f14_two (a := (str_a, -3)) (b := (str_b, 3)) (out := [⟨str_a, Qcw, -3, -33⟩, ⟨str_b, Qcw, 3, 33⟩]) (by kernel_rfl) (by kernel_rfl) (by kernel_rfl) (by kernel_rfl) (by kernel_rfl))
theorem ex0 : f12 0 = some (Qd.mk 0 [], 0) := by kernel_rfl
theorem alive_t : f10 = some true := by
 have k1 : f25 6 = some [⟨str_a, -6⟩, ⟨str_b, 6⟩] := by kernel_rfl
 have k2 : f25 (-3) = some [⟨str_a, 3⟩, ⟨str_b, -3⟩] := by kernel_rfl
 have k3 : f25 3 = some [⟨str_a, -3⟩, ⟨str_b, 3⟩] := by kernel_rfl
 have m1 : f19 [⟨str_a, -6⟩, ⟨str_b, 6⟩] [⟨str_a, -6⟩, ⟨str_b, 6⟩] = some true := by kernel_rfl
 have m2 : f19 [⟨str_a, 3⟩, ⟨str_b, -3⟩] [⟨str_a, 3⟩, ⟨str_b, -3⟩] = some true := by kernel_rfl
 have m3 : f19 [⟨str_a, -3⟩, ⟨str_b, 3⟩] [⟨str_a, -3⟩, ⟨str_b, 3⟩] = some true := by kernel_rfl
 have r1 : f23r1 12 = some () := rfl
 have r2 : f23r1 11 = some () := rfl
 unfold f10 f10n0
 simp only [ex0, ex1, ex2, ex3, ex4, k1, k2, k3, m1, m2, m3, r1, r2, Option.bind_some, decide_true, cond_true]
end Go.Proofs.Ytelblamgfbkhbaa
namespace Go.Proofs.Ytelblamgfbkhbaa
set_option linter.unusedVariables false
set_option linter.unusedSimpArgs false
open Go.RowKit
abbrev VP := Qa
theorem Qbo {n b : Nat} (h : n ≤ 1000000) (hb : b ≤ 1000000) : fit n b = true := by
 unfold fit
 have : n * b ≤ 1000000 * 1000000 := Nat.mul_le_mul h hb
 simp only [Bool.and_eq_true, Nat.ble_eq]
 omega
theorem Qbp (a b : Int) : decide (a < b) = !decide (b ≤ a) := by
 by_cases h : a < b
 ·rw [decide_eq_true h, decide_eq_false (by omega)]; rfl
 ·rw [decide_eq_false h, decide_eq_true (by omega)]; rfl
theorem dec_nat (a b : Nat) : decide ((a : Int) ≤ (b : Int)) = decide (a ≤ b) := by congr 1; apply propext; omega
theorem Qdf {n : Int} (h1 : -9223372036854775808 ≤ n) (h2 : n ≤ 9223372036854775807) : wr64 n = n := w64 rfl h1 h2

def letterI (c : Int) : Bool := (decide (97 ≤ c) && decide (c ≤ 122)) || (decide (65 ≤ c) && decide (c ≤ 90))
def otherI (c : Int) : Bool := (decide (48 ≤ c) && decide (c ≤ 57)) || (decide (c = 95) || decide (c = 45))
theorem f62_eq (c : Int) : f62 c = some (letterI c) := by
 unfold f62 f62n0 letterI
 cases decide (97 ≤ c) <;> cases decide (c ≤ 122) <;> cases decide (65 ≤ c) <;> cases decide (c ≤ 90) <;> rfl
def charB (b : UInt8) : Bool := letterI b.toNat || otherI b.toNat
def isName (l : List UInt8) : Bool := match l with
 | [] => false
 | b :: r => decide (l.length ≤ 40) && (letterI b.toNat && r.all charB)
theorem f45n2L_at (bc : ByteArray) : ∀ (l : List UInt8) (v : Int), f45n2L bc l v = some (bif l.all charB then .exit0 else .ret)
 | [], v => rfl
 | b :: r, v => by
  rw [f45n2L, f62_eq]
  simp only [Option.bind_some, f45n2L_at bc r, Qbp, List.all_cons, charB, otherI]
  cases letterI b.toNat <;> cases decide ((48 : Int) ≤ (b.toNat : Int)) <;> cases decide ((b.toNat : Int) ≤ 57) <;> cases decide ((b.toNat : Int) = 95) <;> cases decide ((b.toNat : Int) = 45) <;> rfl
theorem size_list' (s : ByteArray) : s.size = s.data.toList.length := rfl
theorem f45_eq (s : ByteArray) : f45 s = some (isName s.data.toList) := by
 unfold f45 f45n0 f45n1
 rw [size_list']
 by_cases hs : s.data.toList.length ≤ 40
 ·have hm : s.data.toList.length ≤ maxLen := Nat.le_trans hs (by unfold maxLen; decide)
  rw [f45n2_run s hm, f45n2L_at]
  generalize s.data.toList = l at hs hm
  cases l with
  | nil => rfl
  | cons b r =>
   have h1 : ¬ (((b :: r).length : Nat) : Int) < 1 := by simp; omega
   have h2 : ¬ (40 : Int) < (((b :: r).length : Nat) : Int) := by omega
   rw [decide_eq_false h1, decide_eq_false h2]
   have h0 : at? (b :: r) 0 = some b := rfl
   simp only [cond_false, h0, Option.bind_some, f62_eq, isName, List.all_cons, charB, decide_eq_true hs]
   cases letterI b.toNat <;> cases r.all charB <;> cases otherI b.toNat <;> rfl
 ·have h1 : ¬ ((s.data.toList.length : Nat) : Int) < 1 := by omega
  have h2 : (40 : Int) < ((s.data.toList.length : Nat) : Int) := by omega
  rw [decide_eq_false h1, decide_eq_true h2]
  have : isName s.data.toList = false := by
   generalize s.data.toList = l at hs
   cases l with
   | nil => rfl
   | cons b r => simp only [isName, decide_eq_false hs, Bool.false_and]
  rw [this]; rfl
def nameB (s : ByteArray) : Bool := isName s.data.toList
def partyB (s : ByteArray) : Bool := !(seq s str_house) && nameB s
theorem f44_eq (s : ByteArray) : f44 s = some (partyB s) := by
 unfold f44 f44n0 partyB nameB
 rw [f45_eq]
 cases seq s str_house <;> rfl

def inR (n lim : Int) : Bool := decide (-lim ≤ n) && decide (n ≤ lim)
theorem f37_eq (n : Int) {lim : Int} (h0 : 0 ≤ lim) (h : lim ≤ 9223372036854775807) : f37 n lim = some (inR n lim) := by
 unfold f37 f37n0 inR
 rw [show wr64 (0 - lim) = -lim from w64 (by omega) (by omega) (by omega)]
 cases decide (-lim ≤ n) <;> rfl
theorem f37_q (n : Int) : f37 n 1048576 = some (inR n 1048576) := f37_eq n (by decide) (by decide)
theorem f37_b (n : Int) : f37 n 1125899906842624 = some (inR n 1125899906842624) := f37_eq n (by decide) (by decide)
theorem f37_p (n : Int) : f37 n 536870912 = some (inR n 536870912) := f37_eq n (by decide) (by decide)
theorem inR_iff {n lim : Int} : inR n lim = true ↔ -lim ≤ n ∧ n ≤ lim := by simp [inR]
def Qcj (x : VP) : Bool := decide (x.Quantity = 0) && decide (x.Basis = 0)
theorem eqb_zero (x : VP) : Qa.eqb x (Qa.mk x.Member x.Product 0 0) = Qcj x := by
 unfold Qa.eqb Qcj
 rw [Qag, Qag]; rfl
def Qaf (a b : VP) : Bool := slt a.Member b.Member || (seq a.Member b.Member && slt a.Product b.Product)
def cmpK (a b : VP) : Int := bif decide (cmpB a.Member b.Member = 0) then cmpB a.Product b.Product else cmpB a.Member b.Member
theorem f66_two (x y : Int) : f66 [x, y] = some (bif decide (x = 0) then y else x) := by
 unfold f66 f66n0 f66n1
 rw [f66n2_run [x, y] (by show (2 : Nat) ≤ maxLen; unfold maxLen; decide)]
 by_cases hx : x = 0
 ·by_cases hy : y = 0
  ·subst hx; subst hy; rfl
  ·simp only [f66n2L, decide_eq_true hx, decide_eq_false hy, cond_true, cond_false, Option.bind_some]
 ·simp only [f66n2L, decide_eq_false hx, cond_false, Option.bind_some]
theorem f53_eq (a b : VP) : f53 a b = some (cmpK a b) := by
 unfold f53 f53n0
 rw [f40_val, f40_val]
 simp only [Option.bind_some]
 rw [f66_two]
 rfl
theorem cmpK_neg (a b : VP) : decide (cmpK a b < 0) = Qaf a b := by
 unfold cmpK Qaf
 cases h : slt a.Member b.Member with
 | true =>
  have h1 := Qco.2 h
  rw [decide_eq_false (by omega : ¬ cmpB a.Member b.Member = 0)]
  simp [h1]
 | false =>
  cases k : seq a.Member b.Member with
  | true =>
   rw [decide_eq_true (cmpB_zero.2 (Qbu.1 k))]
   simp only [cond_true, Bool.false_or, Bool.true_and]
   cases h2 : slt a.Product b.Product with
   | true => exact decide_eq_true (Qco.2 h2)
   | false => exact decide_eq_false fun h3 => by rw [Qco.1 h3] at h2; cases h2
  | false =>
   have h1 : ¬ cmpB a.Member b.Member = 0 := fun e => by rw [Qbu.2 (cmpB_zero.1 e)] at k; cases k
   have h2 : ¬ cmpB a.Member b.Member < 0 := fun e => by rw [Qco.1 e] at h; cases h
   rw [decide_eq_false h1]
   simp only [cond_false, decide_eq_false h2, Bool.false_and, Bool.or_self]
theorem cmpK_zero {a b : VP} : cmpK a b = 0 ↔ a.Member = b.Member ∧ a.Product = b.Product := by
 unfold cmpK
 by_cases h : cmpB a.Member b.Member = 0
 ·rw [decide_eq_true h]; simp only [cond_true, cmpB_zero]; exact ⟨fun k => ⟨cmpB_zero.1 h, k⟩, fun k => k.2⟩
 ·rw [decide_eq_false h]; simp only [cond_false]; exact ⟨fun k => absurd k h, fun k => absurd (cmpB_zero.2 k.1) h⟩

def Qcc (x : VP) : Bool := inR x.Quantity 1048576 && (inR x.Basis 1125899906842624 && (!Qcj x && (partyB x.Member && nameB x.Product)))
def ordAt : Option VP → VP → Bool
 | none, _ => true
 | some y, x => Qaf y x
def okL : Option VP → List VP → Bool
 | _, [] => true
 | p, x :: r => ordAt p x && (Qcc x && okL (some x) r)
def accL : List VP → List (ByteArray × Qt) → List (ByteArray × Qt)
 | [], m => m
 | x :: r, m => accL r (mPut seq x.Product (Qt.mk (wr64 ((mGet seq (Qt.mk 0 0) x.Product m).quantity + x.Quantity)) (wr64 ((mGet seq (Qt.mk 0 0) x.Product m).basis + x.Basis))) m)
theorem f26n2L_at (s : Qd) : ∀ (l pre : List VP) (m : List (ByteArray × Qt)), s.Positions = pre ++ l → s.Positions.length ≤ 1000 → f26n2L s l ((pre.length : Nat) : Int) m = some (bif okL pre.getLast? l then .exit0 (accL l m) else .ret)
 | [], pre, m, _, _ => rfl
 | x :: r, pre, m, h, hb => by
  have ih := f26n2L_at s r (pre ++ [x]) (mPut seq x.Product (Qt.mk (wr64 ((mGet seq (Qt.mk 0 0) x.Product m).quantity + x.Quantity)) (wr64 ((mGet seq (Qt.mk 0 0) x.Product m).basis + x.Basis))) m) (by rw [h]; simp) hb
  rw [List.length_append, List.getLast?_concat, show (((pre.length + [x].length : Nat)) : Int) = (pre.length : Int) + 1 from by simp] at ih
  have e45 : f45 x.Product = some (nameB x.Product) := f45_eq _
  rw [f26n2L]
  simp only [f37_q, f37_b, Option.bind_some, eqb_zero, f44_eq, e45, ih, okL, Qcc]
  rcases List.eq_nil_or_concat pre with rfl | ⟨q, y, rfl⟩
  ·simp only [List.length_nil, Int.natCast_zero, decide_true, cond_true, List.getLast?_nil, ordAt, Bool.true_and]
   cases inR x.Quantity 1048576 <;> cases inR x.Basis 1125899906842624 <;> cases Qcj x <;> cases partyB x.Member <;> cases nameB x.Product <;> cases okL (some x) r <;> rfl
  ·rw [List.concat_eq_append] at h ⊢
   have hne : ¬ (((q ++ [y]).length : Nat) : Int) = 0 := by simp; omega
   have hlen : q.length + 1 ≤ 1000 := by rw [h] at hb; simp at hb; omega
   have hw : wr64 ((((q ++ [y]).length : Nat) : Int) - 1) = ((q.length : Nat) : Int) := w64 (by simp) (by omega) (by omega)
   have hat : at? s.Positions ((q.length : Nat) : Int) = some y := by rw [Qah, h]; simp
   rw [decide_eq_false hne, hw, hat, List.getLast?_concat]
   simp only [cond_false, Option.bind_some, f53_eq, cmpK_neg, ordAt]
   cases inR x.Quantity 1048576 <;> cases inR x.Basis 1125899906842624 <;> cases Qcj x <;> cases partyB x.Member <;> cases nameB x.Product <;> cases okL (some x) r <;> cases Qaf y x <;> rfl
def zeroM (m : List (ByteArray × Qt)) : Bool := m.all fun x => Qt.eqb x.2 (Qt.mk 0 0)
theorem f26n4_eq (bd : List (ByteArray × Qt)) : ∀ l : List (ByteArray × Qt), f26n4 bd l = some (bif zeroM l then .exit2 else .ret)
 | [] => rfl
 | x :: r => by
  rw [f26n4, f26n4_eq bd r, zeroM, zeroM, List.all_cons]
  cases Qt.eqb x.2 (Qt.mk 0 0) <;> rfl
theorem f26n3_eq (bd : List (ByteArray × Qt)) : f26n3 bd = some (bif zeroM bd then .norm else .ret) := by
 unfold f26n3
 have hp : ∀ p, p.Perm bd → f26n4 bd p = some (bif zeroM bd then .exit2 else .ret) := fun p hp => by
  rw [f26n4_eq, zeroM, hp.all_eq]; rfl
 rw [anyOrder_of hp]
 cases zeroM bd <;> rfl
def Qcm (s : Qd) : Bool := decide (0 ≤ s.Day) && (decide (s.Day ≤ 99999) && (decide (s.Positions.length ≤ 200) && (okL none s.Positions && zeroM (accL s.Positions []))))
theorem f26_eq (s : Qd) : f26 s = some (bif Qcm s then 0 else 8) := by
 unfold f26 f26n0 f26n1 Qcm
 rw [Qbp, Qbp, Qbp, show decide ((s.Positions.length : Int) ≤ 200) = decide (s.Positions.length ≤ 200) from dec_nat _ 200]
 by_cases hl : s.Positions.length ≤ 200
 ·have hm : s.Positions.length ≤ maxLen := Nat.le_trans hl (by unfold maxLen; decide)
  rw [f26n2_run s [] hm]
  have := f26n2L_at s s.Positions [] [] rfl (by omega)
  rw [show (((([] : List VP).length : Nat)) : Int) = 0 from rfl, List.getLast?_nil] at this
  rw [this, decide_eq_true hl]
  cases decide (0 ≤ s.Day) with
  | false => rfl
  | true => cases decide (s.Day ≤ 99999) with
   | false => rfl
   | true => cases okL none s.Positions with
    | false => rfl
    | true =>
     simp only [Bool.not_true, cond_false, cond_true, Option.bind_some, f26n3_eq, Bool.true_and]
     cases zeroM (accL s.Positions []) <;> rfl
 ·rw [decide_eq_false hl]
  cases decide (0 ≤ s.Day) <;> cases decide (s.Day ≤ 99999) <;> rfl
end Go.Proofs.Ytelblamgfbkhbaa
namespace Go.Proofs.Ytelblamgfbkhbaa
set_option linter.unusedVariables false
set_option linter.unusedSimpArgs false
open Go.RowKit
theorem wr_l (a b : Int) : wr64 (wr64 a + b) = wr64 (a + b) := by
 show IntKind.i64.wrap (IntKind.i64.wrap a + b) = IntKind.i64.wrap (a + b)
 simp only [IntKind.wrap_i64]; omega

theorem keyLt_iff {a b : VP} : Qaf a b = true ↔ slt a.Member b.Member = true ∨ (a.Member = b.Member ∧ slt a.Product b.Product = true) := by
 unfold Qaf
 rw [Bool.or_eq_true, Bool.and_eq_true, Qbu]
theorem keyLt_irrefl (a : VP) : Qaf a a = false := by
 unfold Qaf
 rw [Qca, Qca]
 simp
theorem Qbh {a b c : VP} (h : Qaf a b = true) (k : Qaf b c = true) : Qaf a c = true := by
 rw [keyLt_iff] at *
 rcases h with h | ⟨h, h'⟩ <;> rcases k with k | ⟨k, k'⟩
 ·exact .inl (Qck h k)
 ·exact .inl (by rw [← k]; exact h)
 ·exact .inl (by rw [h]; exact k)
 ·exact .inr ⟨h.trans k, Qck h' k'⟩
theorem keyLt_asymm {a b : VP} (h : Qaf a b = true) : Qaf b a = false := by
 cases k : Qaf b a with
 | false => rfl
 | true => have := Qbh h k; rw [keyLt_irrefl] at this; cases this
def Qw (a b : VP) : Bool := seq a.Member b.Member && seq a.Product b.Product
theorem Qcl {a b : VP} : Qw a b = true ↔ a.Member = b.Member ∧ a.Product = b.Product := by
 unfold Qw
 rw [Bool.and_eq_true, Qbu, Qbu]
theorem cmpK_same (a b : VP) : decide (cmpK a b = 0) = Qw a b := by
 cases h : Qw a b with
 | true => exact decide_eq_true (cmpK_zero.2 (Qcl.1 h))
 | false => exact decide_eq_false fun e => by rw [Qcl.2 (cmpK_zero.1 e)] at h; cases h
theorem Qdb {a b : VP} (h : Qaf a b = false) (k : Qw a b = false) : Qaf b a = true := by
 rw [keyLt_iff]
 unfold Qaf Qw at *
 rw [Bool.or_eq_false_iff] at h
 cases m : slt b.Member a.Member with
 | true => exact .inl rfl
 | false =>
  have e := slt_total h.1 m
  rw [e, Qag, Bool.true_and] at k h
  have h2 : slt a.Product b.Product = false := h.2
  cases n : slt b.Product a.Product with
  | true => exact .inr ⟨e.symm, rfl⟩
  | false => rw [slt_total h2 n, Qag] at k; cases k
theorem Qbz {a b : VP} (h : Qaf a b = true) : Qw a b = false := by
 cases k : Qw a b with
 | false => rfl
 | true =>
  obtain ⟨h1, h2⟩ := Qcl.1 k
  unfold Qaf at h
  rw [h1, h2, Qca, Qca] at h
  simp at h
theorem keyLt_l {a b c : VP} (h : Qw a b = true) : Qaf a c = Qaf b c := by
 obtain ⟨h1, h2⟩ := Qcl.1 h
 unfold Qaf; rw [h1, h2]
theorem keyLt_r {a b c : VP} (h : Qw a b = true) : Qaf c a = Qaf c b := by
 obtain ⟨h1, h2⟩ := Qcl.1 h
 unfold Qaf; rw [h1, h2]
abbrev Srt (l : List VP) : Prop := l.Pairwise fun a b => Qaf a b = true
theorem okL_some : ∀ {l : List VP} {p : VP}, okL (some p) l = true ↔ (p :: l).Pairwise (fun a b => Qaf a b = true) ∧ ∀ x ∈ l, Qcc x = true
 | [], p => by simp [okL]
 | y :: r, p => by
  rw [okL, ordAt, Bool.and_eq_true, Bool.and_eq_true, okL_some (l := r)]
  constructor
  ·rintro ⟨h1, h2, h3, h4⟩
   refine ⟨List.pairwise_cons.2 ⟨fun z hz => ?_, h3⟩, fun z hz => ?_⟩
   ·rcases List.mem_cons.1 hz with rfl | hz
    ·exact h1
    ·exact Qbh h1 ((List.pairwise_cons.1 h3).1 z hz)
   ·rcases List.mem_cons.1 hz with rfl | hz
    ·exact h2
    ·exact h4 z hz
  ·rintro ⟨h1, h2⟩
   have h3 := List.pairwise_cons.1 h1
   exact ⟨h3.1 y List.mem_cons_self, h2 y List.mem_cons_self, h3.2, fun z hz => h2 z (List.mem_cons_of_mem _ hz)⟩
theorem okL_none {l : List VP} : okL none l = true ↔ Srt l ∧ ∀ x ∈ l, Qcc x = true := by
 cases l with
 | nil => simp [okL]
 | cons y r =>
  rw [okL, ordAt, Bool.and_eq_true, Bool.and_eq_true, okL_some]
  constructor
  ·rintro ⟨_, h2, h3, h4⟩
   refine ⟨h3, fun z hz => ?_⟩
   rcases List.mem_cons.1 hz with rfl | hz
   ·exact h2
   ·exact h4 z hz
  ·rintro ⟨h1, h2⟩
   exact ⟨rfl, h2 y List.mem_cons_self, h1, fun z hz => h2 z (List.mem_cons_of_mem _ hz)⟩
section
variable {V : Type}
theorem get_put (z v : V) (k q : ByteArray) : ∀ m : List (ByteArray × V), mGet seq z q (mPut seq k v m) = bif seq q k then v else mGet seq z q m
 | [] => by simp [mPut, mGet]
 | (a, w) :: r => by
  simp only [mPut, mGet]
  cases hk : seq k a with
  | true =>
   have := Qbu.1 hk; subst this
   simp only [cond_true, mGet]
   cases seq q k <;> rfl
  | false =>
   simp only [cond_false, mGet]
   cases hq : seq q a with
   | true =>
    have := Qbu.1 hq; subst this
    simp only [cond_true]
    cases h : seq q k with
    | true => have := Qbu.1 h; subst this; rw [Qag] at hk; cases hk
    | false => rfl
   | false => simp only [cond_false]; exact get_put z v k q r
abbrev ndM (m : List (ByteArray × V)) : Prop := m.Pairwise fun a b => a.1 ≠ b.1
theorem put_mem {k : ByteArray} {v : V} {x : ByteArray × V} : ∀ {m : List (ByteArray × V)}, x ∈ mPut seq k v m → x = (k, v) ∨ x ∈ m
 | [], h => by left; simpa [mPut] using h
 | (a, w) :: r, h => by
  rw [mPut] at h
  cases hk : seq k a with
  | true =>
   rw [hk, cond_true] at h
   have := Qbu.1 hk; subst this
   rcases List.mem_cons.1 h with h | h
   ·exact .inl h
   ·exact .inr (List.mem_cons_of_mem _ h)
  | false =>
   rw [hk, cond_false] at h
   rcases List.mem_cons.1 h with h | h
   ·exact .inr (by rw [h]; exact List.mem_cons_self)
   ·rcases put_mem h with h | h
    ·exact .inl h
    ·exact .inr (List.mem_cons_of_mem _ h)
theorem put_nd {k : ByteArray} {v : V} : ∀ {m : List (ByteArray × V)}, ndM m → ndM (mPut seq k v m)
 | [], _ => by simp [mPut, ndM]
 | (a, w) :: r, h => by
  have h' := List.pairwise_cons.1 h
  rw [mPut]
  cases hk : seq k a with
  | true => exact List.pairwise_cons.2 ⟨fun y hy => h'.1 y hy, h'.2⟩
  | false =>
   refine List.pairwise_cons.2 ⟨fun y hy => ?_, put_nd h'.2⟩
   rcases put_mem hy with rfl | hy
   ·intro e
    have e' : a = k := e
    rw [e', Qag] at hk; cases hk
   ·exact h'.1 y hy
theorem get_mem {z : V} {k : ByteArray} {v : V} : ∀ {m : List (ByteArray × V)}, ndM m → (k, v) ∈ m → mGet seq z k m = v
 | (a, w) :: r, h, hm => by
  have h' := List.pairwise_cons.1 h
  rw [mGet]
  rcases List.mem_cons.1 hm with e | hm
  ·have e1 : k = a := congrArg Prod.fst e
   have e2 : v = w := congrArg Prod.snd e
   rw [e1, e2, Qag]; rfl
  ·cases hk : seq k a with
   | true => exact absurd (Qbu.1 hk).symm (h'.1 _ hm)
   | false => exact get_mem h'.2 hm
end
def sm (w : VP → Int) : List VP → Int
 | [] => 0
 | x :: r => w x + sm w r
theorem sm_bound (w : VP → Int) (b : Int) : ∀ l : List VP, (∀ x ∈ l, -b ≤ w x ∧ w x ≤ b) → -(b * l.length) ≤ sm w l ∧ sm w l ≤ b * l.length
 | [], _ => by simp [sm]
 | x :: r, h => by
  have h1 := h x List.mem_cons_self
  have h2 := sm_bound w b r fun y hy => h y (List.mem_cons_of_mem _ hy)
  simp only [sm, List.length_cons, Int.natCast_add, Int.mul_add]
  simp only [Int.natCast_one, Int.mul_one]
  omega
def wq (p : ByteArray) (x : VP) : Int := bif seq x.Product p then x.Quantity else 0
def wb (p : ByteArray) (x : VP) : Int := bif seq x.Product p then x.Basis else 0
theorem acc_get (p : ByteArray) : ∀ (l : List VP) (m : List (ByteArray × Qt)) (a b : Int), mGet seq (Qt.mk 0 0) p m = ⟨wr64 a, wr64 b⟩ → mGet seq (Qt.mk 0 0) p (accL l m) = ⟨wr64 (a + sm (wq p) l), wr64 (b + sm (wb p) l)⟩
 | [], m, a, b, h => by simpa [accL, sm] using h
 | x :: r, m, a, b, h => by
  rw [accL, acc_get p r _ (a + wq p x) (b + wb p x)]
  ·simp only [sm, Int.add_assoc]
  ·rw [get_put]
   cases hk : seq p x.Product with
   | true =>
    have := Qbu.1 hk; subst this
    simp only [cond_true, h, wr_l, wq, wb, Qag]
   | false =>
    have : seq x.Product p = false := by
     cases k : seq x.Product p with
     | false => rfl
     | true => rw [Qbu.1 k, Qag] at hk; cases hk
    simp only [cond_false, h, wq, wb, this, Int.add_zero]
theorem acc_nd : ∀ (l : List VP) {m : List (ByteArray × Qt)}, ndM m → ndM (accL l m)
 | [], m, h => h
 | x :: r, m, h => acc_nd r (put_nd h)
theorem acc_nil (p : ByteArray) (l : List VP) : mGet seq (Qt.mk 0 0) p (accL l []) = ⟨wr64 (sm (wq p) l), wr64 (sm (wb p) l)⟩ := by
 have := acc_get p l [] 0 0 rfl
 simpa using this
theorem zget {m : List (ByteArray × Qt)} (h : zeroM m = true) (p : ByteArray) : mGet seq (Qt.mk 0 0) p m = ⟨0, 0⟩ := by
 induction m with
 | nil => rfl
 | cons x r ih =>
  obtain ⟨k, ⟨a, b⟩⟩ := x
  unfold zeroM at h
  rw [List.all_cons, Bool.and_eq_true] at h
  have h1 := h.1
  simp only [Qt.eqb, Bool.and_eq_true, decide_eq_true_eq] at h1
  rw [mGet, ih h.2, h1.1, h1.2]
  cases seq p k <;> rfl
def Flat (l : List VP) : Prop := ∀ p, sm (wq p) l = 0 ∧ sm (wb p) l = 0
theorem good_q {x : VP} (h : Qcc x = true) : -1048576 ≤ x.Quantity ∧ x.Quantity ≤ 1048576 := by
 unfold Qcc at h; rw [Bool.and_eq_true] at h; exact inR_iff.1 h.1
theorem good_b {x : VP} (h : Qcc x = true) : -1125899906842624 ≤ x.Basis ∧ x.Basis ≤ 1125899906842624 := by
 unfold Qcc at h; rw [Bool.and_eq_true, Bool.and_eq_true] at h; exact inR_iff.1 h.2.1
theorem wq_bound {l : List VP} (h : ∀ x ∈ l, Qcc x = true) (hl : l.length ≤ 200) (p : ByteArray) : -209715200 ≤ sm (wq p) l ∧ sm (wq p) l ≤ 209715200 := by
 have := sm_bound (wq p) 1048576 l fun x hx => by
  have := good_q (h x hx)
  unfold wq
  cases seq x.Product p <;> simp only [cond_true, cond_false] <;> omega
 omega
theorem wb_bound {l : List VP} (h : ∀ x ∈ l, Qcc x = true) (hl : l.length ≤ 200) (p : ByteArray) : -225179981368524800 ≤ sm (wb p) l ∧ sm (wb p) l ≤ 225179981368524800 := by
 have := sm_bound (wb p) 1125899906842624 l fun x hx => by
  have := good_b (h x hx)
  unfold wb
  cases seq x.Product p <;> simp only [cond_true, cond_false] <;> omega
 omega
theorem zeroM_iff {l : List VP} (h : ∀ x ∈ l, Qcc x = true) (hl : l.length ≤ 200) : zeroM (accL l []) = true ↔ Flat l := by
 constructor
 ·intro hz p
  have h1 := acc_nil p l
  rw [zget hz p, Qt.mk.injEq] at h1
  have h2 := wq_bound h hl p
  have h3 := wb_bound h hl p
  rw [Qdf (by omega) (by omega), Qdf (by omega) (by omega)] at h1
  exact ⟨h1.1.symm, h1.2.symm⟩
 ·intro hf
  unfold zeroM
  rw [List.all_eq_true]
  rintro ⟨k, v⟩ hx
  have h1 := get_mem (z := Qt.mk 0 0) (acc_nd l (m := []) List.Pairwise.nil) hx
  rw [acc_nil, (hf k).1, (hf k).2] at h1
  rw [← h1]; rfl
structure Ok (s : Qd) : Prop where
 d0 : 0 ≤ s.Day
 d1 : s.Day ≤ 99999
 len : s.Positions.length ≤ 200
 srt : Srt s.Positions
 good : ∀ x ∈ s.Positions, Qcc x = true
 flat : Flat s.Positions
theorem Qci {s : Qd} : Qcm s = true ↔ Ok s := by
 unfold Qcm
 simp only [Bool.and_eq_true, decide_eq_true_eq, okL_none]
 constructor
 ·rintro ⟨h1, h2, h3, ⟨h4, h5⟩, h6⟩
  exact ⟨h1, h2, h3, h4, h5, (zeroM_iff h5 h3).1 h6⟩
 ·rintro ⟨h1, h2, h3, h4, h5, h6⟩
  exact ⟨h1, h2, h3, ⟨h4, h5⟩, (zeroM_iff h5 h3).2 h6⟩

abbrev midI (lo hi : Int) : Int := wr64 (shrK .u64 (wru64 (wr64 (lo + hi))) 1)
theorem mid_eq {lo hi : Nat} (h : lo + hi ≤ 1000000) : midI lo hi = (((lo + hi) / 2 : Nat) : Int) := by
 have h1 : wr64 ((lo : Int) + (hi : Int)) = ((lo + hi : Nat) : Int) := by rw [Qdf (by omega) (by omega)]; omega
 have h2 : wru64 ((lo + hi : Nat) : Int) = ((lo + hi : Nat) : Int) := by
  show IntKind.u64.wrap _ = _
  rw [IntKind.wrap_u64]; omega
 unfold midI
 rw [h1, h2]
 have h3 : shrK .u64 ((lo + hi : Nat) : Int) 1 = (((lo + hi) / 2 : Nat) : Int) := by
  show Int.fdiv _ (2 ^ (min (1 : Int).toNat IntKind.u64.bits)) = _
  have : (2 : Int) ^ (min (1 : Int).toNat IntKind.u64.bits) = 2 := by decide
  rw [this, Int.fdiv_eq_ediv_of_nonneg _ (by omega)]
  omega
 rw [h3, Qdf (by omega) (by omega)]
def bsr {α : Type} (c : α → Int) (l : List α) : Nat → Int → Int → Option Int
 | 0, _, _ => none
 | f + 1, lo, hi => bif decide (lo < hi) then (at? l (midI lo hi)).bind fun x => bif decide (c x < 0) then bsr c l f (wr64 (midI lo hi + 1)) hi else bsr c l f lo (midI lo hi) else some lo
theorem bsr_ok {α : Type} (c : α → Int) (l : List α) (hl : l.length ≤ 400000) (mono : ∀ (i j : Nat) (x y : α), i ≤ j → l[i]? = some x → l[j]? = some y → c y < 0 → c x < 0) :
  ∀ (f lo hi : Nat), lo ≤ hi → hi ≤ l.length → hi - lo < f → (∀ (j : Nat) (x : α), j < lo → l[j]? = some x → c x < 0) → (∀ (j : Nat) (x : α), hi ≤ j → l[j]? = some x → ¬ c x < 0) →
   ∃ i : Nat, bsr c l f lo hi = some (i : Int) ∧ i ≤ l.length ∧ (∀ (j : Nat) (x : α), j < i → l[j]? = some x → c x < 0) ∧ (∀ (j : Nat) (x : α), i ≤ j → l[j]? = some x → ¬ c x < 0)
 | 0, lo, hi, _, _, h, _, _ => by omega
 | f + 1, lo, hi, h1, h2, h3, h4, h5 => by
  rw [bsr]
  by_cases h : lo < hi
  ·have hm : (lo + hi) / 2 < l.length := by omega
   obtain ⟨x, hx⟩ : ∃ x, l[(lo + hi) / 2]? = some x := ⟨l[(lo + hi) / 2], List.getElem?_eq_getElem hm⟩
   rw [decide_eq_true (by omega : (lo : Int) < (hi : Int)), mid_eq (by omega), Qah, hx]
   simp only [cond_true, Option.bind_some]
   by_cases hc : c x < 0
   ·rw [decide_eq_true hc, cond_true, Qdf (by omega) (by omega)]
    have := bsr_ok c l hl mono f ((lo + hi) / 2 + 1) hi (by omega) h2 (by omega) (fun j y hj hy => mono j _ y x (by omega) hy hx hc) h5
    simpa using this
   ·rw [decide_eq_false hc, cond_false]
    exact bsr_ok c l hl mono f lo ((lo + hi) / 2) (by omega) (by omega) (by omega) h4 fun j y hj hy e => hc (mono _ j x y hj hx hy e)
  ·rw [decide_eq_false (by omega : ¬ (lo : Int) < (hi : Int)), cond_false]
   have : lo = hi := by omega
   subst this
   exact ⟨lo, rfl, h2, h4, h5⟩
theorem bsr_split {α : Type} (c : α → Int) (l : List α) (hl : l.length ≤ 400000) (mono : ∀ (i j : Nat) (x y : α), i ≤ j → l[i]? = some x → l[j]? = some y → c y < 0 → c x < 0) :
  ∃ pre post : List α, l = pre ++ post ∧ bsr c l FUEL 0 l.length = some (pre.length : Int) ∧ (∀ x ∈ pre, c x < 0) ∧ (∀ x ∈ post, ¬ c x < 0) := by
 obtain ⟨i, h1, h2, h3, h4⟩ := bsr_ok c l hl mono FUEL 0 l.length (by omega) (by omega) (by unfold FUEL; omega) (fun j x hj => by omega) (fun j x hj hx => by have := lt_of_at hx; omega)
 refine ⟨l.take i, l.drop i, (List.take_append_drop i l).symm, ?_, fun x hx => ?_, fun x hx => ?_⟩
 ·rw [List.length_take, Nat.min_eq_left h2]; exact h1
 ·obtain ⟨j, hj⟩ := List.mem_iff_getElem?.1 hx
  have := lt_of_at hj
  rw [List.length_take] at this
  rw [List.getElem?_take_of_lt (by omega)] at hj
  exact h3 j x (by omega) hj
 ·obtain ⟨j, hj⟩ := List.mem_iff_getElem?.1 hx
  rw [List.getElem?_drop] at hj
  exact h4 (i + j) x (by omega) hj
theorem f63_53n1_eq (l : List VP) (k : VP) : ∀ (f : Nat) (lo hi : Int), f63_53n1 f l k lo hi = (bsr (fun x => cmpK x k) l f lo hi).map .exit0
 | 0, lo, hi => rfl
 | f + 1, lo, hi => by
  rw [f63_53n1, bsr]
  cases decide (lo < hi) with
  | false => rfl
  | true =>
   simp only [cond_true]
   cases at? l (midI lo hi) with
   | none => rfl
   | some x =>
    simp only [Option.bind_some, f53_eq, f63_53n1_eq l k f]
    cases decide (cmpK x k < 0) <;> rfl
def headB (g : VP → Bool) : List VP → Bool
 | [] => false
 | x :: _ => g x
theorem f63_53_eq {l : List VP} (hs : Srt l) (hl : l.length ≤ 400000) (k : VP) : ∃ pre post : List VP, l = pre ++ post ∧ f63_53 l k = some ((pre.length : Int), headB (fun x => Qw x k) post) ∧ (∀ x ∈ pre, Qaf x k = true) ∧ (∀ x ∈ post, Qaf x k = false) := by
 obtain ⟨pre, post, h1, h2, h3, h4⟩ := bsr_split (fun x => cmpK x k) l hl fun i j x y hij hx hy hc => by
  rcases Nat.lt_or_ge i j with h | h
  ·have h1 := List.pairwise_iff_getElem.1 hs i j (lt_of_at hx) (lt_of_at hy) h
   rw [(List.getElem?_eq_some_iff.1 hx).2, (List.getElem?_eq_some_iff.1 hy).2] at h1
   have h2 : Qaf y k = true := by rw [← cmpK_neg]; exact decide_eq_true hc
   have := Qbh h1 h2
   rw [← cmpK_neg] at this
   exact of_decide_eq_true this
  ·have : i = j := by omega
   subst this
   rw [hx] at hy; obtain rfl := Option.some.inj hy; exact hc
 refine ⟨pre, post, h1, ?_, fun x hx => by rw [← cmpK_neg]; exact decide_eq_true (h3 x hx), fun x hx => by rw [← cmpK_neg]; exact decide_eq_false (h4 x hx)⟩
 unfold f63_53 f63_53n0
 rw [f63_53n1_eq, h2]
 simp only [Option.map_some, Option.bind_some]
 cases post with
 | nil =>
  rw [h1, decide_eq_false (by simp)]; rfl
 | cons x r =>
  have hx : l[pre.length]? = some x := by rw [h1]; simp
  rw [decide_eq_true (by have := lt_of_at hx; omega), Qah, hx]
  simp only [cond_true, Option.bind_some, f53_eq, cmpK_same]
  rfl
end Go.Proofs.Ytelblamgfbkhbaa
namespace Go.Proofs.Ytelblamgfbkhbaa
set_option linter.unusedVariables false
set_option linter.unusedSimpArgs false
open Go.RowKit
def nz (x : VP) : List VP := bif Qcj x then [] else [x]
def upd (x : VP) (q b : Int) : VP := ⟨x.Member, x.Product, wr64 (x.Quantity + q), wr64 (x.Basis + b)⟩
def putL (k : VP) (q b : Int) : List VP → List VP
 | [] => nz (upd k q b)
 | x :: r => bif Qaf x k then x :: putL k q b r else bif Qw x k then nz (upd x q b) ++ r else nz (upd k q b) ++ x :: r
def putP (k : VP) (q b : Int) : List VP → VP
 | [] => upd k q b
 | x :: r => bif Qaf x k then putP k q b r else bif Qw x k then upd x q b else upd k q b
theorem putL_pre {k : VP} {q b : Int} : ∀ {pre post : List VP}, (∀ x ∈ pre, Qaf x k = true) → putL k q b (pre ++ post) = pre ++ putL k q b post ∧ putP k q b (pre ++ post) = putP k q b post
 | [], post, _ => ⟨rfl, rfl⟩
 | x :: pre, post, h => by
  have h1 := h x List.mem_cons_self
  have h2 := putL_pre (q := q) (b := b) (pre := pre) (post := post) fun y hy => h y (List.mem_cons_of_mem _ hy)
  simp only [List.cons_append, putL, putP, h1, cond_true, h2]
  exact ⟨trivial, trivial⟩
theorem f46r1_at {l pre r : List VP} {x : VP} {m p : ByteArray} {q b : Int} {f : Bool} (hl : pre.length ≤ 100000) (h1 : f63_53 l ⟨m, p, 0, 0⟩ = some ((pre.length : Int), f)) (h2 : f46r1n1 q b ((pre.length : Int), f) l m p = some (.norm (pre ++ x :: r))) (hm : x.Member = m) (hp : x.Product = p) :
  f46r1 m p q b l = some (pre ++ (nz (upd x q b) ++ r), upd x q b) := by
 subst hm hp
 have hat : at? (pre ++ x :: r) ((pre.length : Nat) : Int) = some x := by rw [Qah]; simp
 have e := eqb_zero (upd x q b)
 simp only [upd] at e
 unfold f46r1 f46r1n0
 rw [h1]
 simp only [Option.bind_some]
 rw [h2]
 simp only [Option.bind_some]
 rw [hat]
 simp only [Option.bind_some, e, Int.toNat_natCast]
 unfold nz upd
 cases Qcj ⟨x.Member, x.Product, wr64 (x.Quantity + q), wr64 (x.Basis + b)⟩ with
 | false => simp
 | true =>
  have hw : wr64 ((pre.length : Int) + 1) = (pre.length : Int) + 1 := Qdf (by omega) (by omega)
  unfold de65
  rw [hw, decide_eq_true (by omega : (0 : Int) ≤ (pre.length : Int)), decide_eq_true (rfl : (pre.length : Int) + 1 = (pre.length : Int) + 1), decide_eq_true (by simp; omega : (pre.length : Int) < _)]
  simp
theorem fits52 {n : Nat} (h : n ≤ 1000000) : Qbk n te52 = true := by
 have : fit n 48 = true := Qbo h (by omega)
 exact fit_of this rfl
theorem f46r1_eq {l : List VP} (hs : Srt l) (hl : l.length ≤ 100000) (m p : ByteArray) (q b : Int) : f46r1 m p q b l = some (putL ⟨m, p, 0, 0⟩ q b l, putP ⟨m, p, 0, 0⟩ q b l) := by
 obtain ⟨pre, post, rfl, h2, h3, h4⟩ := f63_53_eq hs (by omega) ⟨m, p, 0, 0⟩
 obtain ⟨e1, e2⟩ := putL_pre (k := ⟨m, p, 0, 0⟩) (q := q) (b := b) (post := post) h3
 rw [List.length_append] at hl
 rw [e1, e2]
 have ins : f46r1n1 q b ((pre.length : Int), false) (pre ++ post) m p = some (.norm (pre ++ ⟨m, p, 0, 0⟩ :: post)) := by
  unfold f46r1n1 in64
  rw [cond_false]
  rw [fits52 (by rw [List.length_append]; omega), decide_eq_true (by omega : (0 : Int) ≤ (pre.length : Int)), decide_eq_true (by rw [List.length_append]; omega : (pre.length : Int) ≤ _)]
  simp
 cases post with
 | nil =>
  have := f46r1_at (by omega) h2 ins rfl rfl
  rw [List.append_nil (nz _)] at this
  exact this
 | cons x r =>
  have hx := h4 x List.mem_cons_self
  rw [putL, putP, hx, cond_false, cond_false]
  cases hk : Qw x ⟨m, p, 0, 0⟩ with
  | true =>
   rw [headB, hk] at h2
   exact f46r1_at (by omega) h2 rfl (Qcl.1 hk).1 (Qcl.1 hk).2
  | false =>
   rw [headB, hk] at h2
   exact f46r1_at (by omega) h2 ins rfl rfl

theorem nz_mem {x y : VP} : y ∈ nz x ↔ y = x ∧ Qcj x = false := by
 unfold nz
 cases Qcj x <;> simp
theorem putP_key (k : VP) (q b : Int) : ∀ l : List VP, Qw (putP k q b l) k = true
 | [] => by simp [putP, upd, Qw, Qag]
 | x :: r => by
  rw [putP]
  cases Qaf x k with
  | true => exact putP_key k q b r
  | false =>
   cases h : Qw x k with
   | true => exact h
   | false => simp [upd, Qw, Qag]
theorem put_mem' {k : VP} {q b : Int} {y : VP} : ∀ {l : List VP}, y ∈ putL k q b l → y ∈ l ∨ (y = putP k q b l ∧ Qcj y = false)
 | [], h => .inr (by have := nz_mem.1 h; exact ⟨this.1, by rw [this.1]; exact this.2⟩)
 | x :: r, h => by
  rw [putL] at h
  rw [putP]
  cases h1 : Qaf x k with
  | true =>
   rw [h1, cond_true] at h
   rcases List.mem_cons.1 h with h | h
   ·exact .inl (by rw [h]; exact List.mem_cons_self)
   ·rcases put_mem' h with h | h
    ·exact .inl (List.mem_cons_of_mem _ h)
    ·exact .inr h
  | false =>
   rw [h1, cond_false] at h
   cases h2 : Qw x k with
   | true =>
    rw [h2, cond_true] at h
    rcases List.mem_append.1 h with h | h
    ·have := nz_mem.1 h; exact .inr ⟨this.1, by rw [this.1]; exact this.2⟩
    ·exact .inl (List.mem_cons_of_mem _ h)
   | false =>
    rw [h2, cond_false] at h
    rcases List.mem_append.1 h with h | h
    ·have := nz_mem.1 h; exact .inr ⟨this.1, by rw [this.1]; exact this.2⟩
    ·exact .inl h
theorem put_len (k : VP) (q b : Int) : ∀ l : List VP, (putL k q b l).length ≤ l.length + 1
 | [] => by unfold putL nz; cases Qcj (upd k q b) <;> simp
 | x :: r => by
  have := put_len k q b r
  rw [putL]
  cases Qaf x k with
  | true => simp only [cond_true, List.length_cons]; omega
  | false => cases Qw x k with
   | true => unfold nz; cases Qcj (upd x q b) <;> simp <;> omega
   | false => unfold nz; cases Qcj (upd k q b) <;> simp
theorem put_srt {k : VP} {q b : Int} : ∀ {l : List VP}, Srt l → Srt (putL k q b l)
 | [], _ => by unfold putL nz; cases Qcj (upd k q b) <;> simp [Srt]
 | x :: r, h => by
  have h' := List.pairwise_cons.1 h
  rw [putL]
  cases h1 : Qaf x k with
  | true =>
   refine List.pairwise_cons.2 ⟨fun y hy => ?_, put_srt h'.2⟩
   rcases put_mem' hy with hy | ⟨rfl, _⟩
   ·exact h'.1 y hy
   ·rw [keyLt_r (putP_key k q b r)]; exact h1
  | false =>
   cases h2 : Qw x k with
   | true =>
    rw [cond_false, cond_true]
    unfold nz
    cases Qcj (upd x q b) with
    | true => exact h'.2
    | false => exact List.pairwise_cons.2 ⟨fun y hy => h'.1 y hy, h'.2⟩
   | false =>
    rw [cond_false, cond_false]
    unfold nz
    cases Qcj (upd k q b) with
    | true => exact h
    | false =>
     have h3 := Qdb h1 h2
     refine List.pairwise_cons.2 ⟨fun y hy => ?_, h⟩
     rcases List.mem_cons.1 hy with rfl | hy
     ·exact h3
     ·exact Qbh h3 (h'.1 y hy)

def vl (k : VP) : List VP → Int × Int
 | [] => (0, 0)
 | x :: r => bif Qw x k then (x.Quantity, x.Basis) else vl k r
theorem Qcq {a b : VP} (h : Qw a b = true) : Qw b a = true := by
 rw [Qcl] at *; exact ⟨h.1.symm, h.2.symm⟩
theorem sameK_trans {a b c : VP} (h : Qw a b = true) (k : Qw b c = true) : Qw a c = true := by
 rw [Qcl] at *; exact ⟨h.1.trans k.1, h.2.trans k.2⟩
theorem sameK_l {a b c : VP} (h : Qw a b = true) : Qw a c = Qw b c := by
 obtain ⟨h1, h2⟩ := Qcl.1 h
 unfold Qw; rw [h1, h2]
theorem vl_none {k : VP} : ∀ {l : List VP}, (∀ x ∈ l, Qw x k = false) → vl k l = (0, 0)
 | [], _ => rfl
 | x :: r, h => by rw [vl, h x List.mem_cons_self, cond_false, vl_none fun y hy => h y (List.mem_cons_of_mem _ hy)]
theorem vl_gt {k : VP} {l : List VP} (h : ∀ x ∈ l, Qaf k x = true) : vl k l = (0, 0) :=
 vl_none fun x hx => by
  have := Qbz (h x hx)
  cases e : Qw x k with
  | false => rfl
  | true => rw [Qcq e] at this; cases this
theorem vl_nz (k x : VP) (h : Qw x k = true) : vl k (nz x) = (x.Quantity, x.Basis) := by
 unfold nz
 cases hz : Qcj x with
 | true =>
  unfold Qcj at hz
  rw [Bool.and_eq_true, decide_eq_true_eq, decide_eq_true_eq] at hz
  rw [hz.1, hz.2]; rfl
 | false => rw [cond_false, vl, h, cond_true]
theorem vl_app (k : VP) : ∀ a b : List VP, vl k (a ++ b) = bif a.any (fun x => Qw x k) then vl k a else vl k b
 | [], b => rfl
 | x :: a, b => by
  rw [List.cons_append, vl, vl, vl_app k a b, List.any_cons]
  cases Qw x k <;> rfl
theorem vl_nz_ne {k x : VP} (h : Qw x k = false) (l : List VP) : vl k (nz x ++ l) = vl k l := by
 unfold nz
 cases Qcj x with
 | true => rfl
 | false => rw [cond_false, List.singleton_append, vl, h, cond_false]
theorem vl_nz_gt {k x : VP} {l : List VP} (h : Qw x k = true) (hl : ∀ y ∈ l, Qaf k y = true) : vl k (nz x ++ l) = (x.Quantity, x.Basis) := by
 rw [vl_app, vl_gt hl]
 have h1 := vl_nz k x h
 unfold nz at *
 cases hz : Qcj x with
 | true => rw [hz] at h1; rw [cond_true] at h1 ⊢; exact h1
 | false => rw [cond_false, List.any_cons, h, Bool.true_or, cond_true, vl, h, cond_true]
theorem vl_put {k : VP} (h0 : k.Quantity = 0 ∧ k.Basis = 0) {q b : Int} (g : VP) : ∀ {l : List VP}, Srt l → vl g (putL k q b l) = bif Qw k g then (wr64 ((vl g l).1 + q), wr64 ((vl g l).2 + b)) else vl g l
 | [], _ => by
  rw [putL]
  cases hg : Qw k g with
  | true => rw [vl_nz g _ (show Qw (upd k q b) g = true from hg)]; simp [upd, h0.1, h0.2, vl]
  | false =>
   have := vl_nz_ne (k := g) (x := upd k q b) hg []
   rw [List.append_nil] at this
   rw [this]; rfl
 | x :: r, h => by
  have h' := List.pairwise_cons.1 h
  have ih := vl_put h0 (q := q) (b := b) g h'.2
  rw [putL]
  cases h1 : Qaf x k with
  | true =>
   rw [cond_true, vl, vl, ih]
   cases hg : Qw k g with
   | true =>
    have : Qw x g = false := by
     cases e : Qw x g with
     | false => rfl
     | true => have := sameK_trans e (Qcq hg); rw [Qbz h1] at this; cases this
    rw [this]; rfl
   | false => rfl
  | false =>
   rw [cond_false]
   cases h2 : Qw x k with
   | true =>
    rw [cond_true]
    cases hg : Qw k g with
    | true =>
     have hx : Qw x g = true := sameK_trans h2 hg
     rw [vl_nz_gt (show Qw (upd x q b) g = true from hx) fun y hy => by rw [← keyLt_l hx]; exact h'.1 y hy]
     rw [vl, hx]
     rfl
    | false =>
     have hx : Qw x g = false := by rw [sameK_l h2]; exact hg
     rw [vl_nz_ne (show Qw (upd x q b) g = false from hx), vl, hx]; rfl
   | false =>
    have h3 := Qdb h1 h2
    have hgt : ∀ y ∈ x :: r, Qaf k y = true := fun y hy => by
     rcases List.mem_cons.1 hy with rfl | hy
     ·exact h3
     ·exact Qbh h3 (h'.1 y hy)
    rw [cond_false]
    cases hg : Qw k g with
    | true =>
     have hgt' : ∀ y ∈ x :: r, Qaf g y = true := fun y hy => by rw [← keyLt_l hg]; exact hgt y hy
     rw [vl_nz_gt (show Qw (upd k q b) g = true from hg) hgt', vl_gt hgt']
     simp [upd, h0.1, h0.2]
    | false => rw [vl_nz_ne (show Qw (upd k q b) g = false from hg)]; rfl
theorem putP_vl {k : VP} (h0 : k.Quantity = 0 ∧ k.Basis = 0) {q b : Int} : ∀ {l : List VP}, Srt l → putP k q b l = ⟨k.Member, k.Product, wr64 ((vl k l).1 + q), wr64 ((vl k l).2 + b)⟩
 | [], _ => by simp [putP, upd, vl, h0.1, h0.2]
 | x :: r, h => by
  have h' := List.pairwise_cons.1 h
  rw [putP, vl]
  cases h1 : Qaf x k with
  | true => rw [cond_true, Qbz h1, cond_false, putP_vl h0 h'.2]
  | false =>
   rw [cond_false]
   cases h2 : Qw x k with
   | true => obtain ⟨e1, e2⟩ := Qcl.1 h2; rw [cond_true, cond_true, upd, e1, e2]
   | false =>
    have h3 := Qdb h1 h2
    rw [cond_false, cond_false, vl_gt fun y hy => Qbh h3 (h'.1 y hy)]
    simp [upd, h0.1, h0.2]
end Go.Proofs.Ytelblamgfbkhbaa
namespace Go.Proofs.Ytelblamgfbkhbaa
set_option linter.unusedVariables false
set_option linter.unusedSimpArgs false
open Go.RowKit
theorem mul_bd {a b : Int} {x y : Nat} (h : a.natAbs ≤ x) (k : b.natAbs ≤ y) : (a * b).natAbs ≤ x * y := by
 rw [Int.natAbs_mul]; exact Nat.mul_le_mul h k
theorem f47r2_eq {l : List VP} (h : l.length ≤ 1000000) : f47r2 l = some l := by
 unfold f47r2 f47r2n0
 cases l with
 | nil => rfl
 | cons x r => rw [req, Qbo h (by omega)]; rfl
abbrev kOf (m p : ByteArray) : VP := ⟨m, p, 0, 0⟩
def tA (s : Qd) (bu pr : ByteArray) (q p : Int) : VP := putP (kOf bu pr) q (q * p) s.Positions
def tL1 (s : Qd) (bu pr : ByteArray) (q p : Int) : List VP := putL (kOf bu pr) q (q * p) s.Positions
def tB (s : Qd) (bu se pr : ByteArray) (q p : Int) : VP := putP (kOf se pr) (-q) (-(q * p)) (tL1 s bu pr q p)
def tL2 (s : Qd) (bu se pr : ByteArray) (q p : Int) : List VP := putL (kOf se pr) (-q) (-(q * p)) (tL1 s bu pr q p)
def askB (bu se pr : ByteArray) (q p : Int) : Bool := partyB bu && (partyB se && (!(seq bu se) && (nameB pr && (decide (1 ≤ q) && (decide (q ≤ 1048576) && inR p 536870912)))))
def noV : Qd := ⟨0, []⟩
def tradeS (s : Qd) (bu se pr : ByteArray) (q p : Int) : Qd × Int :=
 bif Qcm s then
  bif askB bu se pr q p then
   bif inR (tB s bu se pr q p).Quantity 1048576 && inR (tA s bu pr q p).Quantity 1048576 then
    bif inR (tB s bu se pr q p).Basis 1125899906842624 && inR (tA s bu pr q p).Basis 1125899906842624 then
     bif decide ((tL2 s bu se pr q p).length ≤ 200) then (⟨s.Day, tL2 s bu se pr q p⟩, 0) else (noV, 22)
    else (noV, 14)
   else (noV, 52)
  else (noV, 2)
 else (noV, 8)
structure Ask (bu se pr : ByteArray) (q p : Int) : Prop where
 bp : partyB bu = true
 sp : partyB se = true
 ne : seq bu se = false
 np : nameB pr = true
 q0 : 1 ≤ q
 q1 : q ≤ 1048576
 p0 : -536870912 ≤ p
 p1 : p ≤ 536870912
theorem ask_iff {bu se pr : ByteArray} {q p : Int} : askB bu se pr q p = true ↔ Ask bu se pr q p := by
 unfold askB
 simp only [Bool.and_eq_true, decide_eq_true_eq, Bool.not_eq_true', inR_iff]
 exact ⟨fun ⟨a, b, c, d, e, f, g, h⟩ => ⟨a, b, c, d, e, f, g, h⟩, fun ⟨a, b, c, d, e, f, g, h⟩ => ⟨a, b, c, d, e, f, g, h⟩⟩
theorem Ask.m {bu se pr : ByteArray} {q p : Int} (h : Ask bu se pr q p) : -562949953421312 ≤ q * p ∧ q * p ≤ 562949953421312 := by
 have := mul_bd (a := q) (b := p) (x := 1048576) (y := 536870912) (by have := h.q0; have := h.q1; omega) (by have := h.p0; have := h.p1; omega)
 omega
theorem f16_eq (s : Qd) (bu se pr : ByteArray) (q p : Int) : f16r2 s.Day bu se pr q p s.Positions = some ((tradeS s bu se pr q p).2, (tradeS s bu se pr q p).1.Day, (tradeS s bu se pr q p).1.Positions) := by
 have e45 : f45 pr = some (nameB pr) := f45_eq _
 unfold f16r2 f16r2n0 tradeS
 rw [show (Qd.mk s.Day s.Positions) = s from rfl, f26_eq]
 cases hc : Qcm s with
 | false => rfl
 | true =>
  have ok := Qci.1 hc
  rw [Qbp, Qbp]
  simp only [cond_true, Option.bind_some, f44_eq, e45, f37_p, decide_true]
  cases ha : askB bu se pr q p with
  | false =>
   simp only [cond_false]
   unfold askB at ha
   revert ha
   cases partyB bu with
   | false => intro _; rfl
   | true => cases partyB se with
    | false => intro _; rfl
    | true => cases seq bu se with
     | true => intro _; rfl
     | false => cases nameB pr with
      | false => intro _; rfl
      | true => cases decide (1 ≤ q) with
       | false => intro _; rfl
       | true => cases decide (q ≤ 1048576) with
        | false => intro _; rfl
        | true => cases inR p 536870912 with
         | false => intro _; rfl
         | true => intro h; cases h
  | true =>
   have a := ask_iff.1 ha
   have hm := a.m
   have hq0 := a.q0
   have hq1 := a.q1
   have e1 : wr64 (q * p) = q * p := Qdf (by omega) (by omega)
   have e2 : wr64 (0 - q) = -q := w64 (by omega) (by omega) (by omega)
   have e3 : wr64 (-q * p) = -(q * p) := w64 (by rw [Int.neg_mul]) (by omega) (by omega)
   have e4 : f47r2 s.Positions = some s.Positions := f47r2_eq (by have := ok.len; omega)
   have e5 : f46r1 bu pr q (q * p) s.Positions = some (tL1 s bu pr q p, tA s bu pr q p) := f46r1_eq ok.srt (by have := ok.len; omega) _ _ _ _
   have e6 : f46r1 se pr (-q) (-(q * p)) (tL1 s bu pr q p) = some (tL2 s bu se pr q p, tB s bu se pr q p) := f46r1_eq (put_srt ok.srt) (by have := ok.len; have := put_len (kOf bu pr) q (q * p) s.Positions; omega) _ _ _ _
   have hp : inR p 536870912 = true := inR_iff.2 ⟨a.p0, a.p1⟩
   have hl : decide ((200 : Int) < ((tL2 s bu se pr q p).length : Int)) = !decide ((tL2 s bu se pr q p).length ≤ 200) := by rw [Qbp]; congr 1; exact dec_nat _ 200
   simp only [a.bp, a.sp, a.ne, a.np, decide_eq_true hq0, decide_eq_true hq1, hp, Bool.not_true, cond_true, cond_false, e1, e2, e3, e4, e5, e6, Option.bind_some, f37_q, f37_b, hl]
   cases inR (tB s bu se pr q p).Quantity 1048576 with
   | false => rfl
   | true => cases inR (tA s bu pr q p).Quantity 1048576 with
    | false => rfl
    | true => cases inR (tB s bu se pr q p).Basis 1125899906842624 with
     | false => rfl
     | true => cases inR (tA s bu pr q p).Basis 1125899906842624 with
      | false => rfl
      | true => cases decide ((tL2 s bu se pr q p).length ≤ 200) <;> rfl

abbrev Bd (l : List VP) : Prop := ∀ x ∈ l, (-1048576 ≤ x.Quantity ∧ x.Quantity ≤ 1048576) ∧ (-1125899906842624 ≤ x.Basis ∧ x.Basis ≤ 1125899906842624)
def wm (m : ByteArray) (x : VP) : Int := bif seq x.Member m then x.Basis else 0
section
variable {m p : ByteArray} {q b : Int} {l : List VP} (hb : Bd l) (hq : -1048576 ≤ q ∧ q ≤ 1048576) (hm : -1125899906842624 ≤ b ∧ b ≤ 1125899906842624)
include hb hq
omit hq
include hm
end
theorem good_bd {l : List VP} (h : ∀ x ∈ l, Qcc x = true) : Bd l := fun x hx => ⟨good_q (h x hx), good_b (h x hx)⟩
theorem good_nz {x : VP} (h : Qcc x = true) : Qcj x = false := by
 unfold Qcc at h
 simp only [Bool.and_eq_true, Bool.not_eq_true'] at h
 exact h.2.2.1
structure Took (s : Qd) (bu se pr : ByteArray) (q p : Int) : Prop where
 ok : Ok s
 ask : Ask bu se pr q p
 qb : inR (tB s bu se pr q p).Quantity 1048576 = true
 qa : inR (tA s bu pr q p).Quantity 1048576 = true
 bb : inR (tB s bu se pr q p).Basis 1125899906842624 = true
 ba : inR (tA s bu pr q p).Basis 1125899906842624 = true
 len : (tL2 s bu se pr q p).length ≤ 200
theorem trade_took {s : Qd} {bu se pr : ByteArray} {q p : Int} (h : (tradeS s bu se pr q p).2 = 0) : Took s bu se pr q p ∧ tradeS s bu se pr q p = (⟨s.Day, tL2 s bu se pr q p⟩, 0) := by
 unfold tradeS at h ⊢
 cases h1 : Qcm s with
 | false => rw [h1] at h; cases h
 | true =>
  cases h2 : askB bu se pr q p with
  | false => rw [h1, h2] at h; cases h
  | true =>
   cases h3 : inR (tB s bu se pr q p).Quantity 1048576 && inR (tA s bu pr q p).Quantity 1048576 with
   | false => rw [h1, h2, h3] at h; cases h
   | true =>
    cases h4 : inR (tB s bu se pr q p).Basis 1125899906842624 && inR (tA s bu pr q p).Basis 1125899906842624 with
    | false => rw [h1, h2, h3, h4] at h; cases h
    | true =>
     cases h5 : decide ((tL2 s bu se pr q p).length ≤ 200) with
     | false => rw [h1, h2, h3, h4, h5] at h; cases h
     | true =>
      rw [Bool.and_eq_true] at h3 h4
      exact ⟨⟨Qci.1 h1, ask_iff.1 h2, h3.1, h3.2, h4.1, h4.2, of_decide_eq_true h5⟩, rfl⟩
section
variable {s : Qd} {bu se pr : ByteArray} {q p : Int} (h : Took s bu se pr q p)
include h
end
end Go.Proofs.Ytelblamgfbkhbaa
namespace Go.Proofs.Ytelblamgfbkhbaa
set_option linter.unusedVariables false
set_option linter.unusedSimpArgs false
open Go.RowKit
abbrev PR_ := Qc
def pAt : Option PR_ → PR_ → Bool
 | none, _ => true
 | some y, x => slt y.Product x.Product
def pOk : Option PR_ → List PR_ → Bool
 | _, [] => true
 | p, x :: r => pAt p x && (nameB x.Product && (inR x.Price 536870912 && pOk (some x) r))
theorem f35n2L_at (s : List PR_) : ∀ (l pre : List PR_), s = pre ++ l → s.length ≤ 1000 → f35n2L s l ((pre.length : Nat) : Int) = some (bif pOk pre.getLast? l then .exit0 else .ret)
 | [], pre, _, _ => rfl
 | x :: r, pre, h, hb => by
  have ih := f35n2L_at s r (pre ++ [x]) (by rw [h]; simp) hb
  rw [List.length_append, List.getLast?_concat, show (((pre.length + [x].length : Nat)) : Int) = (pre.length : Int) + 1 from by simp] at ih
  have e45 : f45 x.Product = some (nameB x.Product) := f45_eq _
  rw [f35n2L]
  simp only [f37_p, Option.bind_some, e45, ih, pOk]
  rcases List.eq_nil_or_concat pre with rfl | ⟨q, y, rfl⟩
  ·simp only [List.length_nil, Int.natCast_zero, List.getLast?_nil, pAt, Bool.true_and]
   rw [decide_eq_false (by omega : ¬ (0 : Int) < 0)]
   cases nameB x.Product <;> cases inR x.Price 536870912 <;> cases pOk (some x) r <;> rfl
  ·rw [List.concat_eq_append] at h ⊢
   have hne : (0 : Int) < (((q ++ [y]).length : Nat) : Int) := by simp
   have hlen : q.length + 1 ≤ 1000 := by rw [h] at hb; simp at hb; omega
   have hw : wr64 ((((q ++ [y]).length : Nat) : Int) - 1) = ((q.length : Nat) : Int) := w64 (by simp) (by omega) (by omega)
   have hat : at? s ((q.length : Nat) : Int) = some y := by rw [Qah, h]; simp
   rw [decide_eq_true hne, hw, hat, List.getLast?_concat]
   simp only [cond_true, Option.bind_some, pAt]
   cases slt y.Product x.Product <;> cases nameB x.Product <;> cases inR x.Price 536870912 <;> cases pOk (some x) r <;> rfl
def Qas (ps : List PR_) : Bool := pOk none ps && decide (ps.length ≤ 200)
theorem f35_eq {ps : List PR_} (h : ps.length ≤ 1000) : f35 ps = some (Qas ps) := by
 have := f35n2L_at ps ps [] rfl h
 rw [show (((([] : List PR_).length : Nat)) : Int) = 0 from rfl, List.getLast?_nil] at this
 unfold f35 f35n0 f35n1 Qas
 rw [f35n2_run ps (Nat.le_trans h (by unfold maxLen; decide)), this, show decide ((ps.length : Int) ≤ 200) = decide (ps.length ≤ 200) from dec_nat _ 200]
 cases pOk none ps <;> rfl
abbrev PSrt (l : List PR_) : Prop := l.Pairwise fun a b => slt a.Product b.Product = true
theorem pOk_some : ∀ {l : List PR_} {p : PR_}, pOk (some p) l = true → (p :: l).Pairwise (fun a b => slt a.Product b.Product = true) ∧ ∀ x ∈ l, inR x.Price 536870912 = true
 | [], p, _ => by simp
 | y :: r, p, h => by
  rw [pOk, pAt, Bool.and_eq_true, Bool.and_eq_true, Bool.and_eq_true] at h
  obtain ⟨h1, _, h2, h3⟩ := h
  obtain ⟨h4, h5⟩ := pOk_some h3
  refine ⟨List.pairwise_cons.2 ⟨fun z hz => ?_, h4⟩, fun z hz => ?_⟩
  ·rcases List.mem_cons.1 hz with rfl | hz
   ·exact h1
   ·exact Qck h1 ((List.pairwise_cons.1 h4).1 z hz)
  ·rcases List.mem_cons.1 hz with rfl | hz
   ·exact h2
   ·exact h5 z hz
theorem prices_ok {ps : List PR_} (h : Qas ps = true) : PSrt ps ∧ (∀ x ∈ ps, inR x.Price 536870912 = true) ∧ ps.length ≤ 200 := by
 unfold Qas at h
 rw [Bool.and_eq_true, decide_eq_true_eq] at h
 refine ⟨?_, ?_, h.2⟩
 ·cases ps with
  | nil => exact List.Pairwise.nil
  | cons y r =>
   have := h.1
   rw [pOk, Bool.and_eq_true, Bool.and_eq_true, Bool.and_eq_true] at this
   exact (pOk_some this.2.2.2).1
 ·cases ps with
  | nil => simp
  | cons y r =>
   have := h.1
   rw [pOk, Bool.and_eq_true, Bool.and_eq_true, Bool.and_eq_true] at this
   intro z hz
   rcases List.mem_cons.1 hz with rfl | hz
   ·exact this.2.2.1
   ·exact (pOk_some this.2.2.2).2 z hz
theorem f57_58n1_eq (l : List PR_) (k : ByteArray) : ∀ (f : Nat) (lo hi : Int), f57_58n1 f l k lo hi = (bsr (fun x => cmpB x.Product k) l f lo hi).map .exit0
 | 0, lo, hi => rfl
 | f + 1, lo, hi => by
  rw [f57_58n1, bsr]
  cases decide (lo < hi) with
  | false => rfl
  | true =>
   simp only [cond_true]
   cases at? l (midI lo hi) with
   | none => rfl
   | some x =>
    have : f58 x k = some (cmpB x.Product k) := by unfold f58 f58n0; rw [f40_val]; rfl
    simp only [Option.bind_some, this, f57_58n1_eq l k f]
    cases decide (cmpB x.Product k < 0) <;> rfl
def lk (p : ByteArray) : List PR_ → Option Int
 | [] => none
 | x :: r => bif seq x.Product p then some x.Price else lk p r
theorem seq_f {a b : ByteArray} (h : a ≠ b) : seq a b = false := by
 cases k : seq a b with
 | false => rfl
 | true => exact absurd (Qbu.1 k) h
theorem lk_none {p : ByteArray} : ∀ {l : List PR_}, (∀ x ∈ l, x.Product ≠ p) → lk p l = none
 | [], _ => rfl
 | x :: r, h => by rw [lk, seq_f (h x List.mem_cons_self), cond_false, lk_none fun y hy => h y (List.mem_cons_of_mem _ hy)]
theorem lk_app {p : ByteArray} : ∀ {pre post : List PR_}, (∀ x ∈ pre, x.Product ≠ p) → lk p (pre ++ post) = lk p post
 | [], _, _ => rfl
 | x :: r, post, h => by rw [List.cons_append, lk, seq_f (h x List.mem_cons_self), cond_false, lk_app fun y hy => h y (List.mem_cons_of_mem _ hy)]
theorem lk_in {p : ByteArray} {v : Int} : ∀ {l : List PR_}, lk p l = some v → ∃ x ∈ l, x.Price = v
 | x :: r, h => by
  rw [lk] at h
  cases k : seq x.Product p with
  | true => rw [k] at h; exact ⟨x, List.mem_cons_self, Option.some.inj h⟩
  | false =>
   rw [k] at h
   obtain ⟨y, hy, e⟩ := lk_in h
   exact ⟨y, List.mem_cons_of_mem _ hy, e⟩
theorem slt_ne {a b : ByteArray} (h : slt a b = true) : a ≠ b := fun e => by rw [e, Qca] at h; cases h
theorem f57_58_eq {ps : List PR_} (hs : PSrt ps) (hl : ps.length ≤ 1000) (k : ByteArray) :
  (lk k ps = none ∧ ∃ i, f57_58 ps k = some (i, false)) ∨ ∃ i x, f57_58 ps k = some (i, true) ∧ at? ps i = some x ∧ lk k ps = some x.Price := by
 obtain ⟨pre, post, h1, h2, h3, h4⟩ := bsr_split (fun x : PR_ => cmpB x.Product k) ps (by omega) fun i j x y hij hx hy hc => by
  rcases Nat.lt_or_ge i j with h | h
  ·have h1 := List.pairwise_iff_getElem.1 hs i j (lt_of_at hx) (lt_of_at hy) h
   rw [(List.getElem?_eq_some_iff.1 hx).2, (List.getElem?_eq_some_iff.1 hy).2] at h1
   exact Qco.2 (Qck h1 (Qco.1 hc))
  ·have : i = j := by omega
   subst this
   rw [hx] at hy; obtain rfl := Option.some.inj hy; exact hc
 have hpre : ∀ x ∈ pre, x.Product ≠ k := fun x hx => slt_ne (Qco.1 (h3 x hx))
 have hr : f57_58n1 FUEL ps k 0 (ps.length : Int) = some (.exit0 (pre.length : Int)) := by rw [f57_58n1_eq, h2]; rfl
 cases post with
 | nil =>
  left
  refine ⟨by rw [h1, lk_app hpre]; rfl, (pre.length : Int), ?_⟩
  unfold f57_58 f57_58n0
  rw [hr]
  simp only [Option.bind_some]
  rw [h1, decide_eq_false (by simp)]; rfl
 | cons x r =>
  have hx : ps[pre.length]? = some x := by rw [h1]; simp
  have h58 : f58 x k = some (cmpB x.Product k) := by unfold f58 f58n0; rw [f40_val]; rfl
  have hf : f57_58 ps k = some ((pre.length : Int), decide (cmpB x.Product k = 0)) := by
   unfold f57_58 f57_58n0
   rw [hr]
   simp only [Option.bind_some]
   rw [decide_eq_true (by have := lt_of_at hx; omega), Qah, hx]
   simp only [cond_true, Option.bind_some, h58]
  by_cases hk : cmpB x.Product k = 0
  ·right
   refine ⟨_, x, by rw [hf, decide_eq_true hk], by rw [Qah]; exact hx, ?_⟩
   rw [h1, lk_app hpre, lk, Qbu.2 (cmpB_zero.1 hk)]; rfl
  ·left
   refine ⟨?_, _, by rw [hf, decide_eq_false hk]⟩
   rw [h1, lk_app hpre]
   have hs' : PSrt (x :: r) := by
    rw [h1] at hs
    exact (List.pairwise_append.1 hs).2.1
   have h5 : slt k x.Product = true := cmpB_pos.1 (by have := h4 x List.mem_cons_self; omega)
   refine lk_none fun y hy e => ?_
   rcases List.mem_cons.1 hy with rfl | hy
   ·exact slt_ne h5 e.symm
   ·exact slt_ne (Qck h5 ((List.pairwise_cons.1 hs').1 y hy)) e.symm

def hasV (ps : List PR_) (x : VP) : Bool := decide (x.Quantity = 0) || (lk x.Product ps).isSome
def prc (ps : List PR_) (p : ByteArray) : Int := (lk p ps).getD 0
def vOf (ps : List PR_) (x : VP) : Int := x.Quantity * prc ps x.Product
theorem prc_bd {ps : List PR_} (h : Qas ps = true) (p : ByteArray) : -536870912 ≤ prc ps p ∧ prc ps p ≤ 536870912 := by
 unfold prc
 cases k : lk p ps with
 | none => simp
 | some v =>
  obtain ⟨x, hx, rfl⟩ := lk_in k
  exact inR_iff.1 ((prices_ok h).2.1 x hx)
theorem vOf_bd {ps : List PR_} (h : Qas ps = true) {x : VP} (hx : Qcc x = true) : -562949953421312 ≤ vOf ps x ∧ vOf ps x ≤ 562949953421312 := by
 have h1 := prc_bd h x.Product
 have h2 := good_q hx
 have := mul_bd (a := x.Quantity) (b := prc ps x.Product) (x := 1048576) (y := 536870912) (by omega) (by omega)
 unfold vOf
 omega
theorem f36_eq {ps : List PR_} (h : Qas ps = true) {x : VP} (hx : Qcc x = true) : ∃ v, f36 x ps = some (v, hasV ps x) ∧ (hasV ps x = true → v = vOf ps x) := by
 have hp := prices_ok h
 have hb := vOf_bd h hx
 unfold f36 f36n0 hasV
 by_cases h0 : x.Quantity = 0
 ·rw [decide_eq_true h0]
  exact ⟨0, rfl, fun _ => by unfold vOf; rw [h0]; simp⟩
 ·rw [decide_eq_false h0]
  simp only [cond_false, Bool.false_or]
  rcases f57_58_eq hp.1 (by omega) x.Product with ⟨h1, i, h2⟩ | ⟨i, y, h2, h3, h4⟩
  ·rw [h1, h2]
   exact ⟨0, rfl, fun h => by cases h⟩
  ·rw [h2, h4]
   simp only [Option.bind_some, cond_true]
   rw [h3]
   refine ⟨_, rfl, fun _ => ?_⟩
   unfold vOf prc at hb ⊢
   rw [h4] at hb ⊢
   exact Qdf (n := x.Quantity * y.Price) (by simp at hb; omega) (by simp at hb; omega)

def accM (ps : List PR_) : List VP → List (ByteArray × Int) → List (ByteArray × Int)
 | [], m => m
 | x :: r, m => accM ps r (mPut seq x.Member (wr64 (mGet seq 0 x.Member m + wr64 (vOf ps x - x.Basis))) m)
def setP (ps : List PR_) (x : VP) : VP := ⟨x.Member, x.Product, x.Quantity, vOf ps x⟩
def setO (ps : List PR_) : List VP → List VP
 | [] => []
 | x :: r => bif decide (x.Quantity = 0) then setO ps r else setP ps x :: setO ps r
theorem f14r1n3L_at {ps : List PR_} (h : Qas ps = true) (s : Qd) (d : Int) : ∀ (l : List VP) (k : Int) (m : List (ByteArray × Int)) (o : List VP), (∀ x ∈ l, Qcc x = true) → o.length + l.length ≤ 1000 →
  f14r1n3L s.Positions ps d l k m o = some (bif l.all (hasV ps) then .exit1 (accM ps l m) (o ++ setO ps l) else .ret)
 | [], k, m, o, _, _ => by simp [f14r1n3L, accM, setO]
 | x :: r, k, m, o, hg, hl => by
  simp only [List.length_cons] at hl
  obtain ⟨v, h1, h2⟩ := f36_eq h (hg x List.mem_cons_self)
  rw [f14r1n3L, h1]
  simp only [Option.bind_some, List.all_cons]
  cases hv : hasV ps x with
  | false => rfl
  | true =>
   rw [h2 hv, accM, setO]
   have hr : ∀ y ∈ r, Qcc y = true := fun y hy => hg y (List.mem_cons_of_mem _ hy)
   simp only [cond_true, Bool.true_and]
   cases decide (x.Quantity = 0) with
   | true => rw [cond_true, cond_true, f14r1n3L_at h s d r _ _ _ hr (by omega)]
   | false =>
    rw [cond_false, cond_false, req, Qbo (by omega) (by omega), cond_true, f14r1n3L_at h s d r _ _ _ hr (by simp; omega)]
    simp [setP]
theorem put_mlen {V : Type} (k : ByteArray) (v : V) : ∀ m : List (ByteArray × V), (mPut seq k v m).length ≤ m.length + 1
 | [] => by simp [mPut]
 | (a, w) :: r => by
  have := put_mlen k v r
  rw [mPut]
  cases seq k a <;> simp <;> omega
theorem accM_len (ps : List PR_) : ∀ (l : List VP) (m : List (ByteArray × Int)), (accM ps l m).length ≤ m.length + l.length
 | [], m => by simp [accM]
 | x :: r, m => by
  have h1 := accM_len ps r (mPut seq x.Member (wr64 (mGet seq 0 x.Member m + wr64 (vOf ps x - x.Basis))) m)
  have h2 := put_mlen x.Member (wr64 (mGet seq 0 x.Member m + wr64 (vOf ps x - x.Basis))) m
  rw [accM, List.length_cons]; omega
theorem accM_nd (ps : List PR_) : ∀ (l : List VP) {m : List (ByteArray × Int)}, ndM m → ndM (accM ps l m)
 | [], m, h => h
 | x :: r, m, h => accM_nd ps r (put_nd h)
def payL (m : List (ByteArray × Int)) : List Qb := (m.filter fun x => !decide (x.2 = 0)).map fun x => ⟨x.1, x.2⟩
theorem f14n5_eq (s : Qd) (ps : List PR_) (d : Int) (o2 : List VP) (m : List (ByteArray × Int)) : ∀ (l : List (ByteArray × Int)) (o : List Qb), o.length + l.length ≤ 1000 → f14r1n5 s.Positions ps d o2 m l o = some (bif l.all (fun x => inR x.2 1125899906842624) then .exit3 (o ++ payL l) else .ret)
 | [], o, _ => by simp [f14r1n5, payL]
 | x :: r, o, hl => by
  simp only [List.length_cons] at hl
  rw [f14r1n5, f37_b]
  simp only [Option.bind_some, List.all_cons]
  cases inR x.2 1125899906842624 with
  | false => rfl
  | true =>
   simp only [cond_true, Bool.true_and]
   cases h0 : decide (x.2 = 0) with
   | true =>
    rw [cond_true, f14n5_eq s ps d o2 m r o (by omega)]
    simp only [payL, List.filter_cons, h0, Bool.not_true]
    rfl
   | false =>
    rw [cond_false, req, Qbo (by omega) (by omega), cond_true, f14n5_eq s ps d o2 m r _ (by simp; omega)]
    simp only [payL, List.filter_cons, h0, Bool.not_false]
    simp
theorem pay_perm {p m : List (ByteArray × Int)} (h : p.Perm m) : (payL p).Perm (payL m) := (h.filter _).map _
theorem pay_nd {m : List (ByteArray × Int)} (h : ndM m) : (payL m).Pairwise fun a b => a.Member ≠ b.Member := by
 unfold payL
 rw [List.pairwise_map]
 exact h.sublist List.filter_sublist
def isortP (l : List Qb) : List Qb := isort (fun x => x.Member) l
theorem sort_eq {p m : List (ByteArray × Int)} (hp : p.Perm m) (h : ndM m) (hl : m.length ≤ 1000) : so38_39 (payL p) = some (isortP (payL m)) := by
 have hq := pay_perm hp
 have nd : (payL p).Pairwise fun a b => a.Member ≠ b.Member := (hq.symm.pairwise_iff (fun {a b} hab => Ne.symm hab)).1 (pay_nd h)
 have hlen : (payL p).length ≤ 1000 := by
  rw [hq.length_eq]; unfold payL; rw [List.length_map]
  exact Nat.le_trans (List.length_filter_le _ _) hl
 unfold so38_39
 rw [decide_eq_true (by omega), nodupK_of _ nd]
 simp only [Bool.and_self, cond_true]
 congr 1
 unfold isortP
 refine sorted_uniq _ ?_ (isort_sorted _ _) (isort_sorted _ _) ?_
 ·exact ((Qcb _ _).trans hq).trans (Qcb _ _).symm
 ·exact ((Qcb _ _).pairwise_iff (fun {a b} hab => Ne.symm hab)).2 nd

def asksB (d : Int) (ps : List PR_) : Bool := decide (0 ≤ d) && (decide (d ≤ 99999) && Qas ps)
def Qan (s : Qd) (d : Int) (ps : List PR_) : Qd × (List Qb × Int) :=
 bif Qcm s then
  bif asksB d ps then
   bif decide (s.Day < d) then
    bif s.Positions.all (hasV ps) then
     bif (accM ps s.Positions []).all (fun x => inR x.2 1125899906842624) then
      (⟨d, setO ps s.Positions⟩, isortP (payL (accM ps s.Positions [])), 0)
     else (noV, [], 14)
    else (noV, [], 30)
   else (noV, [], 21)
  else (noV, [], 2)
 else (noV, [], 8)
theorem f14_eq (s : Qd) (d : Int) {ps : List PR_} (hl : ps.length ≤ 1000) : f14r1 s.Day d s.Positions ps = some ((Qan s d ps).2.2, (Qan s d ps).1.Day, (Qan s d ps).2.1, (Qan s d ps).1.Positions) := by
 have es : (Qd.mk s.Day s.Positions) = s := rfl
 unfold f14r1 Qan
 cases hc : Qcm s with
 | false =>
  have : Qcd s.Day d s.Positions ps = some (.ret 8 0 [] []) := by
   unfold Qcd f14r1n1
   rw [es, f26_eq, hc]; rfl
  rw [this]; rfl
 | true =>
  have ok := Qci.1 hc
  cases ha : asksB d ps with
  | false =>
   have : Qcd s.Day d s.Positions ps = some (.ret 2 0 [] []) := by
    unfold Qcd f14r1n1
    rw [es, f26_eq, hc, f35_eq hl, Qbp, Qbp]
    unfold asksB at ha
    revert ha
    cases decide (0 ≤ d) with
    | false => intro _; rfl
    | true => cases decide (d ≤ 99999) with
     | false => intro _; rfl
     | true => cases Qas ps with
      | false => intro _; rfl
      | true => intro h; cases h
   rw [this]; rfl
  | true =>
   have ha' := ha
   unfold asksB at ha'
   simp only [Bool.and_eq_true] at ha'
   obtain ⟨h0, h1, h2⟩ := ha'
   by_cases hd : s.Day < d
   ·have e1 : f14r1n1 d 0 s.Positions ps s.Day = some (.norm 0) := by
     unfold f14r1n1
     rw [f35_eq hl, Qbp, Qbp, h0, h1, h2, decide_eq_false (by omega : ¬ d ≤ s.Day)]; rfl
    have e2 : f14r1n2 s.Positions ps s.Day d = some (bif s.Positions.all (hasV ps) then .norm (accM ps s.Positions []) (setO ps s.Positions) else .ret) := by
     unfold f14r1n2
     rw [f14r1n3_run s.Positions ps d [] [] (Nat.le_trans ok.len (by unfold maxLen; decide)), f14r1n3L_at h2 s d s.Positions 0 [] [] ok.good (by have := ok.len; simp; omega)]
     cases s.Positions.all (hasV ps) <;> rfl
    rw [decide_eq_true hd]
    simp only [cond_true]
    cases hv : s.Positions.all (hasV ps) with
    | false =>
     have : Qcd s.Day d s.Positions ps = some (.ret 30 0 [] []) := by
      unfold Qcd
      rw [es, f26_eq, hc]
      simp only [cond_true, Option.bind_some, e1, e2, hv, decide_true, cond_false]
     rw [this]; rfl
    | true =>
     have hlen : (accM ps s.Positions []).length ≤ 1000 := by
      have := accM_len ps s.Positions []
      have := ok.len
      simp at *; omega
     have e4 : ∀ p, p.Perm (accM ps s.Positions []) → f14r1n4 s.Positions ps d (accM ps s.Positions []) (setO ps s.Positions) p = some (bif (accM ps s.Positions []).all (fun x => inR x.2 1125899906842624) then .norm (payL p) else .ret) := fun p hp => by
      unfold f14r1n4
      rw [f14n5_eq _ _ _ _ _ p [] (by rw [hp.length_eq]; simpa using hlen), hp.all_eq]
      cases (accM ps s.Positions []).all (fun x => inR x.2 1125899906842624) <;> rfl
     cases hr : (accM ps s.Positions []).all (fun x => inR x.2 1125899906842624) with
     | false =>
      have : Qcd s.Day d s.Positions ps = some (.ret 14 0 [] []) := by
       unfold Qcd
       rw [es, f26_eq, hc]
       simp only [cond_true, Option.bind_some, e1, e2, hv, decide_true]
       refine anyOrder_of fun p hp => ?_
       rw [e4 p hp, hr]; rfl
      rw [this]; rfl
     | true =>
      have : Qcd s.Day d s.Positions ps = some (.ret 0 d (isortP (payL (accM ps s.Positions []))) (setO ps s.Positions)) := by
       unfold Qcd
       rw [es, f26_eq, hc]
       simp only [cond_true, Option.bind_some, e1, e2, hv, decide_true]
       refine anyOrder_of fun p hp => ?_
       rw [e4 p hp, hr]
       simp only [cond_true, Option.bind_some]
       rw [sort_eq hp (accM_nd ps s.Positions List.Pairwise.nil) hlen]; rfl
      rw [this]; rfl
   ·have : Qcd s.Day d s.Positions ps = some (.ret 21 0 [] []) := by
     have e1 : f14r1n1 d 0 s.Positions ps s.Day = some (.norm 21) := by
      unfold f14r1n1
      rw [f35_eq hl, Qbp, Qbp, h0, h1, h2, decide_eq_true (by omega : d ≤ s.Day)]; rfl
     unfold Qcd
     rw [es, f26_eq, hc]
     simp only [cond_true, Option.bind_some, e1]
     rfl
    rw [this, decide_eq_false hd]; rfl
structure Done (s : Qd) (d : Int) (ps : List PR_) : Prop where
 ok : Ok s
 d0 : 0 ≤ d
 d1 : d ≤ 99999
 pr : Qas ps = true
 dd : s.Day < d
 hv : ∀ x ∈ s.Positions, hasV ps x = true
 rng : ∀ x ∈ accM ps s.Positions [], inR x.2 1125899906842624 = true
theorem settle_done {s : Qd} {d : Int} {ps : List PR_} (h : (Qan s d ps).2.2 = 0) : Done s d ps ∧ Qan s d ps = (⟨d, setO ps s.Positions⟩, isortP (payL (accM ps s.Positions [])), 0) := by
 unfold Qan at h ⊢
 cases h1 : Qcm s with
 | false => rw [h1] at h; cases h
 | true =>
  cases h2 : asksB d ps with
  | false => rw [h1, h2] at h; cases h
  | true =>
   cases h3 : decide (s.Day < d) with
   | false => rw [h1, h2, h3] at h; cases h
   | true =>
    cases h4 : s.Positions.all (hasV ps) with
    | false => rw [h1, h2, h3, h4] at h; cases h
    | true =>
     cases h5 : (accM ps s.Positions []).all (fun x => inR x.2 1125899906842624) with
     | false => rw [h1, h2, h3, h4, h5] at h; cases h
     | true =>
      unfold asksB at h2
      simp only [Bool.and_eq_true, decide_eq_true_eq] at h2
      exact ⟨⟨Qci.1 h1, h2.1, h2.2.1, h2.2.2, of_decide_eq_true h3, List.all_eq_true.1 h4, List.all_eq_true.1 h5⟩, rfl⟩
theorem setO_len (ps : List PR_) : ∀ l : List VP, (setO ps l).length ≤ l.length
 | [] => Nat.le_refl _
 | x :: r => by
  have := setO_len ps r
  rw [setO]
  cases decide (x.Quantity = 0) <;> simp <;> omega
end Go.Proofs.Ytelblamgfbkhbaa
namespace Go.Proofs.Ytelblamgfbkhbaa
set_option linter.unusedVariables false
set_option linter.unusedSimpArgs false
open Go.RowKit
theorem drop_at {α : Type} {l : List α} {k : Nat} {x : α} {r : List α} (h : l.drop k = x :: r) : at? l (k : Int) = some x ∧ k < l.length ∧ l.drop (k + 1) = r := by
 obtain ⟨h1, h2, h3⟩ := Qab h
 exact ⟨by rw [Qah]; exact h1, h2, h3⟩
theorem wr_succ {k : Nat} (h : k ≤ 1000000) : wr64 ((k : Int) + 1) = ((k + 1 : Nat) : Int) := by rw [Qdf (by omega) (by omega)]; omega
end Go.Proofs.Ytelblamgfbkhbaa
namespace Go.Proofs.Ytelblamgfbkhbaa
set_option linter.unusedVariables false
set_option linter.unusedSimpArgs false
open Go.RowKit
def tot : List (ByteArray × Int) → Int
 | [] => 0
 | x :: r => x.2 + tot r
theorem tot_put (k : ByteArray) (v : Int) : ∀ m : List (ByteArray × Int), tot (mPut seq k v m) = tot m - mGet seq 0 k m + v
 | [] => by simp [mPut, mGet, tot]
 | (a, w) :: r => by
  rw [mPut, mGet]
  cases h : seq k a with
  | true => simp only [cond_true, tot]; omega
  | false => simp only [cond_false, tot, tot_put k v r]; omega
def wd (ps : List PR_) (g : ByteArray) (x : VP) : Int := bif seq x.Member g then vOf ps x - x.Basis else 0
def wa (ps : List PR_) (x : VP) : Int := vOf ps x - x.Basis
theorem wd_bd {ps : List PR_} (hp : Qas ps = true) {x : VP} (hx : Qcc x = true) : -2251799813685248 ≤ vOf ps x - x.Basis ∧ vOf ps x - x.Basis ≤ 2251799813685248 := by
 have h1 := vOf_bd hp hx
 have h2 := good_b hx
 omega
theorem accM_at {ps : List PR_} (hp : Qas ps = true) : ∀ (l : List VP) (m : List (ByteArray × Int)) (n : Nat), (∀ x ∈ l, Qcc x = true) → n + l.length ≤ 1000 → (∀ g, -(2251799813685248 * (n : Int)) ≤ mGet seq 0 g m ∧ mGet seq 0 g m ≤ 2251799813685248 * (n : Int)) →
  (∀ g, mGet seq 0 g (accM ps l m) = mGet seq 0 g m + sm (wd ps g) l) ∧ tot (accM ps l m) = tot m + sm (wa ps) l
 | [], m, n, _, _, _ => by simp [accM, sm]
 | x :: r, m, n, hg, hl, hb => by
  simp only [List.length_cons] at hl
  have hx := wd_bd hp (hg x List.mem_cons_self)
  have hm := hb x.Member
  have e1 : wr64 (vOf ps x - x.Basis) = vOf ps x - x.Basis := Qdf (by omega) (by omega)
  have e2 : wr64 (mGet seq 0 x.Member m + (vOf ps x - x.Basis)) = mGet seq 0 x.Member m + (vOf ps x - x.Basis) := Qdf (by omega) (by omega)
  have hget : ∀ g, mGet seq 0 g (mPut seq x.Member (mGet seq 0 x.Member m + (vOf ps x - x.Basis)) m) = mGet seq 0 g m + wd ps g x := fun g => by
   rw [get_put]
   cases h : seq g x.Member with
   | true =>
    have := Qbu.1 h; subst this
    simp only [cond_true, wd, Qag]
   | false =>
    have : seq x.Member g = false := seq_f fun e => by rw [e, Qag] at h; cases h
    simp only [cond_false, wd, this]; omega
  obtain ⟨i1, i2⟩ := accM_at hp r (mPut seq x.Member (mGet seq 0 x.Member m + (vOf ps x - x.Basis)) m) (n + 1) (fun y hy => hg y (List.mem_cons_of_mem _ hy)) (by omega) fun g => by
   rw [hget g]
   have := hb g
   have hw : -2251799813685248 ≤ wd ps g x ∧ wd ps g x ≤ 2251799813685248 := by
    unfold wd
    cases seq x.Member g <;> simp only [cond_true, cond_false] <;> omega
   push_cast
   omega
  rw [accM, e1, e2]
  refine ⟨fun g => ?_, ?_⟩
  ·rw [i1 g, hget g, sm]; omega
  ·rw [i2, tot_put, sm, wa]; omega
theorem acc_get0 {ps : List PR_} (hp : Qas ps = true) {l : List VP} (hg : ∀ x ∈ l, Qcc x = true) (hl : l.length ≤ 200) (g : ByteArray) : mGet seq 0 g (accM ps l []) = sm (wd ps g) l := by
 have := (accM_at hp l [] 0 hg (by omega) fun g => by simp [mGet]).1 g
 rw [this]; simp [mGet]

def sp (f : Qb → Int) : List Qb → Int
 | [] => 0
 | x :: r => f x + sp f r
theorem sp_perm {f : Qb → Int} {a b : List Qb} (h : a.Perm b) : sp f a = sp f b := by
 induction h with
 | nil => rfl
 | cons x _ ih => rw [sp, sp, ih]
 | swap x y l => simp only [sp]; omega
 | trans _ _ i1 i2 => exact i1.trans i2
theorem sp_app (f : Qb → Int) : ∀ a b : List Qb, sp f (a ++ b) = sp f a + sp f b
 | [], b => by simp [sp]
 | x :: a, b => by rw [List.cons_append, sp, sp, sp_app f a b]; omega
def am (x : Qb) : Int := x.Amount
def ag (g : ByteArray) (x : Qb) : Int := bif seq x.Member g then x.Amount else 0
theorem payL_cons (x : ByteArray × Int) (r : List (ByteArray × Int)) : payL (x :: r) = (bif decide (x.2 = 0) then [] else [⟨x.1, x.2⟩]) ++ payL r := by
 unfold payL
 rw [List.filter_cons]
 cases decide (x.2 = 0) <;> simp
theorem pay_get (g : ByteArray) : ∀ {m : List (ByteArray × Int)}, ndM m → sp (ag g) (payL m) = mGet seq 0 g m
 | [], _ => rfl
 | (a, w) :: r, h => by
  have h' := List.pairwise_cons.1 h
  rw [payL_cons, sp_app, pay_get g h'.2, mGet]
  cases hg : seq g a with
  | true =>
   have := Qbu.1 hg; subst this
   have h0 : mGet seq 0 g r = 0 := by
    have : ∀ {r : List (ByteArray × Int)}, (∀ y ∈ r, g ≠ y.1) → mGet seq 0 g r = 0 := fun {r} hr => by
     induction r with
     | nil => rfl
     | cons y t ih =>
      obtain ⟨b, u⟩ := y
      rw [mGet, seq_f (hr _ List.mem_cons_self), cond_false, ih fun z hz => hr z (List.mem_cons_of_mem _ hz)]
    exact this h'.1
   by_cases hw : w = 0
   ·subst hw; simp [sp, h0]
   ·rw [show decide ((g, w).2 = 0) = false from decide_eq_false hw, cond_false, h0]
    simp [sp, ag, Qag]
  | false =>
   have : seq a g = false := seq_f fun e => by rw [e, Qag] at hg; cases hg
   by_cases hw : w = 0
   ·subst hw; simp [sp]
   ·rw [show decide ((a, w).2 = 0) = false from decide_eq_false hw, cond_false, cond_false]
    simp [sp, ag, this]


abbrev payS (s : Qd) (ps : List PR_) : List Qb := isort (fun x => x.Member) (payL (accM ps s.Positions []))
theorem payS_nd (s : Qd) (ps : List PR_) : (payS s ps).Pairwise fun a b => a.Member ≠ b.Member :=
 ((Qcb _ _).pairwise_iff (fun {a b} hab => Ne.symm hab)).2 (pay_nd (accM_nd ps s.Positions List.Pairwise.nil))
theorem payS_srt (s : Qd) (ps : List PR_) : (payS s ps).Pairwise fun a b => slt a.Member b.Member = true := by
 have h1 := isort_sorted (fun x : Qb => x.Member) (payL (accM ps s.Positions []))
 have h2 := payS_nd s ps
 refine (h1.and h2).imp fun {a b} ⟨h3, h4⟩ => ?_
 cases k : slt a.Member b.Member with
 | true => rfl
 | false => exact absurd (slt_total k h3) h4
section
variable {s : Qd} {d : Int} {ps : List PR_} (h : Done s d ps)
include h
theorem Done.pay_one (g : ByteArray) : sp (ag g) (payS s ps) = sm (wd ps g) s.Positions := by
 unfold payS
 rw [sp_perm (Qcb _ _), pay_get g (accM_nd ps s.Positions List.Pairwise.nil), acc_get0 h.pr h.ok.good h.ok.len]
theorem Done.pay_mem {x : Qb} (hx : x ∈ payS s ps) : x.Amount ≠ 0 ∧ -1125899906842624 ≤ x.Amount ∧ x.Amount ≤ 1125899906842624 := by
 have h1 := (Qcb _ _).mem_iff.1 hx
 unfold payL at h1
 obtain ⟨y, h2, rfl⟩ := List.mem_map.1 h1
 obtain ⟨h3, h4⟩ := List.mem_filter.1 h2
 have h5 := inR_iff.1 (h.rng y h3)
 simp only [Bool.not_eq_true', decide_eq_false_iff_not] at h4
 exact ⟨h4, h5⟩
theorem Done.pay_len : (payS s ps).length ≤ 200 := by
 unfold payS
 rw [(Qcb _ _).length_eq]
 unfold payL
 rw [List.length_map]
 have h1 := List.length_filter_le (fun x : ByteArray × Int => !decide (x.2 = 0)) (accM ps s.Positions [])
 have h2 := accM_len ps s.Positions []
 have := h.ok.len
 simp only [List.length_nil] at h2
 omega
end
theorem wm_bound {l : List VP} (h : ∀ x ∈ l, Qcc x = true) (hl : l.length ≤ 200) (g : ByteArray) : -225179981368524800 ≤ sm (wm g) l ∧ sm (wm g) l ≤ 225179981368524800 := by
 have := sm_bound (wm g) 1125899906842624 l fun x hx => by
  have := good_b (h x hx)
  unfold wm
  cases seq x.Member g <;> simp only [cond_true, cond_false] <;> omega
 omega
theorem f28n2L_eq' (g : ByteArray) (s : Qd) : ∀ (l : List VP) (b v : Int), f28n2L g s l (wr64 b) v = some (.exit0 (wr64 (b + sm (wm g) l)))
 | [], b, v => by simp [f28n2L, sm]
 | x :: r, b, v => by
  rw [f28n2L]
  cases h : seq x.Member g with
  | true => rw [cond_true, wr_l, f28n2L_eq' g s r]; simp only [sm, wm, h, cond_true, Int.add_assoc]
  | false => rw [cond_false, f28n2L_eq' g s r]; simp only [sm, wm, h, cond_false, Int.zero_add]
def withinS (n : Int) : Int × Int := bif inR n 1125899906842624 then (n, 0) else (0, 14)
theorem f28_eq {s : Qd} (ok : Ok s) (g : ByteArray) : f28 s g = some (withinS (sm (wm g) s.Positions)) := by
 have hb := wm_bound ok.good ok.len g
 have h1 : f28n1 g s = some (.norm (sm (wm g) s.Positions)) := by
  have := f28n2L_eq' g s s.Positions 0 0
  rw [Int.zero_add, Qdf (n := sm (wm g) s.Positions) (by omega) (by omega)] at this
  have this' : f28n2L g s s.Positions 0 0 = _ := this
  unfold f28n1
  rw [f28n2_run g s 0 (Nat.le_trans ok.len (by unfold maxLen; decide)), this']; rfl
 unfold f28 f28n0 withinS
 rw [f26_eq, Qci.2 ok]
 simp only [cond_true, Option.bind_some, decide_true, h1, f37_b]
 cases inR (sm (wm g) s.Positions) 1125899906842624 <;> rfl
def wv (ps : List PR_) (g : ByteArray) (x : VP) : Int := bif seq x.Member g then vOf ps x else 0
theorem f24n2L_eq' {ps : List PR_} (hp : Qas ps = true) (g : ByteArray) (s : Qd) : ∀ (l : List VP) (b v : Int), (∀ x ∈ l, Qcc x = true) → f24n2L g ps s l (wr64 b) v = some (bif l.all (fun x => !(seq x.Member g) || hasV ps x) then .exit0 (wr64 (b + sm (wv ps g) l)) else .ret)
 | [], b, v, _ => by simp [f24n2L, sm]
 | x :: r, b, v, hg => by
  obtain ⟨n, h1, h2⟩ := f36_eq hp (hg x List.mem_cons_self)
  have hr : ∀ y ∈ r, Qcc y = true := fun y hy => hg y (List.mem_cons_of_mem _ hy)
  rw [f24n2L, List.all_cons]
  cases h : seq x.Member g with
  | true =>
   rw [cond_true, h1]
   simp only [Option.bind_some, Bool.not_true, Bool.false_or]
   cases hv : hasV ps x with
   | false => rfl
   | true =>
    rw [h2 hv, cond_true, wr_l, f24n2L_eq' hp g s r _ _ hr]
    simp only [sm, wv, h, cond_true, Int.add_assoc, Bool.true_and]
  | false =>
   rw [cond_false, f24n2L_eq' hp g s r _ _ hr]
   simp only [sm, wv, h, cond_false, Int.zero_add, Bool.not_false, Bool.true_or, Bool.true_and]
theorem wv_bound {ps : List PR_} (hp : Qas ps = true) {l : List VP} (h : ∀ x ∈ l, Qcc x = true) (hl : l.length ≤ 200) (g : ByteArray) : -225179981368524800 ≤ sm (wv ps g) l ∧ sm (wv ps g) l ≤ 225179981368524800 := by
 have := sm_bound (wv ps g) 1125899906842624 l fun x hx => by
  have := vOf_bd hp (h x hx)
  unfold wv
  cases seq x.Member g <;> simp only [cond_true, cond_false] <;> omega
 omega
def valueS (s : Qd) (g : ByteArray) (ps : List PR_) : Int × Int :=
 bif Qcm s then bif Qas ps then bif s.Positions.all (fun x => !(seq x.Member g) || hasV ps x) then withinS (sm (wv ps g) s.Positions) else (0, 30) else (0, 2) else (0, 8)
theorem f24_eq (s : Qd) (g : ByteArray) {ps : List PR_} (hl : ps.length ≤ 1000) : f24 s g ps = some (valueS s g ps) := by
 unfold f24 f24n0 valueS
 rw [f26_eq, f35_eq hl]
 cases hc : Qcm s with
 | false => rfl
 | true =>
  have ok := Qci.1 hc
  simp only [cond_true, Option.bind_some, decide_true]
  cases hp : Qas ps with
  | false => rfl
  | true =>
   have hb := wv_bound hp ok.good ok.len g
   have h1 : f24n1 g ps s = some (bif s.Positions.all (fun x => !(seq x.Member g) || hasV ps x) then .norm (sm (wv ps g) s.Positions) else .ret) := by
    have := f24n2L_eq' hp g s s.Positions 0 0 ok.good
    rw [Int.zero_add, Qdf (n := sm (wv ps g) s.Positions) (by omega) (by omega)] at this
    have this' : f24n2L g ps s s.Positions 0 0 = _ := this
    unfold f24n1
    rw [f24n2_run g ps s 0 (Nat.le_trans ok.len (by unfold maxLen; decide)), this']
    cases s.Positions.all (fun x => !(seq x.Member g) || hasV ps x) <;> rfl
   simp only [cond_true, h1]
   cases s.Positions.all (fun x => !(seq x.Member g) || hasV ps x) with
   | false => rfl
   | true =>
    simp only [cond_true, Option.bind_some, f37_b, withinS]
    cases inR (sm (wv ps g) s.Positions) 1125899906842624 <;> rfl

end Go.Proofs.Ytelblamgfbkhbaa
namespace Go.Proofs.Ytelblamgfbkhbaa
set_option linter.unusedVariables false
set_option linter.unusedSimpArgs false
open Go.RowKit
theorem f20r1_eq {s : Qd} (h : s.Positions.length ≤ 1000000) : f20r1 s = some s.Positions := by
 unfold f20r1 f20r1n0
 cases hl : s.Positions with
 | nil => rfl
 | cons x r =>
  rw [hl] at h
  rw [req, Qbo h (by omega)]; rfl
theorem eqb_refl (x : VP) : Qa.eqb x x = true := by
 unfold Qa.eqb
 simp [Qag]
theorem f18n2L_same (a b : Qd) : ∀ (l pre : List VP), b.Positions = pre ++ l → f18n2L a b l ((pre.length : Nat) : Int) = some .exit0
 | [], pre, _ => rfl
 | x :: r, pre, h => by
  have ih := f18n2L_same a b r (pre ++ [x]) (by rw [h]; simp)
  rw [List.length_append, show (((pre.length + [x].length : Nat)) : Int) = (pre.length : Int) + 1 from by simp] at ih
  have hat : at? b.Positions ((pre.length : Nat) : Int) = some x := by rw [Qah, h]; simp
  rw [f18n2L, hat]
  simp only [Option.bind_some, eqb_refl, cond_true]
  exact ih
theorem f18_same {a b : Qd} (h : a = b) (hl : a.Positions.length ≤ maxLen) : f18 a b = some true := by
 subst h
 have : f18n1 a a = some .norm := by
  unfold f18n1
  rw [f18n2_run a a hl]
  have := f18n2L_same a a a.Positions [] rfl
  rw [show (((([] : List VP).length : Nat)) : Int) = 0 from rfl] at this
  rw [this]; rfl
 unfold f18 f18n0
 rw [this, decide_eq_true rfl, decide_eq_true rfl]; rfl

theorem f52r1_eq (x : VP) (m p : ByteArray) : f52r1 x m p = some (seq x.Member m && seq x.Product p) := by
 unfold f52r1 f52r1n0
 cases seq x.Member m <;> rfl

theorem vl_rng {l : List VP} (h : Bd l) (k : VP) : (-1048576 ≤ (vl k l).1 ∧ (vl k l).1 ≤ 1048576) ∧ (-1125899906842624 ≤ (vl k l).2 ∧ (vl k l).2 ≤ 1125899906842624) := by
 induction l with
 | nil => simp [vl]
 | cons x r ih =>
  rw [vl]
  cases Qw x k with
  | true => exact h x List.mem_cons_self
  | false => exact ih fun y hy => h y (List.mem_cons_of_mem _ hy)
end Go.Proofs.Ytelblamgfbkhbaa
namespace Go.Proofs.Ytelblamgfbkhbaa
set_option linter.unusedVariables false
set_option linter.unusedSimpArgs false
open Go.RowKit
def okAt : Int → UInt8 → Bool := fun k b => letterI b.toNat || (otherI b.toNat && !decide (k = 0))
theorem f49n2_eq {s : ByteArray} {k : Nat} {b : UInt8} (h : s.data.toList[k]? = some b) : f49n2 s (k : Int) = some (bif okAt (k : Int) b then .norm else .ret) := by
 have h3 : f49n3 s (k : Int) b = some (.norm (letterI b.toNat)) := by
  unfold f49n3 letterI
  cases decide ((97 : Int) ≤ (b.toNat : Int)) <;> cases decide ((b.toNat : Int) ≤ 122) <;> cases decide ((65 : Int) ≤ (b.toNat : Int)) <;> cases decide ((b.toNat : Int) ≤ 90) <;> rfl
 have h4 : ∀ c, f49n4 s (k : Int) b c = some (.norm (otherI b.toNat)) := fun c => by
  unfold f49n4 otherI
  cases decide ((48 : Int) ≤ (b.toNat : Int)) <;> cases decide ((b.toNat : Int) ≤ 57) <;> cases decide ((b.toNat : Int) = 95) <;> cases decide ((b.toNat : Int) = 45) <;> rfl
 have h5 : f49n5 s (k : Int) (letterI b.toNat) (otherI b.toNat) = some (.norm (!(okAt (k : Int) b))) := by
  unfold f49n5 okAt
  cases letterI b.toNat <;> cases otherI b.toNat <;> cases decide ((k : Int) = 0) <;> rfl
 unfold f49n2
 rw [Qah, h]
 simp only [Option.bind_some, h3, h4, h5]
 cases okAt (k : Int) b <;> rfl
def allAt : Nat → List UInt8 → Bool
 | _, [] => true
 | k, b :: r => okAt (k : Int) b && allAt (k + 1) r
theorem f49n6_at (s : ByteArray) (hs : s.size ≤ 1000) : ∀ (r : List UInt8) (f k : Nat), s.data.toList.drop k = r → r.length < f → f49n6 f s (k : Int) = some (bif allAt k r then .exit0 else .ret)
 | _, 0, _, _, h => absurd h (Nat.not_lt_zero _)
 | [], f + 1, k, hd, _ => by
  have := Qai hd
  rw [f49n6, size_list', decide_eq_false (by omega), cond_false]; rfl
 | b :: r, f + 1, k, hd, hf => by
  obtain ⟨h1, h2, h3⟩ := drop_at hd
  rw [size_list'] at hs
  rw [f49n6, size_list', decide_eq_true (by omega), cond_true, f49n2_eq (by rw [← Qah]; exact h1), allAt]
  cases okAt (k : Int) b with
  | false => rfl
  | true =>
   simp only [cond_true, Option.bind_some, Bool.true_and]
   rw [wr_succ (by omega)]
   exact f49n6_at s (by rw [size_list']; exact hs) r f (k + 1) h3 (by simpa using hf)
theorem allAt_pos : ∀ (r : List UInt8) (k : Nat), allAt (k + 1) r = r.all charB
 | [], k => rfl
 | b :: r, k => by
  rw [allAt, allAt_pos r (k + 1), List.all_cons, okAt, charB, decide_eq_false (by omega : ¬ ((k + 1 : Nat) : Int) = 0)]
  simp
theorem f49_eq (s : ByteArray) : f49 s = some (nameB s) := by
 unfold f49 f49n0 nameB
 rw [size_list']
 by_cases hs : s.data.toList.length ≤ 40
 ·have h1 : f49n1 s = some (bif allAt 0 s.data.toList then .norm else .ret) := by
   unfold f49n1
   have := f49n6_at s (by rw [size_list']; omega) s.data.toList FUEL 0 List.drop_zero (Qat (Nat.le_trans hs (by unfold maxLen; decide)))
   rw [show ((0 : Nat) : Int) = 0 from rfl] at this
   rw [this]
   cases allAt 0 s.data.toList <;> rfl
  rw [h1]
  generalize s.data.toList = l at hs
  rw [decide_eq_false (by omega : ¬ (40 : Int) < (l.length : Int))]
  cases l with
  | nil => rfl
  | cons b r =>
   rw [decide_eq_false (by simp; omega : ¬ (((b :: r).length : Nat) : Int) < 1)]
   simp only [cond_false, allAt, allAt_pos, okAt, isName, decide_eq_true hs, Bool.true_and]
   cases letterI b.toNat <;> cases otherI b.toNat <;> cases r.all charB <;> rfl
 ·rw [decide_eq_false (by omega : ¬ ((s.data.toList.length : Nat) : Int) < 1), decide_eq_true (by omega : (40 : Int) < ((s.data.toList.length : Nat) : Int))]
  have : isName s.data.toList = false := by
   generalize s.data.toList = l at hs
   cases l with
   | nil => rfl
   | cons b r => simp only [isName, decide_eq_false hs, Bool.false_and]
  rw [this]; rfl
theorem f48_eq (s : ByteArray) : f48 s = some (partyB s) := by
 unfold f48 f48n0 partyB
 rw [f49_eq]
 cases nameB s <;> cases seq s str_house <;> rfl
theorem f55_eq (x : VP) : f55 x = some (Qcc x) := by
 have h2 : f55n2 x = some (.norm (!(partyB x.Member && (nameB x.Product && !Qcj x)))) := by
  unfold f55n2 Qcj
  rw [f48_eq, f49_eq]
  cases partyB x.Member <;> cases nameB x.Product <;> cases decide (x.Quantity = 0) <;> cases decide (x.Basis = 0) <;> rfl
 unfold f55 f55n0 f55n1 Qcc inR
 rw [h2]
 cases partyB x.Member <;> cases nameB x.Product <;> cases Qcj x <;> cases decide (-1048576 ≤ x.Quantity) <;> cases decide (x.Quantity ≤ 1048576) <;> cases decide (-1125899906842624 ≤ x.Basis) <;> cases decide (x.Basis ≤ 1125899906842624) <;> rfl
theorem f56_eq (a b : VP) : f56 a b = some (Qaf a b) := by
 unfold f56 f56n0 Qaf
 cases slt a.Member b.Member <;> cases seq a.Member b.Member <;> rfl

theorem f34n2L_at (s : Qd) : ∀ (l pre : List VP), s.Positions = pre ++ l → s.Positions.length ≤ 1000 → f34n2L s l ((pre.length : Nat) : Int) = some (bif okL pre.getLast? l then .exit0 else .ret)
 | [], pre, _, _ => rfl
 | x :: r, pre, h, hb => by
  have ih := f34n2L_at s r (pre ++ [x]) (by rw [h]; simp) hb
  rw [List.length_append, List.getLast?_concat, show (((pre.length + [x].length : Nat)) : Int) = (pre.length : Int) + 1 from by simp] at ih
  rw [f34n2L, f55_eq, ih, okL]
  simp only [Option.bind_some]
  rcases List.eq_nil_or_concat pre with rfl | ⟨q, y, rfl⟩
  ·simp only [List.length_nil, Int.natCast_zero, List.getLast?_nil, ordAt, Bool.true_and]
   rw [decide_eq_false (by omega : ¬ (0 : Int) < 0)]
   cases Qcc x <;> cases okL (some x) r <;> rfl
  ·rw [List.concat_eq_append] at h ⊢
   have hne : (0 : Int) < (((q ++ [y]).length : Nat) : Int) := by simp
   have hlen : q.length + 1 ≤ 1000 := by rw [h] at hb; simp at hb; omega
   have hw : wr64 ((((q ++ [y]).length : Nat) : Int) - 1) = ((q.length : Nat) : Int) := w64 (by simp) (by omega) (by omega)
   have hat : at? s.Positions ((q.length : Nat) : Int) = some y := by rw [Qah, h]; simp
   rw [decide_eq_true hne, hw, hat, List.getLast?_concat]
   simp only [cond_true, Option.bind_some, f56_eq, ordAt]
   cases Qcc x <;> cases Qaf y x <;> cases okL (some x) r <;> rfl
theorem f34n6L_eq' {s : Qd} {k : Int} {o : VP} (ho : at? s.Positions k = some o) : ∀ (l : List VP) (q b v : Int), f34n6L k s l (wr64 q) (wr64 b) v = some (.exit4 (wr64 (q + sm (wq o.Product) l)) (wr64 (b + sm (wb o.Product) l)))
 | [], q, b, v => by simp [f34n6L, sm]
 | x :: r, q, b, v => by
  rw [f34n6L, ho]
  simp only [Option.bind_some]
  cases h : seq x.Product o.Product with
  | true =>
   rw [cond_true, wr_l, wr_l, f34n6L_eq' ho r]
   simp only [sm, wq, wb, h, cond_true, Int.add_assoc]
  | false =>
   rw [cond_false, f34n6L_eq' ho r]
   simp only [sm, wq, wb, h, cond_false, Int.zero_add]
def flatAt (l : List VP) (o : VP) : Bool := decide (wr64 (sm (wq o.Product) l) = 0) && decide (wr64 (sm (wb o.Product) l) = 0)
theorem f34n4_eq' {s : Qd} (hl : s.Positions.length ≤ 1000) {k : Nat} {o : VP} (ho : s.Positions[k]? = some o) : f34n4 (k : Int) s = some (bif flatAt s.Positions o then .norm else .ret) := by
 have hat : at? s.Positions (k : Int) = some o := by rw [Qah]; exact ho
 have h6 := f34n6L_eq' hat s.Positions 0 0 0
 rw [Int.zero_add, Int.zero_add] at h6
 have h6' : f34n6L (k : Int) s s.Positions 0 0 0 = some (.exit4 (wr64 (sm (wq o.Product) s.Positions)) (wr64 (sm (wb o.Product) s.Positions))) := h6
 unfold f34n4 f34n5 flatAt
 rw [f34n6_run (k : Int) s 0 0 (Nat.le_trans hl (by unfold maxLen; decide)), h6']
 simp only [Option.bind_some, f34n7]
 cases decide (wr64 (sm (wq o.Product) s.Positions) = 0) <;> cases decide (wr64 (sm (wb o.Product) s.Positions) = 0) <;> rfl
theorem f34n8_at {s : Qd} (hl : s.Positions.length ≤ 1000) : ∀ (r : List VP) (f k : Nat), s.Positions.drop k = r → r.length < f → f34n8 f s (k : Int) = some (bif r.all (flatAt s.Positions) then .exit2 else .ret)
 | _, 0, _, _, h => absurd h (Nat.not_lt_zero _)
 | [], f + 1, k, hd, _ => by
  have := Qai hd
  rw [f34n8, decide_eq_false (by omega), cond_false]; rfl
 | x :: r, f + 1, k, hd, hf => by
  obtain ⟨h1, h2, h3⟩ := drop_at hd
  rw [f34n8, decide_eq_true (by omega), cond_true, f34n4_eq' hl (by rw [← Qah]; exact h1), List.all_cons]
  cases flatAt s.Positions x with
  | false => rfl
  | true =>
   simp only [cond_true, Option.bind_some, Bool.true_and]
   rw [wr_succ (by omega)]
   exact f34n8_at hl r f (k + 1) h3 (by simpa using hf)
theorem sm_zero {w : VP → Int} : ∀ {l : List VP}, (∀ x ∈ l, w x = 0) → sm w l = 0
 | [], _ => rfl
 | x :: r, h => by rw [sm, h x List.mem_cons_self, sm_zero fun y hy => h y (List.mem_cons_of_mem _ hy)]; rfl
theorem flat_iff {l : List VP} (h : ∀ x ∈ l, Qcc x = true) (hl : l.length ≤ 200) : l.all (flatAt l) = true ↔ Flat l := by
 rw [List.all_eq_true]
 constructor
 ·intro ha p
  by_cases hp : ∃ x ∈ l, x.Product = p
  ·obtain ⟨x, hx, rfl⟩ := hp
   have := ha x hx
   unfold flatAt at this
   rw [Bool.and_eq_true, decide_eq_true_eq, decide_eq_true_eq] at this
   have h2 := wq_bound h hl x.Product
   have h3 := wb_bound h hl x.Product
   rw [Qdf (by omega) (by omega), Qdf (by omega) (by omega)] at this
   exact this
  ·have hn : ∀ x ∈ l, seq x.Product p = false := fun x hx => seq_f fun e => hp ⟨x, hx, e⟩
   exact ⟨sm_zero fun x hx => by unfold wq; rw [hn x hx]; rfl, sm_zero fun x hx => by unfold wb; rw [hn x hx]; rfl⟩
 ·intro hf x hx
  unfold flatAt
  rw [(hf x.Product).1, (hf x.Product).2]; rfl
theorem f34_eq (s : Qd) : f34 s = some (bif Qcm s then 0 else 8) := by
 unfold f34 f34n0 Qcm
 rw [Qbp, Qbp, Qbp, show decide ((s.Positions.length : Int) ≤ 200) = decide (s.Positions.length ≤ 200) from dec_nat _ 200]
 by_cases hl : s.Positions.length ≤ 200
 ·have h1 : f34n1 s = some (bif okL none s.Positions then .norm else .ret) := by
   unfold f34n1
   rw [f34n2_run s (Nat.le_trans hl (by unfold maxLen; decide))]
   have := f34n2L_at s s.Positions [] rfl (by omega)
   rw [show (((([] : List VP).length : Nat)) : Int) = 0 from rfl, List.getLast?_nil] at this
   rw [this]
   cases okL none s.Positions <;> rfl
  rw [h1, decide_eq_true hl]
  cases ho : okL none s.Positions with
  | false => cases decide (0 ≤ s.Day) <;> cases decide (s.Day ≤ 99999) <;> rfl
  | true =>
   have hg := (okL_none.1 ho).2
   have h3 : f34n3 s = some (bif zeroM (accL s.Positions []) then .norm else .ret) := by
    have := f34n8_at (s := s) (by omega) s.Positions FUEL 0 List.drop_zero (Qat (Nat.le_trans hl (by unfold maxLen; decide)))
    rw [show ((0 : Nat) : Int) = 0 from rfl] at this
    unfold f34n3
    rw [this]
    have e : s.Positions.all (flatAt s.Positions) = zeroM (accL s.Positions []) := by
     rw [Bool.eq_iff_iff, flat_iff hg hl, zeroM_iff hg hl]
    rw [e]
    cases zeroM (accL s.Positions []) <;> rfl
   simp only [cond_true, Option.bind_some, h3]
   cases decide (0 ≤ s.Day) <;> cases decide (s.Day ≤ 99999) <;> cases zeroM (accL s.Positions []) <;> rfl
 ·rw [decide_eq_false hl]
  cases decide (0 ≤ s.Day) <;> cases decide (s.Day ≤ 99999) <;> rfl

theorem f41n2L_at (s : List PR_) : ∀ (l pre : List PR_), s = pre ++ l → s.length ≤ 1000 → f41n2L s l ((pre.length : Nat) : Int) = some (bif pOk pre.getLast? l then .exit0 else .ret)
 | [], pre, _, _ => rfl
 | x :: r, pre, h, hb => by
  have ih := f41n2L_at s r (pre ++ [x]) (by rw [h]; simp) hb
  rw [List.length_append, List.getLast?_concat, show (((pre.length + [x].length : Nat)) : Int) = (pre.length : Int) + 1 from by simp] at ih
  rw [f41n2L, Qbp x.Price, Qbp 536870912, f49_eq, ih, pOk, inR]
  simp only [Option.bind_some]
  rcases List.eq_nil_or_concat pre with rfl | ⟨q, y, rfl⟩
  ·simp only [List.length_nil, Int.natCast_zero, List.getLast?_nil, pAt, Bool.true_and]
   rw [decide_eq_false (by omega : ¬ (0 : Int) < 0)]
   cases nameB x.Product <;> cases decide (-536870912 ≤ x.Price) <;> cases decide (x.Price ≤ 536870912) <;> cases pOk (some x) r <;> rfl
  ·rw [List.concat_eq_append] at h ⊢
   have hne : (0 : Int) < (((q ++ [y]).length : Nat) : Int) := by simp
   have hlen : q.length + 1 ≤ 1000 := by rw [h] at hb; simp at hb; omega
   have hw : wr64 ((((q ++ [y]).length : Nat) : Int) - 1) = ((q.length : Nat) : Int) := w64 (by simp) (by omega) (by omega)
   have hat : at? s ((q.length : Nat) : Int) = some y := by rw [Qah, h]; simp
   rw [decide_eq_true hne, hw, hat, List.getLast?_concat]
   simp only [cond_true, Option.bind_some, pAt]
   cases nameB x.Product <;> cases slt y.Product x.Product <;> cases decide (-536870912 ≤ x.Price) <;> cases decide (x.Price ≤ 536870912) <;> cases pOk (some x) r <;> rfl
theorem f41_eq (ps : List PR_) : f41 ps = some (Qas ps) := by
 unfold f41 f41n0 Qas
 rw [Qbp, show decide ((ps.length : Int) ≤ 200) = decide (ps.length ≤ 200) from dec_nat _ 200]
 by_cases hl : ps.length ≤ 200
 ·have h1 : f41n1 ps = some (bif pOk none ps then .norm else .ret) := by
   unfold f41n1
   rw [f41n2_run ps (Nat.le_trans hl (by unfold maxLen; decide))]
   have := f41n2L_at ps ps [] rfl (by omega)
   rw [show (((([] : List PR_).length : Nat)) : Int) = 0 from rfl, List.getLast?_nil] at this
   rw [this]
   cases pOk none ps <;> rfl
  rw [h1, decide_eq_true hl]
  cases pOk none ps <;> rfl
 ·rw [decide_eq_false hl]
  cases pOk none ps <;> rfl
theorem f42n2L_eq' (bh : List PR_) (x : VP) : ∀ (l : List PR_) (v : Int), f42n2L bh x l v = some (match lk x.Product l with | some p => .ret (wr64 (x.Quantity * p)) | none => .exit0)
 | [], v => rfl
 | y :: r, v => by
  rw [f42n2L, lk]
  cases seq y.Product x.Product with
  | true => rfl
  | false => rw [cond_false, cond_false, f42n2L_eq' bh x r]
theorem f42_eq {ps : List PR_} (h : Qas ps = true) {x : VP} (hx : Qcc x = true) : ∃ v, f42 x ps = some (v, hasV ps x) ∧ (hasV ps x = true → v = vOf ps x) := by
 have hl := (prices_ok h).2.2
 have hb := vOf_bd h hx
 unfold f42 f42n0 f42n1 hasV
 rw [f42n2_run ps x (Nat.le_trans hl (by unfold maxLen; decide)), f42n2L_eq']
 cases hk : lk x.Product ps with
 | none =>
  refine ⟨0, by simp, fun hh => ?_⟩
  have h0 : x.Quantity = 0 := by simpa using hh
  unfold vOf; rw [h0]; simp
 | some p =>
  refine ⟨wr64 (x.Quantity * p), by simp, fun _ => ?_⟩
  unfold vOf prc at hb ⊢
  rw [hk] at hb ⊢
  exact Qdf (n := x.Quantity * p) (by simp at hb; omega) (by simp at hb; omega)
theorem f43_eq {n : Int} (h1 : -4611686018427387904 ≤ n) (h2 : n ≤ 4611686018427387904) : f43 n = some ((n.natAbs : Nat) : Int) := by
 unfold f43 f43n0
 by_cases h : n < 0
 ·rw [decide_eq_true h, cond_true, Qdf (by omega) (by omega)]
  show some (0 - n) = _
  congr 1; omega
 ·rw [decide_eq_false h, cond_false]
  show some n = _
  congr 1; omega

def updB (x p : VP) : VP := ⟨x.Member, x.Product, wr64 (x.Quantity + p.Quantity), wr64 (x.Basis + p.Basis)⟩
def putZ (p : VP) : List VP → List VP
 | [] => [p]
 | x :: r => bif Qaf x p then x :: putZ p r else bif Qw x p then updB x p :: r else p :: x :: r
theorem f50n2L_done (bg : List VP) (p : VP) : ∀ (l acc : List VP) (v : Int), (∀ x ∈ l, Qw x p = false) → acc.length + l.length ≤ 1000 → f50n2L bg p l true v acc = some (.exit0 true (acc ++ l))
 | [], acc, v, _, _ => by simp [f50n2L]
 | x :: r, acc, v, h, hl => by
  simp only [List.length_cons] at hl
  have ih := f50n2L_done bg p r (acc ++ [x]) (v + 1) (fun y hy => h y (List.mem_cons_of_mem _ hy)) (by simp; omega)
  have hx : (seq x.Member p.Member && seq x.Product p.Product) = false := h x List.mem_cons_self
  rw [f50n2L, ih]
  simp only [req, Qbo (n := acc.length + 1) (by omega) (by omega : 48 ≤ 1000000), cond_true]
  revert hx
  cases seq x.Member p.Member <;> cases seq x.Product p.Product <;> intro hx <;> first | exact absurd hx (by decide) | simp
theorem f50n2L_eq' (bg : List VP) (p : VP) : ∀ (l acc : List VP) (v : Int), Srt l → acc.length + l.length ≤ 900 → f50n2L bg p l false v acc = some (bif l.all (fun x => Qaf x p) then .exit0 false (acc ++ l) else .exit0 true (acc ++ putZ p l))
 | [], acc, v, _, _ => by simp [f50n2L]
 | x :: r, acc, v, hs, hl => by
  simp only [List.length_cons] at hl
  have hs' := List.pairwise_cons.1 hs
  have hfit : ∀ n, n ≤ 2000 → fit n 48 = true := fun n hn => Qbo (by omega) (by omega)
  rw [f50n2L, List.all_cons, putZ, f56_eq]
  simp only [Option.bind_some]
  cases hk : Qw x p with
  | true =>
   have hk' : (seq x.Member p.Member && seq x.Product p.Product) = true := hk
   rw [Bool.and_eq_true] at hk'
   have hlt : Qaf x p = false := by
    cases h : Qaf x p with
    | false => rfl
    | true => rw [Qbz h] at hk; cases hk
   rw [hk'.1, hk'.2, hlt]
   simp only [cond_true, cond_false, Bool.false_and]
   rw [req, hfit _ (by omega), cond_true, f50n2L_done bg p r _ (v + 1) (fun y hy => by
    have := Qbz (hs'.1 y hy)
    cases e : Qw y p with
    | false => rfl
    | true => rw [sameK_trans hk (Qcq e)] at this; cases this) (by simp; omega)]
   simp [updB]
  | false =>
   have hk' : (seq x.Member p.Member && seq x.Product p.Product) = false := hk
   cases hlt : Qaf x p with
   | true =>
    have hpx : Qaf p x = false := keyLt_asymm hlt
    have ih := f50n2L_eq' bg p r (acc ++ [x]) (v + 1) hs'.2 (by simp; omega)
    rw [hpx]
    simp only [cond_true, cond_false, Bool.true_and, req, hfit (acc.length + 1) (by omega), ih]
    revert hk'
    cases seq x.Member p.Member <;> cases seq x.Product p.Product <;> intro hk' <;> first | exact absurd hk' (by decide) | simp
   | false =>
    have hpx : Qaf p x = true := Qdb hlt hk
    have hd := f50n2L_done bg p r ((acc ++ [p]) ++ [x]) (v + 1) (fun y hy => by
     have := Qbz (Qbh hpx (hs'.1 y hy))
     cases e : Qw y p with
     | false => rfl
     | true => rw [Qcq e] at this; cases this) (by simp; omega)
    rw [hpx]
    simp only [cond_true, cond_false, Bool.false_and, req, hfit (acc.length + 1) (by omega), hfit ((acc ++ [p]).length + 1) (by simp; omega), hd]
    revert hk'
    cases seq x.Member p.Member <;> cases seq x.Product p.Product <;> intro hk' <;> first | exact absurd hk' (by decide) | simp
theorem putZ_all {p : VP} : ∀ {l : List VP}, (l.all fun x => Qaf x p) = true → putZ p l = l ++ [p]
 | [], _ => rfl
 | x :: r, h => by
  rw [List.all_cons, Bool.and_eq_true] at h
  rw [putZ, h.1, cond_true, putZ_all h.2]; rfl
theorem f50_eq {l : List VP} (hs : Srt l) (hl : l.length ≤ 800) (p : VP) : f50 l p = some (putZ p l) := by
 have h1 := f50n2L_eq' l p l [] 0 hs (by simp; omega)
 unfold f50 f50n0 f50n1
 rw [f50n2_run l p false [] (Nat.le_trans hl (by unfold maxLen; decide)), h1]
 cases ha : l.all fun x => Qaf x p with
 | true =>
  simp only [cond_true, List.nil_append, Option.bind_some, cond_false]
  rw [req, Qbo (by omega) (by omega), cond_true, putZ_all ha]; rfl
 | false => simp
theorem putZ_mem {p y : VP} : ∀ {l : List VP}, y ∈ putZ p l → y ∈ l ∨ y = p ∨ ∃ x ∈ l, Qw x p = true ∧ y = updB x p
 | [], h => .inr (.inl (by simpa [putZ] using h))
 | x :: r, h => by
  rw [putZ] at h
  cases h1 : Qaf x p with
  | true =>
   rw [h1, cond_true] at h
   rcases List.mem_cons.1 h with rfl | h
   ·exact .inl List.mem_cons_self
   ·rcases putZ_mem h with h | h | ⟨z, hz, h⟩
    ·exact .inl (List.mem_cons_of_mem _ h)
    ·exact .inr (.inl h)
    ·exact .inr (.inr ⟨z, List.mem_cons_of_mem _ hz, h⟩)
  | false =>
   rw [h1, cond_false] at h
   cases h2 : Qw x p with
   | true =>
    rw [h2, cond_true] at h
    rcases List.mem_cons.1 h with rfl | h
    ·exact .inr (.inr ⟨x, List.mem_cons_self, h2, rfl⟩)
    ·exact .inl (List.mem_cons_of_mem _ h)
   | false =>
    rw [h2, cond_false] at h
    rcases List.mem_cons.1 h with rfl | h
    ·exact .inr (.inl rfl)
    ·exact .inl h
theorem updB_key (x p : VP) : Qw (updB x p) x = true := by simp [updB, Qw, Qag]
theorem putZ_lt {p a : VP} {l : List VP} (ha : Qaf a p = true) (h : ∀ y ∈ l, Qaf a y = true) : ∀ y ∈ putZ p l, Qaf a y = true := fun y hy => by
 rcases putZ_mem hy with hy | rfl | ⟨x, hx, _, rfl⟩
 ·exact h y hy
 ·exact ha
 ·rw [keyLt_r (updB_key x p)]; exact h x hx
theorem putZ_srt {p : VP} : ∀ {l : List VP}, Srt l → Srt (putZ p l)
 | [], _ => by simp [putZ, Srt]
 | x :: r, h => by
  have h' := List.pairwise_cons.1 h
  rw [putZ]
  cases h1 : Qaf x p with
  | true => exact List.pairwise_cons.2 ⟨putZ_lt h1 h'.1, putZ_srt h'.2⟩
  | false =>
   cases h2 : Qw x p with
   | true => exact List.pairwise_cons.2 ⟨fun y hy => by rw [keyLt_l (updB_key x p)]; exact h'.1 y hy, h'.2⟩
   | false =>
    have h3 := Qdb h1 h2
    refine List.pairwise_cons.2 ⟨fun y hy => ?_, h⟩
    rcases List.mem_cons.1 hy with rfl | hy
    ·exact h3
    ·exact Qbh h3 (h'.1 y hy)
theorem putZ_len (p : VP) : ∀ l : List VP, (putZ p l).length ≤ l.length + 1
 | [] => by simp [putZ]
 | x :: r => by
  have := putZ_len p r
  rw [putZ]
  cases Qaf x p <;> cases Qw x p <;> simp <;> omega
def nzL (l : List VP) : List VP := l.filter fun x => !Qcj x
theorem nzL_cons (x : VP) (r : List VP) : nzL (x :: r) = nz x ++ nzL r := by
 unfold nzL nz
 rw [List.filter_cons]
 cases Qcj x <;> rfl
theorem putL_gt {k : VP} {q b : Int} : ∀ {l : List VP}, (∀ y ∈ l, Qaf k y = true) → putL k q b l = nz (upd k q b) ++ l
 | [], _ => by rw [putL]; simp
 | x :: r, h => by
  have h1 := h x List.mem_cons_self
  rw [putL, keyLt_asymm h1]
  have h2 : Qw x k = false := by
   cases e : Qw x k with
   | false => rfl
   | true => have := Qbz h1; rw [Qcq e] at this; cases this
  rw [h2]; rfl
theorem nzL_put {m p : ByteArray} {q b : Int} (hq : wr64 q = q) (hb : wr64 b = b) : ∀ {l : List VP}, Srt l → (∀ x ∈ l, Qcj x = true → Qw x (kOf m p) = false) → nzL (putZ ⟨m, p, q, b⟩ l) = putL (kOf m p) q b (nzL l)
 | [], _, _ => by
  rw [putZ, nzL_cons]
  show nz _ ++ [] = putL _ _ _ []
  rw [putL, List.append_nil]
  congr 1
  simp only [upd, Int.zero_add, hq, hb]
 | x :: r, h, hz => by
  have h' := List.pairwise_cons.1 h
  have ih := nzL_put hq hb h'.2 fun y hy => hz y (List.mem_cons_of_mem _ hy)
  have e1 : Qaf x ⟨m, p, q, b⟩ = Qaf x (kOf m p) := rfl
  have e2 : Qw x ⟨m, p, q, b⟩ = Qw x (kOf m p) := rfl
  have e3 : upd (kOf m p) q b = ⟨m, p, q, b⟩ := by simp only [upd, Int.zero_add, hq, hb]
  rw [putZ, nzL_cons, e1, e2]
  cases h1 : Qaf x (kOf m p) with
  | true =>
   rw [cond_true, nzL_cons, ih]
   unfold nz
   cases Qcj x with
   | true => rfl
   | false => simp only [cond_false, List.cons_append, List.nil_append]; rw [putL, h1, cond_true]
  | false =>
   rw [cond_false]
   cases h2 : Qw x (kOf m p) with
   | true =>
    have hx : Qcj x = false := by
     cases e : Qcj x with
     | false => rfl
     | true => rw [hz x List.mem_cons_self e] at h2; cases h2
    rw [cond_true, nzL_cons]
    unfold nz
    rw [hx]
    simp only [cond_false, List.cons_append, List.nil_append]
    rw [putL, h1, h2]
    rfl
   | false =>
    have h3 : Qaf (kOf m p) x = true := Qdb h1 h2
    rw [cond_false, nzL_cons, nzL_cons, ← e3, putL_gt]
    intro y hy
    rcases List.mem_append.1 hy with hy | hy
    ·rw [(nz_mem.1 hy).1]; exact h3
    ·exact Qbh h3 (h'.1 y (List.mem_filter.1 hy).1)
end Go.Proofs.Ytelblamgfbkhbaa
namespace Go.Proofs.Ytelblamgfbkhbaa
set_option linter.unusedVariables false
set_option linter.unusedSimpArgs false
open Go.RowKit
def bigQ (x : VP) : Bool := inR x.Quantity 1048576
def bigB (x : VP) : Bool := inR x.Basis 1125899906842624
theorem abs_in {n lim : Int} (h : 0 ≤ lim) : decide (lim < ((n.natAbs : Nat) : Int)) = !inR n lim := by
 unfold inR
 by_cases h1 : -lim ≤ n
 ·by_cases h2 : n ≤ lim
  ·rw [decide_eq_true h1, decide_eq_true h2, decide_eq_false (by omega)]; rfl
  ·rw [decide_eq_false h2, decide_eq_true (by omega : lim < ((n.natAbs : Nat) : Int))]; simp
 ·rw [decide_eq_false h1, decide_eq_true (by omega : lim < ((n.natAbs : Nat) : Int))]; simp
theorem f17n2L_eq' (bg : List VP) (s : Qd) : ∀ (l acc : List VP) (e v : Int), (∀ x ∈ l, (-4611686018427387904 ≤ x.Quantity ∧ x.Quantity ≤ 4611686018427387904) ∧ (-4611686018427387904 ≤ x.Basis ∧ x.Basis ≤ 4611686018427387904)) → acc.length + l.length ≤ 1000 →
  f17n2L bg s l e v acc = some (bif l.all bigQ then .exit0 (bif l.all bigB then e else 14) (acc ++ nzL l) else .ret)
 | [], acc, e, v, _, _ => by simp [f17n2L, nzL]
 | x :: r, acc, e, v, hb, hl => by
  simp only [List.length_cons] at hl
  have hx := hb x List.mem_cons_self
  have hr : ∀ y ∈ r, _ := fun y hy => hb y (List.mem_cons_of_mem _ hy)
  have ih1 : ∀ e', f17n2L bg s r e' (v + 1) (acc ++ [x]) = _ := fun e' => f17n2L_eq' bg s r (acc ++ [x]) e' (v + 1) hr (by simp; omega)
  have ih0 : ∀ e', f17n2L bg s r e' (v + 1) acc = _ := fun e' => f17n2L_eq' bg s r acc e' (v + 1) hr (by omega)
  rw [f17n2L, f43_eq hx.1.1 hx.1.2, f43_eq hx.2.1 hx.2.2]
  simp only [Option.bind_some]
  rw [abs_in (by decide), abs_in (by decide), List.all_cons, List.all_cons, nzL_cons, show inR x.Quantity 1048576 = bigQ x from rfl, show inR x.Basis 1125899906842624 = bigB x from rfl]
  simp only [req, Qbo (n := acc.length + 1) (by omega) (by omega : 48 ≤ 1000000), cond_true, ih1, ih0]
  have hz : Qcj x = (decide (x.Quantity = 0) && decide (x.Basis = 0)) := rfl
  unfold nz
  rw [hz]
  cases bigQ x with
  | false => rfl
  | true =>
   cases bigB x <;> cases decide (x.Quantity = 0) <;> cases decide (x.Basis = 0) <;> cases r.all bigQ <;> cases r.all bigB <;> simp
theorem putZ_putP {m p : ByteArray} {q b : Int} (hq : wr64 q = q) (hb : wr64 b = b) : ∀ {l : List VP}, Srt l → (putZ ⟨m, p, q, b⟩ l).Perm (putP (kOf m p) q b l :: l.filter fun x => !(Qw x (kOf m p)))
 | [], _ => by
  have e3 : upd (kOf m p) q b = ⟨m, p, q, b⟩ := by simp only [upd, Int.zero_add, hq, hb]
  rw [putZ, putP, e3]; exact List.Perm.refl _
 | x :: r, h => by
  have h' := List.pairwise_cons.1 h
  have ih := putZ_putP hq hb (m := m) (p := p) h'.2
  have e1 : Qaf x ⟨m, p, q, b⟩ = Qaf x (kOf m p) := rfl
  have e2 : Qw x ⟨m, p, q, b⟩ = Qw x (kOf m p) := rfl
  have e3 : upd (kOf m p) q b = ⟨m, p, q, b⟩ := by simp only [upd, Int.zero_add, hq, hb]
  rw [putZ, putP, List.filter_cons, e1, e2]
  cases h1 : Qaf x (kOf m p) with
  | true =>
   rw [Qbz h1]
   simp only [cond_true, Bool.not_false, if_true]
   exact (ih.cons x).trans (List.Perm.swap _ _ _)
  | false =>
   cases h2 : Qw x (kOf m p) with
   | true =>
    have hf : (r.filter fun y => !(Qw y (kOf m p))) = r := List.filter_eq_self.2 fun y hy => by
     have := Qbz (h'.1 y hy)
     cases e : Qw y (kOf m p) with
     | false => rfl
     | true => rw [sameK_trans h2 (Qcq e)] at this; cases this
    simp only [cond_false, cond_true, Bool.not_true, hf]
    exact List.Perm.refl _
   | false =>
    have h3 := Qdb h1 h2
    have hf : (r.filter fun y => !(Qw y (kOf m p))) = r := List.filter_eq_self.2 fun y hy => by
     have := Qbz (Qbh h3 (h'.1 y hy))
     cases e : Qw y (kOf m p) with
     | false => rfl
     | true => rw [Qcq e] at this; cases this
    simp only [cond_false, Bool.not_false, if_true, hf, e3]
    exact List.Perm.refl _
theorem nzL_self {l : List VP} (h : ∀ x ∈ l, Qcj x = false) : nzL l = l := by
 unfold nzL
 exact List.filter_eq_self.2 fun x hx => by rw [h x hx]; rfl
section
variable {s : Qd} {bu se pr : ByteArray} {q p : Int} (ok : Ok s) (a : Ask bu se pr q p)
include ok a
theorem ref_lists : ∃ l2, f50 s.Positions (Qa.mk bu pr q (q * p)) = some (putZ ⟨bu, pr, q, q * p⟩ s.Positions) ∧ f50 (putZ ⟨bu, pr, q, q * p⟩ s.Positions) (Qa.mk se pr (-q) (-(q * p))) = some l2 ∧ nzL l2 = tL2 s bu se pr q p ∧
  l2.length ≤ 300 ∧ (∀ x ∈ l2, (-4611686018427387904 ≤ x.Quantity ∧ x.Quantity ≤ 4611686018427387904) ∧ (-4611686018427387904 ≤ x.Basis ∧ x.Basis ≤ 4611686018427387904)) ∧
  l2.all bigQ = (inR (tB s bu se pr q p).Quantity 1048576 && inR (tA s bu pr q p).Quantity 1048576) ∧ l2.all bigB = (inR (tB s bu se pr q p).Basis 1125899906842624 && inR (tA s bu pr q p).Basis 1125899906842624) := by
 have hl := ok.len
 have m := a.m
 have q0 := a.q0
 have q1 := a.q1
 have eq1 : wr64 q = q := Qdf (by omega) (by omega)
 have eb1 : wr64 (q * p) = q * p := Qdf (by omega) (by omega)
 have eq2 : wr64 (-q) = -q := Qdf (by omega) (by omega)
 have eb2 : wr64 (-(q * p)) = -(q * p) := Qdf (by omega) (by omega)
 have hs1 : Srt (putZ ⟨bu, pr, q, q * p⟩ s.Positions) := putZ_srt ok.srt
 have hl1 := putZ_len ⟨bu, pr, q, q * p⟩ s.Positions
 have hl2 := putZ_len ⟨se, pr, -q, -(q * p)⟩ (putZ ⟨bu, pr, q, q * p⟩ s.Positions)
 have hp1 := putZ_putP eq1 eb1 (m := bu) (p := pr) ok.srt
 have hp2 := putZ_putP eq2 eb2 (m := se) (p := pr) hs1
 have hnz : nzL s.Positions = s.Positions := nzL_self fun x hx => good_nz (ok.good x hx)
 have en1 : nzL (putZ ⟨bu, pr, q, q * p⟩ s.Positions) = tL1 s bu pr q p := by
  rw [nzL_put eq1 eb1 ok.srt fun x hx hz => by rw [good_nz (ok.good x hx)] at hz; cases hz]
  rw [hnz]; rfl
 have hnk : Qw (kOf bu pr) (kOf se pr) = false := by
  show (seq bu se && seq pr pr) = false
  rw [a.ne]; rfl
 have hz1 : ∀ x ∈ putZ ⟨bu, pr, q, q * p⟩ s.Positions, Qcj x = true → Qw x (kOf se pr) = false := fun x hx hz => by
  rcases List.mem_cons.1 (hp1.mem_iff.1 hx) with rfl | hx
  ·have k := putP_key (kOf bu pr) q (q * p) s.Positions
   cases e : Qw (putP (kOf bu pr) q (q * p) s.Positions) (kOf se pr) with
   | false => rfl
   | true => rw [sameK_trans (Qcq k) e] at hnk; cases hnk
  ·rw [good_nz (ok.good x (List.mem_filter.1 hx).1)] at hz; cases hz
 have en2 : nzL (putZ ⟨se, pr, -q, -(q * p)⟩ (putZ ⟨bu, pr, q, q * p⟩ s.Positions)) = tL2 s bu se pr q p := by
  rw [nzL_put eq2 eb2 hs1 hz1, en1]; rfl
 -- the seller's position is that of the list without zeros
 have hB : putP (kOf se pr) (-q) (-(q * p)) (putZ ⟨bu, pr, q, q * p⟩ s.Positions) = tB s bu se pr q p := by
  unfold tB
  rw [← en1, putP_vl ⟨rfl, rfl⟩ hs1, putP_vl ⟨rfl, rfl⟩ (show Srt (nzL (putZ ⟨bu, pr, q, q * p⟩ s.Positions)) from hs1.sublist List.filter_sublist)]
  have : ∀ {l : List VP}, (∀ x ∈ l, Qcj x = true → Qw x (kOf se pr) = false) → vl (kOf se pr) (nzL l) = vl (kOf se pr) l := fun {l} h => by
   induction l with
   | nil => rfl
   | cons x r ih =>
    have ih' := ih fun y hy => h y (List.mem_cons_of_mem _ hy)
    rw [nzL_cons, vl]
    cases e : Qcj x with
    | true =>
     rw [h x List.mem_cons_self e]
     unfold nz; rw [e]; exact ih'
    | false =>
     unfold nz; rw [e]
     show vl (kOf se pr) (x :: nzL r) = _
     rw [vl, ih']
  rw [this hz1]
 have bd0 : ∀ x ∈ s.Positions, bigQ x = true ∧ bigB x = true := fun x hx => ⟨inR_iff.2 (good_q (ok.good x hx)), inR_iff.2 (good_b (ok.good x hx))⟩
 have rA : (-2147483648 ≤ (tA s bu pr q p).Quantity ∧ (tA s bu pr q p).Quantity ≤ 2147483648) ∧ (-2251799813685248 ≤ (tA s bu pr q p).Basis ∧ (tA s bu pr q p).Basis ≤ 2251799813685248) := by
  have r := vl_rng (good_bd ok.good) (kOf bu pr)
  unfold tA
  rw [putP_vl ⟨rfl, rfl⟩ ok.srt, Qdf (n := (vl (kOf bu pr) s.Positions).1 + q) (by omega) (by omega), Qdf (n := (vl (kOf bu pr) s.Positions).2 + q * p) (by omega) (by omega)]
  simp only
  omega
 have hk : Qw (tA s bu pr q p) (kOf se pr) = false := by
  have k := putP_key (kOf bu pr) q (q * p) s.Positions
  cases e : Qw (tA s bu pr q p) (kOf se pr) with
  | false => rfl
  | true => rw [sameK_trans (Qcq k) e] at hnk; cases hnk
 have vB : vl (kOf se pr) (tL1 s bu pr q p) = vl (kOf se pr) s.Positions := by
  unfold tL1
  rw [vl_put ⟨rfl, rfl⟩ _ ok.srt, hnk, cond_false]
 have rB : (-2147483648 ≤ (tB s bu se pr q p).Quantity ∧ (tB s bu se pr q p).Quantity ≤ 2147483648) ∧ (-2251799813685248 ≤ (tB s bu se pr q p).Basis ∧ (tB s bu se pr q p).Basis ≤ 2251799813685248) := by
  have r := vl_rng (good_bd ok.good) (kOf se pr)
  unfold tB
  rw [putP_vl ⟨rfl, rfl⟩ (show Srt (tL1 s bu pr q p) from put_srt ok.srt), vB, Qdf (n := (vl (kOf se pr) s.Positions).1 + -q) (by omega) (by omega), Qdf (n := (vl (kOf se pr) s.Positions).2 + -(q * p)) (by omega) (by omega)]
  simp only
  omega
 have hP : (putZ ⟨se, pr, -q, -(q * p)⟩ (putZ ⟨bu, pr, q, q * p⟩ s.Positions)).Perm (tB s bu se pr q p :: tA s bu pr q p :: (s.Positions.filter fun x => !(Qw x (kOf bu pr))).filter fun x => !(Qw x (kOf se pr))) := by
  rw [hB] at hp2
  refine hp2.trans (List.Perm.cons _ ?_)
  have h3 := hp1.filter fun x => !(Qw x (kOf se pr))
  rw [List.filter_cons, show (Qw (putP (kOf bu pr) q (q * p) s.Positions) (kOf se pr)) = false from hk] at h3
  exact h3
 have hsub : ∀ x ∈ ((s.Positions.filter fun x => !(Qw x (kOf bu pr))).filter fun x => !(Qw x (kOf se pr))), x ∈ s.Positions := fun x hx => (List.mem_filter.1 (List.mem_filter.1 hx).1).1
 refine ⟨_, f50_eq ok.srt (by omega) _, f50_eq hs1 (by omega) _, en2, by omega, fun x hx => ?_, ?_, ?_⟩
 ·rcases List.mem_cons.1 (hP.mem_iff.1 hx) with rfl | hx
  ·omega
  ·rcases List.mem_cons.1 hx with rfl | hx
   ·omega
   ·have := good_q (ok.good x (hsub x hx))
    have := good_b (ok.good x (hsub x hx))
    omega
 ·rw [hP.all_eq, List.all_cons, List.all_cons, List.all_eq_true.2 fun x hx => (bd0 x (hsub x hx)).1, Bool.and_true]; rfl
 ·rw [hP.all_eq, List.all_cons, List.all_cons, List.all_eq_true.2 fun x hx => (bd0 x (hsub x hx)).2, Bool.and_true]; rfl
end
theorem f17_eq (s : Qd) (bu se pr : ByteArray) (q p : Int) : f17 s bu se pr q p = some (tradeS s bu se pr q p) := by
 unfold f17 f17n0 tradeS
 rw [f34_eq]
 cases hc : Qcm s with
 | false => rfl
 | true =>
  have ok := Qci.1 hc
  rw [Qbp q, Qbp 1048576, Qbp p, Qbp 536870912]
  simp only [cond_true, Option.bind_some, f48_eq, f49_eq, decide_true]
  cases ha : askB bu se pr q p with
  | false =>
   simp only [cond_false]
   unfold askB inR at ha
   revert ha
   cases partyB bu with
   | false => intro _; rfl
   | true => cases partyB se with
    | false => intro _; rfl
    | true => cases seq bu se with
     | true => intro _; rfl
     | false => cases nameB pr with
      | false => intro _; rfl
      | true => cases decide (1 ≤ q) with
       | false => intro _; rfl
       | true => cases decide (q ≤ 1048576) with
        | false => intro _; rfl
        | true => cases decide (-536870912 ≤ p) with
         | false => intro _; rfl
         | true => cases decide (p ≤ 536870912) with
          | false => intro _; rfl
          | true => intro h; cases h
  | true =>
   have a := ask_iff.1 ha
   have hm := a.m
   have hq0 := a.q0
   have hq1 := a.q1
   obtain ⟨l2, h1, h2, h3, h4, h5, h6, h7⟩ := ref_lists ok a
   have e1 : wr64 (q * p) = q * p := Qdf (by omega) (by omega)
   have e2 : wr64 (0 - q) = -q := w64 (by omega) (by omega) (by omega)
   have e3 : wr64 (-q * p) = -(q * p) := w64 (by rw [Int.neg_mul]) (by omega) (by omega)
   have hn1 : f17n1 l2 s = some (bif l2.all bigQ then .norm (bif l2.all bigB then 0 else 14) (tL2 s bu se pr q p) else .ret) := by
    unfold f17n1
    rw [f17n2_run l2 s 0 [] (Nat.le_trans h4 (by unfold maxLen; decide)), f17n2L_eq' l2 s l2 [] 0 0 h5 (by simp; omega), List.nil_append, h3]
    cases l2.all bigQ <;> rfl
   simp only [a.bp, a.sp, a.ne, a.np, decide_eq_true hq0, decide_eq_true hq1, decide_eq_true a.p0, decide_eq_true a.p1, Bool.not_true, cond_true, cond_false, e1, e2, e3, h1, h2, hn1, Option.bind_some, ← h6, ← h7]
   have hl : decide ((200 : Int) < ((tL2 s bu se pr q p).length : Int)) = !decide ((tL2 s bu se pr q p).length ≤ 200) := by rw [Qbp]; congr 1; exact dec_nat _ 200
   cases l2.all bigQ with
   | false => rfl
   | true =>
    cases l2.all bigB with
    | false => rfl
    | true =>
     simp only [cond_true, Option.bind_some, f17n3, f17n4, decide_true, hl]
     cases decide ((tL2 s bu se pr q p).length ≤ 200) <;> rfl

theorem pay_ext : ∀ {a b : List Qb}, a.Pairwise (fun x y => slt x.Member y.Member = true) → b.Pairwise (fun x y => slt x.Member y.Member = true) → (∀ x ∈ a, x.Amount ≠ 0) → (∀ x ∈ b, x.Amount ≠ 0) → (∀ g, sp (ag g) a = sp (ag g) b) → a = b := by
 have none : ∀ {g : ByteArray} {l : List Qb}, (∀ y ∈ l, y.Member ≠ g) → sp (ag g) l = 0 := fun {g l} h => by
  induction l with
  | nil => rfl
  | cons y r ih => rw [sp, ih fun z hz => h z (List.mem_cons_of_mem _ hz), ag, seq_f (h y List.mem_cons_self)]; rfl
 have hd : ∀ {x : Qb} {r : List Qb}, (x :: r).Pairwise (fun x y => slt x.Member y.Member = true) → sp (ag x.Member) (x :: r) = x.Amount := fun {x r} h => by
  rw [sp, none fun y hy => (slt_ne ((List.pairwise_cons.1 h).1 y hy)).symm, ag, Qag]; simp
 have lt : ∀ {x y : Qb} {r : List Qb}, (y :: r).Pairwise (fun x y => slt x.Member y.Member = true) → slt x.Member y.Member = true → sp (ag x.Member) (y :: r) = 0 := fun {x y r} h hl => none fun z hz => by
  rcases List.mem_cons.1 hz with rfl | hz
  ·exact (slt_ne hl).symm
  ·exact (slt_ne (Qck hl ((List.pairwise_cons.1 h).1 z hz))).symm
 intro a
 induction a with
 | nil =>
  intro b _ sb _ nb h
  cases b with
  | nil => rfl
  | cons y r =>
   have := h y.Member
   rw [hd sb] at this
   exact absurd this.symm (nb y List.mem_cons_self)
 | cons x r ih =>
  intro b sa sb na nb h
  cases b with
  | nil =>
   have := h x.Member
   rw [hd sa] at this
   exact absurd this (na x List.mem_cons_self)
  | cons y t =>
   have e : x.Member = y.Member := by
    cases h1 : slt x.Member y.Member with
    | true =>
     have := h x.Member
     rw [hd sa, lt sb h1] at this
     exact absurd this (na x List.mem_cons_self)
    | false =>
     cases h2 : slt y.Member x.Member with
     | true =>
      have := h y.Member
      rw [hd sb, lt sa h2] at this
      exact absurd this.symm (nb y List.mem_cons_self)
     | false => exact slt_total h1 h2
   have e2 : x.Amount = y.Amount := by
    have := h x.Member
    rw [hd sa, e, hd sb] at this
    exact this
   have exy : x = y := by cases x; cases y; simp only at e e2; subst e e2; rfl
   subst exy
   congr 1
   refine ih (List.pairwise_cons.1 sa).2 (List.pairwise_cons.1 sb).2 (fun z hz => na z (List.mem_cons_of_mem _ hz)) (fun z hz => nb z (List.mem_cons_of_mem _ hz)) fun g => ?_
   have := h g
   rw [sp, sp] at this
   omega
def addR (ps : List PR_) (P : List Qb) (x : VP) : List Qb :=
 match P.getLast? with
 | none => [⟨x.Member, vOf ps x - x.Basis⟩]
 | some z => bif seq z.Member x.Member then P.dropLast ++ [⟨z.Member, z.Amount + (vOf ps x - x.Basis)⟩] else P ++ [⟨x.Member, vOf ps x - x.Basis⟩]
def payR (ps : List PR_) : List VP → List Qb → List Qb
 | [], P => P
 | x :: r, P => payR ps r (addR ps P x)
theorem set_last {α : Type} (P : List α) (z w : α) : (P ++ [z]).set P.length w = P ++ [w] := by
 rw [List.set_append_right _ _ (Nat.le_refl _)]; simp
theorem len_last {α : Type} (P : List α) (z : α) (h : P.length ≤ 100000) : wr64 (((P ++ [z]).length : Int) - 1) = ((P.length : Nat) : Int) := w64 (by simp) (by omega) (by omega)
theorem f15n2L_eq' {ps : List PR_} (hp : Qas ps = true) (s : Qd) (d : Int) : ∀ (l : List VP) (v : Int) (P : List Qb) (o : List VP) (n : Nat), (∀ x ∈ l, Qcc x = true) → P.length + l.length ≤ 500 → o.length + l.length ≤ 500 → n + l.length ≤ 500 → (∀ z ∈ P, -(2251799813685248 * (n : Int)) ≤ z.Amount ∧ z.Amount ≤ 2251799813685248 * (n : Int)) →
  f15n2L ps s d l v P o = some (bif l.all (hasV ps) then .exit0 (payR ps l P) (o ++ setO ps l) else .ret)
 | [], v, P, o, n, _, _, _, _, _ => by simp [f15n2L, payR, setO]
 | x :: r, v, P, o, n, hg, hl, ho, hn, hb => by
  simp only [List.length_cons] at hl ho hn
  obtain ⟨w, h1, h2⟩ := f42_eq hp (hg x List.mem_cons_self)
  rw [f15n2L, h1]
  simp only [Option.bind_some, List.all_cons]
  cases hv : hasV ps x with
  | false => rfl
  | true =>
   have hw := h2 hv
   subst hw
   have hx := wd_bd hp (hg x List.mem_cons_self)
   have hvo := vOf_bd hp (hg x List.mem_cons_self)
   have hr : ∀ y ∈ r, Qcc y = true := fun y hy => hg y (List.mem_cons_of_mem _ hy)
   have f24 : ∀ m, m ≤ 1000 → fit m 24 = true := fun m hm => Qbo (by omega) (by omega)
   have f48 : ∀ m, m ≤ 1000 → fit m 48 = true := fun m hm => Qbo (by omega) (by omega)
   -- what is added to an amount
   have hadd : ∀ {am : Int}, -(2251799813685248 * (n : Int)) ≤ am → am ≤ 2251799813685248 * (n : Int) → wr64 (wr64 (am + vOf ps x) - x.Basis) = am + (vOf ps x - x.Basis) := fun {am} k1 k2 => by
    rw [Qdf (n := am + vOf ps x) (by omega) (by omega), Qdf (by omega) (by omega)]; omega
   have hadd0 : wr64 (wr64 (0 + vOf ps x) - x.Basis) = vOf ps x - x.Basis := by
    have := hadd (am := 0) (by omega) (by omega)
    rw [this]; omega
   -- the rest, whatever the new list is
   have rest : ∀ (P' : List Qb), P'.length + r.length ≤ 500 → (∀ z ∈ P', -(2251799813685248 * ((n + 1 : Nat) : Int)) ≤ z.Amount ∧ z.Amount ≤ 2251799813685248 * ((n + 1 : Nat) : Int)) →
     (bif decide (x.Quantity = 0) then f15n2L ps s d r (v + 1) P' o else req (fit (o.length + 1) 48) (f15n2L ps s d r (v + 1) P' (o ++ [Qa.mk x.Member x.Product x.Quantity (vOf ps x)]))) = some (bif r.all (hasV ps) then .exit0 (payR ps r P') (o ++ setO ps (x :: r)) else .ret) := fun P' k1 k2 => by
    rw [setO]
    cases decide (x.Quantity = 0) with
    | true => rw [cond_true, cond_true, f15n2L_eq' hp s d r (v + 1) P' o (n + 1) hr k1 (by omega) (by omega) k2]
    | false =>
     rw [cond_false, cond_false, req, f48 _ (by omega), cond_true, f15n2L_eq' hp s d r (v + 1) P' _ (n + 1) hr k1 (by simp; omega) (by omega) k2]
     simp [setP]
   have step : ∀ (Q : List Qb) (z : Qb), (∀ y ∈ Q, y ∈ P) → Q.length + 1 + r.length ≤ 500 → (-(2251799813685248 * ((n + 1 : Nat) : Int)) ≤ z.Amount ∧ z.Amount ≤ 2251799813685248 * ((n + 1 : Nat) : Int)) → (∀ y ∈ Q ++ [z], -(2251799813685248 * ((n + 1 : Nat) : Int)) ≤ y.Amount ∧ y.Amount ≤ 2251799813685248 * ((n + 1 : Nat) : Int)) := fun Q z k1 _ k2 y hy => by
    rcases List.mem_append.1 hy with hy | hy
    ·have := hb y (k1 y hy); omega
    ·rw [List.mem_singleton.1 hy]; exact k2
   simp only [cond_true, Bool.true_and, payR]
   rcases List.eq_nil_or_concat P with rfl | ⟨Q, z, rfl⟩
   ·have hr2 := rest [⟨x.Member, vOf ps x - x.Basis⟩] (by simp; omega) (step [] _ (by simp) (by simp; omega) (by simp only; omega))
    simp only [List.length_nil, Int.natCast_zero, decide_true, cond_true, List.nil_append, req, f24 (0 + 1) (by omega)]
    have hat : at? [Qb.mk x.Member 0] (wr64 (([Qb.mk x.Member 0].length : Int) - 1)) = some ⟨x.Member, 0⟩ := rfl
    have hset : ([Qb.mk x.Member 0].set (Int.toNat (wr64 (([Qb.mk x.Member 0].length : Int) - 1))) (Qb.mk x.Member (wr64 (wr64 (0 + vOf ps x) - x.Basis)))) = [⟨x.Member, vOf ps x - x.Basis⟩] := by rw [hadd0]; rfl
    rw [hat]
    simp only [Option.bind_some]
    rw [hset]
    exact hr2
   ·rw [List.concat_eq_append] at hl hb ⊢ step
    have hQ : Q.length ≤ 1000 := by simp at hl; omega
    have hne : ¬ (((Q ++ [z]).length : Nat) : Int) = 0 := by simp; omega
    have hat : at? (Q ++ [z]) ((Q.length : Nat) : Int) = some z := by rw [Qah]; simp
    have hz := hb z (by simp)
    rw [decide_eq_false hne, len_last Q z (by omega), hat]
    simp only [cond_false, Option.bind_some]
    have ea : addR ps (Q ++ [z]) x = bif seq z.Member x.Member then Q ++ [⟨z.Member, z.Amount + (vOf ps x - x.Basis)⟩] else (Q ++ [z]) ++ [⟨x.Member, vOf ps x - x.Basis⟩] := by
     unfold addR
     rw [List.getLast?_concat, List.dropLast_concat]
    rw [ea]
    cases hm : seq z.Member x.Member with
    | true =>
     rw [hadd hz.1 hz.2, show (Int.toNat ((Q.length : Nat) : Int)) = Q.length from rfl, set_last]
     simp only [cond_true]
     exact rest _ (by simp at hl ⊢; omega) (step Q _ (fun y hy => by simp [hy]) (by simp at hl; omega) (by simp only; omega))
    | false =>
     have hlen2 : ((Q ++ [z]) ++ [Qb.mk x.Member 0]).length ≤ 100000 := by simp; omega
     have hat2 : at? ((Q ++ [z]) ++ [Qb.mk x.Member 0]) (((Q ++ [z]).length : Nat) : Int) = some ⟨x.Member, 0⟩ := by rw [Qah]; simp
     simp only [cond_false]
     rw [len_last (Q ++ [z]) (Qb.mk x.Member 0) (by simp; omega), hat2]
     simp only [Option.bind_some]
     rw [hadd0, show (Int.toNat (((Q ++ [z]).length : Nat) : Int)) = (Q ++ [z]).length from rfl, set_last, req, f24 _ (by omega), cond_true]
     exact rest _ (by simp at hl ⊢; omega) (step (Q ++ [z]) _ (fun y hy => hy) (by simp at hl ⊢; omega) (by simp only; omega))
end Go.Proofs.Ytelblamgfbkhbaa
namespace Go.Proofs.Ytelblamgfbkhbaa
set_option linter.unusedVariables false
set_option linter.unusedSimpArgs false
open Go.RowKit
abbrev PSr (P : List Qb) : Prop := P.Pairwise fun a b => slt a.Member b.Member = true
theorem addR_ok {ps : List PR_} {x : VP} {P : List Qb} (h : PSr P) (hx : ∀ z ∈ P, slt x.Member z.Member = false) : PSr (addR ps P x) ∧ (∀ z ∈ addR ps P x, z.Member = x.Member ∨ ∃ y ∈ P, y.Member = z.Member) ∧ (∀ g, sp (ag g) (addR ps P x) = sp (ag g) P + wd ps g x) ∧ (addR ps P x).length ≤ P.length + 1 := by
 rcases List.eq_nil_or_concat P with rfl | ⟨Q, z, rfl⟩
 ·refine ⟨by simp [addR, PSr], fun z hz => ?_, fun g => ?_, by simp [addR]⟩
  ·left
   simp only [addR, List.getLast?_nil, List.mem_singleton] at hz
   rw [hz]
  ·simp only [addR, List.getLast?_nil, sp, ag, wd]
   cases seq x.Member g <;> simp
 ·rw [List.concat_eq_append] at h hx ⊢
  have ea : addR ps (Q ++ [z]) x = bif seq z.Member x.Member then Q ++ [⟨z.Member, z.Amount + (vOf ps x - x.Basis)⟩] else (Q ++ [z]) ++ [⟨x.Member, vOf ps x - x.Basis⟩] := by
   unfold addR
   rw [List.getLast?_concat, List.dropLast_concat]
  rw [ea]
  have ha := List.pairwise_append.1 h
  cases hm : seq z.Member x.Member with
  | true =>
   have e := Qbu.1 hm
   simp only [cond_true]
   refine ⟨List.pairwise_append.2 ⟨ha.1, by simp, fun a h1 b h2 => ?_⟩, fun y hy => ?_, fun g => ?_, by simp⟩
   ·rw [List.mem_singleton.1 h2]; exact ha.2.2 a h1 z (by simp)
   ·rcases List.mem_append.1 hy with hy | hy
    ·exact .inr ⟨y, by simp [hy], rfl⟩
    ·left; rw [List.mem_singleton.1 hy]; exact e
   ·rw [sp_app, sp_app]
    simp only [sp, ag, wd, e]
    cases seq x.Member g <;> simp <;> omega
  | false =>
   have hlt : slt z.Member x.Member = true := by
    cases k : slt z.Member x.Member with
    | true => rfl
    | false => rw [slt_total k (hx z (by simp)), Qag] at hm; cases hm
   simp only [cond_false]
   refine ⟨List.pairwise_append.2 ⟨h, by simp, fun a h1 b h2 => ?_⟩, fun y hy => ?_, fun g => ?_, by simp⟩
   ·rw [List.mem_singleton.1 h2]
    rcases List.mem_append.1 h1 with h1 | h1
    ·exact Qck (ha.2.2 a h1 z (by simp)) hlt
    ·rw [List.mem_singleton.1 h1]; exact hlt
   ·rcases List.mem_append.1 hy with hy | hy
    ·exact .inr ⟨y, hy, rfl⟩
    ·left; rw [List.mem_singleton.1 hy]
   ·rw [sp_app]
    simp only [sp, ag, wd]
    cases seq x.Member g <;> simp
theorem payR_ok (ps : List PR_) : ∀ (l : List VP) (P : List Qb), Srt l → PSr P → (∀ z ∈ P, ∀ x ∈ l, slt x.Member z.Member = false) → PSr (payR ps l P) ∧ (∀ g, sp (ag g) (payR ps l P) = sp (ag g) P + sm (wd ps g) l) ∧ (payR ps l P).length ≤ P.length + l.length
 | [], P, _, h, _ => by simp only [payR, sm]; exact ⟨h, fun g => by omega, by simp⟩
 | x :: r, P, hs, h, hx => by
  have hs' := List.pairwise_cons.1 hs
  obtain ⟨h1, h2, h3, h4⟩ := addR_ok (ps := ps) h fun z hz => hx z hz x List.mem_cons_self
  obtain ⟨i1, i2, i3⟩ := payR_ok ps r (addR ps P x) hs'.2 h1 fun z hz y hy => by
   rcases h2 z hz with e | ⟨w, hw, e⟩
   ·rw [e]
    rcases keyLt_iff.1 (hs'.1 y hy) with k | ⟨k, _⟩
    ·exact slt_asymm k
    ·rw [← k]; exact Qca _
   ·rw [← e]; exact hx w hw y (List.mem_cons_of_mem _ hy)
  rw [payR]
  refine ⟨i1, fun g => ?_, ?_⟩
  ·rw [i2, h3, sm]; omega
  ·simp only [List.length_cons]; omega
theorem wd_bound {ps : List PR_} (hp : Qas ps = true) {l : List VP} (h : ∀ x ∈ l, Qcc x = true) (hl : l.length ≤ 200) (g : ByteArray) : -450359962737049600 ≤ sm (wd ps g) l ∧ sm (wd ps g) l ≤ 450359962737049600 := by
 have := sm_bound (wd ps g) 2251799813685248 l fun x hx => by
  have := wd_bd hp (h x hx)
  unfold wd
  cases seq x.Member g <;> simp only [cond_true, cond_false] <;> omega
 omega
theorem sp_none' {g : ByteArray} : ∀ {l : List Qb}, (∀ y ∈ l, y.Member ≠ g) → sp (ag g) l = 0
 | [], _ => rfl
 | y :: r, h => by
  rw [sp, sp_none' fun z hz => h z (List.mem_cons_of_mem _ hz), ag, seq_f (h y List.mem_cons_self)]; rfl
theorem sp_one' {x : Qb} : ∀ {l : List Qb}, PSr l → x ∈ l → sp (ag x.Member) l = x.Amount
 | y :: r, h, hx => by
  have h' := List.pairwise_cons.1 h
  rw [sp]
  rcases List.mem_cons.1 hx with rfl | hx
  ·rw [sp_none' fun z hz => (slt_ne (h'.1 z hz)).symm, ag, Qag]; simp
  ·rw [sp_one' h'.2 hx, ag, seq_f (slt_ne (h'.1 x hx))]; simp
def nzP (l : List Qb) : List Qb := l.filter fun x => !decide (x.Amount = 0)
theorem sp_nzP (g : ByteArray) : ∀ l : List Qb, sp (ag g) (nzP l) = sp (ag g) l
 | [] => rfl
 | x :: r => by
  have ih := sp_nzP g r
  unfold nzP at ih ⊢
  rw [List.filter_cons]
  by_cases h : x.Amount = 0
  ·rw [decide_eq_true h]
   simp only [Bool.not_true]
   rw [sp]
   have : ag g x = 0 := by unfold ag; rw [h]; cases seq x.Member g <;> rfl
   rw [this, if_neg (by decide), ih]; omega
  ·rw [decide_eq_false h, if_pos (by rfl), sp, sp, ih]
theorem f15n4L_eq' (d : Int) (bj : List Qb) (bg : List VP) : ∀ (l : List Qb) (v : Int) (acc : List Qb), (∀ x ∈ l, -4611686018427387904 ≤ x.Amount ∧ x.Amount ≤ 4611686018427387904) → acc.length + l.length ≤ 1000 →
  f15n4L d bj bg l v acc = some (bif l.all (fun x => inR x.Amount 1125899906842624) then .exit2 (acc ++ nzP l) else .ret)
 | [], v, acc, _, _ => by simp [f15n4L, nzP]
 | x :: r, v, acc, hb, hl => by
  simp only [List.length_cons] at hl
  have hx := hb x List.mem_cons_self
  have hr : ∀ y ∈ r, _ := fun y hy => hb y (List.mem_cons_of_mem _ hy)
  rw [f15n4L, f43_eq hx.1 hx.2]
  simp only [Option.bind_some]
  rw [abs_in (by decide), List.all_cons, f15n4L_eq' d bj bg r (v + 1) acc hr (by omega), f15n4L_eq' d bj bg r (v + 1) (acc ++ [x]) hr (by simp; omega), req, Qbo (by omega) (by omega), cond_true]
  unfold nzP
  rw [List.filter_cons]
  cases inR x.Amount 1125899906842624 <;> cases decide (x.Amount = 0) <;> cases r.all (fun x => inR x.Amount 1125899906842624) <;> simp
theorem get_in {k : ByteArray} : ∀ {m : List (ByteArray × Int)}, mGet seq 0 k m = 0 ∨ ∃ x ∈ m, x.2 = mGet seq 0 k m
 | [] => .inl rfl
 | (a, w) :: r => by
  rw [mGet]
  cases seq k a with
  | true => exact .inr ⟨(a, w), List.mem_cons_self, rfl⟩
  | false =>
   rcases get_in (k := k) (m := r) with h | ⟨x, hx, h⟩
   ·exact .inl h
   ·exact .inr ⟨x, List.mem_cons_of_mem _ hx, h⟩
theorem f15_eq (s : Qd) (d : Int) (ps : List PR_) : f15 s d ps = some (Qan s d ps) := by
 unfold f15 f15n0 Qan
 rw [f34_eq, f41_eq, Qbp d, Qbp 99999]
 cases hc : Qcm s with
 | false => rfl
 | true =>
  have ok := Qci.1 hc
  simp only [cond_true, Option.bind_some, decide_true]
  cases ha : asksB d ps with
  | false =>
   unfold asksB at ha
   revert ha
   cases decide (0 ≤ d) with
   | false => intro _; rfl
   | true => cases decide (d ≤ 99999) with
    | false => intro _; rfl
    | true => cases Qas ps with
     | false => intro _; rfl
     | true => intro h; cases h
  | true =>
   have ha' := ha
   unfold asksB at ha'
   simp only [Bool.and_eq_true] at ha'
   obtain ⟨h0, h1, h2⟩ := ha'
   rw [h0, h1, h2]
   have hd : decide (d ≤ s.Day) = !decide (s.Day < d) := by
    by_cases k : s.Day < d
    ·rw [decide_eq_true k, decide_eq_false (by omega)]; rfl
    ·rw [decide_eq_false k, decide_eq_true (by omega : d ≤ s.Day)]; rfl
   rw [hd]
   cases hd' : decide (s.Day < d) with
   | false => rfl
   | true =>
    have hl := ok.len
    obtain ⟨r1, r2, r3⟩ := payR_ok ps s.Positions [] ok.srt List.Pairwise.nil (by simp)
    simp only [List.length_nil, Nat.zero_add] at r3
    have r2' : ∀ g, sp (ag g) (payR ps s.Positions []) = sm (wd ps g) s.Positions := fun g => by rw [r2 g]; simp [sp]
    have hn1 : f15n1 ps s d = some (bif s.Positions.all (hasV ps) then .norm (payR ps s.Positions []) (setO ps s.Positions) else .ret) := by
     unfold f15n1
     rw [f15n2_run ps s d [] [] (Nat.le_trans hl (by unfold maxLen; decide)), f15n2L_eq' h2 s d s.Positions 0 [] [] 0 ok.good (by simp; omega) (by simp; omega) (by omega) (by simp)]
     cases s.Positions.all (hasV ps) <;> rfl
    simp only [Bool.not_true, cond_false, cond_true, hn1]
    cases hv : s.Positions.all (hasV ps) with
    | false => rfl
    | true =>
     have hbd : ∀ z ∈ payR ps s.Positions [], -4611686018427387904 ≤ z.Amount ∧ z.Amount ≤ 4611686018427387904 := fun z hz => by
      rw [← sp_one' r1 hz, r2']
      have := wd_bound h2 ok.good hl z.Member
      omega
     have hn3 : f15n3 d (payR ps s.Positions []) (setO ps s.Positions) = some (bif (payR ps s.Positions []).all (fun x => inR x.Amount 1125899906842624) then .norm (nzP (payR ps s.Positions [])) else .ret) := by
      unfold f15n3
      rw [f15n4_run d (payR ps s.Positions []) (setO ps s.Positions) [] (Nat.le_trans (Nat.le_trans r3 hl) (by unfold maxLen; decide)), f15n4L_eq' d _ _ _ 0 [] hbd (by simp; omega), List.nil_append]
      cases (payR ps s.Positions []).all (fun x => inR x.Amount 1125899906842624) <;> rfl
     have hall : (payR ps s.Positions []).all (fun x => inR x.Amount 1125899906842624) = (accM ps s.Positions []).all (fun x => inR x.2 1125899906842624) := by
      rw [Bool.eq_iff_iff, List.all_eq_true, List.all_eq_true]
      constructor
      ·intro k x hx
       have e1 := get_mem (z := (0 : Int)) (k := x.1) (v := x.2) (accM_nd ps s.Positions List.Pairwise.nil) hx
       rw [acc_get0 h2 ok.good hl, ← r2'] at e1
       rw [← e1]
       by_cases hm : ∃ z ∈ payR ps s.Positions [], z.Member = x.1
       ·obtain ⟨z, hz, e⟩ := hm
        rw [← e, sp_one' r1 hz]; exact k z hz
       ·rw [sp_none' fun y hy e => hm ⟨y, hy, e⟩]; rfl
      ·intro k z hz
       rw [← sp_one' r1 hz, r2', ← acc_get0 h2 ok.good hl]
       rcases get_in (k := z.Member) (m := accM ps s.Positions []) with h | ⟨x, hx, h⟩
       ·rw [h]; rfl
       ·rw [← h]; exact k x hx
     simp only [cond_true, Option.bind_some, hn3, hall]
     cases hr : (accM ps s.Positions []).all (fun x => inR x.2 1125899906842624) with
     | false => rfl
     | true =>
      have dn : Done s d ps := ⟨ok, of_decide_eq_true h0, of_decide_eq_true h1, h2, of_decide_eq_true hd', List.all_eq_true.1 hv, List.all_eq_true.1 hr⟩
      have e : nzP (payR ps s.Positions []) = isortP (payL (accM ps s.Positions [])) := by
       refine pay_ext (r1.sublist List.filter_sublist) (payS_srt _ _) (fun x hx => ?_) (fun x hx => (dn.pay_mem hx).1) fun g => ?_
       ·have := (List.mem_filter.1 hx).2
        simpa using this
       ·rw [sp_nzP, r2']
        exact (dn.pay_one g).symm
      simp only [cond_true, Option.bind_some, e]

theorem f19n2L_same (a b : List Qb) : ∀ (l pre : List Qb), b = pre ++ l → f19n2L a b l ((pre.length : Nat) : Int) = some .exit0
 | [], pre, _ => rfl
 | x :: r, pre, h => by
  have ih := f19n2L_same a b r (pre ++ [x]) (by rw [h]; simp)
  rw [List.length_append, show (((pre.length + [x].length : Nat)) : Int) = (pre.length : Int) + 1 from by simp] at ih
  have hat : at? b ((pre.length : Nat) : Int) = some x := by rw [Qah, h]; simp
  rw [f19n2L, hat]
  simp only [Option.bind_some]
  rw [show Qb.eqb x x = true by unfold Qb.eqb; simp [Qag], cond_true]
  exact ih
theorem f19_same {a : List Qb} (hl : a.length ≤ maxLen) : f19 a a = some true := by
 have : f19n1 a a = some .norm := by
  unfold f19n1
  rw [f19n2_run a a hl]
  have := f19n2L_same a a a [] rfl
  rw [show (((([] : List Qb).length : Nat)) : Int) = 0 from rfl] at this
  rw [this]; rfl
 unfold f19 f19n0
 rw [this, decide_eq_true rfl]; rfl
theorem settle_len (s : Qd) (d : Int) (ps : List PR_) (hs : s.Positions.length ≤ maxLen) : (Qan s d ps).1.Positions.length ≤ maxLen ∧ (Qan s d ps).2.1.length ≤ maxLen := by
 by_cases h : (Qan s d ps).2.2 = 0
 ·obtain ⟨h1, h2⟩ := settle_done h
  rw [h2]
  exact ⟨Nat.le_trans (setO_len ps s.Positions) hs, Nat.le_trans h1.pay_len (by unfold maxLen; decide)⟩
 ·unfold Qan at h ⊢
  revert h
  cases Qcm s <;> cases asksB d ps <;> cases decide (s.Day < d) <;> cases s.Positions.all (hasV ps) <;> cases (accM ps s.Positions []).all (fun x => inR x.2 1125899906842624) <;> intro h <;> first | exact (h rfl).elim | exact ⟨Nat.zero_le _, Nat.zero_le _⟩
theorem trade_len (s : Qd) (bu se pr : ByteArray) (q p : Int) : (tradeS s bu se pr q p).1.Positions.length ≤ 200 := by
 by_cases h : (tradeS s bu se pr q p).2 = 0
 ·obtain ⟨h1, h2⟩ := trade_took h
  rw [h2]; exact h1.len
 ·unfold tradeS at h ⊢
  revert h
  cases Qcm s <;> cases askB bu se pr q p <;> cases (inR (tB s bu se pr q p).Quantity 1048576 && inR (tA s bu pr q p).Quantity 1048576) <;> cases (inR (tB s bu se pr q p).Basis 1125899906842624 && inR (tA s bu pr q p).Basis 1125899906842624) <;> cases decide ((tL2 s bu se pr q p).length ≤ 200) <;> intro h <;> first | exact (h rfl).elim | exact Nat.zero_le _
end Go.Proofs.Ytelblamgfbkhbaa
namespace Go.Proofs.Ytelblamgfbkhbaa
set_option linter.unusedVariables false
set_option linter.unusedSimpArgs false
open Go.RowKit
theorem f30r1n1_at (a : Int) : ∀ (n f k : Nat) (l : List VP), n = l.length - k → n < f → k ≤ l.length → l.length ≤ 1000000 → ∃ r, f30r1n1 f a (k : Int) l = some (.exit0 r)
 | _, 0, _, _, _, h, _, _ => absurd h (Nat.not_lt_zero _)
 | 0, f + 1, k, l, hn, _, hk, _ => ⟨l, by rw [f30r1n1, decide_eq_false (by omega), cond_false]⟩
 | n + 1, f + 1, k, l, hn, hf, hk, hl => by
  have hx : at? l (k : Int) = some (l[k]'(by omega)) := by rw [Qah]; exact List.getElem?_eq_getElem (by omega)
  rw [f30r1n1, decide_eq_true (by omega), cond_true, hx]
  simp only [Option.bind_some]
  rw [wr_succ (by omega)]
  exact f30r1n1_at a n f (k + 1) _ (by rw [List.length_set]; omega) (by omega) (by rw [List.length_set]; omega) (by rw [List.length_set]; exact hl)
theorem f30_some (a : Int) {l : List VP} (hl : l.length ≤ 1000000) : ∃ r, f30r1 a l = some r := by
 obtain ⟨r, h⟩ := f30r1n1_at a l.length FUEL 0 l (by omega) (Qat (Nat.le_trans hl (by unfold maxLen; decide))) (by omega) hl
 have h' : f30r1n1 FUEL a 0 l = some (.exit0 r) := h
 exact ⟨r, by unfold f30r1 f30r1n0; rw [h']; rfl⟩
theorem find_eq (s : Qd) (bg : List VP) (m p : ByteArray) : ∀ (l : List VP) (v w : Int), (f51r1n2L bg m p l v = some .exit0 ∧ f31n2L m p s l w = some .exit0) ∨ ∃ (i : Nat) (x : VP), f51r1n2L bg m p l v = some (.ret (v + i)) ∧ l[i]? = some x ∧ f31n2L m p s l w = some (.ret x)
 | [], v, w => .inl ⟨rfl, rfl⟩
 | y :: r, v, w => by
  rw [f51r1n2L, f31n2L, f52r1_eq]
  simp only [Option.bind_some]
  rcases find_eq s bg m p r (v + 1) (w + 1) with ⟨h1, h2⟩ | ⟨i, x, h1, h2, h3⟩
  ·rw [h1, h2]
   cases seq y.Member m <;> cases seq y.Product p
   ·exact .inl ⟨rfl, rfl⟩
   ·exact .inl ⟨rfl, rfl⟩
   ·exact .inl ⟨rfl, rfl⟩
   ·exact .inr ⟨0, y, by simp, rfl, rfl⟩
  ·rw [h1, h3]
   have e : v + 1 + (i : Int) = v + ((i + 1 : Nat) : Int) := by omega
   rw [e]
   cases seq y.Member m <;> cases seq y.Product p
   ·exact .inr ⟨i + 1, x, rfl, by simpa using h2, rfl⟩
   ·exact .inr ⟨i + 1, x, rfl, by simpa using h2, rfl⟩
   ·exact .inr ⟨i + 1, x, rfl, by simpa using h2, rfl⟩
   ·exact .inr ⟨0, y, by simp, rfl, rfl⟩
theorem f22_31 {s : Qd} (hl : s.Positions.length ≤ 1000) (m p : ByteArray) : ∃ r, f22 s m p = some r ∧ f31 s m p = some r := by
 have hm : s.Positions.length ≤ maxLen := Nat.le_trans hl (by unfold maxLen; decide)
 rcases find_eq s s.Positions m p s.Positions 0 0 with ⟨h1, h2⟩ | ⟨i, x, h1, h2, h3⟩
 ·have e1 : f51r1 s.Positions m p = some (-1) := by
   unfold f51r1 f51r1n0 f51r1n1
   rw [f51r1n2_run s.Positions m p hm, h1]; rfl
  have e2 : f31n1 m p s = some .norm := by unfold f31n1; rw [f31n2_run m p s hm, h2]; rfl
  refine ⟨(Qa.mk str_x str_x 0 0, false), ?_, ?_⟩
  ·unfold f22 f22n0; rw [e1]; rfl
  ·unfold f31 f31n0; rw [e2]; rfl
 ·have e1 : f51r1 s.Positions m p = some (i : Int) := by
   unfold f51r1 f51r1n0 f51r1n1
   rw [f51r1n2_run s.Positions m p hm, h1, Int.zero_add]; rfl
  have e2 : f31n1 m p s = some (.ret x) := by unfold f31n1; rw [f31n2_run m p s hm, h3]; rfl
  refine ⟨(x, true), ?_, ?_⟩
  ·unfold f22 f22n0
   rw [e1]
   simp only [Option.bind_some]
   rw [decide_eq_false (by omega : ¬ (i : Int) < 0), Qah, h2]; rfl
  ·unfold f31 f31n0; rw [e2]; rfl
theorem f54_eq {n : Int} (h1 : -4611686018427387904 ≤ n) (h2 : n ≤ 4611686018427387904) : f54 n = some (withinS n) := by
 unfold f54 f54n0 withinS
 rw [f43_eq h1 h2]
 simp only [Option.bind_some]
 rw [abs_in (by decide)]
 cases inR n 1125899906842624 <;> rfl
theorem f32n2L_eq' {ps : List PR_} (hp : Qas ps = true) (g : ByteArray) (s : Qd) : ∀ (l : List VP) (b v : Int), (∀ x ∈ l, Qcc x = true) → f32n2L g ps s l (wr64 b) v = some (bif l.all (fun x => !(seq x.Member g) || hasV ps x) then .exit0 (wr64 (b + sm (wv ps g) l)) else .ret)
 | [], b, v, _ => by simp [f32n2L, sm]
 | x :: r, b, v, hg => by
  obtain ⟨n, h1, h2⟩ := f42_eq hp (hg x List.mem_cons_self)
  have hr : ∀ y ∈ r, Qcc y = true := fun y hy => hg y (List.mem_cons_of_mem _ hy)
  rw [f32n2L, List.all_cons, h1]
  simp only [Option.bind_some]
  cases h : seq x.Member g with
  | true =>
   simp only [cond_true, Bool.not_true, Bool.false_or]
   cases hv : hasV ps x with
   | false => rfl
   | true =>
    rw [h2 hv, cond_true, wr_l, f32n2L_eq' hp g s r _ _ hr]
    simp only [sm, wv, h, cond_true, Int.add_assoc, Bool.true_and]
  | false =>
   rw [cond_false, f32n2L_eq' hp g s r _ _ hr]
   simp only [sm, wv, h, cond_false, Int.zero_add, Bool.not_false, Bool.true_or, Bool.true_and]
theorem f32_eq (s : Qd) (g : ByteArray) (ps : List PR_) : f32 s g ps = some (valueS s g ps) := by
 unfold f32 f32n0 valueS
 rw [f34_eq, f41_eq]
 cases hc : Qcm s with
 | false => rfl
 | true =>
  have ok := Qci.1 hc
  simp only [cond_true, Option.bind_some, decide_true]
  cases hp : Qas ps with
  | false => rfl
  | true =>
   have hb := wv_bound hp ok.good ok.len g
   have h1 : f32n1 g ps s = some (bif s.Positions.all (fun x => !(seq x.Member g) || hasV ps x) then .norm (sm (wv ps g) s.Positions) else .ret) := by
    have := f32n2L_eq' hp g s s.Positions 0 0 ok.good
    rw [Int.zero_add, Qdf (n := sm (wv ps g) s.Positions) (by omega) (by omega)] at this
    have this' : f32n2L g ps s s.Positions 0 0 = _ := this
    unfold f32n1
    rw [f32n2_run g ps s 0 (Nat.le_trans ok.len (by unfold maxLen; decide)), this']
    cases s.Positions.all (fun x => !(seq x.Member g) || hasV ps x) <;> rfl
   simp only [cond_true, h1]
   cases s.Positions.all (fun x => !(seq x.Member g) || hasV ps x) with
   | false => rfl
   | true =>
    simp only [cond_true, Option.bind_some, f54_eq (n := sm (wv ps g) s.Positions) (by omega) (by omega)]
def basisS (s : Qd) (g : ByteArray) : Int × Int := bif Qcm s then withinS (sm (wm g) s.Positions) else (0, 8)
theorem f28_all (s : Qd) (g : ByteArray) : f28 s g = some (basisS s g) := by
 unfold basisS
 cases hc : Qcm s with
 | true => exact f28_eq (Qci.1 hc) g
 | false =>
  unfold f28 f28n0
  rw [f26_eq, hc]; rfl
theorem f33n2L_eq' (g : ByteArray) (s : Qd) : ∀ (l : List VP) (b v : Int), f33n2L g s l (wr64 b) v = some (.exit0 (wr64 (b + sm (wm g) l)))
 | [], b, v => by simp [f33n2L, sm]
 | x :: r, b, v => by
  rw [f33n2L]
  cases h : seq x.Member g with
  | true => rw [cond_true, wr_l, f33n2L_eq' g s r]; simp only [sm, wm, h, cond_true, Int.add_assoc]
  | false => rw [cond_false, f33n2L_eq' g s r]; simp only [sm, wm, h, cond_false, Int.zero_add]
theorem f33_eq (s : Qd) (g : ByteArray) : f33 s g = some (basisS s g) := by
 unfold f33 f33n0 basisS
 rw [f34_eq]
 cases hc : Qcm s with
 | false => rfl
 | true =>
  have ok := Qci.1 hc
  have hb := wm_bound ok.good ok.len g
  have h1 : f33n1 g s = some (.norm (sm (wm g) s.Positions)) := by
   have := f33n2L_eq' g s s.Positions 0 0
   rw [Int.zero_add, Qdf (n := sm (wm g) s.Positions) (by omega) (by omega)] at this
   have this' : f33n2L g s s.Positions 0 0 = _ := this
   unfold f33n1
   rw [f33n2_run g s 0 (Nat.le_trans ok.len (by unfold maxLen; decide)), this']; rfl
  simp only [cond_true, Option.bind_some, decide_true, h1, f54_eq (n := sm (wm g) s.Positions) (by omega) (by omega)]
theorem price_refl (x : PR_) : Qc.eqb x x = true := by unfold Qc.eqb; simp [Qag]
theorem f9n6L_at (s : Qd) (o : Op_) (g : List VP) : ∀ (l pre : List PR_), o.Prices = pre ++ l → f9n6L true true s o o.Prices g l true ((pre.length : Nat) : Int) = some (.exit0 true)
 | [], pre, _ => rfl
 | x :: r, pre, h => by
  have ih := f9n6L_at s o g r (pre ++ [x]) (by rw [h]; simp)
  rw [List.length_append, show (((pre.length + [x].length : Nat)) : Int) = (pre.length : Int) + 1 from by simp] at ih
  have hat : at? o.Prices ((pre.length : Nat) : Int) = some x := by rw [Qah, h]; simp
  rw [f9n6L, cond_true, hat]
  simp only [Option.bind_some, price_refl]
  exact ih
theorem lawMatches (s : Qd) (o : Op_) (g : ByteArray) (_ : Qd.ok s) (ho : Op_.ok o) (_ : g.size ≤ maxLen) : f9 s o g = some true := by
 unfold f9 f9n0
 rw [alive_t]
 simp only [Option.bind_some]
 by_cases h1 : (220 : Int) < (s.Positions.length : Int)
 ·have : f29 s o.Prices = some true := by unfold f29 f29n0; rw [decide_eq_true h1]; rfl
  rw [this]; rfl
 by_cases h2 : (220 : Int) < (o.Prices.length : Int)
 ·have : f29 s o.Prices = some true := by unfold f29 f29n0; rw [decide_eq_false h1, decide_eq_true h2]; rfl
  rw [this]; rfl
 have h29 : f29 s o.Prices = some false := by unfold f29 f29n0; rw [decide_eq_false h1, decide_eq_false h2]; rfl
 have hs : s.Positions.length ≤ 220 := by omega
 have hp : o.Prices.length ≤ 220 := by omega
 have hsm : s.Positions.length ≤ maxLen := Nat.le_trans hs (by unfold maxLen; decide)
 have h9 : f9n1 g true s o = some (.norm o.Prices s.Positions) := by
  unfold f9n1
  rw [f20r1_eq (by omega)]
  simp only [Option.bind_some]
  cases hpp : o.Prices with
  | nil => rfl
  | cons a r =>
   rw [hpp] at hp
   rw [req, Qbo (by omega) (by omega)]; rfl
 have ht := trade_len s o.Buyer o.Seller o.Product o.Quantity o.Price
 have ht' : (tradeS s o.Buyer o.Seller o.Product o.Quantity o.Price).1.Positions.length ≤ maxLen := Nat.le_trans ht (by unfold maxLen; decide)
 have hl := settle_len s o.Day o.Prices hsm
 have hl' : (Qan s o.Day o.Prices).1.Positions.length ≤ 220 := by
  by_cases h : (Qan s o.Day o.Prices).2.2 = 0
  ·obtain ⟨k1, k2⟩ := settle_done h
   rw [k2]; exact Nat.le_trans (setO_len o.Prices s.Positions) hs
  ·unfold Qan at h ⊢
   revert h
   cases Qcm s <;> cases asksB o.Day o.Prices <;> cases decide (s.Day < o.Day) <;> cases s.Positions.all (hasV o.Prices) <;> cases (accM o.Prices s.Positions []).all (fun x => inR x.2 1125899906842624) <;> intro h <;> first | exact (h rfl).elim | exact Nat.zero_le _
 have k2 : f9n2 g true ((tradeS s o.Buyer o.Seller o.Product o.Quantity o.Price).2, (tradeS s o.Buyer o.Seller o.Product o.Quantity o.Price).1.Day, (tradeS s o.Buyer o.Seller o.Product o.Quantity o.Price).1.Positions) (tradeS s o.Buyer o.Seller o.Product o.Quantity o.Price) s o o.Prices s.Positions = some (.norm true) := by
  unfold f9n2
  rw [f18_same rfl ht']
  simp only [Option.bind_some, cond_true, decide_true]
 have k3 : f9n3 g true true ((Qan s o.Day o.Prices).2.2, (Qan s o.Day o.Prices).1.Day, (Qan s o.Day o.Prices).2.1, (Qan s o.Day o.Prices).1.Positions) (Qan s o.Day o.Prices) s o o.Prices s.Positions = some (.norm true) := by
  unfold f9n3
  simp only [cond_true, f18_same (a := ⟨(Qan s o.Day o.Prices).1.Day, (Qan s o.Day o.Prices).1.Positions⟩) (b := (Qan s o.Day o.Prices).1) rfl hl.1, Option.bind_some, f19_same hl.2, decide_true]
 obtain ⟨w1, hw1⟩ := f30_some (tradeS s o.Buyer o.Seller o.Product o.Quantity o.Price).1.Day (l := (tradeS s o.Buyer o.Seller o.Product o.Quantity o.Price).1.Positions) (by omega)
 obtain ⟨w2, hw2⟩ := f30_some (Qan s o.Day o.Prices).1.Day (l := (Qan s o.Day o.Prices).1.Positions) (by omega)
 obtain ⟨r, hr1, hr2⟩ := f22_31 (s := s) (by omega) g o.Product
 have es : (Qd.mk s.Day s.Positions) = s := rfl
 obtain ⟨nw, hn1, hn2, hn3⟩ : ∃ n : Qd × Int, f12 o.Day = some n ∧ f13 o.Day = some n ∧ n.1.Positions.length ≤ maxLen := by
  unfold f12 f12n0 f13 f13n0
  cases decide (o.Day < 0)
  ·cases decide (99999 < o.Day)
   ·exact ⟨_, rfl, rfl, Nat.zero_le _⟩
   ·exact ⟨_, rfl, rfl, Nat.zero_le _⟩
  ·exact ⟨_, rfl, rfl, Nat.zero_le _⟩
 have k4 : f9n4 true true r r (valueS s g o.Prices) (valueS s g o.Prices) (basisS s g) (basisS s g) nw nw s o o.Prices s.Positions = some (.norm true) := by
  unfold f9n4
  rw [es, f26_eq, f34_eq, f18_same rfl hn3, eqb_refl]
  simp only [cond_true, Option.bind_some, decide_true, beq_self_eq_true]
 have k5 : f9n5 true true true s o o.Prices s.Positions = some (.norm true) := by
  unfold f9n5
  have h6 := f9n6L_at s o s.Positions o.Prices [] rfl
  have h6' : f9n6L true true s o o.Prices s.Positions o.Prices true 0 = some (.exit0 true) := h6
  rw [f9n6_run true true s o o.Prices s.Positions true (Nat.le_trans hp (by unfold maxLen; decide)), h6']; rfl
 simp only [h29, cond_false, cond_true, Option.bind_some, h9, f16_eq, f17_eq, k2, hw1, f14_eq s o.Day (ps := o.Prices) (by omega), f15_eq, k3, hw2, es, hr1, hr2, f24_eq s g (ps := o.Prices) (by omega), f32_eq, f28_all, f33_eq, hn1, hn2, k4, k5, f18_same (a := s) (b := s) rfl hsm]
end Go.Proofs.Ytelblamgfbkhbaa
