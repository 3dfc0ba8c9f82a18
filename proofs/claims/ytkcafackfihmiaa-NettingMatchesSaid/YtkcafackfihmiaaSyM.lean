/- Several texts in one. No condition. -/
import Derived.Test.YtkcafackfihmiaaM3
import Derived.Test.YtkcafackfihmiaaTU
namespace Go.Proofs.Ytkcafackfihmiaa
set_option linter.unusedVariables false
set_option linter.unusedSimpArgs false
set_option maxRecDepth 100000
open Go.RowKit
noncomputable def c69 : Code := Try.f69.body.getD .skip
inductive f69r1n1O where
  | exit0 (v27 : Int) (v28 : List NettingFlow)
def f69r1n1E (a1 : Int) : f69r1n1O → Ex × Tr × Hp
  | .exit0 v27 v28 => ((.exit 0), mkS [(0, (.own 0)), (1, (jI a1)), (2, (.pl (.fn 55))), (6, (jI 20)), (7, (jI v27))], [jR 6 NettingFlow.cells v28])
def f69r1n1S (a1 : Int) (v18 : Int) (v19 : Int) (v20 : List NettingFlow) : Tr × Hp := (mkS [(0, (.own 0)), (1, (jI a1)), (2, (.pl (.fn 55))), (6, (jI 20)), (7, (jI v18)), (8, (jI v19))], [jR 6 NettingFlow.cells v20])
noncomputable def f69r1n1 : Nat → Int → Int → Int → List NettingFlow → Option f69r1n1O
  | 0, _, _, _, _ => none
  | f + 1, a1, v18, v19, v20 =>
    bif (decide (v19 ≤ a1)) then
      (f81r1 v18 v19 v20).bind fun x25 =>
      (f69r1n1 f a1 v19 (wr64 (v19 + 20)) x25)
    else
      some (.exit0 v18 v20)
theorem f69r1n1_ok : ∀ (f : Nat) (a1 : Int) (v18 : Int) (v19 : Int) (v20 : List NettingFlow) {o : f69r1n1O}, (f69r1n1 f a1 v18 v19 v20) = some o → TL Try.prog Try.f69.ntmps 1 f (cL (cL (cL (dropC 2 c69)))) (f69r1n1S a1 v18 v19 v20) (fun r => r = f69r1n1E a1 o)
  | 0, _, _, _, _, o, h => by rw [f69r1n1] at h; cases h
  | f + 1, a1, v18, v19, v20, o, h => by
    rw [f69r1n1] at h
    refine TL.body (K := fun s => ∃ v18 : Int, ∃ v19 : Int, ∃ v20 : List NettingFlow, s = (f69r1n1S a1 v18 v19 v20) ∧ (f69r1n1 f a1 v18 v19 v20) = some o) ?_ (by rintro _ ⟨v18, v19, v20, rfl, hk⟩; exact f69r1n1_ok f _ _ _ _ hk)
    rcases cond_cases h with ⟨h22, h⟩ | ⟨h22, h⟩
    · obtain ⟨x25, h26, h⟩ := bind_cases h
      exact rE cfg_ok [j3, ([], [(4, .call (.tup []) [jR 6 NettingFlow.cells x25])], []), j3, j3] [some true] [] [] [0, 1, 2, 6, 7, 8] (.norm, (f69r1n1S a1 v19 (wr64 (v19 + 20)) x25)) (ap h22 (ap (f81r1_ok v18 v19 v20 h26) an)) (LoopQ.norm ⟨v19, (wr64 (v19 + 20)), x25, rfl, h⟩)
    · obtain rfl := some_inj h
      exact rK cfg_ok 1 [j3] [some false] [] [] [0, 1, 2, 6, 7] (.exit 0) ((f69r1n1E a1 (.exit0 v18 v20)).2) (ap h22 an) (LoopQ.out rfl rfl)
inductive f69r1n3O where
  | exit4 (v151 : Int) (v152 : List NettingFlow)
def f69r1n3E (bd1 : Int) (bd2 : Int) : f69r1n3O → Ex × Tr × Hp
  | .exit4 v151 v152 => ((.exit 4), mkS [(0, (.own 0)), (1, (jI bd1)), (2, (.pl (.fn 55))), (6, (jI bd2)), (7, (jI v151))], [jR 6 NettingFlow.cells v152])
def f69r1n3S (bd1 : Int) (bd2 : Int) (v142 : Int) (v143 : Int) (v144 : List NettingFlow) : Tr × Hp := (mkS [(0, (.own 0)), (1, (jI bd1)), (2, (.pl (.fn 55))), (6, (jI bd2)), (7, (jI v142)), (8, (jI v143))], [jR 6 NettingFlow.cells v144])
noncomputable def f69r1n3 : Nat → Int → Int → Int → Int → List NettingFlow → Option f69r1n3O
  | 0, _, _, _, _, _ => none
  | f + 1, bd1, bd2, v142, v143, v144 =>
    bif (decide (v143 ≤ bd1)) then
      (f82r1 v142 (wr64 (v142 + bd2)) v143 v144).bind fun x149 =>
      (f69r1n3 f bd1 bd2 v143 (wr64 (v143 + (wr64 (2 * bd2)))) x149)
    else
      some (.exit4 v142 v144)
theorem f69r1n3_ok : ∀ (f : Nat) (bd1 : Int) (bd2 : Int) (v142 : Int) (v143 : Int) (v144 : List NettingFlow) {o : f69r1n3O}, (f69r1n3 f bd1 bd2 v142 v143 v144) = some o → TL Try.prog Try.f69.ntmps 1 f (cL (cL (cL (dropC 1 (cL (dropC 1 (cL (cL (dropC 1 (dropC 1 (dropC 2 c69))))))))))) (f69r1n3S bd1 bd2 v142 v143 v144) (fun r => r = f69r1n3E bd1 bd2 o)
  | 0, _, _, _, _, _, o, h => by rw [f69r1n3] at h; cases h
  | f + 1, bd1, bd2, v142, v143, v144, o, h => by
    rw [f69r1n3] at h
    refine TL.body (K := fun s => ∃ v142 : Int, ∃ v143 : Int, ∃ v144 : List NettingFlow, s = (f69r1n3S bd1 bd2 v142 v143 v144) ∧ (f69r1n3 f bd1 bd2 v142 v143 v144) = some o) ?_ (by rintro _ ⟨v142, v143, v144, rfl, hk⟩; exact f69r1n3_ok f _ _ _ _ _ hk)
    rcases cond_cases h with ⟨h146, h⟩ | ⟨h146, h⟩
    · obtain ⟨x149, h150, h⟩ := bind_cases h
      exact rE cfg_ok [j3, ([], [(7, .call (.tup []) [jR 6 NettingFlow.cells x149])], []), j3, j3] [some true] [] [] [0, 1, 2, 6, 7, 8] (.norm, (f69r1n3S bd1 bd2 v143 (wr64 (v143 + (wr64 (2 * bd2)))) x149)) (ap h146 (ap (f82r1_ok v142 (wr64 (v142 + bd2)) v143 v144 h150) an)) (LoopQ.norm ⟨v143, (wr64 (v143 + (wr64 (2 * bd2)))), x149, rfl, h⟩)
    · obtain rfl := some_inj h
      exact rK cfg_ok 1 [j3] [some false] [] [] [0, 1, 2, 6, 7] (.exit 4) ((f69r1n3E bd1 bd2 (.exit4 v142 v144)).2) (ap h146 an) (LoopQ.out rfl rfl)
inductive f69r1n2O where
  | norm (v163 : List NettingFlow)
def f69r1n2E (bd1 : Int) (bd2 : Int) (ba3 : List NettingFlow) : f69r1n2O → Ex × Tr × Hp
  | .norm v163 => (.norm, mkS [(0, (.own 0)), (1, (jI bd1)), (2, (.pl (.fn 55))), (6, (jI (wr64 (bd2 * 2))))], [jR 6 NettingFlow.cells v163])
def f69r1n2S (bd1 : Int) (bd2 : Int) (ba3 : List NettingFlow) : Tr × Hp := (mkS [(0, (.own 0)), (1, (jI bd1)), (2, (.pl (.fn 55))), (6, (jI bd2))], [jR 6 NettingFlow.cells ba3])
noncomputable def f69r1n2 (bd1 : Int) (bd2 : Int) (ba3 : List NettingFlow) : Option f69r1n2O :=
  (f69r1n3 FUEL bd1 bd2 0 (wr64 (2 * bd2)) ba3).bind fun o153 => match o153 with
  | .exit4 v155 v156 => bif (decide ((wr64 (v155 + bd2)) < bd1)) then
      (f82r1 v155 (wr64 (v155 + bd2)) bd1 v156).bind fun x161 =>
      some (.norm x161)
    else
      some (.norm v156)
theorem f69r1n2_ok (bd1 : Int) (bd2 : Int) (ba3 : List NettingFlow) {o : f69r1n2O} (h : (f69r1n2 bd1 bd2 ba3) = some o) : T Try.prog Try.f69.ntmps 1 (dropC 1 (cL (cL (dropC 1 (dropC 1 (dropC 2 c69)))))) (f69r1n2S bd1 bd2 ba3) (fun r => r = f69r1n2E bd1 bd2 ba3 o) := by
  unfold f69r1n2 at h
  refine T.block' (i := 3) (by kernel_rfl) ?_
  refine rN cfg_ok 1 [j3] [] [] [] [0, 1, 2, 6, 7, 8] (f69r1n3S bd1 bd2 0 (wr64 (2 * bd2)) ba3) an ?_
  obtain ⟨o153, h154, h⟩ := bind_cases h
  cases o153 with
  | exit4 v155 v156 =>
    refine T.oneN (by kernel_rfl) (T.bl (i := 4) (by kernel_rfl) (by kernel_rfl) (f69r1n3_ok FUEL bd1 bd2 0 (wr64 (2 * bd2)) ba3 h154)) (st2 := (f69r1n3E bd1 bd2 (.exit4 v155 v156)).2) rfl ?_
    rcases cond_cases h with ⟨h160, h⟩ | ⟨h160, h⟩
    · obtain ⟨x161, h162, h⟩ := bind_cases h
      obtain rfl := some_inj h
      exact rE cfg_ok [j3, j3, ([], [(5, .call (.tup []) [jR 6 NettingFlow.cells x161])], []), j3] [some true] [] [] [0, 1, 2, 6] (.norm, (f69r1n2E bd1 bd2 ba3 (.norm x161)).2) (ap h160 (ap (f82r1_ok v155 (wr64 (v155 + bd2)) bd1 v156 h162) an)) rfl
    · obtain rfl := some_inj h
      exact rE cfg_ok [j3, j3, j3] [some false] [] [] [0, 1, 2, 6] (.norm, (f69r1n2E bd1 bd2 ba3 (.norm v156)).2) (ap h160 an) rfl
inductive f69r1n4O where
  | exit2 (v167 : List NettingFlow)
def f69r1n4E (a1 : Int) : f69r1n4O → Ex × Tr × Hp
  | .exit2 v167 => ((.exit 2), mkS [], [jR 6 NettingFlow.cells v167])
def f69r1n4S (a1 : Int) (v123 : Int) (v124 : List NettingFlow) : Tr × Hp := (mkS [(0, (.own 0)), (1, (jI a1)), (2, (.pl (.fn 55))), (6, (jI v123))], [jR 6 NettingFlow.cells v124])
noncomputable def f69r1n4 : Nat → Int → Int → List NettingFlow → Option f69r1n4O
  | 0, _, _, _ => none
  | f + 1, a1, v123, v124 =>
    bif (decide (v123 < a1)) then
      (f69r1n2 a1 v123 v124).bind fun o164 => match o164 with
      | .norm v166 => (f69r1n4 f a1 (wr64 (v123 * 2)) v166)
    else
      some (.exit2 v124)
theorem f69r1n4_ok : ∀ (f : Nat) (a1 : Int) (v123 : Int) (v124 : List NettingFlow) {o : f69r1n4O}, (f69r1n4 f a1 v123 v124) = some o → TL Try.prog Try.f69.ntmps 1 f (cL (cL (dropC 1 (dropC 1 (dropC 2 c69))))) (f69r1n4S a1 v123 v124) (fun r => r = f69r1n4E a1 o)
  | 0, _, _, _, o, h => by rw [f69r1n4] at h; cases h
  | f + 1, a1, v123, v124, o, h => by
    rw [f69r1n4] at h
    refine TL.body (K := fun s => ∃ v123 : Int, ∃ v124 : List NettingFlow, s = (f69r1n4S a1 v123 v124) ∧ (f69r1n4 f a1 v123 v124) = some o) ?_ (by rintro _ ⟨v123, v124, rfl, hk⟩; exact f69r1n4_ok f _ _ _ hk)
    rcases cond_cases h with ⟨h126, h⟩ | ⟨h126, h⟩
    · refine rN cfg_ok 1 [j3] [some true] [] [] [0, 1, 2, 6] (f69r1n2S a1 v123 v124) (ap h126 an) ?_
      obtain ⟨o164, h165, h⟩ := bind_cases h
      cases o164 with
      | norm v166 =>
        exact T.last' (f69r1n2_ok a1 v123 v124 h165) (tds := []) (m := []) (keep := [0, 1, 2, 6]) (st2 := (f69r1n4S a1 (wr64 (v123 * 2)) v166)) (by kernel_rfl) an (LoopQ.norm ⟨(wr64 (v123 * 2)), v166, rfl, h⟩)
    · obtain rfl := some_inj h
      exact rK cfg_ok 1 [j3] [some false] [] [] [] (.exit 2) ((f69r1n4E a1 (.exit2 v124)).2) (ap h126 an) (LoopQ.out rfl rfl)
inductive f69r1n0O where
  | norm (v171 : List NettingFlow)
def f69r1n0E (a1 : Int) (a2 : List NettingFlow) : f69r1n0O → Ex × Tr × Hp
  | .norm v171 => (.norm, mkS [], [jR 6 NettingFlow.cells v171])
def f69r1n0S (a1 : Int) (a2 : List NettingFlow) : Tr × Hp := (initS [(.own 0), (jI a1), (.pl (.fn 55))] 0 .leaf, [jR 6 NettingFlow.cells a2])
noncomputable def f69r1n0 (a1 : Int) (a2 : List NettingFlow) : Option f69r1n0O :=
  (f69r1n1 FUEL a1 0 20 a2).bind fun o29 => match o29 with
  | .exit0 v31 v32 => (f81r1 v31 a1 v32).bind fun x35 =>
    (f69r1n4 FUEL a1 20 x35).bind fun o168 => match o168 with
    | .exit2 v170 => some (.norm v170)
theorem f69r1n0_ok (a1 : Int) (a2 : List NettingFlow) {o : f69r1n0O} (h : (f69r1n0 a1 a2) = some o) : T Try.prog Try.f69.ntmps 1 c69 (f69r1n0S a1 a2) (fun r => r = f69r1n0E a1 a2 o) := by
  unfold f69r1n0 at h
  refine rN cfg_ok 2 [j3, j3] [] [] [] [0, 1, 2, 6, 7, 8] (f69r1n1S a1 0 20 a2) an ?_
  obtain ⟨o29, h30, h⟩ := bind_cases h
  cases o29 with
  | exit0 v31 v32 =>
    refine T.oneN (by kernel_rfl) (T.bl (i := 0) (by kernel_rfl) (by kernel_rfl) (f69r1n1_ok FUEL a1 0 20 a2 h30)) (st2 := (f69r1n1E a1 (.exit0 v31 v32)).2) rfl ?_
    obtain ⟨x35, h36, h⟩ := bind_cases h
    refine rN cfg_ok 1 [([], [(4, .call (.tup []) [jR 6 NettingFlow.cells x35])], [])] [] [] [] [0, 1, 2, 6] (f69r1n4S a1 20 x35) (ap (f81r1_ok v31 a1 v32 h36) an) ?_
    obtain ⟨o168, h169, h⟩ := bind_cases h
    cases o168 with
    | exit2 v170 =>
      obtain rfl := some_inj h
      exact T.last' (T.bl (i := 2) (by kernel_rfl) (by kernel_rfl) (f69r1n4_ok FUEL a1 20 x35 h169)) (tds := []) (m := []) (keep := []) (st2 := (f69r1n0E a1 a2 (.norm v170)).2) (by kernel_rfl) an rfl
noncomputable def f69r1 (a1 : Int) (a2 : List NettingFlow) : Option (List NettingFlow) := (f69r1n0 a1 a2).bind fun o => match o with
  | .norm v171 => some v171
theorem f69r1_ok (a1 : Int) (a2 : List NettingFlow) {r : List NettingFlow} (h : (f69r1 a1 a2) = some r) : CallS Try.prog true 69 [(.own 0), (jI a1), (.pl (.fn 55))] [jR 6 NettingFlow.cells a2] (.tup []) [jR 6 NettingFlow.cells r] := by
  unfold f69r1 at h
  obtain ⟨o, ho, h⟩ := bind_cases h
  cases o with
  | norm v171 =>
    obtain rfl := some_inj h
    exact CallS.shared cfg_ok (f := Try.f69) (c := c69) (by kernel_rfl) (by kernel_rfl) (by kernel_rfl) ((f69r1n0_ok a1 a2 ho).mono fun r e => by subst e; exact ⟨.inr rfl, by kernel_rfl, by kernel_rfl⟩)

noncomputable def c54 : Code := Try.f54.body.getD .skip
inductive f54r1n0O where
  | norm (v6 : List NettingFlow)
def f54r1n0E (a1 : List NettingFlow) : f54r1n0O → Ex × Tr × Hp
  | .norm v6 => (.norm, mkS [], [jR 6 NettingFlow.cells v6])
def f54r1n0S (a1 : List NettingFlow) : Tr × Hp := (initS [(.own 0), (.pl (.fn 55))] 0 .leaf, [jR 6 NettingFlow.cells a1])
noncomputable def f54r1n0 (a1 : List NettingFlow) : Option f54r1n0O :=
  (f69r1 (a1.length : Int) a1).bind fun x4 =>
  some (.norm x4)
theorem f54r1n0_ok (a1 : List NettingFlow) {o : f54r1n0O} (h : (f54r1n0 a1) = some o) : T Try.prog Try.f54.ntmps 1 c54 (f54r1n0S a1) (fun r => r = f54r1n0E a1 o) := by
  unfold f54r1n0 at h
  obtain ⟨x4, h5, h⟩ := bind_cases h
  obtain rfl := some_inj h
  exact rE cfg_ok [([], [(4, .call (.tup []) [jR 6 NettingFlow.cells x4])], [(2, .val (jI (a1.length : Int)))])] [] [] [] [] (.norm, (f54r1n0E a1 (.norm x4)).2) (ap (len_cv (xs := a1) (c := NettingFlow.cells)) (ap (f69r1_ok (a1.length : Int) a1 h5) an)) rfl
noncomputable def f54r1 (a1 : List NettingFlow) : Option (List NettingFlow) := (f54r1n0 a1).bind fun o => match o with
  | .norm v6 => some v6
theorem f54r1_ok (a1 : List NettingFlow) {r : List NettingFlow} (h : (f54r1 a1) = some r) : CallS Try.prog true 54 [(.own 0), (.pl (.fn 55))] [jR 6 NettingFlow.cells a1] (.tup []) [jR 6 NettingFlow.cells r] := by
  unfold f54r1 at h
  obtain ⟨o, ho, h⟩ := bind_cases h
  cases o with
  | norm v6 =>
    obtain rfl := some_inj h
    exact CallS.shared cfg_ok (f := Try.f54) (c := c54) (by kernel_rfl) (by kernel_rfl) (by kernel_rfl) ((f54r1n0_ok a1 ho).mono fun r e => by subst e; exact ⟨.inr rfl, by kernel_rfl, by kernel_rfl⟩)

noncomputable def c34 : Code := Try.f34.body.getD .skip
inductive f34r1n0O where
  | norm (v6 : List NettingFlow)
def f34r1n0E (a1 : List NettingFlow) : f34r1n0O → Ex × Tr × Hp
  | .norm v6 => (.norm, mkS [], [jR 6 NettingFlow.cells v6])
def f34r1n0S (a1 : List NettingFlow) : Tr × Hp := (initS [(.own 0)] 0 .leaf, [jR 6 NettingFlow.cells a1])
noncomputable def f34r1n0 (a1 : List NettingFlow) : Option f34r1n0O :=
  (f54r1 a1).bind fun x4 =>
  some (.norm x4)
theorem f34r1n0_ok (a1 : List NettingFlow) {o : f34r1n0O} (h : (f34r1n0 a1) = some o) : T Try.prog Try.f34.ntmps 1 c34 (f34r1n0S a1) (fun r => r = f34r1n0E a1 o) := by
  unfold f34r1n0 at h
  obtain ⟨x4, h5, h⟩ := bind_cases h
  obtain rfl := some_inj h
  exact rE cfg_ok [([], [(1, .call (.tup []) [jR 6 NettingFlow.cells x4])], [])] [] [] [] [] (.norm, (f34r1n0E a1 (.norm x4)).2) (ap (f54r1_ok a1 h5) an) rfl
noncomputable def f34r1 (a1 : List NettingFlow) : Option (List NettingFlow) := (f34r1n0 a1).bind fun o => match o with
  | .norm v6 => some v6
theorem f34r1_ok (a1 : List NettingFlow) {r : List NettingFlow} (h : (f34r1 a1) = some r) : CallS Try.prog true 34 [(.own 0)] [jR 6 NettingFlow.cells a1] (.tup []) [jR 6 NettingFlow.cells r] := by
  unfold f34r1 at h
  obtain ⟨o, ho, h⟩ := bind_cases h
  cases o with
  | norm v6 =>
    obtain rfl := some_inj h
    exact CallS.shared cfg_ok (f := Try.f34) (c := c34) (by kernel_rfl) (by kernel_rfl) (by kernel_rfl) ((f34r1n0_ok a1 ho).mono fun r e => by subst e; exact ⟨.inr rfl, by kernel_rfl, by kernel_rfl⟩)

noncomputable def c32 : Code := Try.f32.body.getD .skip
inductive f32r1n2O where
  | exit0 (v55 : List NettingFlow) (v56 : List (Key_ × Int))
def f32r1n2E (ba2 : List NettingFlow) (bo1 : List NettingSet) : f32r1n2O → Ex × Tr × Hp
  | .exit0 v55 v56 => ((.exit 0), mkS [(0, (.own 0)), (6, (.own 2)), (7, (.pl (.sl .nil 0 []))), (9, (.mp 3))], [jR 3 NettingSet.cells bo1, jR 6 NettingFlow.cells ba2, jR 6 NettingFlow.cells v55, some (.map (v56.map (mkv (pAgg Key_.cells) (pInt .i64))))])
def f32r1n2S (ba2 : List NettingFlow) (bo1 : List NettingSet) (v36 : Int) (v37 : List NettingFlow) (v38 : List (Key_ × Int)) : Tr × Hp := (mkS [(0, (.own 0)), (2, (.pl (.fn 33))), (6, (.own 2)), (7, (.pl (.sl .nil 0 []))), (9, (.mp 3)), (21, (.own 1)), (22, (jI (ba2.length : Int))), (23, (jI v36))], [jR 3 NettingSet.cells bo1, jR 6 NettingFlow.cells ba2, jR 6 NettingFlow.cells v37, some (.map (v38.map (mkv (pAgg Key_.cells) (pInt .i64))))])
noncomputable def f32r1n2 : Nat → List NettingFlow → List NettingSet → Int → List NettingFlow → List (Key_ × Int) → Option f32r1n2O
  | 0, _, _, _, _, _ => none
  | f + 1, ba2, bo1, v36, v37, v38 =>
    bif (decide (v36 < (ba2.length : Int))) then
      (at? ba2 v36).bind fun x48 =>
      (f33 x48).bind fun x50 =>
      bif x50.2 then
        bif (slt x48.From x48.To) then
          (f32r1n2 f ba2 bo1 (wr64 (v36 + 1)) v37 (mPut Key_.eqb x50.1 (wr64 ((mGet Key_.eqb 0 x50.1 v38) + x48.Amount)) v38))
        else
          (f32r1n2 f ba2 bo1 (wr64 (v36 + 1)) v37 (mPut Key_.eqb x50.1 (wr64 ((mGet Key_.eqb 0 x50.1 v38) - x48.Amount)) v38))
      else
        req (fit (v37.length + 1) 80) <|
        (f32r1n2 f ba2 bo1 (wr64 (v36 + 1)) (v37 ++ [x48]) v38)
    else
      some (.exit0 v37 v38)
theorem f32r1n2_ok : ∀ (f : Nat) (ba2 : List NettingFlow) (bo1 : List NettingSet) (v36 : Int) (v37 : List NettingFlow) (v38 : List (Key_ × Int)) {o : f32r1n2O}, (f32r1n2 f ba2 bo1 v36 v37 v38) = some o → TL Try.prog Try.f32.ntmps 2 f (cL (cL (dropC 1 (cL (dropC 2 c32))))) (f32r1n2S ba2 bo1 v36 v37 v38) (fun r => r = f32r1n2E ba2 bo1 o)
  | 0, _, _, _, _, _, o, h => by rw [f32r1n2] at h; cases h
  | f + 1, ba2, bo1, v36, v37, v38, o, h => by
    rw [f32r1n2] at h
    refine TL.body (K := fun s => ∃ v36 : Int, ∃ v37 : List NettingFlow, ∃ v38 : List (Key_ × Int), s = (f32r1n2S ba2 bo1 v36 v37 v38) ∧ (f32r1n2 f ba2 bo1 v36 v37 v38) = some o) ?_ (by rintro _ ⟨v36, v37, v38, rfl, hk⟩; exact f32r1n2_ok f _ _ _ _ _ hk)
    rcases cond_cases h with ⟨h40, h⟩ | ⟨h40, h⟩
    · obtain ⟨x48, h49, h⟩ := bind_cases h
      obtain ⟨x50, h51, h⟩ := bind_cases h
      rcases cond_cases h with ⟨h52, h⟩ | ⟨h52, h⟩
      · rcases cond_cases h with ⟨h53, h⟩ | ⟨h53, h⟩
        · exact rE cfg_ok [j3, ([], [(0, .at_ (Int.toNat v36)), (1, .idx 0 (NettingFlow.cells x48))], []), ([], [jH 2 (.tup [(jA Key_.cells x50.1), (jB x50.2)])], []), j3, j3, ([], [(2, .look ((pInt .i64) (mGet Key_.eqb 0 x50.1 v38)) (mHas Key_.eqb x50.1 v38)), (6, .ment ((pInt .i64) (mGet Key_.eqb 0 x50.1 v38)) (mIdx Key_.eqb x50.1 v38) ((mEns Key_.eqb 0 x50.1 v38).map (mkv (pAgg Key_.cells) (pInt .i64)))), (8, .mst (mIdx Key_.eqb x50.1 v38) ((pAgg Key_.cells) x50.1) ((pInt .i64) (mGet Key_.eqb 0 x50.1 v38)))], [(8, .map 3 ((mPut Key_.eqb x50.1 (wr64 ((mGet Key_.eqb 0 x50.1 v38) + x48.Amount)) v38).map (mkv (pAgg Key_.cells) (pInt .i64))))]), j3] [some true, some false, some true] [] [2, 3] [0, 2, 6, 7, 9, 21, 22, 23] (.norm, (f32r1n2S ba2 bo1 (wr64 (v36 + 1)) v37 (mPut Key_.eqb x50.1 (wr64 ((mGet Key_.eqb 0 x50.1 v38) + x48.Amount)) v38))) (ap h40 (ap (at_some h49).1 (ap (lt_map NettingFlow.cells (at_some h49).2) (ap (at_map NettingFlow.cells (at_some h49).2) (ap (f33_ok x48 h51) (ap (not_t h52) (ap h53 (ap (look_map (vp := (pInt .i64)) (e := 3) key_62 0 (by kernel_rfl) x50.1 v38) (ap (ment_map (vp := (pInt .i64)) (e := 3) key_62 0 (by kernel_rfl) x50.1 v38) (ap (rfl : ((mIdx Key_.eqb x50.1 v38) : Int) = (((mIdx Key_.eqb x50.1 v38) : Nat) : Int)) (ap (mst_at (vp := (pInt .i64)) key_62 0 x50.1 v38) (ap (mst_put (vp := (pInt .i64)) key_62 0 (wr64 ((mGet Key_.eqb 0 x50.1 v38) + x48.Amount)) x50.1 v38) an)))))))))))) (LoopQ.norm ⟨(wr64 (v36 + 1)), v37, (mPut Key_.eqb x50.1 (wr64 ((mGet Key_.eqb 0 x50.1 v38) + x48.Amount)) v38), rfl, h⟩)
        · exact rE cfg_ok [j3, ([], [(0, .at_ (Int.toNat v36)), (1, .idx 0 (NettingFlow.cells x48))], []), ([], [jH 2 (.tup [(jA Key_.cells x50.1), (jB x50.2)])], []), j3, j3, ([], [(2, .look ((pInt .i64) (mGet Key_.eqb 0 x50.1 v38)) (mHas Key_.eqb x50.1 v38)), (6, .ment ((pInt .i64) (mGet Key_.eqb 0 x50.1 v38)) (mIdx Key_.eqb x50.1 v38) ((mEns Key_.eqb 0 x50.1 v38).map (mkv (pAgg Key_.cells) (pInt .i64)))), (8, .mst (mIdx Key_.eqb x50.1 v38) ((pAgg Key_.cells) x50.1) ((pInt .i64) (mGet Key_.eqb 0 x50.1 v38)))], [(8, .map 3 ((mPut Key_.eqb x50.1 (wr64 ((mGet Key_.eqb 0 x50.1 v38) - x48.Amount)) v38).map (mkv (pAgg Key_.cells) (pInt .i64))))]), j3] [some true, some false, some false] [] [2, 3] [0, 2, 6, 7, 9, 21, 22, 23] (.norm, (f32r1n2S ba2 bo1 (wr64 (v36 + 1)) v37 (mPut Key_.eqb x50.1 (wr64 ((mGet Key_.eqb 0 x50.1 v38) - x48.Amount)) v38))) (ap h40 (ap (at_some h49).1 (ap (lt_map NettingFlow.cells (at_some h49).2) (ap (at_map NettingFlow.cells (at_some h49).2) (ap (f33_ok x48 h51) (ap (not_t h52) (ap h53 (ap (look_map (vp := (pInt .i64)) (e := 3) key_62 0 (by kernel_rfl) x50.1 v38) (ap (ment_map (vp := (pInt .i64)) (e := 3) key_62 0 (by kernel_rfl) x50.1 v38) (ap (rfl : ((mIdx Key_.eqb x50.1 v38) : Int) = (((mIdx Key_.eqb x50.1 v38) : Nat) : Int)) (ap (mst_at (vp := (pInt .i64)) key_62 0 x50.1 v38) (ap (mst_put (vp := (pInt .i64)) key_62 0 (wr64 ((mGet Key_.eqb 0 x50.1 v38) - x48.Amount)) x50.1 v38) an)))))))))))) (LoopQ.norm ⟨(wr64 (v36 + 1)), v37, (mPut Key_.eqb x50.1 (wr64 ((mGet Key_.eqb 0 x50.1 v38) - x48.Amount)) v38), rfl, h⟩)
      · obtain ⟨h54, h⟩ := req_cases h
        exact rE cfg_ok [j3, ([], [(0, .at_ (Int.toNat v36)), (1, .idx 0 (NettingFlow.cells x48))], []), ([], [jH 2 (.tup [(jA Key_.cells x50.1), (jB x50.2)])], []), j3, ([], [(3, .fits)], [(3, .row 7 ((v37 ++ [x48]).map NettingFlow.cells))]), j3] [some true, some true] [] [7, 3] [0, 2, 6, 7, 9, 21, 22, 23] (.norm, (f32r1n2S ba2 bo1 (wr64 (v36 + 1)) (v37 ++ [x48]) v38)) (ap h40 (ap (at_some h49).1 (ap (lt_map NettingFlow.cells (at_some h49).2) (ap (at_map NettingFlow.cells (at_some h49).2) (ap (f33_ok x48 h51) (ap (not_f h52) (ap (fit_map (te := ti32) (xs := v37) (n := 1) (c := NettingFlow.cells) h54 rfl) (ap (app_cv (xs := v37) (ys := [x48]) (c := NettingFlow.cells)) an)))))))) (LoopQ.norm ⟨(wr64 (v36 + 1)), (v37 ++ [x48]), v38, rfl, h⟩)
    · obtain rfl := some_inj h
      exact rK cfg_ok 2 [j3] [some false] [] [2, 3] [0, 6, 7, 9] (.exit 0) ((f32r1n2E ba2 bo1 (.exit0 v37 v38)).2) (ap h40 an) (LoopQ.out rfl rfl)
noncomputable def f32r1n2L (ba2 : List NettingFlow) (bo1 : List NettingSet) : List NettingFlow → Int → (List NettingFlow) → (List (Key_ × Int)) → Option f32r1n2O
  | [], v36, v37, v38 =>
    some (.exit0 v37 v38)
  | x0 :: rest, v36, v37, v38 =>
    (f33 x0).bind fun x50 =>
    bif x50.2 then
      bif (slt x0.From x0.To) then
        (f32r1n2L ba2 bo1 rest (v36 + 1) v37 (mPut Key_.eqb x50.1 (wr64 ((mGet Key_.eqb 0 x50.1 v38) + x0.Amount)) v38))
      else
        (f32r1n2L ba2 bo1 rest (v36 + 1) v37 (mPut Key_.eqb x50.1 (wr64 ((mGet Key_.eqb 0 x50.1 v38) - x0.Amount)) v38))
    else
      req (fit (v37.length + 1) 80) <|
      (f32r1n2L ba2 bo1 rest (v36 + 1) (v37 ++ [x0]) v38)
theorem f32r1n2L_eq (ba2 : List NettingFlow) (bo1 : List NettingSet) : ∀ (rest : List NettingFlow) (f k : Nat) (v37 : List NettingFlow) (v38 : List (Key_ × Int)), ba2.drop k = rest → ba2.length ≤ maxLen → rest.length < f → f32r1n2 f ba2 bo1 (k : Int) v37 v38 = f32r1n2L ba2 bo1 rest (k : Int) v37 v38
  | _, 0, _, _, _, _, _, hf => absurd hf (Nat.not_lt_zero _)
  | [], f + 1, k, v37, v38, hd, hm, hf => by
    have hk : ¬ ((k : Int) < (ba2.length : Int)) := by have := drop_nil hd; omega
    rw [f32r1n2, f32r1n2L]
    simp only [decide_eq_false hk, cond_false]
  | x0 :: rest, f + 1, k, v37, v38, hd, hm, hf => by
    obtain ⟨hx, hlt, hd'⟩ := drop_cons hd
    have hk : (k : Int) < (ba2.length : Int) := by omega
    have hw : wr64 ((k : Int) + 1) = (k : Int) + 1 := wr64_of (by omega) (by unfold maxLen at hm; omega)
    have ih : ∀ (v37 : List NettingFlow) (v38 : List (Key_ × Int)), f32r1n2 f ba2 bo1 ((k : Int) + 1) v37 v38 = f32r1n2L ba2 bo1 rest ((k : Int) + 1) v37 v38 := fun v37 v38 => f32r1n2L_eq ba2 bo1 rest f (k + 1) v37 v38 hd' hm (by simpa using hf)
    rw [f32r1n2, f32r1n2L]
    simp only [decide_eq_true hk, cond_true, at_nat, hx, Option.bind_some, hw, ih]
theorem f32r1n2_run (ba2 : List NettingFlow) (bo1 : List NettingSet) (v37 : List NettingFlow) (v38 : List (Key_ × Int)) (hm : ba2.length ≤ maxLen) : f32r1n2 FUEL ba2 bo1 0 v37 v38 = f32r1n2L ba2 bo1 ba2 0 v37 v38 := f32r1n2L_eq ba2 bo1 ba2 FUEL 0 v37 v38 List.drop_zero hm (lt_FUEL hm)
inductive f32r1n1O where
  | norm (v61 : List NettingFlow) (v62 : List (Key_ × Int))
def f32r1n1E (bo1 : List NettingSet) (ba2 : List NettingFlow) : f32r1n1O → Ex × Tr × Hp
  | .norm v61 v62 => (.norm, mkS [(0, (.own 0)), (6, (.own 2)), (7, (.pl (.sl .nil 0 []))), (9, (.mp 3))], [jR 3 NettingSet.cells bo1, jR 6 NettingFlow.cells ba2, jR 6 NettingFlow.cells v61, some (.map (v62.map (mkv (pAgg Key_.cells) (pInt .i64))))])
def f32r1n1S (bo1 : List NettingSet) (ba2 : List NettingFlow) : Tr × Hp := (mkS [(0, (.own 0)), (1, (.own 1)), (2, (.pl (.fn 33))), (6, (.pl (.sl .nil 0 []))), (7, (.pl (.sl .nil 0 []))), (9, (.mp 2))], [jR 3 NettingSet.cells bo1, jR 6 NettingFlow.cells ba2, some (.map ([].map (mkv (pAgg Key_.cells) (pInt .i64))))])
noncomputable def f32r1n1 (bo1 : List NettingSet) (ba2 : List NettingFlow) : Option f32r1n1O :=
  (f32r1n2 FUEL ba2 bo1 0 [] []).bind fun o57 => match o57 with
  | .exit0 v59 v60 => some (.norm v59 v60)
theorem f32r1n1_ok (bo1 : List NettingSet) (ba2 : List NettingFlow) {o : f32r1n1O} (h : (f32r1n1 bo1 ba2) = some o) : T Try.prog Try.f32.ntmps 2 (cL (dropC 2 c32)) (f32r1n1S bo1 ba2) (fun r => r = f32r1n1E bo1 ba2 o) := by
  unfold f32r1n1 at h
  refine rN cfg_ok 1 [([], [], [(1, .val (jI (ba2.length : Int)))])] [] [.mat 6 6] [3, 2] [0, 2, 6, 7, 9, 21, 22, 23] (f32r1n2S ba2 bo1 0 [] []) (ap (len_cv (xs := ba2) (c := NettingFlow.cells)) an) ?_
  obtain ⟨o57, h58, h⟩ := bind_cases h
  cases o57 with
  | exit0 v59 v60 =>
    obtain rfl := some_inj h
    exact T.last' (T.bl (i := 0) (by kernel_rfl) (by kernel_rfl) (f32r1n2_ok FUEL ba2 bo1 0 [] [] h58)) (tds := []) (m := [2, 3]) (keep := [0, 6, 7, 9]) (st2 := (f32r1n1E bo1 ba2 (.norm v59 v60)).2) (by kernel_rfl) an rfl
inductive f32r1n4O where
  | exit2 (v118 : List NettingFlow)
  | ret
def f32r1n4E (bo1 : List NettingSet) (ba2 : List NettingFlow) (ba3 : List NettingFlow) (bf4 : List (Key_ × Int)) : f32r1n4O → Ex × Tr × Hp
  | .exit2 v118 => ((.exit 2), mkS [(6, (.own 2)), (7, (.own 3))], [jR 3 NettingSet.cells bo1, jR 6 NettingFlow.cells ba2, jR 6 NettingFlow.cells ba3, jR 6 NettingFlow.cells v118])
  | .ret => (.ret, mkS [(6, (.pl (.sl .nil 0 []))), (7, (.pl (.sl .nil 0 []))), (8, (jI 14))], [jR 3 NettingSet.cells bo1, jR 6 NettingFlow.cells ba2])
def f32r1n4S (bo1 : List NettingSet) (ba2 : List NettingFlow) (ba3 : List NettingFlow) (bf4 : List (Key_ × Int)) (v100 : List NettingFlow) (sn0 : List Nat) : Tr × Hp := (mkS [(0, (.own 0)), (6, (.own 2)), (7, (.own 3)), (62, (.it 4))], [jR 3 NettingSet.cells bo1, jR 6 NettingFlow.cells ba2, jR 6 NettingFlow.cells ba3, jR 6 NettingFlow.cells v100, some (.iter 5 (bf4.map (mkv (pAgg Key_.cells) (pInt .i64))).length sn0), some (.map (bf4.map (mkv (pAgg Key_.cells) (pInt .i64))))])
noncomputable def f32r1n4 (bo1 : List NettingSet) (ba2 : List NettingFlow) (ba3 : List NettingFlow) (bf4 : List (Key_ × Int)) : List (Key_ × Int) → (List NettingFlow) → Option f32r1n4O
  | [], v100 =>
    some (.exit2 v100)
  | x102 :: rest, v100 =>
    bif (decide (1125899906842624 < (mxI x102.2 (wr64 (0 - x102.2))))) then
      some .ret
    else
      (f46 bo1 x102.1.set).bind fun x112 =>
      (f37 x102.1 x112.1.First x112.1.Second x102.2).bind fun x114 =>
      bif x114.2 then
        req (fit (v100.length + 1) 80) <|
        (f32r1n4 bo1 ba2 ba3 bf4 rest (v100 ++ [x114.1]))
      else
        (f32r1n4 bo1 ba2 ba3 bf4 rest v100)
theorem f32r1n4_ok (bo1 : List NettingSet) (ba2 : List NettingFlow) (ba3 : List NettingFlow) (bf4 : List (Key_ × Int)) : ∀ (f : Nat) (sn0 rem : List Nat) (v100 : List NettingFlow) {Q : f32r1n4O → Prop}, Rem bf4.length sn0 rem → rem.length < f → (∀ p, p.Perm rem → ∃ o, f32r1n4 bo1 ba2 ba3 bf4 (ords bf4 p) v100 = some o ∧ Q o) → TL Try.prog Try.f32.ntmps 2 f (cL (cL (dropC 1 (cL (dropC 0 (dropC 1 (dropC 2 c32))))))) (f32r1n4S bo1 ba2 ba3 bf4 v100 sn0) (fun r => ∃ o, Q o ∧ r = f32r1n4E bo1 ba2 ba3 bf4 o)
  | 0, _, _, _, _, _, hf, _ => absurd hf (Nat.not_lt_zero _)
  | f + 1, sn0, rem, v100, Q, hR, hf, H => by
    refine TL.bodyQ (K := fun s => ∃ (sn0 rem : List Nat) (v100 : List NettingFlow), s = f32r1n4S bo1 ba2 ba3 bf4 v100 sn0 ∧ Rem bf4.length sn0 rem ∧ rem.length < f ∧ (∀ p, p.Perm rem → ∃ o, f32r1n4 bo1 ba2 ba3 bf4 (ords bf4 p) v100 = some o ∧ Q o)) ?_ (by rintro _ ⟨sn0, rem, v100, rfl, h1, h2, h3⟩; exact f32r1n4_ok bo1 ba2 ba3 bf4 f sn0 rem v100 h1 h2 h3)
    refine T.oneNext cfg_ok (x := .tmp 62) (t := 63) (tb := 64) (i := 4) (o := 5) (m := (bf4.map (mkv (pAgg Key_.cells) (pInt .i64))).length) (seen := sn0) (kvs := (bf4.map (mkv (pAgg Key_.cells) (pInt .i64)))) (by kernel_rfl) (by kernel_rfl) (by kernel_rfl) (by kernel_rfl) (by kernel_rfl) (by kernel_rfl) rfl (fun hs => ?_) (fun j101 k v hj hs hx => ?_)
    · obtain rfl := hR.none (by simpa using hs)
      obtain ⟨o, h0, hq⟩ := H [] (List.Perm.refl _)
      have h : f32r1n4 bo1 ba2 ba3 bf4 [] v100 = some o := h0
      rw [f32r1n4] at h
      obtain rfl := some_inj h
      exact rK cfg_ok 1 [] [none] [] [2, 3] [6, 7] (.exit 2) ((f32r1n4E bo1 ba2 ba3 bf4 (.exit2 v100)).2) an (LoopQ2.out ⟨_, hq, rfl⟩ rfl)
    · obtain ⟨x102, h103, rfl, rfl⟩ := mkv_at hx
      obtain ⟨hR2, hlen, hP⟩ := hR.step (j := j101) (by simpa using hj) hs
      have H2 : ∀ p, p.Perm (rem.erase j101) → ∃ o, f32r1n4 bo1 ba2 ba3 bf4 (x102 :: ords bf4 p) v100 = some o ∧ Q o := fun p hp => by obtain ⟨o, h, hq⟩ := H _ (hP p hp); rw [ords_cons h103] at h; exact ⟨o, h, hq⟩
      obtain ⟨o, h, hq⟩ := H2 _ (List.Perm.refl _)
      rw [f32r1n4] at h
      rcases cond_cases h with ⟨h111, h⟩ | ⟨h111, h⟩
      · obtain rfl := some_inj h
        exact rE cfg_ok [([], [(0, .entr j101 ((pAgg Key_.cells) x102.1) ((pInt .i64) x102.2))], []), j3, j3] [none, some true] [] [] [6, 7, 8] (.ret, (f32r1n4E bo1 ba2 ba3 bf4 .ret).2) (ap (last_app (seen := sn0) (j := j101)) (ap (rfl : (bf4.map (mkv (pAgg Key_.cells) (pInt .i64))).length = (bf4.map (mkv (pAgg Key_.cells) (pInt .i64))).length) (ap (at_mkv (kp := (pAgg Key_.cells)) (vp := (pInt .i64)) h103) (ap h111 an)))) (LoopQ2.out ⟨_, hq, rfl⟩ rfl)
      · obtain ⟨x112, h113, h⟩ := bind_cases h
        obtain ⟨x114, h115, h⟩ := bind_cases h
        rcases cond_cases h with ⟨h116, h⟩ | ⟨h116, h⟩
        · obtain ⟨h117, h⟩ := req_cases h
          exact rE cfg_ok [([], [(0, .entr j101 ((pAgg Key_.cells) x102.1) ((pInt .i64) x102.2))], []), j3, ([], [jH 3 (.tup [(jA NettingSet.cells x112.1), (jB x112.2)])], []), ([], [jH 6 (.tup [(jA NettingFlow.cells x114.1), (jB x114.2)])], []), j3, ([], [(3, .fits)], [(3, .row 10 ((v100 ++ [x114.1]).map NettingFlow.cells))])] [none, some false, some true] [] [2, 10, 4, 5] [0, 6, 7, 62] (.norm, (f32r1n4S bo1 ba2 ba3 bf4 (v100 ++ [x114.1]) (sn0 ++ [j101]))) (ap (last_app (seen := sn0) (j := j101)) (ap (rfl : (bf4.map (mkv (pAgg Key_.cells) (pInt .i64))).length = (bf4.map (mkv (pAgg Key_.cells) (pInt .i64))).length) (ap (at_mkv (kp := (pAgg Key_.cells)) (vp := (pInt .i64)) h103) (ap h111 (ap (f46_ok bo1 x102.1.set h113) (ap (f37_ok x102.1 x112.1.First x112.1.Second x102.2 h115) (ap h116 (ap (fit_map (te := ti32) (xs := v100) (n := 1) (c := NettingFlow.cells) h117 rfl) (ap (app_cv (xs := v100) (ys := [x114.1]) (c := NettingFlow.cells)) an))))))))) (LoopQ2.norm ⟨sn0 ++ [j101], rem.erase j101, (v100 ++ [x114.1]), rfl, hR2, by omega, fun p hp => by obtain ⟨o, h, hq⟩ := H2 p hp; refine ⟨o, ?_, hq⟩; rw [f32r1n4] at h; simp only [h111, h113, h115, h116, h117, cond_true, cond_false, Option.bind_some, req] at h; exact h⟩)
        · exact rE cfg_ok [([], [(0, .entr j101 ((pAgg Key_.cells) x102.1) ((pInt .i64) x102.2))], []), j3, ([], [jH 3 (.tup [(jA NettingSet.cells x112.1), (jB x112.2)])], []), ([], [jH 6 (.tup [(jA NettingFlow.cells x114.1), (jB x114.2)])], []), j3] [none, some false, some false] [] [2, 3, 4, 5] [0, 6, 7, 62] (.norm, (f32r1n4S bo1 ba2 ba3 bf4 v100 (sn0 ++ [j101]))) (ap (last_app (seen := sn0) (j := j101)) (ap (rfl : (bf4.map (mkv (pAgg Key_.cells) (pInt .i64))).length = (bf4.map (mkv (pAgg Key_.cells) (pInt .i64))).length) (ap (at_mkv (kp := (pAgg Key_.cells)) (vp := (pInt .i64)) h103) (ap h111 (ap (f46_ok bo1 x102.1.set h113) (ap (f37_ok x102.1 x112.1.First x112.1.Second x102.2 h115) (ap h116 an))))))) (LoopQ2.norm ⟨sn0 ++ [j101], rem.erase j101, v100, rfl, hR2, by omega, fun p hp => by obtain ⟨o, h, hq⟩ := H2 p hp; refine ⟨o, ?_, hq⟩; rw [f32r1n4] at h; simp only [h111, h113, h115, h116, cond_true, cond_false, Option.bind_some, req] at h; exact h⟩)
inductive f32r1n3O where
  | norm (v122 : List NettingFlow)
  | ret
def f32r1n3E (bo1 : List NettingSet) (ba2 : List NettingFlow) (ba3 : List NettingFlow) (bf4 : List (Key_ × Int)) : f32r1n3O → Ex × Tr × Hp
  | .norm v122 => (.norm, mkS [(6, (.own 2)), (7, (.own 3))], [jR 3 NettingSet.cells bo1, jR 6 NettingFlow.cells ba2, jR 6 NettingFlow.cells ba3, jR 6 NettingFlow.cells v122])
  | .ret => (.ret, mkS [(6, (.pl (.sl .nil 0 []))), (7, (.pl (.sl .nil 0 []))), (8, (jI 14))], [jR 3 NettingSet.cells bo1, jR 6 NettingFlow.cells ba2])
def f32r1n3S (bo1 : List NettingSet) (ba2 : List NettingFlow) (ba3 : List NettingFlow) (bf4 : List (Key_ × Int)) : Tr × Hp := (mkS [(0, (.own 0)), (6, (.own 2)), (7, (.pl (.sl .nil 0 []))), (9, (.mp 3))], [jR 3 NettingSet.cells bo1, jR 6 NettingFlow.cells ba2, jR 6 NettingFlow.cells ba3, some (.map (bf4.map (mkv (pAgg Key_.cells) (pInt .i64))))])
noncomputable def f32r1n3 (bo1 : List NettingSet) (ba2 : List NettingFlow) (ba3 : List NettingFlow) (bf4 : List (Key_ × Int)) (p : List (Key_ × Int)) : Option f32r1n3O :=
  (f32r1n4 bo1 ba2 ba3 bf4 p []).bind fun o119 => match o119 with
  | .exit2 v121 => some (.norm v121)
  | .ret => some .ret
theorem f32r1n3_ok (bo1 : List NettingSet) (ba2 : List NettingFlow) (ba3 : List NettingFlow) (bf4 : List (Key_ × Int)) {Q : f32r1n3O → Prop} (H : ∀ p, p.Perm bf4 → ∃ o, f32r1n3 bo1 ba2 ba3 bf4 p = some o ∧ Q o) : T Try.prog Try.f32.ntmps 2 (cL (dropC 0 (dropC 1 (dropC 2 c32)))) (f32r1n3S bo1 ba2 ba3 bf4) (fun r => ∃ o, Q o ∧ r = f32r1n3E bo1 ba2 ba3 bf4 o) := by
  refine rN cfg_ok 1 [j3] [] [.mat 7 6] [2, 5, 4, 3] [0, 6, 7, 62] (f32r1n4S bo1 ba2 ba3 bf4 [] []) an ?_
  refine T.lastQ (T.blQ (i := 2) (by kernel_rfl) (by kernel_rfl) (f32r1n4_ok bo1 ba2 ba3 bf4 _ [] (List.range bf4.length) [] (Rem.start _) (Nat.lt_succ_self _) (Q := fun y => ∃ o, (match y with | .exit2 v121 => some (.norm v121) | .ret => some .ret) = some o ∧ Q o) (fun p hp => by obtain ⟨o, h, hq⟩ := H _ (ords_perm hp); unfold f32r1n3 at h; obtain ⟨y, hy, h⟩ := bind_ex h; exact ⟨y, hy, o, h, hq⟩))) ?_
  rintro y ⟨o, h, hq⟩
  cases y with
  | exit2 v121 =>
    obtain rfl := some_inj h
    exact Tidy.of [] [2, 3] [6, 7] ((f32r1n3E bo1 ba2 ba3 bf4 (.norm v121)).2) (by kernel_rfl) an ⟨_, hq, rfl⟩
  | ret =>
    obtain rfl := some_inj h
    exact Tidy.of [] [] [6, 7, 8] ((f32r1n3E bo1 ba2 ba3 bf4 .ret).2) (by kernel_rfl) an ⟨_, hq, rfl⟩
inductive f32r1n0O where
  | ret (v130 : Int) (v131 : List NettingFlow) (v132 : List NettingFlow)
def f32r1n0E (a1 : List NettingSet) (a2 : List NettingFlow) : f32r1n0O → Ex × Tr × Hp
  | .ret v130 v131 v132 => (.ret, mkS [(6, (.own 2)), (7, (.own 3)), (8, (jI v130))], [jR 3 NettingSet.cells a1, jR 6 NettingFlow.cells a2, jR 6 NettingFlow.cells v131, jR 6 NettingFlow.cells v132])
def f32r1n0S (a1 : List NettingSet) (a2 : List NettingFlow) : Tr × Hp := (initS [(.own 0), (.own 1), (.pl (.fn 33))] 0 .leaf, [jR 3 NettingSet.cells a1, jR 6 NettingFlow.cells a2])
noncomputable def f32r1n0 (a1 : List NettingSet) (a2 : List NettingFlow) : Option f32r1n0O :=
  (f32r1n1 a1 a2).bind fun o63 => match o63 with
  | .norm v65 v66 => (anyOrder v66 fun p => (f32r1n3 a1 a2 v65 v66 p).bind fun o123 => match o123 with
    | .norm v125 => (f34r1 v125).bind fun x128 =>
      some (.ret 0 v65 x128)
    | .ret => some (.ret 14 [] []))
theorem f32r1n0_ok (a1 : List NettingSet) (a2 : List NettingFlow) {o : f32r1n0O} (h : (f32r1n0 a1 a2) = some o) : T Try.prog Try.f32.ntmps 2 c32 (f32r1n0S a1 a2) (fun r => r = f32r1n0E a1 a2 o) := by
  unfold f32r1n0 at h
  refine rN cfg_ok 2 [j3, j3] [] [] [2] [0, 1, 2, 6, 7, 9] (f32r1n1S a1 a2) an ?_
  obtain ⟨o63, h64, h⟩ := bind_cases h
  cases o63 with
  | norm v65 v66 =>
    refine T.oneN (by kernel_rfl) (f32r1n1_ok a1 a2 h64) (st2 := (f32r1n1E a1 a2 (.norm v65 v66)).2) rfl ?_
    refine rN cfg_ok 0 [] [] [] [2, 3] [0, 6, 7, 9] (f32r1n3S a1 a2 v65 v66) an ?_
    refine T.oneQ (by kernel_rfl) (f32r1n3_ok a1 a2 v65 v66 (fun p hp => bind_ex (anyOrder_at h p hp))) ?_
    intro o123 h
    cases o123 with
    | norm v125 =>
      refine OneR.go ((f32r1n3E a1 a2 v65 v66 (.norm v125)).2) rfl ?_
      obtain ⟨x128, h129, h⟩ := bind_cases h
      obtain rfl := some_inj h
      exact rE cfg_ok [([], [(1, .call (.tup []) (jN 3 [jR 6 NettingFlow.cells x128]))], []), j3] [] [] [2, 3] [6, 7, 8] (.ret, (f32r1n0E a1 a2 (.ret 0 v65 x128)).2) (ap (CallS.rn 4 [3] (f34r1_ok v125 h129)) an) rfl
    | ret =>
      obtain rfl := some_inj h
      exact OneR.out [.mat 6 6, .mat 7 6] [2, 3] [6, 7, 8] ((f32r1n0E a1 a2 (.ret 14 [] [])).2) (by kernel_rfl) an rfl rfl
noncomputable def f32r1 (a1 : List NettingSet) (a2 : List NettingFlow) : Option (Int × (List NettingFlow) × (List NettingFlow)) := (f32r1n0 a1 a2).bind fun o => match o with
  | .ret v130 v131 v132 => some (v130, v131, v132)
theorem f32r1_ok (a1 : List NettingSet) (a2 : List NettingFlow) {r : Int × (List NettingFlow) × (List NettingFlow)} (h : (f32r1 a1 a2) = some r) : CallS Try.prog true 32 [(.own 0), (.own 1), (.pl (.fn 33))] [jR 3 NettingSet.cells a1, jR 6 NettingFlow.cells a2] (.tup [(.own 2), (.own 3), (jI r.1)]) [jR 3 NettingSet.cells a1, jR 6 NettingFlow.cells a2, jR 6 NettingFlow.cells r.2.1, jR 6 NettingFlow.cells r.2.2] := by
  unfold f32r1 at h
  obtain ⟨o, ho, h⟩ := bind_cases h
  cases o with
  | ret v130 v131 v132 =>
    obtain rfl := some_inj h
    exact CallS.shared cfg_ok (f := Try.f32) (c := c32) (by kernel_rfl) (by kernel_rfl) (by kernel_rfl) ((f32r1n0_ok a1 a2 ho).mono fun r e => by subst e; exact ⟨.inl rfl, by kernel_rfl, by kernel_rfl⟩)

noncomputable def c13 : Code := Try.f13.body.getD .skip
inductive f13r1n1O where
  | norm (v21 : List NettingFlow)
def f13r1n1E (bo1 : List NettingSet) (ba2 : List NettingFlow) (bq3 : Int × (List NettingFlow) × (List NettingFlow)) : f13r1n1O → Ex × Tr × Hp
  | .norm v21 => (.norm, mkS [(10, (.own 2))], [jR 3 NettingSet.cells bo1, jR 6 NettingFlow.cells ba2, jR 6 NettingFlow.cells v21])
def f13r1n1S (bo1 : List NettingSet) (ba2 : List NettingFlow) (bq3 : Int × (List NettingFlow) × (List NettingFlow)) : Tr × Hp := (mkS [(7, (.own 2)), (8, (.own 3))], [jR 3 NettingSet.cells bo1, jR 6 NettingFlow.cells ba2, jR 6 NettingFlow.cells bq3.2.1, jR 6 NettingFlow.cells bq3.2.2])
noncomputable def f13r1n1 (bo1 : List NettingSet) (ba2 : List NettingFlow) (bq3 : Int × (List NettingFlow) × (List NettingFlow)) : Option f13r1n1O :=
  bif (bq3.2.2.isEmpty) then
    some (.norm bq3.2.1)
  else
    req (fit (bq3.2.1.length + bq3.2.2.length) 80) <|
    some (.norm (bq3.2.1 ++ bq3.2.2))
theorem f13r1n1_ok (bo1 : List NettingSet) (ba2 : List NettingFlow) (bq3 : Int × (List NettingFlow) × (List NettingFlow)) {o : f13r1n1O} (h : (f13r1n1 bo1 ba2 bq3) = some o) : T Try.prog Try.f13.ntmps 2 (cL (dropC 4 c13)) (f13r1n1S bo1 ba2 bq3) (fun r => r = f13r1n1E bo1 ba2 bq3 o) := by
  unfold f13r1n1 at h
  rcases cond_cases h with ⟨h19, h⟩ | ⟨h19, h⟩
  · obtain rfl := some_inj h
    exact rE cfg_ok [([], [(2, .app false)], [])] [] [] [2] [10] (.norm, (f13r1n1E bo1 ba2 bq3 (.norm bq3.2.1)).2) (ap (nil_map (c := NettingFlow.cells) h19) an) rfl
  · obtain ⟨h20, h⟩ := req_cases h
    obtain rfl := some_inj h
    exact rE cfg_ok [([], [(2, .app true)], [(2, .row 4 ((bq3.2.1 ++ bq3.2.2).map NettingFlow.cells))])] [] [] [4] [10] (.norm, (f13r1n1E bo1 ba2 bq3 (.norm (bq3.2.1 ++ bq3.2.2))).2) (ap (fit_map2 (te := ti32) (xs := bq3.2.1) (ys := bq3.2.2) (c := NettingFlow.cells) (d := NettingFlow.cells) h20 rfl) (ap (ne_map (c := NettingFlow.cells) h19) (ap (len_all (c := NettingFlow.cells) (xs := bq3.2.2) (n := 6) (fun _ => rfl)) (ap (app_cv (xs := bq3.2.1) (ys := bq3.2.2) (c := NettingFlow.cells)) an)))) rfl
inductive f13r1n0O where
  | ret (v29 : Int) (v30 : List NettingFlow)
def f13r1n0E (a1 : List NettingSet) (a2 : List NettingFlow) : f13r1n0O → Ex × Tr × Hp
  | .ret v29 v30 => (.ret, mkS [(4, (.own 2)), (5, (jI v29))], [jR 3 NettingSet.cells a1, jR 6 NettingFlow.cells a2, jR 6 NettingFlow.cells v30])
def f13r1n0S (a1 : List NettingSet) (a2 : List NettingFlow) : Tr × Hp := (initS [(.own 0), (.own 1)] 0 .leaf, [jR 3 NettingSet.cells a1, jR 6 NettingFlow.cells a2])
noncomputable def f13r1n0 (a1 : List NettingSet) (a2 : List NettingFlow) : Option f13r1n0O :=
  (f21 a1 a2).bind fun x6 =>
  bif (decide (x6 = 0)) then
    (f32r1 a1 a2).bind fun x11 =>
    bif (decide (x11.1 = 0)) then
      (f13r1n1 a1 a2 x11).bind fun o22 => match o22 with
      | .norm v24 => (f34r1 v24).bind fun x27 =>
        some (.ret 0 x27)
    else
      some (.ret x11.1 [])
  else
    some (.ret x6 [])
theorem f13r1n0_ok (a1 : List NettingSet) (a2 : List NettingFlow) {o : f13r1n0O} (h : (f13r1n0 a1 a2) = some o) : T Try.prog Try.f13.ntmps 2 c13 (f13r1n0S a1 a2) (fun r => r = f13r1n0E a1 a2 o) := by
  unfold f13r1n0 at h
  obtain ⟨x6, h7, h⟩ := bind_cases h
  rcases cond_cases h with ⟨h8, h⟩ | ⟨h8, h⟩
  · obtain ⟨x11, h12, h⟩ := bind_cases h
    rcases cond_cases h with ⟨h14, h⟩ | ⟨h14, h⟩
    · refine rN cfg_ok 4 [j3, ([], [jH 2 (jI x6)], []), j3, ([], [(2, .call (.tup [(.own 2), (.own 3), (jI x11.1)]) [jR 3 NettingSet.cells a1, jR 6 NettingFlow.cells a2, jR 6 NettingFlow.cells x11.2.1, jR 6 NettingFlow.cells x11.2.2])], []), j3] [some false, some false] [] [2, 3] [7, 8] (f13r1n1S a1 a2 x11) (ap (f21_ok a1 a2 h7) (ap (not_t h8) (ap (f32r1_ok a1 a2 h12) (ap (not_t h14) an)))) ?_
      obtain ⟨o22, h23, h⟩ := bind_cases h
      cases o22 with
      | norm v24 =>
        refine T.oneN (by kernel_rfl) (f13r1n1_ok a1 a2 x11 h23) (st2 := (f13r1n1E a1 a2 x11 (.norm v24)).2) rfl ?_
        obtain ⟨x27, h28, h⟩ := bind_cases h
        obtain rfl := some_inj h
        exact rE cfg_ok [([], [(1, .call (.tup []) [none, none, jR 6 NettingFlow.cells x27])], []), j3] [] [] [2] [4, 5] (.ret, (f13r1n0E a1 a2 (.ret 0 x27)).2) (ap (CallS.rn 3 [2] (f34r1_ok v24 h28)) an) rfl
    · obtain rfl := some_inj h
      exact rK cfg_ok 4 [j3, ([], [jH 2 (jI x6)], []), j3, ([], [(2, .call (.tup [(.own 2), (.own 3), (jI x11.1)]) [jR 3 NettingSet.cells a1, jR 6 NettingFlow.cells a2, jR 6 NettingFlow.cells x11.2.1, jR 6 NettingFlow.cells x11.2.2])], []), j3, j3] [some false, some true] [.mat 4 6] [4] [4, 5] .ret ((f13r1n0E a1 a2 (.ret x11.1 [])).2) (ap (f21_ok a1 a2 h7) (ap (not_t h8) (ap (f32r1_ok a1 a2 h12) (ap (not_f h14) an)))) rfl
  · obtain rfl := some_inj h
    exact rK cfg_ok 2 [j3, ([], [jH 2 (jI x6)], []), j3, j3] [some true] [.mat 4 6] [2] [4, 5] .ret ((f13r1n0E a1 a2 (.ret x6 [])).2) (ap (f21_ok a1 a2 h7) (ap (not_f h8) an)) rfl
noncomputable def f13r1 (a1 : List NettingSet) (a2 : List NettingFlow) : Option (Int × (List NettingFlow)) := (f13r1n0 a1 a2).bind fun o => match o with
  | .ret v29 v30 => some (v29, v30)
theorem f13r1_ok (a1 : List NettingSet) (a2 : List NettingFlow) {r : Int × (List NettingFlow)} (h : (f13r1 a1 a2) = some r) : CallS Try.prog true 13 [(.own 0), (.own 1)] [jR 3 NettingSet.cells a1, jR 6 NettingFlow.cells a2] (.tup [(.own 2), (jI r.1)]) [jR 3 NettingSet.cells a1, jR 6 NettingFlow.cells a2, jR 6 NettingFlow.cells r.2] := by
  unfold f13r1 at h
  obtain ⟨o, ho, h⟩ := bind_cases h
  cases o with
  | ret v29 v30 =>
    obtain rfl := some_inj h
    exact CallS.shared cfg_ok (f := Try.f13) (c := c13) (by kernel_rfl) (by kernel_rfl) (by kernel_rfl) ((f13r1n0_ok a1 a2 ho).mono fun r e => by subst e; exact ⟨.inl rfl, by kernel_rfl, by kernel_rfl⟩)

noncomputable def c24 : Code := Try.f24.body.getD .skip
inductive f24n3O where
  | norm (v158 : Bool)
def f24n3E (bo1 : List NettingSet) (bd2 : Int) : f24n3O → Ex × Tr × Hp
  | .norm v158 => (.norm, mkS [(0, (jL 3 NettingSet.cells bo1)), (3, (jI bd2)), (66, (jB v158))], [])
def f24n3S (bo1 : List NettingSet) (bd2 : Int) : Tr × Hp := (mkS [(0, (jL 3 NettingSet.cells bo1)), (3, (jI bd2))], [])
noncomputable def f24n3 (bo1 : List NettingSet) (bd2 : Int) : Option f24n3O :=
  bif (decide (0 < bd2)) then
    (at? bo1 (wr64 (bd2 - 1))).bind fun x154 =>
    (at? bo1 bd2).bind fun x156 =>
    some (.norm (!(slt x154.Name x156.Name)))
  else
    some (.norm false)
theorem f24n3_ok (bo1 : List NettingSet) (bd2 : Int) {o : f24n3O} (h : (f24n3 bo1 bd2) = some o) : T Try.prog Try.f24.ntmps 0 (cL (dropC 0 (dropC 1 (cL (cL (dropC 1 (cL (cL (dropC 1 (cL (dropC 2 c24))))))))))) (f24n3S bo1 bd2) (fun r => r = f24n3E bo1 bd2 o) := by
  unfold f24n3 at h
  rcases cond_cases h with ⟨h153, h⟩ | ⟨h153, h⟩
  · obtain ⟨x154, h155, h⟩ := bind_cases h
    obtain ⟨x156, h157, h⟩ := bind_cases h
    obtain rfl := some_inj h
    exact rE cfg_ok [(jT [3, 4, 5, 6, 7, 8, 9, 10, 11, 12, 13, 14], [(6, .idx (Int.toNat (wr64 (bd2 - 1))) (NettingSet.cells x154)), (11, .idx (Int.toNat bd2) (NettingSet.cells x156)), (15, .bool true)], [])] [] [] [] [0, 3, 66] (.norm, (f24n3E bo1 bd2 (.norm (!(slt x154.Name x156.Name)))).2) (ap4 h153 (ap (at_some h155).1 (ap (at_map NettingSet.cells (at_some h155).2) (ap h153 (ap4 h153 (ap (at_some h157).1 (ap (at_map NettingSet.cells (at_some h157).2) (ap4 h153 an)))))))) rfl
  · obtain rfl := some_inj h
    exact rE cfg_ok [(jF [3, 4, 5, 6, 7, 8, 9, 10, 11, 12, 13, 14], [(15, .bool false)], [])] [] [] [] [0, 3, 66] (.norm, (f24n3E bo1 bd2 (.norm false)).2) (ap h153 (ap4 h153 (ap4 h153 (ap4 h153 an)))) rfl
inductive f24n2O where
  | norm
  | ret
def f24n2E (bo1 : List NettingSet) (bd2 : Int) : f24n2O → Ex × Tr × Hp
  | .norm => (.norm, mkS [(0, (jL 3 NettingSet.cells bo1)), (3, (jI bd2))], [])
  | .ret => (.ret, mkS [(2, (jI 8))], [])
def f24n2S (bo1 : List NettingSet) (bd2 : Int) : Tr × Hp := (mkS [(0, (jL 3 NettingSet.cells bo1)), (3, (jI bd2))], [])
noncomputable def f24n2 (bo1 : List NettingSet) (bd2 : Int) : Option f24n2O :=
  (at? bo1 bd2).bind fun x129 =>
  (f49 x129.Name).bind fun x131 =>
  bif x131 then
    (f49 x129.First).bind fun x134 =>
    bif x134 then
      (f49 x129.Second).bind fun x137 =>
      bif x137 then
        bif (slt x129.First x129.Second) then
          (f24n3 bo1 bd2).bind fun o159 => match o159 with
          | .norm v161 => bif v161 then
              some .ret
            else
              some .norm
        else
          some .ret
      else
        some .ret
    else
      some .ret
  else
    some .ret
theorem f24n2_ok (bo1 : List NettingSet) (bd2 : Int) {o : f24n2O} (h : (f24n2 bo1 bd2) = some o) : T Try.prog Try.f24.ntmps 0 (cL (dropC 1 (cL (cL (dropC 1 (cL (dropC 2 c24))))))) (f24n2S bo1 bd2) (fun r => r = f24n2E bo1 bd2 o) := by
  unfold f24n2 at h
  refine T.block' (i := 1) (by kernel_rfl) ?_
  obtain ⟨x129, h130, h⟩ := bind_cases h
  obtain ⟨x131, h132, h⟩ := bind_cases h
  rcases cond_cases h with ⟨h133, h⟩ | ⟨h133, h⟩
  · obtain ⟨x134, h135, h⟩ := bind_cases h
    rcases cond_cases h with ⟨h136, h⟩ | ⟨h136, h⟩
    · obtain ⟨x137, h138, h⟩ := bind_cases h
      rcases cond_cases h with ⟨h139, h⟩ | ⟨h139, h⟩
      · rcases cond_cases h with ⟨h140, h⟩ | ⟨h140, h⟩
        · refine rN cfg_ok 1 [(jF [8, 9, 10, 11, 12, 13, 14, 17, 18, 19, 20, 21, 22, 23, 26, 27, 28, 29, 30, 31, 32, 33, 34, 35, 36], [(2, .idx (Int.toNat bd2) (NettingSet.cells x129)), jH 5 (jB x131), (10, .idx (Int.toNat bd2) (NettingSet.cells x129)), jH 13 (jB x134), (15, .bool false), (19, .idx (Int.toNat bd2) (NettingSet.cells x129)), jH 22 (jB x137), (24, .bool false), (28, .idx (Int.toNat bd2) (NettingSet.cells x129)), (33, .idx (Int.toNat bd2) (NettingSet.cells x129)), (37, .bool false)], [])] [some false] [] [] [0, 3] (mkS [(0, (jL 3 NettingSet.cells bo1)), (3, (jI bd2))], []) (ap (at_some h130).1 (ap (at_map NettingSet.cells (at_some h130).2) (ap3 (not_t h133) (ap (at_some h130).1 (ap (at_map NettingSet.cells (at_some h130).2) (ap (not_t h133) (ap4 (not_t h133) (ap3 (not_t h136) (ap (at_some h130).1 (ap (at_map NettingSet.cells (at_some h130).2) (ap (not_t h136) (ap4 (not_t h136) (ap3 (not_t h139) (ap (at_some h130).1 (ap (at_map NettingSet.cells (at_some h130).2) (ap (not_t h139) (ap4 (not_t h139) (ap (at_some h130).1 (ap (at_map NettingSet.cells (at_some h130).2) (ap4 (not_t h139) (ap (same_val (e := ⟨false, 49, [(jS x129.Name)], [], (jB x131), []⟩) (f := ⟨false, 49, [(jS x129.First)], [], (jB x134), []⟩) (fun k => by simp only [jL, jS, jI, jB, jA, NettingFlow.cells_eq, NettingFlow.map_eq, NettingSet.cells_eq, NettingSet.map_eq, Key_.cells_eq, Key_.map_eq, Row_.cells_eq, Row_.map_eq, List.cons.injEq, AV.pl.injEq, PV.str.injEq, PV.int.injEq, PV.bool.injEq, PV.agg.injEq, PV.sl.injEq, and_true, true_and] at k; have e0 : x131 = x134 := Option.some.inj (by rw [← h132, ← h135]; simp only [k]); exact ⟨by rw [e0], rfl⟩)) (ap (same_val (e := ⟨false, 49, [(jS x129.Name)], [], (jB x131), []⟩) (f := ⟨false, 49, [(jS x129.Second)], [], (jB x137), []⟩) (fun k => by simp only [jL, jS, jI, jB, jA, NettingFlow.cells_eq, NettingFlow.map_eq, NettingSet.cells_eq, NettingSet.map_eq, Key_.cells_eq, Key_.map_eq, Row_.cells_eq, Row_.map_eq, List.cons.injEq, AV.pl.injEq, PV.str.injEq, PV.int.injEq, PV.bool.injEq, PV.agg.injEq, PV.sl.injEq, and_true, true_and] at k; have e0 : x131 = x137 := Option.some.inj (by rw [← h132, ← h138]; simp only [k]); exact ⟨by rw [e0], rfl⟩)) (ap (same_val (e := ⟨false, 49, [(jS x129.First)], [], (jB x134), []⟩) (f := ⟨false, 49, [(jS x129.Second)], [], (jB x137), []⟩) (fun k => by simp only [jL, jS, jI, jB, jA, NettingFlow.cells_eq, NettingFlow.map_eq, NettingSet.cells_eq, NettingSet.map_eq, Key_.cells_eq, Key_.map_eq, Row_.cells_eq, Row_.map_eq, List.cons.injEq, AV.pl.injEq, PV.str.injEq, PV.int.injEq, PV.bool.injEq, PV.agg.injEq, PV.sl.injEq, and_true, true_and] at k; have e0 : x134 = x137 := Option.some.inj (by rw [← h135, ← h138]; simp only [k]); exact ⟨by rw [e0], rfl⟩)) (ap (f49_ok x129.Name h132) (ap (f49_ok x129.First h135) (ap (f49_ok x129.Second h138) (ap (not_t h140) an))))))))))))))))))))))))))) ?_
          refine rN cfg_ok 0 [] [] [] [] [0, 3] (f24n3S bo1 bd2) an ?_
          obtain ⟨o159, h160, h⟩ := bind_cases h
          cases o159 with
          | norm v161 =>
            refine T.oneN (by kernel_rfl) (f24n3_ok bo1 bd2 h160) (st2 := (f24n3E bo1 bd2 (.norm v161)).2) rfl ?_
            rcases cond_cases h with ⟨h163, h⟩ | ⟨h163, h⟩
            · obtain rfl := some_inj h
              exact rE cfg_ok [j3] [some true] [] [] [2] (.ret, (f24n2E bo1 bd2 .ret).2) (ap h163 an) rfl
            · obtain rfl := some_inj h
              exact rE cfg_ok [] [some false] [] [] [0, 3] (.norm, (f24n2E bo1 bd2 .norm).2) (ap h163 an) rfl
        · obtain rfl := some_inj h
          exact rK cfg_ok 1 [(jF [8, 9, 10, 11, 12, 13, 14, 17, 18, 19, 20, 21, 22, 23, 26, 27, 28, 29, 30, 31, 32, 33, 34, 35, 36], [(2, .idx (Int.toNat bd2) (NettingSet.cells x129)), jH 5 (jB x131), (10, .idx (Int.toNat bd2) (NettingSet.cells x129)), jH 13 (jB x134), (15, .bool false), (19, .idx (Int.toNat bd2) (NettingSet.cells x129)), jH 22 (jB x137), (24, .bool false), (28, .idx (Int.toNat bd2) (NettingSet.cells x129)), (33, .idx (Int.toNat bd2) (NettingSet.cells x129)), (37, .bool false)], []), j3] [some true] [] [] [2] .ret ((f24n2E bo1 bd2 .ret).2) (ap (at_some h130).1 (ap (at_map NettingSet.cells (at_some h130).2) (ap3 (not_t h133) (ap (at_some h130).1 (ap (at_map NettingSet.cells (at_some h130).2) (ap (not_t h133) (ap4 (not_t h133) (ap3 (not_t h136) (ap (at_some h130).1 (ap (at_map NettingSet.cells (at_some h130).2) (ap (not_t h136) (ap4 (not_t h136) (ap3 (not_t h139) (ap (at_some h130).1 (ap (at_map NettingSet.cells (at_some h130).2) (ap (not_t h139) (ap4 (not_t h139) (ap (at_some h130).1 (ap (at_map NettingSet.cells (at_some h130).2) (ap4 (not_t h139) (ap (same_val (e := ⟨false, 49, [(jS x129.Name)], [], (jB x131), []⟩) (f := ⟨false, 49, [(jS x129.First)], [], (jB x134), []⟩) (fun k => by simp only [jL, jS, jI, jB, jA, NettingFlow.cells_eq, NettingFlow.map_eq, NettingSet.cells_eq, NettingSet.map_eq, Key_.cells_eq, Key_.map_eq, Row_.cells_eq, Row_.map_eq, List.cons.injEq, AV.pl.injEq, PV.str.injEq, PV.int.injEq, PV.bool.injEq, PV.agg.injEq, PV.sl.injEq, and_true, true_and] at k; have e0 : x131 = x134 := Option.some.inj (by rw [← h132, ← h135]; simp only [k]); exact ⟨by rw [e0], rfl⟩)) (ap (same_val (e := ⟨false, 49, [(jS x129.Name)], [], (jB x131), []⟩) (f := ⟨false, 49, [(jS x129.Second)], [], (jB x137), []⟩) (fun k => by simp only [jL, jS, jI, jB, jA, NettingFlow.cells_eq, NettingFlow.map_eq, NettingSet.cells_eq, NettingSet.map_eq, Key_.cells_eq, Key_.map_eq, Row_.cells_eq, Row_.map_eq, List.cons.injEq, AV.pl.injEq, PV.str.injEq, PV.int.injEq, PV.bool.injEq, PV.agg.injEq, PV.sl.injEq, and_true, true_and] at k; have e0 : x131 = x137 := Option.some.inj (by rw [← h132, ← h138]; simp only [k]); exact ⟨by rw [e0], rfl⟩)) (ap (same_val (e := ⟨false, 49, [(jS x129.First)], [], (jB x134), []⟩) (f := ⟨false, 49, [(jS x129.Second)], [], (jB x137), []⟩) (fun k => by simp only [jL, jS, jI, jB, jA, NettingFlow.cells_eq, NettingFlow.map_eq, NettingSet.cells_eq, NettingSet.map_eq, Key_.cells_eq, Key_.map_eq, Row_.cells_eq, Row_.map_eq, List.cons.injEq, AV.pl.injEq, PV.str.injEq, PV.int.injEq, PV.bool.injEq, PV.agg.injEq, PV.sl.injEq, and_true, true_and] at k; have e0 : x134 = x137 := Option.some.inj (by rw [← h135, ← h138]; simp only [k]); exact ⟨by rw [e0], rfl⟩)) (ap (f49_ok x129.Name h132) (ap (f49_ok x129.First h135) (ap (f49_ok x129.Second h138) (ap (not_f h140) an))))))))))))))))))))))))))) rfl
      · obtain rfl := some_inj h
        exact rK cfg_ok 1 [(jF [8, 9, 10, 11, 12, 13, 14, 17, 18, 19, 20, 21, 22, 23] ++ jT [26, 27, 28, 29, 30, 31, 32, 33, 34, 35, 36], [(2, .idx (Int.toNat bd2) (NettingSet.cells x129)), jH 5 (jB x131), (10, .idx (Int.toNat bd2) (NettingSet.cells x129)), jH 13 (jB x134), (15, .bool false), (19, .idx (Int.toNat bd2) (NettingSet.cells x129)), jH 22 (jB x137), (24, .bool false), (37, .bool true)], []), j3] [none] [] [] [2] .ret ((f24n2E bo1 bd2 .ret).2) (ap (at_some h130).1 (ap (at_map NettingSet.cells (at_some h130).2) (ap3 (not_t h133) (ap (at_some h130).1 (ap (at_map NettingSet.cells (at_some h130).2) (ap (not_t h133) (ap4 (not_t h133) (ap3 (not_t h136) (ap (at_some h130).1 (ap (at_map NettingSet.cells (at_some h130).2) (ap (not_t h136) (ap4 (not_t h136) (ap4 (not_f h139) (ap4 (not_f h139) (ap4 (not_f h139) (ap (same_val (e := ⟨false, 49, [(jS x129.Name)], [], (jB x131), []⟩) (f := ⟨false, 49, [(jS x129.First)], [], (jB x134), []⟩) (fun k => by simp only [jL, jS, jI, jB, jA, NettingFlow.cells_eq, NettingFlow.map_eq, NettingSet.cells_eq, NettingSet.map_eq, Key_.cells_eq, Key_.map_eq, Row_.cells_eq, Row_.map_eq, List.cons.injEq, AV.pl.injEq, PV.str.injEq, PV.int.injEq, PV.bool.injEq, PV.agg.injEq, PV.sl.injEq, and_true, true_and] at k; have e0 : x131 = x134 := Option.some.inj (by rw [← h132, ← h135]; simp only [k]); exact ⟨by rw [e0], rfl⟩)) (ap (same_val (e := ⟨false, 49, [(jS x129.Name)], [], (jB x131), []⟩) (f := ⟨false, 49, [(jS x129.Second)], [], (jB x137), []⟩) (fun k => by simp only [jL, jS, jI, jB, jA, NettingFlow.cells_eq, NettingFlow.map_eq, NettingSet.cells_eq, NettingSet.map_eq, Key_.cells_eq, Key_.map_eq, Row_.cells_eq, Row_.map_eq, List.cons.injEq, AV.pl.injEq, PV.str.injEq, PV.int.injEq, PV.bool.injEq, PV.agg.injEq, PV.sl.injEq, and_true, true_and] at k; have e0 : x131 = x137 := Option.some.inj (by rw [← h132, ← h138]; simp only [k]); exact ⟨by rw [e0], rfl⟩)) (ap (same_val (e := ⟨false, 49, [(jS x129.First)], [], (jB x134), []⟩) (f := ⟨false, 49, [(jS x129.Second)], [], (jB x137), []⟩) (fun k => by simp only [jL, jS, jI, jB, jA, NettingFlow.cells_eq, NettingFlow.map_eq, NettingSet.cells_eq, NettingSet.map_eq, Key_.cells_eq, Key_.map_eq, Row_.cells_eq, Row_.map_eq, List.cons.injEq, AV.pl.injEq, PV.str.injEq, PV.int.injEq, PV.bool.injEq, PV.agg.injEq, PV.sl.injEq, and_true, true_and] at k; have e0 : x134 = x137 := Option.some.inj (by rw [← h135, ← h138]; simp only [k]); exact ⟨by rw [e0], rfl⟩)) (ap (f49_ok x129.Name h132) (ap (f49_ok x129.First h135) (ap (f49_ok x129.Second h138) an))))))))))))))))))))) rfl
    · obtain rfl := some_inj h
      exact rK cfg_ok 1 [(jF [8, 9, 10, 11, 12, 13, 14] ++ jT [17, 18, 19, 20, 21, 22, 23], [(2, .idx (Int.toNat bd2) (NettingSet.cells x129)), jH 5 (jB x131), (10, .idx (Int.toNat bd2) (NettingSet.cells x129)), jH 13 (jB x134), (15, .bool false), (24, .bool true)], []), j3] [none] [] [] [2] .ret ((f24n2E bo1 bd2 .ret).2) (ap (at_some h130).1 (ap (at_map NettingSet.cells (at_some h130).2) (ap3 (not_t h133) (ap (at_some h130).1 (ap (at_map NettingSet.cells (at_some h130).2) (ap (not_t h133) (ap4 (not_t h133) (ap4 (not_f h136) (ap4 (not_f h136) (ap (same_val (e := ⟨false, 49, [(jS x129.Name)], [], (jB x131), []⟩) (f := ⟨false, 49, [(jS x129.First)], [], (jB x134), []⟩) (fun k => by simp only [jL, jS, jI, jB, jA, NettingFlow.cells_eq, NettingFlow.map_eq, NettingSet.cells_eq, NettingSet.map_eq, Key_.cells_eq, Key_.map_eq, Row_.cells_eq, Row_.map_eq, List.cons.injEq, AV.pl.injEq, PV.str.injEq, PV.int.injEq, PV.bool.injEq, PV.agg.injEq, PV.sl.injEq, and_true, true_and] at k; have e0 : x131 = x134 := Option.some.inj (by rw [← h132, ← h135]; simp only [k]); exact ⟨by rw [e0], rfl⟩)) (ap (f49_ok x129.Name h132) (ap (f49_ok x129.First h135) an)))))))))))) rfl
  · obtain rfl := some_inj h
    exact rK cfg_ok 1 [(jT [8, 9, 10, 11, 12, 13, 14], [(2, .idx (Int.toNat bd2) (NettingSet.cells x129)), jH 5 (jB x131), (15, .bool true)], []), j3] [none] [] [] [2] .ret ((f24n2E bo1 bd2 .ret).2) (ap (at_some h130).1 (ap (at_map NettingSet.cells (at_some h130).2) (ap4 (not_f h133) (ap4 (not_f h133) (ap (f49_ok x129.Name h132) an))))) rfl
inductive f24n4O where
  | exit0
  | ret
def f24n4E (bo1 : List NettingSet) : f24n4O → Ex × Tr × Hp
  | .exit0 => ((.exit 0), mkS [], [])
  | .ret => (.ret, mkS [(2, (jI 8))], [])
def f24n4S (bo1 : List NettingSet) (v98 : Int) : Tr × Hp := (mkS [(0, (jL 3 NettingSet.cells bo1)), (3, (jI v98))], [])
noncomputable def f24n4 : Nat → List NettingSet → Int → Option f24n4O
  | 0, _, _ => none
  | f + 1, bo1, v98 =>
    bif (decide (v98 < (bo1.length : Int))) then
      (f24n2 bo1 v98).bind fun o164 => match o164 with
      | .norm => (f24n4 f bo1 (wr64 (v98 + 1)))
      | .ret => some .ret
    else
      some .exit0
theorem f24n4_ok : ∀ (f : Nat) (bo1 : List NettingSet) (v98 : Int) {o : f24n4O}, (f24n4 f bo1 v98) = some o → TL Try.prog Try.f24.ntmps 0 f (cL (cL (dropC 1 (cL (dropC 2 c24))))) (f24n4S bo1 v98) (fun r => r = f24n4E bo1 o)
  | 0, _, _, o, h => by rw [f24n4] at h; cases h
  | f + 1, bo1, v98, o, h => by
    rw [f24n4] at h
    refine TL.body (K := fun s => ∃ v98 : Int, s = (f24n4S bo1 v98) ∧ (f24n4 f bo1 v98) = some o) ?_ (by rintro _ ⟨v98, rfl, hk⟩; exact f24n4_ok f _ _ hk)
    rcases cond_cases h with ⟨h100, h⟩ | ⟨h100, h⟩
    · refine rN cfg_ok 1 [([], [], [(2, .val (jI (bo1.length : Int)))])] [some true] [] [] [0, 3] (f24n2S bo1 v98) (ap (len_cv (xs := bo1) (c := NettingSet.cells)) (ap h100 an)) ?_
      obtain ⟨o164, h165, h⟩ := bind_cases h
      cases o164 with
      | norm =>
        refine T.oneN (by kernel_rfl) (f24n2_ok bo1 v98 h165) (st2 := (f24n2E bo1 v98 .norm).2) rfl ?_
        exact rE cfg_ok [j3] [] [] [] [0, 3] (.norm, (f24n4S bo1 (wr64 (v98 + 1)))) an (LoopQ.norm ⟨(wr64 (v98 + 1)), rfl, h⟩)
      | ret =>
        obtain rfl := some_inj h
        exact T.oneX' (by kernel_rfl) (f24n2_ok bo1 v98 h165) (tds := []) (m := []) (keep := [2]) (st2 := (f24n4E bo1 .ret).2) (by kernel_rfl) an rfl (LoopQ.out rfl rfl)
    · obtain rfl := some_inj h
      exact rK cfg_ok 1 [([], [], [(2, .val (jI (bo1.length : Int)))])] [some false] [] [] [] (.exit 0) ((f24n4E bo1 .exit0).2) (ap (len_cv (xs := bo1) (c := NettingSet.cells)) (ap h100 an)) (LoopQ.out rfl rfl)
inductive f24n1O where
  | norm
  | ret
def f24n1E (bo1 : List NettingSet) : f24n1O → Ex × Tr × Hp
  | .norm => (.norm, mkS [], [])
  | .ret => (.ret, mkS [(2, (jI 8))], [])
def f24n1S (bo1 : List NettingSet) : Tr × Hp := (mkS [(0, (jL 3 NettingSet.cells bo1))], [])
noncomputable def f24n1 (bo1 : List NettingSet) : Option f24n1O :=
  (f24n4 FUEL bo1 0).bind fun o166 => match o166 with
  | .exit0 => some .norm
  | .ret => some .ret
theorem f24n1_ok (bo1 : List NettingSet) {o : f24n1O} (h : (f24n1 bo1) = some o) : T Try.prog Try.f24.ntmps 0 (cL (dropC 2 c24)) (f24n1S bo1) (fun r => r = f24n1E bo1 o) := by
  unfold f24n1 at h
  refine rN cfg_ok 1 [j3] [] [] [] [0, 3] (f24n4S bo1 0) an ?_
  obtain ⟨o166, h167, h⟩ := bind_cases h
  cases o166 with
  | exit0 =>
    obtain rfl := some_inj h
    exact T.last' (T.bl (i := 0) (by kernel_rfl) (by kernel_rfl) (f24n4_ok FUEL bo1 0 h167)) (tds := []) (m := []) (keep := []) (st2 := (f24n1E bo1 .norm).2) (by kernel_rfl) an rfl
  | ret =>
    obtain rfl := some_inj h
    exact T.last' (T.bl (i := 0) (by kernel_rfl) (by kernel_rfl) (f24n4_ok FUEL bo1 0 h167)) (tds := []) (m := []) (keep := [2]) (st2 := (f24n1E bo1 .ret).2) (by kernel_rfl) an rfl
inductive f24n0O where
  | ret (v170 : Int)
def f24n0E (a1 : List NettingSet) : f24n0O → Ex × Tr × Hp
  | .ret v170 => (.ret, mkS [(2, (jI v170))], [])
def f24n0S (a1 : List NettingSet) : Tr × Hp := (initS [(jL 3 NettingSet.cells a1)] 0 .leaf, [])
noncomputable def f24n0 (a1 : List NettingSet) : Option f24n0O :=
  bif (decide (64 < (a1.length : Int))) then
    some (.ret 8)
  else
    (f24n1 a1).bind fun o168 => match o168 with
    | .norm => some (.ret 0)
    | .ret => some (.ret 8)
theorem f24n0_ok (a1 : List NettingSet) {o : f24n0O} (h : (f24n0 a1) = some o) : T Try.prog Try.f24.ntmps 0 c24 (f24n0S a1) (fun r => r = f24n0E a1 o) := by
  unfold f24n0 at h
  rcases cond_cases h with ⟨h3, h⟩ | ⟨h3, h⟩
  · obtain rfl := some_inj h
    exact rK cfg_ok 2 [j3, ([], [], [(1, .val (jI (a1.length : Int)))]), j3] [some true] [] [] [2] .ret ((f24n0E a1 (.ret 8)).2) (ap (len_cv (xs := a1) (c := NettingSet.cells)) (ap h3 an)) rfl
  · refine rN cfg_ok 2 [j3, ([], [], [(1, .val (jI (a1.length : Int)))])] [some false] [] [] [0] (f24n1S a1) (ap (len_cv (xs := a1) (c := NettingSet.cells)) (ap h3 an)) ?_
    obtain ⟨o168, h169, h⟩ := bind_cases h
    cases o168 with
    | norm =>
      refine T.oneN (by kernel_rfl) (f24n1_ok a1 h169) (st2 := (f24n1E a1 .norm).2) rfl ?_
      obtain rfl := some_inj h
      exact rE cfg_ok [j3] [] [] [] [2] (.ret, (f24n0E a1 (.ret 0)).2) an rfl
    | ret =>
      obtain rfl := some_inj h
      exact T.oneX' (by kernel_rfl) (f24n1_ok a1 h169) (tds := []) (m := []) (keep := [2]) (st2 := (f24n0E a1 (.ret 8)).2) (by kernel_rfl) an rfl rfl
noncomputable def f24 (a1 : List NettingSet) : Option Int := (f24n0 a1).bind fun o => match o with
  | .ret v170 => some v170
theorem f24_ok (a1 : List NettingSet) {r : Int} (h : (f24 a1) = some r) : CallS Try.prog false 24 [(jL 3 NettingSet.cells a1)] [] (jI r) [] := by
  unfold f24 at h
  obtain ⟨o, ho, h⟩ := bind_cases h
  cases o with
  | ret v170 =>
    obtain rfl := some_inj h
    exact CallS.plain cfg_ok (f := Try.f24) (c := c24) (by kernel_rfl) (by kernel_rfl) (by kernel_rfl) (by kernel_rfl) ((f24n0_ok a1 ho).mono fun r e => by subst e; exact ⟨.inl rfl, (jI v170), (jI v170), by kernel_rfl, by kernel_rfl, ((Wk.refl _) : Wk (jI v170) (jI v170))⟩)

noncomputable def c44 : Code := Try.f44.body.getD .skip
inductive f44n2O where
  | exit0
  | ret (v29 : NettingSet)
def f44n2E (bo1 : List NettingSet) (bb2 : ByteArray) : f44n2O → Ex × Tr × Hp
  | .exit0 => ((.exit 0), mkS [(4, (.bp 0 0))], [some (.box ((NettingSet.cells (NettingSet.mk str_x str_x str_x)).map .pl))])
  | .ret v29 => (.ret, mkS [(4, (.bp 0 0)), (5, (jB true))], [some (.box ((NettingSet.cells v29).map .pl))])
def f44n2S (bo1 : List NettingSet) (bb2 : ByteArray) (v20 : Int) : Tr × Hp := (mkS [(0, (jL 3 NettingSet.cells bo1)), (1, (jS bb2)), (4, (.bp 0 0)), (6, (jI v20))], [some (.box ((NettingSet.cells (NettingSet.mk str_x str_x str_x)).map .pl))])
noncomputable def f44n2 : Nat → List NettingSet → ByteArray → Int → Option f44n2O
  | 0, _, _, _ => none
  | f + 1, bo1, bb2, v20 =>
    bif (decide (v20 < (bo1.length : Int))) then
      (at? bo1 v20).bind fun x26 =>
      bif (seq x26.Name bb2) then
        some (.ret x26)
      else
        (f44n2 f bo1 bb2 (wr64 (v20 + 1)))
    else
      some .exit0
theorem f44n2_ok : ∀ (f : Nat) (bo1 : List NettingSet) (bb2 : ByteArray) (v20 : Int) {o : f44n2O}, (f44n2 f bo1 bb2 v20) = some o → TL Try.prog Try.f44.ntmps 0 f (cL (cL (dropC 1 (cL (dropC 1 c44))))) (f44n2S bo1 bb2 v20) (fun r => r = f44n2E bo1 bb2 o)
  | 0, _, _, _, o, h => by rw [f44n2] at h; cases h
  | f + 1, bo1, bb2, v20, o, h => by
    rw [f44n2] at h
    refine TL.body (K := fun s => ∃ v20 : Int, s = (f44n2S bo1 bb2 v20) ∧ (f44n2 f bo1 bb2 v20) = some o) ?_ (by rintro _ ⟨v20, rfl, hk⟩; exact f44n2_ok f _ _ _ hk)
    rcases cond_cases h with ⟨h22, h⟩ | ⟨h22, h⟩
    · obtain ⟨x26, h27, h⟩ := bind_cases h
      rcases cond_cases h with ⟨h28, h⟩ | ⟨h28, h⟩
      · obtain rfl := some_inj h
        exact rK cfg_ok 2 [([], [], [(2, .val (jI (bo1.length : Int)))]), ([], [(2, .idx (Int.toNat v20) (NettingSet.cells x26))], []), ([], [(2, .idx (Int.toNat v20) (NettingSet.cells x26))], [])] [some true, some true] [] [0] [4, 5] .ret ((f44n2E bo1 bb2 (.ret x26)).2) (ap (len_cv (xs := bo1) (c := NettingSet.cells)) (ap h22 (ap (at_some h27).1 (ap (at_map NettingSet.cells (at_some h27).2) (ap h28 (ap (at_some h27).1 (ap (at_map NettingSet.cells (at_some h27).2) an))))))) (LoopQ.out rfl rfl)
      · exact rE cfg_ok [([], [], [(2, .val (jI (bo1.length : Int)))]), ([], [(2, .idx (Int.toNat v20) (NettingSet.cells x26))], []), j3] [some true, some false] [] [0] [0, 1, 4, 6] (.norm, (f44n2S bo1 bb2 (wr64 (v20 + 1)))) (ap (len_cv (xs := bo1) (c := NettingSet.cells)) (ap h22 (ap (at_some h27).1 (ap (at_map NettingSet.cells (at_some h27).2) (ap h28 an))))) (LoopQ.norm ⟨(wr64 (v20 + 1)), rfl, h⟩)
    · obtain rfl := some_inj h
      exact rK cfg_ok 1 [([], [], [(2, .val (jI (bo1.length : Int)))])] [some false] [] [0] [4] (.exit 0) ((f44n2E bo1 bb2 .exit0).2) (ap (len_cv (xs := bo1) (c := NettingSet.cells)) (ap h22 an)) (LoopQ.out rfl rfl)
noncomputable def f44n2L (bo1 : List NettingSet) (bb2 : ByteArray) : List NettingSet → Int → Option f44n2O
  | [], v20 =>
    some .exit0
  | x0 :: rest, v20 =>
    bif (seq x0.Name bb2) then
      some (.ret x0)
    else
      (f44n2L bo1 bb2 rest (v20 + 1))
theorem f44n2L_eq (bo1 : List NettingSet) (bb2 : ByteArray) : ∀ (rest : List NettingSet) (f k : Nat), bo1.drop k = rest → bo1.length ≤ maxLen → rest.length < f → f44n2 f bo1 bb2 (k : Int) = f44n2L bo1 bb2 rest (k : Int)
  | _, 0, _, _, _, hf => absurd hf (Nat.not_lt_zero _)
  | [], f + 1, k, hd, hm, hf => by
    have hk : ¬ ((k : Int) < (bo1.length : Int)) := by have := drop_nil hd; omega
    rw [f44n2, f44n2L]
    simp only [decide_eq_false hk, cond_false]
  | x0 :: rest, f + 1, k, hd, hm, hf => by
    obtain ⟨hx, hlt, hd'⟩ := drop_cons hd
    have hk : (k : Int) < (bo1.length : Int) := by omega
    have hw : wr64 ((k : Int) + 1) = (k : Int) + 1 := wr64_of (by omega) (by unfold maxLen at hm; omega)
    have ih : f44n2 f bo1 bb2 ((k : Int) + 1) = f44n2L bo1 bb2 rest ((k : Int) + 1) := f44n2L_eq bo1 bb2 rest f (k + 1) hd' hm (by simpa using hf)
    rw [f44n2, f44n2L]
    simp only [decide_eq_true hk, cond_true, at_nat, hx, Option.bind_some, hw, ih]
theorem f44n2_run (bo1 : List NettingSet) (bb2 : ByteArray) (hm : bo1.length ≤ maxLen) : f44n2 FUEL bo1 bb2 0 = f44n2L bo1 bb2 bo1 0 := f44n2L_eq bo1 bb2 bo1 FUEL 0 List.drop_zero hm (lt_FUEL hm)
inductive f44n1O where
  | norm
  | ret (v33 : NettingSet)
def f44n1E (bo1 : List NettingSet) (bb2 : ByteArray) : f44n1O → Ex × Tr × Hp
  | .norm => (.norm, mkS [(4, (.bp 0 0))], [some (.box ((NettingSet.cells (NettingSet.mk str_x str_x str_x)).map .pl))])
  | .ret v33 => (.ret, mkS [(4, (.bp 0 0)), (5, (jB true))], [some (.box ((NettingSet.cells v33).map .pl))])
def f44n1S (bo1 : List NettingSet) (bb2 : ByteArray) : Tr × Hp := (mkS [(0, (jL 3 NettingSet.cells bo1)), (1, (jS bb2)), (4, (.bp 0 0))], [some (.box ((NettingSet.cells (NettingSet.mk str_x str_x str_x)).map .pl))])
noncomputable def f44n1 (bo1 : List NettingSet) (bb2 : ByteArray) : Option f44n1O :=
  (f44n2 FUEL bo1 bb2 0).bind fun o30 => match o30 with
  | .exit0 => some .norm
  | .ret v32 => some (.ret v32)
theorem f44n1_ok (bo1 : List NettingSet) (bb2 : ByteArray) {o : f44n1O} (h : (f44n1 bo1 bb2) = some o) : T Try.prog Try.f44.ntmps 0 (cL (dropC 1 c44)) (f44n1S bo1 bb2) (fun r => r = f44n1E bo1 bb2 o) := by
  unfold f44n1 at h
  refine rN cfg_ok 1 [j3] [] [] [0] [0, 1, 4, 6] (f44n2S bo1 bb2 0) an ?_
  obtain ⟨o30, h31, h⟩ := bind_cases h
  cases o30 with
  | exit0 =>
    obtain rfl := some_inj h
    exact T.last' (T.bl (i := 0) (by kernel_rfl) (by kernel_rfl) (f44n2_ok FUEL bo1 bb2 0 h31)) (tds := []) (m := [0]) (keep := [4]) (st2 := (f44n1E bo1 bb2 .norm).2) (by kernel_rfl) an rfl
  | ret v32 =>
    obtain rfl := some_inj h
    exact T.last' (T.bl (i := 0) (by kernel_rfl) (by kernel_rfl) (f44n2_ok FUEL bo1 bb2 0 h31)) (tds := []) (m := [0]) (keep := [4, 5]) (st2 := (f44n1E bo1 bb2 (.ret v32)).2) (by kernel_rfl) an rfl
inductive f44n0O where
  | ret (v37 : Bool) (v38 : NettingSet)
def f44n0E (a1 : List NettingSet) (a2 : ByteArray) : f44n0O → Ex × Tr × Hp
  | .ret v37 v38 => (.ret, mkS [(4, (.bp 0 0)), (5, (jB v37))], [some (.box ((NettingSet.cells v38).map .pl))])
def f44n0S (a1 : List NettingSet) (a2 : ByteArray) : Tr × Hp := (initS [(jL 3 NettingSet.cells a1), (jS a2)] 0 .leaf, [])
noncomputable def f44n0 (a1 : List NettingSet) (a2 : ByteArray) : Option f44n0O :=
  (f44n1 a1 a2).bind fun o34 => match o34 with
  | .norm => some (.ret false (NettingSet.mk str_x str_x str_x))
  | .ret v36 => some (.ret true v36)
theorem f44n0_ok (a1 : List NettingSet) (a2 : ByteArray) {o : f44n0O} (h : (f44n0 a1 a2) = some o) : T Try.prog Try.f44.ntmps 0 c44 (f44n0S a1 a2) (fun r => r = f44n0E a1 a2 o) := by
  unfold f44n0 at h
  refine rN cfg_ok 1 [j3] [] [] [0] [0, 1, 4] (f44n1S a1 a2) an ?_
  obtain ⟨o34, h35, h⟩ := bind_cases h
  cases o34 with
  | norm =>
    refine T.oneN (by kernel_rfl) (f44n1_ok a1 a2 h35) (st2 := (f44n1E a1 a2 .norm).2) rfl ?_
    obtain rfl := some_inj h
    exact rE cfg_ok [j3] [] [] [0] [4, 5] (.ret, (f44n0E a1 a2 (.ret false (NettingSet.mk str_x str_x str_x))).2) an rfl
  | ret v36 =>
    obtain rfl := some_inj h
    exact T.oneX' (by kernel_rfl) (f44n1_ok a1 a2 h35) (tds := []) (m := [0]) (keep := [4, 5]) (st2 := (f44n0E a1 a2 (.ret true v36)).2) (by kernel_rfl) an rfl rfl
noncomputable def f44 (a1 : List NettingSet) (a2 : ByteArray) : Option (NettingSet × Bool) := (f44n0 a1 a2).bind fun o => match o with
  | .ret v37 v38 => some (v38, v37)
theorem f44_ok (a1 : List NettingSet) (a2 : ByteArray) {r : NettingSet × Bool} (h : (f44 a1 a2) = some r) : CallS Try.prog false 44 [(jL 3 NettingSet.cells a1), (jS a2)] [] (.tup [(jA NettingSet.cells r.1), (jB r.2)]) [] := by
  unfold f44 at h
  obtain ⟨o, ho, h⟩ := bind_cases h
  cases o with
  | ret v37 v38 =>
    obtain rfl := some_inj h
    exact CallS.plain cfg_ok (f := Try.f44) (c := c44) (by kernel_rfl) (by kernel_rfl) (by kernel_rfl) (by kernel_rfl) ((f44n0_ok a1 a2 ho).mono fun r e => by subst e; exact ⟨.inl rfl, (.tup [(jA NettingSet.cells v38), (jB v37)]), (.tup [(jA NettingSet.cells v38), (jB v37)]), by kernel_rfl, by kernel_rfl, ((Wk.refl _) : Wk (.tup [(jA NettingSet.cells v38), (jB v37)]) (.tup [(jA NettingSet.cells v38), (jB v37)]))⟩)

noncomputable def c22 : Code := Try.f22.body.getD .skip
inductive f22n3O where
  | norm (v180 : Bool)
def f22n3E (bo1 : List NettingSet) (ba2 : List NettingFlow) (bd3 : Int) (br4 : NettingSet × Bool) : f22n3O → Ex × Tr × Hp
  | .norm v180 => (.norm, mkS [(0, (jL 3 NettingSet.cells bo1)), (1, (jL 6 NettingFlow.cells ba2)), (5, (jI bd3)), (6, (.bp 0 0)), (7, (jB br4.2)), (8, (jB v180))], [some (.box ((NettingSet.cells br4.1).map .pl))])
def f22n3S (bo1 : List NettingSet) (ba2 : List NettingFlow) (bd3 : Int) (br4 : NettingSet × Bool) : Tr × Hp := (mkS [(0, (jL 3 NettingSet.cells bo1)), (1, (jL 6 NettingFlow.cells ba2)), (5, (jI bd3)), (6, (.bp 0 0)), (7, (jB br4.2))], [some (.box ((NettingSet.cells br4.1).map .pl))])
noncomputable def f22n3 (bo1 : List NettingSet) (ba2 : List NettingFlow) (bd3 : Int) (br4 : NettingSet × Bool) : Option f22n3O :=
  (at? ba2 bd3).bind fun x177 =>
  bif (seq br4.1.First x177.From) then
    some (.norm (seq br4.1.Second x177.To))
  else
    some (.norm false)
theorem f22n3_ok (bo1 : List NettingSet) (ba2 : List NettingFlow) (bd3 : Int) (br4 : NettingSet × Bool) {o : f22n3O} (h : (f22n3 bo1 ba2 bd3 br4) = some o) : T Try.prog Try.f22.ntmps 0 (cL (dropC 2 (cL (cL (dropC 1 (cL (cL (dropC 1 (cL (dropC 2 c22)))))))))) (f22n3S bo1 ba2 bd3 br4) (fun r => r = f22n3E bo1 ba2 bd3 br4 o) := by
  unfold f22n3 at h
  obtain ⟨x177, h178, h⟩ := bind_cases h
  rcases cond_cases h with ⟨h179, h⟩ | ⟨h179, h⟩
  · obtain rfl := some_inj h
    exact rE cfg_ok [(jT [9, 10, 11, 12, 13, 14, 15, 16], [(4, .idx (Int.toNat bd3) (NettingFlow.cells x177)), (13, .idx (Int.toNat bd3) (NettingFlow.cells x177)), (17, .bool true)], [])] [] [] [0] [0, 1, 5, 6, 7, 8] (.norm, (f22n3E bo1 ba2 bd3 br4 (.norm (seq br4.1.Second x177.To))).2) (ap (at_some h178).1 (ap (at_map NettingFlow.cells (at_some h178).2) (ap h179 (ap4 h179 (ap (at_some h178).1 (ap (at_map NettingFlow.cells (at_some h178).2) (ap4 h179 an))))))) rfl
  · obtain rfl := some_inj h
    exact rE cfg_ok [(jF [9, 10, 11, 12, 13, 14, 15, 16], [(4, .idx (Int.toNat bd3) (NettingFlow.cells x177)), (17, .bool false)], [])] [] [] [0] [0, 1, 5, 6, 7, 8] (.norm, (f22n3E bo1 ba2 bd3 br4 (.norm false)).2) (ap (at_some h178).1 (ap (at_map NettingFlow.cells (at_some h178).2) (ap h179 (ap4 h179 (ap4 h179 an))))) rfl
inductive f22n4O where
  | norm (v191 : Bool)
def f22n4E (bo1 : List NettingSet) (ba2 : List NettingFlow) (bd3 : Int) (br4 : NettingSet × Bool) (bi5 : Bool) : f22n4O → Ex × Tr × Hp
  | .norm v191 => (.norm, mkS [(0, (jL 3 NettingSet.cells bo1)), (1, (jL 6 NettingFlow.cells ba2)), (5, (jI bd3)), (7, (jB br4.2)), (8, (jB bi5)), (9, (jB v191))], [])
def f22n4S (bo1 : List NettingSet) (ba2 : List NettingFlow) (bd3 : Int) (br4 : NettingSet × Bool) (bi5 : Bool) : Tr × Hp := (mkS [(0, (jL 3 NettingSet.cells bo1)), (1, (jL 6 NettingFlow.cells ba2)), (5, (jI bd3)), (6, (.bp 0 0)), (7, (jB br4.2)), (8, (jB bi5))], [some (.box ((NettingSet.cells br4.1).map .pl))])
noncomputable def f22n4 (bo1 : List NettingSet) (ba2 : List NettingFlow) (bd3 : Int) (br4 : NettingSet × Bool) (bi5 : Bool) : Option f22n4O :=
  (at? ba2 bd3).bind fun x188 =>
  bif (seq br4.1.First x188.To) then
    some (.norm (seq br4.1.Second x188.From))
  else
    some (.norm false)
theorem f22n4_ok (bo1 : List NettingSet) (ba2 : List NettingFlow) (bd3 : Int) (br4 : NettingSet × Bool) (bi5 : Bool) {o : f22n4O} (h : (f22n4 bo1 ba2 bd3 br4 bi5) = some o) : T Try.prog Try.f22.ntmps 0 (cL (dropC 0 (dropC 1 (dropC 2 (cL (cL (dropC 1 (cL (cL (dropC 1 (cL (dropC 2 c22)))))))))))) (f22n4S bo1 ba2 bd3 br4 bi5) (fun r => r = f22n4E bo1 ba2 bd3 br4 bi5 o) := by
  unfold f22n4 at h
  obtain ⟨x188, h189, h⟩ := bind_cases h
  rcases cond_cases h with ⟨h190, h⟩ | ⟨h190, h⟩
  · obtain rfl := some_inj h
    exact rE cfg_ok [(jT [9, 10, 11, 12, 13, 14, 15, 16], [(4, .idx (Int.toNat bd3) (NettingFlow.cells x188)), (13, .idx (Int.toNat bd3) (NettingFlow.cells x188)), (17, .bool true)], [])] [] [] [] [0, 1, 5, 7, 8, 9] (.norm, (f22n4E bo1 ba2 bd3 br4 bi5 (.norm (seq br4.1.Second x188.From))).2) (ap (at_some h189).1 (ap (at_map NettingFlow.cells (at_some h189).2) (ap h190 (ap4 h190 (ap (at_some h189).1 (ap (at_map NettingFlow.cells (at_some h189).2) (ap4 h190 an))))))) rfl
  · obtain rfl := some_inj h
    exact rE cfg_ok [(jF [9, 10, 11, 12, 13, 14, 15, 16], [(4, .idx (Int.toNat bd3) (NettingFlow.cells x188)), (17, .bool false)], [])] [] [] [] [0, 1, 5, 7, 8, 9] (.norm, (f22n4E bo1 ba2 bd3 br4 bi5 (.norm false)).2) (ap (at_some h189).1 (ap (at_map NettingFlow.cells (at_some h189).2) (ap h190 (ap4 h190 (ap4 h190 an))))) rfl
inductive f22n5O where
  | norm (v201 : Bool)
def f22n5E (bo1 : List NettingSet) (ba2 : List NettingFlow) (bd3 : Int) (br4 : NettingSet × Bool) (bi5 : Bool) (bi6 : Bool) : f22n5O → Ex × Tr × Hp
  | .norm v201 => (.norm, mkS [(0, (jL 3 NettingSet.cells bo1)), (1, (jL 6 NettingFlow.cells ba2)), (5, (jI bd3)), (85, (jB v201))], [])
def f22n5S (bo1 : List NettingSet) (ba2 : List NettingFlow) (bd3 : Int) (br4 : NettingSet × Bool) (bi5 : Bool) (bi6 : Bool) : Tr × Hp := (mkS [(0, (jL 3 NettingSet.cells bo1)), (1, (jL 6 NettingFlow.cells ba2)), (5, (jI bd3)), (7, (jB br4.2)), (8, (jB bi5)), (9, (jB bi6))], [])
noncomputable def f22n5 (bo1 : List NettingSet) (ba2 : List NettingFlow) (bd3 : Int) (br4 : NettingSet × Bool) (bi5 : Bool) (bi6 : Bool) : Option f22n5O :=
  bif br4.2 then
    bif bi5 then
      some (.norm false)
    else
      some (.norm (!bi6))
  else
    some (.norm true)
theorem f22n5_ok (bo1 : List NettingSet) (ba2 : List NettingFlow) (bd3 : Int) (br4 : NettingSet × Bool) (bi5 : Bool) (bi6 : Bool) {o : f22n5O} (h : (f22n5 bo1 ba2 bd3 br4 bi5 bi6) = some o) : T Try.prog Try.f22.ntmps 0 (cL (dropC 0 (dropC 1 (dropC 0 (dropC 1 (dropC 2 (cL (cL (dropC 1 (cL (cL (dropC 1 (cL (dropC 2 c22)))))))))))))) (f22n5S bo1 ba2 bd3 br4 bi5 bi6) (fun r => r = f22n5E bo1 ba2 bd3 br4 bi5 bi6 o) := by
  unfold f22n5 at h
  rcases cond_cases h with ⟨h199, h⟩ | ⟨h199, h⟩
  · rcases cond_cases h with ⟨h200, h⟩ | ⟨h200, h⟩
    · obtain rfl := some_inj h
      exact rE cfg_ok [(jF [3, 4, 5, 6, 7, 8], [(8, .bool false), (9, .bool false)], [])] [] [] [] [0, 1, 5, 85] (.norm, (f22n5E bo1 ba2 bd3 br4 bi5 bi6 (.norm false)).2) (ap3 (not_t h199) (ap2 (not_t h200) (ap (not_t h199) (ap (not_t h200) (ap (not_t h199) an))))) rfl
    · obtain rfl := some_inj h
      exact rE cfg_ok [(jF [3, 4, 5, 8] ++ jT [6, 7], [(8, .bool true), (9, .bool false)], [])] [] [] [] [0, 1, 5, 85] (.norm, (f22n5E bo1 ba2 bd3 br4 bi5 bi6 (.norm (!bi6))).2) (ap3 (not_t h199) (ap2 (not_f h200) (ap (not_t h199) (ap (not_f h200) (ap (not_t h199) an))))) rfl
  · obtain rfl := some_inj h
    exact rE cfg_ok [(jT [3, 4, 5, 8], [(9, .bool true)], [])] [] [] [] [0, 1, 5, 85] (.norm, (f22n5E bo1 ba2 bd3 br4 bi5 bi6 (.norm true)).2) (ap (not_f h199) (ap4 (not_f h199) an)) rfl
inductive f22n2O where
  | norm
  | ret
def f22n2E (bo1 : List NettingSet) (ba2 : List NettingFlow) (bd3 : Int) : f22n2O → Ex × Tr × Hp
  | .norm => (.norm, mkS [(0, (jL 3 NettingSet.cells bo1)), (1, (jL 6 NettingFlow.cells ba2)), (5, (jI bd3))], [])
  | .ret => (.ret, mkS [(4, (jI 8))], [])
def f22n2S (bo1 : List NettingSet) (ba2 : List NettingFlow) (bd3 : Int) : Tr × Hp := (mkS [(0, (jL 3 NettingSet.cells bo1)), (1, (jL 6 NettingFlow.cells ba2)), (5, (jI bd3))], [])
noncomputable def f22n2 (bo1 : List NettingSet) (ba2 : List NettingFlow) (bd3 : Int) : Option f22n2O :=
  (at? ba2 bd3).bind fun x166 =>
  bif (seq x166.Set str_x) then
    some .norm
  else
    (f44 bo1 x166.Set).bind fun x171 =>
    (f22n3 bo1 ba2 bd3 x171).bind fun o181 => match o181 with
    | .norm v183 => (f22n4 bo1 ba2 bd3 x171 v183).bind fun o192 => match o192 with
      | .norm v194 => (f22n5 bo1 ba2 bd3 x171 v183 v194).bind fun o202 => match o202 with
        | .norm v204 => bif v204 then
            some .ret
          else
            some .norm
theorem f22n2_ok (bo1 : List NettingSet) (ba2 : List NettingFlow) (bd3 : Int) {o : f22n2O} (h : (f22n2 bo1 ba2 bd3) = some o) : T Try.prog Try.f22.ntmps 0 (cL (dropC 1 (cL (cL (dropC 1 (cL (dropC 2 c22))))))) (f22n2S bo1 ba2 bd3) (fun r => r = f22n2E bo1 ba2 bd3 o) := by
  unfold f22n2 at h
  refine T.block' (i := 1) (by kernel_rfl) ?_
  obtain ⟨x166, h167, h⟩ := bind_cases h
  rcases cond_cases h with ⟨h168, h⟩ | ⟨h168, h⟩
  · obtain rfl := some_inj h
    exact rK cfg_ok 1 [([], [(2, .idx (Int.toNat bd3) (NettingFlow.cells x166))], [])] [some true] [] [] [0, 1, 5] (.exit 1) ((f22n2E bo1 ba2 bd3 .norm).2) (ap (at_some h167).1 (ap (at_map NettingFlow.cells (at_some h167).2) (ap h168 an))) rfl
  · obtain ⟨x171, h172, h⟩ := bind_cases h
    refine rN cfg_ok 2 [([], [(2, .idx (Int.toNat bd3) (NettingFlow.cells x166))], []), ([], [(3, .idx (Int.toNat bd3) (NettingFlow.cells x166)), jH 6 (.tup [(jA NettingSet.cells x171.1), (jB x171.2)])], [])] [some false] [] [0] [0, 1, 5, 6, 7] (f22n3S bo1 ba2 bd3 x171) (ap (at_some h167).1 (ap (at_map NettingFlow.cells (at_some h167).2) (ap h168 (ap (at_some h167).1 (ap (at_map NettingFlow.cells (at_some h167).2) (ap (f44_ok bo1 x166.Set h172) an)))))) ?_
    obtain ⟨o181, h182, h⟩ := bind_cases h
    cases o181 with
    | norm v183 =>
      refine T.oneN (by kernel_rfl) (f22n3_ok bo1 ba2 bd3 x171 h182) (st2 := (f22n3E bo1 ba2 bd3 x171 (.norm v183)).2) rfl ?_
      refine rN cfg_ok 0 [] [] [] [0] [0, 1, 5, 6, 7, 8] (f22n4S bo1 ba2 bd3 x171 v183) an ?_
      obtain ⟨o192, h193, h⟩ := bind_cases h
      cases o192 with
      | norm v194 =>
        refine T.oneN (by kernel_rfl) (f22n4_ok bo1 ba2 bd3 x171 v183 h193) (st2 := (f22n4E bo1 ba2 bd3 x171 v183 (.norm v194)).2) rfl ?_
        refine rN cfg_ok 0 [] [] [] [] [0, 1, 5, 7, 8, 9] (f22n5S bo1 ba2 bd3 x171 v183 v194) an ?_
        obtain ⟨o202, h203, h⟩ := bind_cases h
        cases o202 with
        | norm v204 =>
          refine T.oneN (by kernel_rfl) (f22n5_ok bo1 ba2 bd3 x171 v183 v194 h203) (st2 := (f22n5E bo1 ba2 bd3 x171 v183 v194 (.norm v204)).2) rfl ?_
          rcases cond_cases h with ⟨h206, h⟩ | ⟨h206, h⟩
          · obtain rfl := some_inj h
            exact rE cfg_ok [j3] [some true] [] [] [4] (.ret, (f22n2E bo1 ba2 bd3 .ret).2) (ap h206 an) rfl
          · obtain rfl := some_inj h
            exact rE cfg_ok [] [some false] [] [] [0, 1, 5] (.norm, (f22n2E bo1 ba2 bd3 .norm).2) (ap h206 an) rfl
inductive f22n6O where
  | exit0
  | ret
def f22n6E (bo1 : List NettingSet) (ba2 : List NettingFlow) : f22n6O → Ex × Tr × Hp
  | .exit0 => ((.exit 0), mkS [], [])
  | .ret => (.ret, mkS [(4, (jI 8))], [])
def f22n6S (bo1 : List NettingSet) (ba2 : List NettingFlow) (v144 : Int) : Tr × Hp := (mkS [(0, (jL 3 NettingSet.cells bo1)), (1, (jL 6 NettingFlow.cells ba2)), (5, (jI v144))], [])
noncomputable def f22n6 : Nat → List NettingSet → List NettingFlow → Int → Option f22n6O
  | 0, _, _, _ => none
  | f + 1, bo1, ba2, v144 =>
    bif (decide (v144 < (ba2.length : Int))) then
      (f22n2 bo1 ba2 v144).bind fun o207 => match o207 with
      | .norm => (f22n6 f bo1 ba2 (wr64 (v144 + 1)))
      | .ret => some .ret
    else
      some .exit0
theorem f22n6_ok : ∀ (f : Nat) (bo1 : List NettingSet) (ba2 : List NettingFlow) (v144 : Int) {o : f22n6O}, (f22n6 f bo1 ba2 v144) = some o → TL Try.prog Try.f22.ntmps 0 f (cL (cL (dropC 1 (cL (dropC 2 c22))))) (f22n6S bo1 ba2 v144) (fun r => r = f22n6E bo1 ba2 o)
  | 0, _, _, _, o, h => by rw [f22n6] at h; cases h
  | f + 1, bo1, ba2, v144, o, h => by
    rw [f22n6] at h
    refine TL.body (K := fun s => ∃ v144 : Int, s = (f22n6S bo1 ba2 v144) ∧ (f22n6 f bo1 ba2 v144) = some o) ?_ (by rintro _ ⟨v144, rfl, hk⟩; exact f22n6_ok f _ _ _ hk)
    rcases cond_cases h with ⟨h146, h⟩ | ⟨h146, h⟩
    · refine rN cfg_ok 1 [([], [], [(2, .val (jI (ba2.length : Int)))])] [some true] [] [] [0, 1, 5] (f22n2S bo1 ba2 v144) (ap (len_cv (xs := ba2) (c := NettingFlow.cells)) (ap h146 an)) ?_
      obtain ⟨o207, h208, h⟩ := bind_cases h
      cases o207 with
      | norm =>
        refine T.oneN (by kernel_rfl) (f22n2_ok bo1 ba2 v144 h208) (st2 := (f22n2E bo1 ba2 v144 .norm).2) rfl ?_
        exact rE cfg_ok [j3] [] [] [] [0, 1, 5] (.norm, (f22n6S bo1 ba2 (wr64 (v144 + 1)))) an (LoopQ.norm ⟨(wr64 (v144 + 1)), rfl, h⟩)
      | ret =>
        obtain rfl := some_inj h
        exact T.oneX' (by kernel_rfl) (f22n2_ok bo1 ba2 v144 h208) (tds := []) (m := []) (keep := [4]) (st2 := (f22n6E bo1 ba2 .ret).2) (by kernel_rfl) an rfl (LoopQ.out rfl rfl)
    · obtain rfl := some_inj h
      exact rK cfg_ok 1 [([], [], [(2, .val (jI (ba2.length : Int)))])] [some false] [] [] [] (.exit 0) ((f22n6E bo1 ba2 .exit0).2) (ap (len_cv (xs := ba2) (c := NettingFlow.cells)) (ap h146 an)) (LoopQ.out rfl rfl)
inductive f22n1O where
  | norm
  | ret
def f22n1E (bo1 : List NettingSet) (ba2 : List NettingFlow) : f22n1O → Ex × Tr × Hp
  | .norm => (.norm, mkS [], [])
  | .ret => (.ret, mkS [(4, (jI 8))], [])
def f22n1S (bo1 : List NettingSet) (ba2 : List NettingFlow) : Tr × Hp := (mkS [(0, (jL 3 NettingSet.cells bo1)), (1, (jL 6 NettingFlow.cells ba2))], [])
noncomputable def f22n1 (bo1 : List NettingSet) (ba2 : List NettingFlow) : Option f22n1O :=
  (f22n6 FUEL bo1 ba2 0).bind fun o209 => match o209 with
  | .exit0 => some .norm
  | .ret => some .ret
theorem f22n1_ok (bo1 : List NettingSet) (ba2 : List NettingFlow) {o : f22n1O} (h : (f22n1 bo1 ba2) = some o) : T Try.prog Try.f22.ntmps 0 (cL (dropC 2 c22)) (f22n1S bo1 ba2) (fun r => r = f22n1E bo1 ba2 o) := by
  unfold f22n1 at h
  refine rN cfg_ok 1 [j3] [] [] [] [0, 1, 5] (f22n6S bo1 ba2 0) an ?_
  obtain ⟨o209, h210, h⟩ := bind_cases h
  cases o209 with
  | exit0 =>
    obtain rfl := some_inj h
    exact T.last' (T.bl (i := 0) (by kernel_rfl) (by kernel_rfl) (f22n6_ok FUEL bo1 ba2 0 h210)) (tds := []) (m := []) (keep := []) (st2 := (f22n1E bo1 ba2 .norm).2) (by kernel_rfl) an rfl
  | ret =>
    obtain rfl := some_inj h
    exact T.last' (T.bl (i := 0) (by kernel_rfl) (by kernel_rfl) (f22n6_ok FUEL bo1 ba2 0 h210)) (tds := []) (m := []) (keep := [4]) (st2 := (f22n1E bo1 ba2 .ret).2) (by kernel_rfl) an rfl
inductive f22n0O where
  | ret (v213 : Int)
def f22n0E (a1 : List NettingSet) (a2 : List NettingFlow) : f22n0O → Ex × Tr × Hp
  | .ret v213 => (.ret, mkS [(4, (jI v213))], [])
def f22n0S (a1 : List NettingSet) (a2 : List NettingFlow) : Tr × Hp := (initS [(jL 3 NettingSet.cells a1), (jL 6 NettingFlow.cells a2)] 0 .leaf, [])
noncomputable def f22n0 (a1 : List NettingSet) (a2 : List NettingFlow) : Option f22n0O :=
  (f24 a1).bind fun x9 =>
  bif (decide (x9 = 0)) then
    (f48 a2).bind fun x12 =>
    bif x12 then
      (f22n1 a1 a2).bind fun o211 => match o211 with
      | .norm => some (.ret 0)
      | .ret => some (.ret 8)
    else
      some (.ret 8)
  else
    some (.ret 8)
theorem f22n0_ok (a1 : List NettingSet) (a2 : List NettingFlow) {o : f22n0O} (h : (f22n0 a1 a2) = some o) : T Try.prog Try.f22.ntmps 0 c22 (f22n0S a1 a2) (fun r => r = f22n0E a1 a2 o) := by
  unfold f22n0 at h
  obtain ⟨x9, h10, h⟩ := bind_cases h
  rcases cond_cases h with ⟨h11, h⟩ | ⟨h11, h⟩
  · obtain ⟨x12, h13, h⟩ := bind_cases h
    rcases cond_cases h with ⟨h14, h⟩ | ⟨h14, h⟩
    · refine rN cfg_ok 2 [j3, (jF [4, 5, 6], [jH 1 (jI x9), jH 5 (jB x12), (7, .bool false)], [])] [some false] [] [] [0, 1] (f22n1S a1 a2) (ap4 (not_t h11) (ap (f24_ok a1 h10) (ap (f48_ok a2 h13) (ap (not_t h14) an)))) ?_
      obtain ⟨o211, h212, h⟩ := bind_cases h
      cases o211 with
      | norm =>
        refine T.oneN (by kernel_rfl) (f22n1_ok a1 a2 h212) (st2 := (f22n1E a1 a2 .norm).2) rfl ?_
        obtain rfl := some_inj h
        exact rE cfg_ok [j3] [] [] [] [4] (.ret, (f22n0E a1 a2 (.ret 0)).2) an rfl
      | ret =>
        obtain rfl := some_inj h
        exact T.oneX' (by kernel_rfl) (f22n1_ok a1 a2 h212) (tds := []) (m := []) (keep := [4]) (st2 := (f22n0E a1 a2 (.ret 8)).2) (by kernel_rfl) an rfl rfl
    · obtain rfl := some_inj h
      exact rK cfg_ok 2 [j3, (jF [4, 5, 6], [jH 1 (jI x9), jH 5 (jB x12), (7, .bool false)], []), j3] [some true] [] [] [4] .ret ((f22n0E a1 a2 (.ret 8)).2) (ap4 (not_t h11) (ap (f24_ok a1 h10) (ap (f48_ok a2 h13) (ap (not_f h14) an)))) rfl
  · obtain rfl := some_inj h
    exact rK cfg_ok 2 [j3, (jT [4, 5, 6], [jH 1 (jI x9), (7, .bool true)], []), j3] [none] [] [] [4] .ret ((f22n0E a1 a2 (.ret 8)).2) (ap4 (not_f h11) (ap (f24_ok a1 h10) an)) rfl
noncomputable def f22 (a1 : List NettingSet) (a2 : List NettingFlow) : Option Int := (f22n0 a1 a2).bind fun o => match o with
  | .ret v213 => some v213
theorem f22_ok (a1 : List NettingSet) (a2 : List NettingFlow) {r : Int} (h : (f22 a1 a2) = some r) : CallS Try.prog false 22 [(jL 3 NettingSet.cells a1), (jL 6 NettingFlow.cells a2)] [] (jI r) [] := by
  unfold f22 at h
  obtain ⟨o, ho, h⟩ := bind_cases h
  cases o with
  | ret v213 =>
    obtain rfl := some_inj h
    exact CallS.plain cfg_ok (f := Try.f22) (c := c22) (by kernel_rfl) (by kernel_rfl) (by kernel_rfl) (by kernel_rfl) ((f22n0_ok a1 a2 ho).mono fun r e => by subst e; exact ⟨.inl rfl, (jI v213), (jI v213), by kernel_rfl, by kernel_rfl, ((Wk.refl _) : Wk (jI v213) (jI v213))⟩)

noncomputable def c64 : Code := Try.f64.body.getD .skip
inductive f64n0O where
  | ret (v7 : Bool)
def f64n0E (a1 : NettingFlow) (a2 : NettingFlow) : f64n0O → Ex × Tr × Hp
  | .ret v7 => (.ret, mkS [(4, (jB v7))], [])
def f64n0S (a1 : NettingFlow) (a2 : NettingFlow) : Tr × Hp := (initS [(jA NettingFlow.cells a1), (jA NettingFlow.cells a2)] 0 .leaf, [])
noncomputable def f64n0 (a1 : NettingFlow) (a2 : NettingFlow) : Option f64n0O :=
  bif (decide (a1.Date = a2.Date)) then
    bif (seq a1.Set a2.Set) then
      some (.ret (slt a1.Ccy a2.Ccy))
    else
      some (.ret (slt a1.Set a2.Set))
  else
    some (.ret (decide (a1.Date < a2.Date)))
theorem f64n0_ok (a1 : NettingFlow) (a2 : NettingFlow) {o : f64n0O} (h : (f64n0 a1 a2) = some o) : T Try.prog Try.f64.ntmps 0 c64 (f64n0S a1 a2) (fun r => r = f64n0E a1 a2 o) := by
  unfold f64n0 at h
  rcases cond_cases h with ⟨h4, h⟩ | ⟨h4, h⟩
  · rcases cond_cases h with ⟨h6, h⟩ | ⟨h6, h⟩
    · obtain rfl := some_inj h
      exact rE cfg_ok [j3, j3, j3, j3] [some false, some false] [] [] [4] (.ret, (f64n0E a1 a2 (.ret (slt a1.Ccy a2.Ccy))).2) (ap (not_t h4) (ap (not_t h6) an)) rfl
    · obtain rfl := some_inj h
      exact rK cfg_ok 3 [j3, j3, j3, j3] [some false, some true] [] [] [4] .ret ((f64n0E a1 a2 (.ret (slt a1.Set a2.Set))).2) (ap (not_t h4) (ap (not_f h6) an)) rfl
  · obtain rfl := some_inj h
    exact rK cfg_ok 2 [j3, j3, j3] [some true] [] [] [4] .ret ((f64n0E a1 a2 (.ret (decide (a1.Date < a2.Date)))).2) (ap (not_f h4) an) rfl
noncomputable def f64 (a1 : NettingFlow) (a2 : NettingFlow) : Option Bool := (f64n0 a1 a2).bind fun o => match o with
  | .ret v7 => some v7
theorem f64_ok (a1 : NettingFlow) (a2 : NettingFlow) {r : Bool} (h : (f64 a1 a2) = some r) : CallS Try.prog false 64 [(jA NettingFlow.cells a1), (jA NettingFlow.cells a2)] [] (jB r) [] := by
  unfold f64 at h
  obtain ⟨o, ho, h⟩ := bind_cases h
  cases o with
  | ret v7 =>
    obtain rfl := some_inj h
    exact CallS.plain cfg_ok (f := Try.f64) (c := c64) (by kernel_rfl) (by kernel_rfl) (by kernel_rfl) (by kernel_rfl) ((f64n0_ok a1 a2 ho).mono fun r e => by subst e; exact ⟨.inl rfl, (jB v7), (jB v7), by kernel_rfl, by kernel_rfl, ((Wk.refl _) : Wk (jB v7) (jB v7))⟩)

noncomputable def c43 : Code := Try.f43.body.getD .skip
inductive f43n2O where
  | exit0 (v73 : Bool) (v74 : List NettingFlow)
def f43n2E (ba1 : List NettingFlow) (be2 : NettingFlow) : f43n2O → Ex × Tr × Hp
  | .exit0 v73 v74 => ((.exit 0), mkS [(3, (.bp 0 0)), (5, (.own 1)), (6, (jB v73))], [some (.box ((NettingFlow.cells be2).map .pl)), jR 6 NettingFlow.cells v74])
def f43n2S (ba1 : List NettingFlow) (be2 : NettingFlow) (v44 : Bool) (v45 : Int) (v46 : List NettingFlow) : Tr × Hp := (mkS [(0, (jL 6 NettingFlow.cells ba1)), (3, (.bp 0 0)), (5, (.own 1)), (6, (jB v44)), (7, (jI v45))], [some (.box ((NettingFlow.cells be2).map .pl)), jR 6 NettingFlow.cells v46])
noncomputable def f43n2 : Nat → List NettingFlow → NettingFlow → Bool → Int → List NettingFlow → Option f43n2O
  | 0, _, _, _, _, _ => none
  | f + 1, ba1, be2, v44, v45, v46 =>
    bif (decide (v45 < (ba1.length : Int))) then
      bif v44 then
        (at? ba1 v45).bind fun x62 =>
        req (fit (v46.length + 1) 80) <|
        (f43n2 f ba1 be2 v44 (wr64 (v45 + 1)) (v46 ++ [x62]))
      else
        (at? ba1 v45).bind fun x65 =>
        (f64 be2 x65).bind fun x67 =>
        bif x67 then
          req (fit (v46.length + 1) 80) <|
          req (fit ((v46 ++ [be2]).length + 1) 80) <|
          (f43n2 f ba1 be2 true (wr64 (v45 + 1)) ((v46 ++ [be2]) ++ [x65]))
        else
          req (fit (v46.length + 1) 80) <|
          (f43n2 f ba1 be2 v44 (wr64 (v45 + 1)) (v46 ++ [x65]))
    else
      some (.exit0 v44 v46)
theorem f43n2_ok : ∀ (f : Nat) (ba1 : List NettingFlow) (be2 : NettingFlow) (v44 : Bool) (v45 : Int) (v46 : List NettingFlow) {o : f43n2O}, (f43n2 f ba1 be2 v44 v45 v46) = some o → TL Try.prog Try.f43.ntmps 0 f (cL (cL (dropC 1 (cL (dropC 3 c43))))) (f43n2S ba1 be2 v44 v45 v46) (fun r => r = f43n2E ba1 be2 o)
  | 0, _, _, _, _, _, o, h => by rw [f43n2] at h; cases h
  | f + 1, ba1, be2, v44, v45, v46, o, h => by
    rw [f43n2] at h
    refine TL.body (K := fun s => ∃ v44 : Bool, ∃ v45 : Int, ∃ v46 : List NettingFlow, s = (f43n2S ba1 be2 v44 v45 v46) ∧ (f43n2 f ba1 be2 v44 v45 v46) = some o) ?_ (by rintro _ ⟨v44, v45, v46, rfl, hk⟩; exact f43n2_ok f _ _ _ _ _ hk)
    rcases cond_cases h with ⟨h48, h⟩ | ⟨h48, h⟩
    · rcases cond_cases h with ⟨h61, h⟩ | ⟨h61, h⟩
      · obtain ⟨x62, h63, h⟩ := bind_cases h
        obtain ⟨h64, h⟩ := req_cases h
        exact rE cfg_ok [([], [], [(2, .val (jI (ba1.length : Int)))]), (jF [3, 4, 5, 6, 7, 8], [(9, .bool false)], []), ([], [(3, .idx (Int.toNat v45) (NettingFlow.cells x62)), (6, .fits)], [(6, .row 4 ((v46 ++ [x62]).map NettingFlow.cells))]), j3] [some true, none] [] [0, 4] [0, 3, 5, 6, 7] (.norm, (f43n2S ba1 be2 v44 (wr64 (v45 + 1)) (v46 ++ [x62]))) (ap (len_cv (xs := ba1) (c := NettingFlow.cells)) (ap h48 (ap3 (not_t h61) (ap4 (not_t h61) (ap (at_some h63).1 (ap (at_map NettingFlow.cells (at_some h63).2) (ap (fit_map (te := ti32) (xs := v46) (n := 1) (c := NettingFlow.cells) h64 rfl) (ap (app_cv (xs := v46) (ys := [x62]) (c := NettingFlow.cells)) an)))))))) (LoopQ.norm ⟨v44, (wr64 (v45 + 1)), (v46 ++ [x62]), rfl, h⟩)
      · obtain ⟨x65, h66, h⟩ := bind_cases h
        obtain ⟨x67, h68, h⟩ := bind_cases h
        rcases cond_cases h with ⟨h69, h⟩ | ⟨h69, h⟩
        · obtain ⟨h70, h⟩ := req_cases h
          obtain ⟨h71, h⟩ := req_cases h
          exact rE cfg_ok [([], [], [(2, .val (jI (ba1.length : Int)))]), (jT [3, 4, 5, 6, 7, 8], [(6, .idx (Int.toNat v45) (NettingFlow.cells x65)), jH 8 (jB x67), (9, .bool true)], []), ([], [(3, .fits)], [(3, .row 4 ((v46 ++ [be2]).map NettingFlow.cells))]), j3, ([], [(3, .idx (Int.toNat v45) (NettingFlow.cells x65)), (6, .fits)], [(6, .row 6 (((v46 ++ [be2]) ++ [x65]).map NettingFlow.cells))]), j3] [some true, some true] [] [0, 6] [0, 3, 5, 6, 7] (.norm, (f43n2S ba1 be2 true (wr64 (v45 + 1)) ((v46 ++ [be2]) ++ [x65]))) (ap (len_cv (xs := ba1) (c := NettingFlow.cells)) (ap h48 (ap4 (not_f h61) (ap (at_some h66).1 (ap (at_map NettingFlow.cells (at_some h66).2) (ap3 (not_f h61) (ap (f64_ok be2 x65 h68) (ap h69 (ap (fit_map (te := ti32) (xs := v46) (n := 1) (c := NettingFlow.cells) h70 rfl) (ap (app_cv (xs := v46) (ys := [be2]) (c := NettingFlow.cells)) (ap (at_some h66).1 (ap (at_map NettingFlow.cells (at_some h66).2) (ap (fit_map (te := ti32) (xs := (v46 ++ [be2])) (n := 1) (c := NettingFlow.cells) h71 rfl) (ap (app_cv (xs := (v46 ++ [be2])) (ys := [x65]) (c := NettingFlow.cells)) an)))))))))))))) (LoopQ.norm ⟨true, (wr64 (v45 + 1)), ((v46 ++ [be2]) ++ [x65]), rfl, h⟩)
        · obtain ⟨h72, h⟩ := req_cases h
          exact rE cfg_ok [([], [], [(2, .val (jI (ba1.length : Int)))]), (jT [3, 4, 5, 6, 7, 8], [(6, .idx (Int.toNat v45) (NettingFlow.cells x65)), jH 8 (jB x67), (9, .bool true)], []), ([], [(3, .idx (Int.toNat v45) (NettingFlow.cells x65)), (6, .fits)], [(6, .row 4 ((v46 ++ [x65]).map NettingFlow.cells))]), j3] [some true, some false] [] [0, 4] [0, 3, 5, 6, 7] (.norm, (f43n2S ba1 be2 v44 (wr64 (v45 + 1)) (v46 ++ [x65]))) (ap (len_cv (xs := ba1) (c := NettingFlow.cells)) (ap h48 (ap4 (not_f h61) (ap (at_some h66).1 (ap (at_map NettingFlow.cells (at_some h66).2) (ap3 (not_f h61) (ap (f64_ok be2 x65 h68) (ap h69 (ap (at_some h66).1 (ap (at_map NettingFlow.cells (at_some h66).2) (ap (fit_map (te := ti32) (xs := v46) (n := 1) (c := NettingFlow.cells) h72 rfl) (ap (app_cv (xs := v46) (ys := [x65]) (c := NettingFlow.cells)) an)))))))))))) (LoopQ.norm ⟨v44, (wr64 (v45 + 1)), (v46 ++ [x65]), rfl, h⟩)
    · obtain rfl := some_inj h
      exact rK cfg_ok 1 [([], [], [(2, .val (jI (ba1.length : Int)))])] [some false] [] [0, 1] [3, 5, 6] (.exit 0) ((f43n2E ba1 be2 (.exit0 v44 v46)).2) (ap (len_cv (xs := ba1) (c := NettingFlow.cells)) (ap h48 an)) (LoopQ.out rfl rfl)
noncomputable def f43n2L (ba1 : List NettingFlow) (be2 : NettingFlow) : List NettingFlow → Bool → Int → (List NettingFlow) → Option f43n2O
  | [], v44, v45, v46 =>
    some (.exit0 v44 v46)
  | x0 :: rest, v44, v45, v46 =>
    bif v44 then
      req (fit (v46.length + 1) 80) <|
      (f43n2L ba1 be2 rest v44 (v45 + 1) (v46 ++ [x0]))
    else
      (f64 be2 x0).bind fun x67 =>
      bif x67 then
        req (fit (v46.length + 1) 80) <|
        req (fit ((v46 ++ [be2]).length + 1) 80) <|
        (f43n2L ba1 be2 rest true (v45 + 1) ((v46 ++ [be2]) ++ [x0]))
      else
        req (fit (v46.length + 1) 80) <|
        (f43n2L ba1 be2 rest v44 (v45 + 1) (v46 ++ [x0]))
theorem f43n2L_eq (ba1 : List NettingFlow) (be2 : NettingFlow) : ∀ (rest : List NettingFlow) (f k : Nat) (v44 : Bool) (v46 : List NettingFlow), ba1.drop k = rest → ba1.length ≤ maxLen → rest.length < f → f43n2 f ba1 be2 v44 (k : Int) v46 = f43n2L ba1 be2 rest v44 (k : Int) v46
  | _, 0, _, _, _, _, _, hf => absurd hf (Nat.not_lt_zero _)
  | [], f + 1, k, v44, v46, hd, hm, hf => by
    have hk : ¬ ((k : Int) < (ba1.length : Int)) := by have := drop_nil hd; omega
    rw [f43n2, f43n2L]
    simp only [decide_eq_false hk, cond_false]
  | x0 :: rest, f + 1, k, v44, v46, hd, hm, hf => by
    obtain ⟨hx, hlt, hd'⟩ := drop_cons hd
    have hk : (k : Int) < (ba1.length : Int) := by omega
    have hw : wr64 ((k : Int) + 1) = (k : Int) + 1 := wr64_of (by omega) (by unfold maxLen at hm; omega)
    have ih : ∀ (v44 : Bool) (v46 : List NettingFlow), f43n2 f ba1 be2 v44 ((k : Int) + 1) v46 = f43n2L ba1 be2 rest v44 ((k : Int) + 1) v46 := fun v44 v46 => f43n2L_eq ba1 be2 rest f (k + 1) v44 v46 hd' hm (by simpa using hf)
    rw [f43n2, f43n2L]
    simp only [decide_eq_true hk, cond_true, at_nat, hx, Option.bind_some, hw, ih]
theorem f43n2_run (ba1 : List NettingFlow) (be2 : NettingFlow) (v44 : Bool) (v46 : List NettingFlow) (hm : ba1.length ≤ maxLen) : f43n2 FUEL ba1 be2 v44 0 v46 = f43n2L ba1 be2 ba1 v44 0 v46 := f43n2L_eq ba1 be2 ba1 FUEL 0 v44 v46 List.drop_zero hm (lt_FUEL hm)
inductive f43n1O where
  | norm (v79 : Bool) (v80 : List NettingFlow)
def f43n1E (ba1 : List NettingFlow) (be2 : NettingFlow) : f43n1O → Ex × Tr × Hp
  | .norm v79 v80 => (.norm, mkS [(3, (.bp 0 0)), (5, (.own 1)), (6, (jB v79))], [some (.box ((NettingFlow.cells be2).map .pl)), jR 6 NettingFlow.cells v80])
def f43n1S (ba1 : List NettingFlow) (be2 : NettingFlow) : Tr × Hp := (mkS [(0, (jL 6 NettingFlow.cells ba1)), (3, (.bp 0 0)), (5, (.pl (.sl .nil 0 []))), (6, (jB false))], [some (.box ((NettingFlow.cells be2).map .pl))])
noncomputable def f43n1 (ba1 : List NettingFlow) (be2 : NettingFlow) : Option f43n1O :=
  (f43n2 FUEL ba1 be2 false 0 []).bind fun o75 => match o75 with
  | .exit0 v77 v78 => some (.norm v77 v78)
theorem f43n1_ok (ba1 : List NettingFlow) (be2 : NettingFlow) {o : f43n1O} (h : (f43n1 ba1 be2) = some o) : T Try.prog Try.f43.ntmps 0 (cL (dropC 3 c43)) (f43n1S ba1 be2) (fun r => r = f43n1E ba1 be2 o) := by
  unfold f43n1 at h
  refine rN cfg_ok 1 [j3] [] [.mat 5 6] [0, 1] [0, 3, 5, 6, 7] (f43n2S ba1 be2 false 0 []) an ?_
  obtain ⟨o75, h76, h⟩ := bind_cases h
  cases o75 with
  | exit0 v77 v78 =>
    obtain rfl := some_inj h
    exact T.last' (T.bl (i := 0) (by kernel_rfl) (by kernel_rfl) (f43n2_ok FUEL ba1 be2 false 0 [] h76)) (tds := []) (m := [0, 1]) (keep := [3, 5, 6]) (st2 := (f43n1E ba1 be2 (.norm v77 v78)).2) (by kernel_rfl) an rfl
inductive f43n0O where
  | ret (v89 : List NettingFlow)
def f43n0E (a1 : List NettingFlow) (a2 : NettingFlow) : f43n0O → Ex × Tr × Hp
  | .ret v89 => (.ret, mkS [(4, (.own 0))], [jR 6 NettingFlow.cells v89])
def f43n0S (a1 : List NettingFlow) (a2 : NettingFlow) : Tr × Hp := (initS [(jL 6 NettingFlow.cells a1), (jA NettingFlow.cells a2)] 0 .leaf, [])
noncomputable def f43n0 (a1 : List NettingFlow) (a2 : NettingFlow) : Option f43n0O :=
  (f43n1 a1 a2).bind fun o81 => match o81 with
  | .norm v83 v84 => bif v83 then
      some (.ret v84)
    else
      req (fit (v84.length + 1) 80) <|
      some (.ret (v84 ++ [a2]))
theorem f43n0_ok (a1 : List NettingFlow) (a2 : NettingFlow) {o : f43n0O} (h : (f43n0 a1 a2) = some o) : T Try.prog Try.f43.ntmps 0 c43 (f43n0S a1 a2) (fun r => r = f43n0E a1 a2 o) := by
  unfold f43n0 at h
  refine rN cfg_ok 3 [j3, j3, j3] [] [] [0] [0, 3, 5, 6] (f43n1S a1 a2) an ?_
  obtain ⟨o81, h82, h⟩ := bind_cases h
  cases o81 with
  | norm v83 v84 =>
    refine T.oneN (by kernel_rfl) (f43n1_ok a1 a2 h82) (st2 := (f43n1E a1 a2 (.norm v83 v84)).2) rfl ?_
    rcases cond_cases h with ⟨h87, h⟩ | ⟨h87, h⟩
    · obtain rfl := some_inj h
      exact rE cfg_ok [j3, j3] [some false] [] [1] [4] (.ret, (f43n0E a1 a2 (.ret v84)).2) (ap (not_t h87) an) rfl
    · obtain ⟨h88, h⟩ := req_cases h
      obtain rfl := some_inj h
      exact rE cfg_ok [j3, ([], [(3, .fits)], [(3, .row 3 ((v84 ++ [a2]).map NettingFlow.cells))]), j3] [some true] [] [3] [4] (.ret, (f43n0E a1 a2 (.ret (v84 ++ [a2]))).2) (ap (not_f h87) (ap (fit_map (te := ti32) (xs := v84) (n := 1) (c := NettingFlow.cells) h88 rfl) (ap (app_cv (xs := v84) (ys := [a2]) (c := NettingFlow.cells)) an))) rfl
noncomputable def f43 (a1 : List NettingFlow) (a2 : NettingFlow) : Option (List NettingFlow) := (f43n0 a1 a2).bind fun o => match o with
  | .ret v89 => some v89
theorem f43_ok (a1 : List NettingFlow) (a2 : NettingFlow) {r : List NettingFlow} (h : (f43 a1 a2) = some r) : CallS Try.prog false 43 [(jL 6 NettingFlow.cells a1), (jA NettingFlow.cells a2)] [] (jL 6 NettingFlow.cells r) [] := by
  unfold f43 at h
  obtain ⟨o, ho, h⟩ := bind_cases h
  cases o with
  | ret v89 =>
    obtain rfl := some_inj h
    exact CallS.plain cfg_ok (f := Try.f43) (c := c43) (by kernel_rfl) (by kernel_rfl) (by kernel_rfl) (by kernel_rfl) ((f43n0_ok a1 a2 ho).mono fun r e => by subst e; exact ⟨.inl rfl, (.own 0), (jL 6 NettingFlow.cells v89), by kernel_rfl, by kernel_rfl, ((Wk.refl _) : Wk (jL 6 NettingFlow.cells v89) (jL 6 NettingFlow.cells v89))⟩)

noncomputable def c45 : Code := Try.f45.body.getD .skip
inductive f45n2O where
  | exit0 (v33 : Int)
def f45n2E (ba1 : List NettingFlow) (bd2 : Int) (bb3 : ByteArray) (bp4 : NettingSet) : f45n2O → Ex × Tr × Hp
  | .exit0 v33 => ((.exit 0), mkS [(2, (jI bd2)), (3, (jS bb3)), (4, (.bp 0 0)), (8, (.bp 1 0)), (11, (jI v33))], [some (.box ((NettingSet.cells bp4).map .pl)), some (.box ((NettingFlow.cells (NettingFlow.mk 0 str_x str_x str_x str_x 0)).map .pl))])
def f45n2S (ba1 : List NettingFlow) (bd2 : Int) (bb3 : ByteArray) (bp4 : NettingSet) (v23 : Int) (v24 : Int) : Tr × Hp := (mkS [(1, (jL 6 NettingFlow.cells ba1)), (2, (jI bd2)), (3, (jS bb3)), (4, (.bp 0 0)), (8, (.bp 1 0)), (11, (jI v23)), (12, (jI v24))], [some (.box ((NettingSet.cells bp4).map .pl)), some (.box ((NettingFlow.cells (NettingFlow.mk 0 str_x str_x str_x str_x 0)).map .pl))])
noncomputable def f45n2 : Nat → List NettingFlow → Int → ByteArray → NettingSet → Int → Int → Option f45n2O
  | 0, _, _, _, _, _, _ => none
  | f + 1, ba1, bd2, bb3, bp4, v23, v24 =>
    bif (decide (v24 < (ba1.length : Int))) then
      (at? ba1 v24).bind fun x30 =>
      bif (seq x30.From bp4.First) then
        (f45n2 f ba1 bd2 bb3 bp4 (wr64 (v23 + x30.Amount)) (wr64 (v24 + 1)))
      else
        (f45n2 f ba1 bd2 bb3 bp4 (wr64 (v23 - x30.Amount)) (wr64 (v24 + 1)))
    else
      some (.exit0 v23)
theorem f45n2_ok : ∀ (f : Nat) (ba1 : List NettingFlow) (bd2 : Int) (bb3 : ByteArray) (bp4 : NettingSet) (v23 : Int) (v24 : Int) {o : f45n2O}, (f45n2 f ba1 bd2 bb3 bp4 v23 v24) = some o → TL Try.prog Try.f45.ntmps 0 f (cL (cL (dropC 1 (cL (dropC 2 c45))))) (f45n2S ba1 bd2 bb3 bp4 v23 v24) (fun r => r = f45n2E ba1 bd2 bb3 bp4 o)
  | 0, _, _, _, _, _, _, o, h => by rw [f45n2] at h; cases h
  | f + 1, ba1, bd2, bb3, bp4, v23, v24, o, h => by
    rw [f45n2] at h
    refine TL.body (K := fun s => ∃ v23 : Int, ∃ v24 : Int, s = (f45n2S ba1 bd2 bb3 bp4 v23 v24) ∧ (f45n2 f ba1 bd2 bb3 bp4 v23 v24) = some o) ?_ (by rintro _ ⟨v23, v24, rfl, hk⟩; exact f45n2_ok f _ _ _ _ _ _ hk)
    rcases cond_cases h with ⟨h26, h⟩ | ⟨h26, h⟩
    · obtain ⟨x30, h31, h⟩ := bind_cases h
      rcases cond_cases h with ⟨h32, h⟩ | ⟨h32, h⟩
      · exact rE cfg_ok [([], [], [(2, .val (jI (ba1.length : Int)))]), ([], [(2, .idx (Int.toNat v24) (NettingFlow.cells x30))], []), ([], [(3, .idx (Int.toNat v24) (NettingFlow.cells x30))], []), j3] [some true, some true] [] [0, 1] [1, 2, 3, 4, 8, 11, 12] (.norm, (f45n2S ba1 bd2 bb3 bp4 (wr64 (v23 + x30.Amount)) (wr64 (v24 + 1)))) (ap (len_cv (xs := ba1) (c := NettingFlow.cells)) (ap h26 (ap (at_some h31).1 (ap (at_map NettingFlow.cells (at_some h31).2) (ap h32 (ap (at_some h31).1 (ap (at_map NettingFlow.cells (at_some h31).2) an))))))) (LoopQ.norm ⟨(wr64 (v23 + x30.Amount)), (wr64 (v24 + 1)), rfl, h⟩)
      · exact rE cfg_ok [([], [], [(2, .val (jI (ba1.length : Int)))]), ([], [(2, .idx (Int.toNat v24) (NettingFlow.cells x30))], []), ([], [(3, .idx (Int.toNat v24) (NettingFlow.cells x30))], []), j3] [some true, some false] [] [0, 1] [1, 2, 3, 4, 8, 11, 12] (.norm, (f45n2S ba1 bd2 bb3 bp4 (wr64 (v23 - x30.Amount)) (wr64 (v24 + 1)))) (ap (len_cv (xs := ba1) (c := NettingFlow.cells)) (ap h26 (ap (at_some h31).1 (ap (at_map NettingFlow.cells (at_some h31).2) (ap h32 (ap (at_some h31).1 (ap (at_map NettingFlow.cells (at_some h31).2) an))))))) (LoopQ.norm ⟨(wr64 (v23 - x30.Amount)), (wr64 (v24 + 1)), rfl, h⟩)
    · obtain rfl := some_inj h
      exact rK cfg_ok 1 [([], [], [(2, .val (jI (ba1.length : Int)))])] [some false] [] [0, 1] [2, 3, 4, 8, 11] (.exit 0) ((f45n2E ba1 bd2 bb3 bp4 (.exit0 v23)).2) (ap (len_cv (xs := ba1) (c := NettingFlow.cells)) (ap h26 an)) (LoopQ.out rfl rfl)
noncomputable def f45n2L (ba1 : List NettingFlow) (bd2 : Int) (bb3 : ByteArray) (bp4 : NettingSet) : List NettingFlow → Int → Int → Option f45n2O
  | [], v23, v24 =>
    some (.exit0 v23)
  | x0 :: rest, v23, v24 =>
    bif (seq x0.From bp4.First) then
      (f45n2L ba1 bd2 bb3 bp4 rest (wr64 (v23 + x0.Amount)) (v24 + 1))
    else
      (f45n2L ba1 bd2 bb3 bp4 rest (wr64 (v23 - x0.Amount)) (v24 + 1))
theorem f45n2L_eq (ba1 : List NettingFlow) (bd2 : Int) (bb3 : ByteArray) (bp4 : NettingSet) : ∀ (rest : List NettingFlow) (f k : Nat) (v23 : Int), ba1.drop k = rest → ba1.length ≤ maxLen → rest.length < f → f45n2 f ba1 bd2 bb3 bp4 v23 (k : Int) = f45n2L ba1 bd2 bb3 bp4 rest v23 (k : Int)
  | _, 0, _, _, _, _, hf => absurd hf (Nat.not_lt_zero _)
  | [], f + 1, k, v23, hd, hm, hf => by
    have hk : ¬ ((k : Int) < (ba1.length : Int)) := by have := drop_nil hd; omega
    rw [f45n2, f45n2L]
    simp only [decide_eq_false hk, cond_false]
  | x0 :: rest, f + 1, k, v23, hd, hm, hf => by
    obtain ⟨hx, hlt, hd'⟩ := drop_cons hd
    have hk : (k : Int) < (ba1.length : Int) := by omega
    have hw : wr64 ((k : Int) + 1) = (k : Int) + 1 := wr64_of (by omega) (by unfold maxLen at hm; omega)
    have ih : ∀ (v23 : Int), f45n2 f ba1 bd2 bb3 bp4 v23 ((k : Int) + 1) = f45n2L ba1 bd2 bb3 bp4 rest v23 ((k : Int) + 1) := fun v23 => f45n2L_eq ba1 bd2 bb3 bp4 rest f (k + 1) v23 hd' hm (by simpa using hf)
    rw [f45n2, f45n2L]
    simp only [decide_eq_true hk, cond_true, at_nat, hx, Option.bind_some, hw, ih]
theorem f45n2_run (ba1 : List NettingFlow) (bd2 : Int) (bb3 : ByteArray) (bp4 : NettingSet) (v23 : Int) (hm : ba1.length ≤ maxLen) : f45n2 FUEL ba1 bd2 bb3 bp4 v23 0 = f45n2L ba1 bd2 bb3 bp4 ba1 v23 0 := f45n2L_eq ba1 bd2 bb3 bp4 ba1 FUEL 0 v23 List.drop_zero hm (lt_FUEL hm)
inductive f45n1O where
  | norm (v37 : Int)
def f45n1E (ba1 : List NettingFlow) (bd2 : Int) (bb3 : ByteArray) (bp4 : NettingSet) : f45n1O → Ex × Tr × Hp
  | .norm v37 => (.norm, mkS [(2, (jI bd2)), (3, (jS bb3)), (4, (.bp 0 0)), (8, (.bp 1 0)), (11, (jI v37))], [some (.box ((NettingSet.cells bp4).map .pl)), some (.box ((NettingFlow.cells (NettingFlow.mk 0 str_x str_x str_x str_x 0)).map .pl))])
def f45n1S (ba1 : List NettingFlow) (bd2 : Int) (bb3 : ByteArray) (bp4 : NettingSet) : Tr × Hp := (mkS [(1, (jL 6 NettingFlow.cells ba1)), (2, (jI bd2)), (3, (jS bb3)), (4, (.bp 0 0)), (8, (.bp 1 0)), (11, (jI 0))], [some (.box ((NettingSet.cells bp4).map .pl)), some (.box ((NettingFlow.cells (NettingFlow.mk 0 str_x str_x str_x str_x 0)).map .pl))])
noncomputable def f45n1 (ba1 : List NettingFlow) (bd2 : Int) (bb3 : ByteArray) (bp4 : NettingSet) : Option f45n1O :=
  (f45n2 FUEL ba1 bd2 bb3 bp4 0 0).bind fun o34 => match o34 with
  | .exit0 v36 => some (.norm v36)
theorem f45n1_ok (ba1 : List NettingFlow) (bd2 : Int) (bb3 : ByteArray) (bp4 : NettingSet) {o : f45n1O} (h : (f45n1 ba1 bd2 bb3 bp4) = some o) : T Try.prog Try.f45.ntmps 0 (cL (dropC 2 c45)) (f45n1S ba1 bd2 bb3 bp4) (fun r => r = f45n1E ba1 bd2 bb3 bp4 o) := by
  unfold f45n1 at h
  refine rN cfg_ok 1 [j3] [] [] [0, 1] [1, 2, 3, 4, 8, 11, 12] (f45n2S ba1 bd2 bb3 bp4 0 0) an ?_
  obtain ⟨o34, h35, h⟩ := bind_cases h
  cases o34 with
  | exit0 v36 =>
    obtain rfl := some_inj h
    exact T.last' (T.bl (i := 0) (by kernel_rfl) (by kernel_rfl) (f45n2_ok FUEL ba1 bd2 bb3 bp4 0 0 h35)) (tds := []) (m := [0, 1]) (keep := [2, 3, 4, 8, 11]) (st2 := (f45n1E ba1 bd2 bb3 bp4 (.norm v36)).2) (by kernel_rfl) an rfl
inductive f45n3O where
  | norm (v44 : NettingFlow)
def f45n3E (bd1 : Int) (bp2 : NettingSet) (bd3 : Int) (bb4 : ByteArray) : f45n3O → Ex × Tr × Hp
  | .norm v44 => (.norm, mkS [(8, (.bp 0 0)), (11, (jI bd1)), (13, (.bp 1 0))], [some (.box ((NettingFlow.cells (NettingFlow.mk 0 str_x str_x str_x str_x 0)).map .pl)), some (.box ((NettingFlow.cells v44).map .pl))])
def f45n3S (bd1 : Int) (bp2 : NettingSet) (bd3 : Int) (bb4 : ByteArray) : Tr × Hp := (mkS [(4, (.bp 0 0)), (8, (.bp 1 0)), (11, (jI bd1)), (13, (.bp 2 0))], [some (.box ((NettingSet.cells bp2).map .pl)), some (.box ((NettingFlow.cells (NettingFlow.mk 0 str_x str_x str_x str_x 0)).map .pl)), some (.box ((NettingFlow.cells (NettingFlow.mk bd3 bp2.Name bb4 bp2.First bp2.Second bd1)).map .pl))])
noncomputable def f45n3 (bd1 : Int) (bp2 : NettingSet) (bd3 : Int) (bb4 : ByteArray) : Option f45n3O :=
  bif (decide (bd1 < 0)) then
    some (.norm (NettingFlow.mk bd3 bp2.Name bb4 bp2.Second bp2.First (wr64 (0 - bd1))))
  else
    some (.norm (NettingFlow.mk bd3 bp2.Name bb4 bp2.First bp2.Second bd1))
theorem f45n3_ok (bd1 : Int) (bp2 : NettingSet) (bd3 : Int) (bb4 : ByteArray) {o : f45n3O} (h : (f45n3 bd1 bp2 bd3 bb4) = some o) : T Try.prog Try.f45.ntmps 0 (cL (dropC 1 (dropC 1 (dropC 2 c45)))) (f45n3S bd1 bp2 bd3 bb4) (fun r => r = f45n3E bd1 bp2 bd3 bb4 o) := by
  unfold f45n3 at h
  rcases cond_cases h with ⟨h43, h⟩ | ⟨h43, h⟩
  · obtain rfl := some_inj h
    exact rE cfg_ok [j3, j3] [some true] [] [1, 2] [8, 11, 13] (.norm, (f45n3E bd1 bp2 bd3 bb4 (.norm (NettingFlow.mk bd3 bp2.Name bb4 bp2.Second bp2.First (wr64 (0 - bd1))))).2) (ap h43 an) rfl
  · obtain rfl := some_inj h
    exact rE cfg_ok [j3] [some false] [] [1, 2] [8, 11, 13] (.norm, (f45n3E bd1 bp2 bd3 bb4 (.norm (NettingFlow.mk bd3 bp2.Name bb4 bp2.First bp2.Second bd1))).2) (ap h43 an) rfl
inductive f45n0O where
  | ret (v50 : Bool) (v51 : Int) (v52 : NettingFlow)
def f45n0E (a1 : NettingSet) (a2 : List NettingFlow) (a3 : Int) (a4 : ByteArray) : f45n0O → Ex × Tr × Hp
  | .ret v50 v51 v52 => (.ret, mkS [(8, (.bp 0 0)), (9, (jB v50)), (10, (jI v51))], [some (.box ((NettingFlow.cells v52).map .pl))])
def f45n0S (a1 : NettingSet) (a2 : List NettingFlow) (a3 : Int) (a4 : ByteArray) : Tr × Hp := (initS [(jA NettingSet.cells a1), (jL 6 NettingFlow.cells a2), (jI a3), (jS a4)] 0 .leaf, [])
noncomputable def f45n0 (a1 : NettingSet) (a2 : List NettingFlow) (a3 : Int) (a4 : ByteArray) : Option f45n0O :=
  (f45n1 a2 a3 a4 a1).bind fun o38 => match o38 with
  | .norm v40 => (f45n3 v40 a1 a3 a4).bind fun o45 => match o45 with
    | .norm v47 => bif (decide (1125899906842624 < v47.Amount)) then
        some (.ret false 14 (NettingFlow.mk 0 str_x str_x str_x str_x 0))
      else
        some (.ret (!(decide (v40 = 0))) 0 v47)
theorem f45n0_ok (a1 : NettingSet) (a2 : List NettingFlow) (a3 : Int) (a4 : ByteArray) {o : f45n0O} (h : (f45n0 a1 a2 a3 a4) = some o) : T Try.prog Try.f45.ntmps 0 c45 (f45n0S a1 a2 a3 a4) (fun r => r = f45n0E a1 a2 a3 a4 o) := by
  unfold f45n0 at h
  refine rN cfg_ok 2 [j3, j3] [] [] [0, 1] [1, 2, 3, 4, 8, 11] (f45n1S a2 a3 a4 a1) an ?_
  obtain ⟨o38, h39, h⟩ := bind_cases h
  cases o38 with
  | norm v40 =>
    refine T.oneN (by kernel_rfl) (f45n1_ok a2 a3 a4 a1 h39) (st2 := (f45n1E a2 a3 a4 a1 (.norm v40)).2) rfl ?_
    refine rN cfg_ok 1 [j3] [] [] [0, 1, 2] [4, 8, 11, 13] (f45n3S v40 a1 a3 a4) an ?_
    obtain ⟨o45, h46, h⟩ := bind_cases h
    cases o45 with
    | norm v47 =>
      refine T.oneN (by kernel_rfl) (f45n3_ok v40 a1 a3 a4 h46) (st2 := (f45n3E v40 a1 a3 a4 (.norm v47)).2) rfl ?_
      rcases cond_cases h with ⟨h49, h⟩ | ⟨h49, h⟩
      · obtain rfl := some_inj h
        exact rK cfg_ok 1 [j3, j3] [some true] [] [0] [8, 9, 10] .ret ((f45n0E a1 a2 a3 a4 (.ret false 14 (NettingFlow.mk 0 str_x str_x str_x str_x 0))).2) (ap h49 an) rfl
      · obtain rfl := some_inj h
        exact rE cfg_ok [j3, j3] [some false] [] [0] [8, 9, 10] (.ret, (f45n0E a1 a2 a3 a4 (.ret (!(decide (v40 = 0))) 0 v47)).2) (ap h49 an) rfl
noncomputable def f45 (a1 : NettingSet) (a2 : List NettingFlow) (a3 : Int) (a4 : ByteArray) : Option (NettingFlow × Bool × Int) := (f45n0 a1 a2 a3 a4).bind fun o => match o with
  | .ret v50 v51 v52 => some (v52, v50, v51)
theorem f45_ok (a1 : NettingSet) (a2 : List NettingFlow) (a3 : Int) (a4 : ByteArray) {r : NettingFlow × Bool × Int} (h : (f45 a1 a2 a3 a4) = some r) : CallS Try.prog false 45 [(jA NettingSet.cells a1), (jL 6 NettingFlow.cells a2), (jI a3), (jS a4)] [] (.tup [(jA NettingFlow.cells r.1), (jB r.2.1), (jI r.2.2)]) [] := by
  unfold f45 at h
  obtain ⟨o, ho, h⟩ := bind_cases h
  cases o with
  | ret v50 v51 v52 =>
    obtain rfl := some_inj h
    exact CallS.plain cfg_ok (f := Try.f45) (c := c45) (by kernel_rfl) (by kernel_rfl) (by kernel_rfl) (by kernel_rfl) ((f45n0_ok a1 a2 a3 a4 ho).mono fun r e => by subst e; exact ⟨.inl rfl, (.tup [(jA NettingFlow.cells v52), (jB v50), (jI v51)]), (.tup [(jA NettingFlow.cells v52), (jB v50), (jI v51)]), by kernel_rfl, by kernel_rfl, ((Wk.refl _) : Wk (.tup [(jA NettingFlow.cells v52), (jB v50), (jI v51)]) (.tup [(jA NettingFlow.cells v52), (jB v50), (jI v51)]))⟩)
end Go.Proofs.Ytkcafackfihmiaa
namespace Go.Proofs.Ytkcafackfihmiaa
set_option linter.unusedVariables false
set_option linter.unusedSimpArgs false
set_option maxRecDepth 100000
open Go.RowKit
noncomputable def c18 : Code := Try.f18.body.getD .skip
inductive f18n4O where
  | exit2 (v343 : Bool) (v344 : List NettingFlow)
def f18n4E (bo1 : List NettingSet) (ba2 : List NettingFlow) (ba3 : List NettingFlow) (bd4 : Int) : f18n4O → Ex × Tr × Hp
  | .exit2 v343 v344 => ((.exit 2), mkS [(0, (jL 3 NettingSet.cells bo1)), (1, (jL 6 NettingFlow.cells ba2)), (6, (jL 6 NettingFlow.cells ba3)), (7, (jI bd4)), (8, (jB v343)), (9, (.own 0))], [jR 6 NettingFlow.cells v344])
def f18n4S (bo1 : List NettingSet) (ba2 : List NettingFlow) (ba3 : List NettingFlow) (bd4 : Int) (v318 : Bool) (v319 : Int) (v320 : List NettingFlow) : Tr × Hp := (mkS [(0, (jL 3 NettingSet.cells bo1)), (1, (jL 6 NettingFlow.cells ba2)), (6, (jL 6 NettingFlow.cells ba3)), (7, (jI bd4)), (8, (jB v318)), (9, (.own 0)), (10, (jI v319))], [jR 6 NettingFlow.cells v320])
noncomputable def f18n4 : Nat → List NettingSet → List NettingFlow → List NettingFlow → Int → Bool → Int → List NettingFlow → Option f18n4O
  | 0, _, _, _, _, _, _, _ => none
  | f + 1, bo1, ba2, ba3, bd4, v318, v319, v320 =>
    bif (decide (v319 < (ba2.length : Int))) then
      (at? ba2 v319).bind fun x333 =>
      (at? ba2 bd4).bind fun x335 =>
      bif (decide (x333.Date = x335.Date)) then
        bif (seq x333.Set x335.Set) then
          bif (seq x333.Ccy x335.Ccy) then
            bif v318 then
              req (fit (v320.length + 1) 80) <|
              (f18n4 f bo1 ba2 ba3 bd4 (decide (bd4 ≤ v319)) (wr64 (v319 + 1)) (v320 ++ [x333]))
            else
              req (fit (v320.length + 1) 80) <|
              (f18n4 f bo1 ba2 ba3 bd4 false (wr64 (v319 + 1)) (v320 ++ [x333]))
          else
            (f18n4 f bo1 ba2 ba3 bd4 v318 (wr64 (v319 + 1)) v320)
        else
          (f18n4 f bo1 ba2 ba3 bd4 v318 (wr64 (v319 + 1)) v320)
      else
        (f18n4 f bo1 ba2 ba3 bd4 v318 (wr64 (v319 + 1)) v320)
    else
      some (.exit2 v318 v320)
theorem f18n4_ok : ∀ (f : Nat) (bo1 : List NettingSet) (ba2 : List NettingFlow) (ba3 : List NettingFlow) (bd4 : Int) (v318 : Bool) (v319 : Int) (v320 : List NettingFlow) {o : f18n4O}, (f18n4 f bo1 ba2 ba3 bd4 v318 v319 v320) = some o → TL Try.prog Try.f18.ntmps 0 f (cL (cL (dropC 1 (cL (dropC 3 (cL (cL (dropC 1 (cL (cL (dropC 1 (cL (dropC 3 c18))))))))))))) (f18n4S bo1 ba2 ba3 bd4 v318 v319 v320) (fun r => r = f18n4E bo1 ba2 ba3 bd4 o)
  | 0, _, _, _, _, _, _, _, o, h => by rw [f18n4] at h; cases h
  | f + 1, bo1, ba2, ba3, bd4, v318, v319, v320, o, h => by
    rw [f18n4] at h
    refine TL.body (K := fun s => ∃ v318 : Bool, ∃ v319 : Int, ∃ v320 : List NettingFlow, s = (f18n4S bo1 ba2 ba3 bd4 v318 v319 v320) ∧ (f18n4 f bo1 ba2 ba3 bd4 v318 v319 v320) = some o) ?_ (by rintro _ ⟨v318, v319, v320, rfl, hk⟩; exact f18n4_ok f _ _ _ _ _ _ _ hk)
    rcases cond_cases h with ⟨h322, h⟩ | ⟨h322, h⟩
    · obtain ⟨x333, h334, h⟩ := bind_cases h
      obtain ⟨x335, h336, h⟩ := bind_cases h
      rcases cond_cases h with ⟨h337, h⟩ | ⟨h337, h⟩
      · rcases cond_cases h with ⟨h338, h⟩ | ⟨h338, h⟩
        · rcases cond_cases h with ⟨h339, h⟩ | ⟨h339, h⟩
          · rcases cond_cases h with ⟨h340, h⟩ | ⟨h340, h⟩
            · obtain ⟨h341, h⟩ := req_cases h
              exact rE cfg_ok [([], [], [(2, .val (jI (ba2.length : Int)))]), (jT [12, 13, 14, 15, 16, 17, 18, 19, 20, 21, 22, 25, 26, 27, 28, 29, 30, 31, 32, 33, 34, 35], [(2, .idx (Int.toNat v319) (NettingFlow.cells x333)), (7, .idx (Int.toNat bd4) (NettingFlow.cells x335)), (14, .idx (Int.toNat v319) (NettingFlow.cells x333)), (19, .idx (Int.toNat bd4) (NettingFlow.cells x335)), (23, .bool true), (27, .idx (Int.toNat v319) (NettingFlow.cells x333)), (32, .idx (Int.toNat bd4) (NettingFlow.cells x335)), (36, .bool true)], []), (jT [2, 3, 4], [(5, .bool true)], []), ([], [(3, .idx (Int.toNat v319) (NettingFlow.cells x333)), (6, .fits)], [(6, .row 3 ((v320 ++ [x333]).map NettingFlow.cells))]), j3] [some true, some true] [] [3] [0, 1, 6, 7, 8, 9, 10] (.norm, (f18n4S bo1 ba2 ba3 bd4 (decide (bd4 ≤ v319)) (wr64 (v319 + 1)) (v320 ++ [x333]))) (ap (len_cv (xs := ba2) (c := NettingFlow.cells)) (ap h322 (ap (at_some h334).1 (ap (at_map NettingFlow.cells (at_some h334).2) (ap (at_some h336).1 (ap (at_map NettingFlow.cells (at_some h336).2) (ap3 h337 (ap (at_some h334).1 (ap (at_map NettingFlow.cells (at_some h334).2) (ap h337 (ap4 h337 (ap (at_some h336).1 (ap (at_map NettingFlow.cells (at_some h336).2) (ap4 h337 (ap3 h338 (ap (at_some h334).1 (ap (at_map NettingFlow.cells (at_some h334).2) (ap h338 (ap4 h338 (ap (at_some h336).1 (ap (at_map NettingFlow.cells (at_some h336).2) (ap4 h338 (ap h339 (ap4 h340 (ap (at_some h334).1 (ap (at_map NettingFlow.cells (at_some h334).2) (ap (fit_map (te := ti32) (xs := v320) (n := 1) (c := NettingFlow.cells) h341 rfl) (ap (app_cv (xs := v320) (ys := [x333]) (c := NettingFlow.cells)) an)))))))))))))))))))))))))))) (LoopQ.norm ⟨(decide (bd4 ≤ v319)), (wr64 (v319 + 1)), (v320 ++ [x333]), rfl, h⟩)
            · obtain ⟨h342, h⟩ := req_cases h
              exact rE cfg_ok [([], [], [(2, .val (jI (ba2.length : Int)))]), (jT [12, 13, 14, 15, 16, 17, 18, 19, 20, 21, 22, 25, 26, 27, 28, 29, 30, 31, 32, 33, 34, 35], [(2, .idx (Int.toNat v319) (NettingFlow.cells x333)), (7, .idx (Int.toNat bd4) (NettingFlow.cells x335)), (14, .idx (Int.toNat v319) (NettingFlow.cells x333)), (19, .idx (Int.toNat bd4) (NettingFlow.cells x335)), (23, .bool true), (27, .idx (Int.toNat v319) (NettingFlow.cells x333)), (32, .idx (Int.toNat bd4) (NettingFlow.cells x335)), (36, .bool true)], []), (jF [2, 3, 4], [(5, .bool false)], []), ([], [(3, .idx (Int.toNat v319) (NettingFlow.cells x333)), (6, .fits)], [(6, .row 3 ((v320 ++ [x333]).map NettingFlow.cells))]), j3] [some true, some true] [] [3] [0, 1, 6, 7, 8, 9, 10] (.norm, (f18n4S bo1 ba2 ba3 bd4 false (wr64 (v319 + 1)) (v320 ++ [x333]))) (ap (len_cv (xs := ba2) (c := NettingFlow.cells)) (ap h322 (ap (at_some h334).1 (ap (at_map NettingFlow.cells (at_some h334).2) (ap (at_some h336).1 (ap (at_map NettingFlow.cells (at_some h336).2) (ap3 h337 (ap (at_some h334).1 (ap (at_map NettingFlow.cells (at_some h334).2) (ap h337 (ap4 h337 (ap (at_some h336).1 (ap (at_map NettingFlow.cells (at_some h336).2) (ap4 h337 (ap3 h338 (ap (at_some h334).1 (ap (at_map NettingFlow.cells (at_some h334).2) (ap h338 (ap4 h338 (ap (at_some h336).1 (ap (at_map NettingFlow.cells (at_some h336).2) (ap4 h338 (ap h339 (ap4 h340 (ap (at_some h334).1 (ap (at_map NettingFlow.cells (at_some h334).2) (ap (fit_map (te := ti32) (xs := v320) (n := 1) (c := NettingFlow.cells) h342 rfl) (ap (app_cv (xs := v320) (ys := [x333]) (c := NettingFlow.cells)) an)))))))))))))))))))))))))))) (LoopQ.norm ⟨false, (wr64 (v319 + 1)), (v320 ++ [x333]), rfl, h⟩)
          · exact rE cfg_ok [([], [], [(2, .val (jI (ba2.length : Int)))]), (jT [12, 13, 14, 15, 16, 17, 18, 19, 20, 21, 22, 25, 26, 27, 28, 29, 30, 31, 32, 33, 34, 35], [(2, .idx (Int.toNat v319) (NettingFlow.cells x333)), (7, .idx (Int.toNat bd4) (NettingFlow.cells x335)), (14, .idx (Int.toNat v319) (NettingFlow.cells x333)), (19, .idx (Int.toNat bd4) (NettingFlow.cells x335)), (23, .bool true), (27, .idx (Int.toNat v319) (NettingFlow.cells x333)), (32, .idx (Int.toNat bd4) (NettingFlow.cells x335)), (36, .bool true)], []), j3] [some true, some false] [] [0] [0, 1, 6, 7, 8, 9, 10] (.norm, (f18n4S bo1 ba2 ba3 bd4 v318 (wr64 (v319 + 1)) v320)) (ap (len_cv (xs := ba2) (c := NettingFlow.cells)) (ap h322 (ap (at_some h334).1 (ap (at_map NettingFlow.cells (at_some h334).2) (ap (at_some h336).1 (ap (at_map NettingFlow.cells (at_some h336).2) (ap3 h337 (ap (at_some h334).1 (ap (at_map NettingFlow.cells (at_some h334).2) (ap h337 (ap4 h337 (ap (at_some h336).1 (ap (at_map NettingFlow.cells (at_some h336).2) (ap4 h337 (ap3 h338 (ap (at_some h334).1 (ap (at_map NettingFlow.cells (at_some h334).2) (ap h338 (ap4 h338 (ap (at_some h336).1 (ap (at_map NettingFlow.cells (at_some h336).2) (ap4 h338 (ap h339 an))))))))))))))))))))))) (LoopQ.norm ⟨v318, (wr64 (v319 + 1)), v320, rfl, h⟩)
        · exact rE cfg_ok [([], [], [(2, .val (jI (ba2.length : Int)))]), (jF [25, 26, 27, 28, 29, 30, 31, 32, 33, 34, 35] ++ jT [12, 13, 14, 15, 16, 17, 18, 19, 20, 21, 22], [(2, .idx (Int.toNat v319) (NettingFlow.cells x333)), (7, .idx (Int.toNat bd4) (NettingFlow.cells x335)), (14, .idx (Int.toNat v319) (NettingFlow.cells x333)), (19, .idx (Int.toNat bd4) (NettingFlow.cells x335)), (23, .bool true), (36, .bool false)], []), j3] [some true, none] [] [0] [0, 1, 6, 7, 8, 9, 10] (.norm, (f18n4S bo1 ba2 ba3 bd4 v318 (wr64 (v319 + 1)) v320)) (ap (len_cv (xs := ba2) (c := NettingFlow.cells)) (ap h322 (ap (at_some h334).1 (ap (at_map NettingFlow.cells (at_some h334).2) (ap (at_some h336).1 (ap (at_map NettingFlow.cells (at_some h336).2) (ap3 h337 (ap (at_some h334).1 (ap (at_map NettingFlow.cells (at_some h334).2) (ap h337 (ap4 h337 (ap (at_some h336).1 (ap (at_map NettingFlow.cells (at_some h336).2) (ap4 h337 (ap4 h338 (ap4 h338 (ap4 h338 an))))))))))))))))) (LoopQ.norm ⟨v318, (wr64 (v319 + 1)), v320, rfl, h⟩)
      · exact rE cfg_ok [([], [], [(2, .val (jI (ba2.length : Int)))]), (jF [12, 13, 14, 15, 16, 17, 18, 19, 20, 21, 22], [(2, .idx (Int.toNat v319) (NettingFlow.cells x333)), (7, .idx (Int.toNat bd4) (NettingFlow.cells x335)), (23, .bool false)], []), j3] [some true, none] [] [0] [0, 1, 6, 7, 8, 9, 10] (.norm, (f18n4S bo1 ba2 ba3 bd4 v318 (wr64 (v319 + 1)) v320)) (ap (len_cv (xs := ba2) (c := NettingFlow.cells)) (ap h322 (ap (at_some h334).1 (ap (at_map NettingFlow.cells (at_some h334).2) (ap (at_some h336).1 (ap (at_map NettingFlow.cells (at_some h336).2) (ap4 h337 (ap4 h337 (ap4 h337 an))))))))) (LoopQ.norm ⟨v318, (wr64 (v319 + 1)), v320, rfl, h⟩)
    · obtain rfl := some_inj h
      exact rK cfg_ok 1 [([], [], [(2, .val (jI (ba2.length : Int)))])] [some false] [] [0] [0, 1, 6, 7, 8, 9] (.exit 2) ((f18n4E bo1 ba2 ba3 bd4 (.exit2 v318 v320)).2) (ap (len_cv (xs := ba2) (c := NettingFlow.cells)) (ap h322 an)) (LoopQ.out rfl rfl)
noncomputable def f18n4L (bo1 : List NettingSet) (ba2 : List NettingFlow) (ba3 : List NettingFlow) (bd4 : Int) : List NettingFlow → Bool → Int → (List NettingFlow) → Option f18n4O
  | [], v318, v319, v320 =>
    some (.exit2 v318 v320)
  | x0 :: rest, v318, v319, v320 =>
    (at? ba2 bd4).bind fun x335 =>
    bif (decide (x0.Date = x335.Date)) then
      bif (seq x0.Set x335.Set) then
        bif (seq x0.Ccy x335.Ccy) then
          bif v318 then
            req (fit (v320.length + 1) 80) <|
            (f18n4L bo1 ba2 ba3 bd4 rest (decide (bd4 ≤ v319)) (v319 + 1) (v320 ++ [x0]))
          else
            req (fit (v320.length + 1) 80) <|
            (f18n4L bo1 ba2 ba3 bd4 rest false (v319 + 1) (v320 ++ [x0]))
        else
          (f18n4L bo1 ba2 ba3 bd4 rest v318 (v319 + 1) v320)
      else
        (f18n4L bo1 ba2 ba3 bd4 rest v318 (v319 + 1) v320)
    else
      (f18n4L bo1 ba2 ba3 bd4 rest v318 (v319 + 1) v320)
theorem f18n4L_eq (bo1 : List NettingSet) (ba2 : List NettingFlow) (ba3 : List NettingFlow) (bd4 : Int) : ∀ (rest : List NettingFlow) (f k : Nat) (v318 : Bool) (v320 : List NettingFlow), ba2.drop k = rest → ba2.length ≤ maxLen → rest.length < f → f18n4 f bo1 ba2 ba3 bd4 v318 (k : Int) v320 = f18n4L bo1 ba2 ba3 bd4 rest v318 (k : Int) v320
  | _, 0, _, _, _, _, _, hf => absurd hf (Nat.not_lt_zero _)
  | [], f + 1, k, v318, v320, hd, hm, hf => by
    have hk : ¬ ((k : Int) < (ba2.length : Int)) := by have := drop_nil hd; omega
    rw [f18n4, f18n4L]
    simp only [decide_eq_false hk, cond_false]
  | x0 :: rest, f + 1, k, v318, v320, hd, hm, hf => by
    obtain ⟨hx, hlt, hd'⟩ := drop_cons hd
    have hk : (k : Int) < (ba2.length : Int) := by omega
    have hw : wr64 ((k : Int) + 1) = (k : Int) + 1 := wr64_of (by omega) (by unfold maxLen at hm; omega)
    have ih : ∀ (v318 : Bool) (v320 : List NettingFlow), f18n4 f bo1 ba2 ba3 bd4 v318 ((k : Int) + 1) v320 = f18n4L bo1 ba2 ba3 bd4 rest v318 ((k : Int) + 1) v320 := fun v318 v320 => f18n4L_eq bo1 ba2 ba3 bd4 rest f (k + 1) v318 v320 hd' hm (by simpa using hf)
    rw [f18n4, f18n4L]
    simp only [decide_eq_true hk, cond_true, at_nat, hx, Option.bind_some, hw, ih]
theorem f18n4_run (bo1 : List NettingSet) (ba2 : List NettingFlow) (ba3 : List NettingFlow) (bd4 : Int) (v318 : Bool) (v320 : List NettingFlow) (hm : ba2.length ≤ maxLen) : f18n4 FUEL bo1 ba2 ba3 bd4 v318 0 v320 = f18n4L bo1 ba2 ba3 bd4 ba2 v318 0 v320 := f18n4L_eq bo1 ba2 ba3 bd4 ba2 FUEL 0 v318 v320 List.drop_zero hm (lt_FUEL hm)
inductive f18n3O where
  | norm (v349 : Bool) (v350 : List NettingFlow)
def f18n3E (bo1 : List NettingSet) (ba2 : List NettingFlow) (ba3 : List NettingFlow) (bd4 : Int) : f18n3O → Ex × Tr × Hp
  | .norm v349 v350 => (.norm, mkS [(0, (jL 3 NettingSet.cells bo1)), (1, (jL 6 NettingFlow.cells ba2)), (6, (jL 6 NettingFlow.cells ba3)), (7, (jI bd4)), (8, (jB v349)), (9, (.own 0))], [jR 6 NettingFlow.cells v350])
def f18n3S (bo1 : List NettingSet) (ba2 : List NettingFlow) (ba3 : List NettingFlow) (bd4 : Int) : Tr × Hp := (mkS [(0, (jL 3 NettingSet.cells bo1)), (1, (jL 6 NettingFlow.cells ba2)), (6, (jL 6 NettingFlow.cells ba3)), (7, (jI bd4)), (8, (jB true)), (9, (.pl (.sl .nil 0 [])))], [])
noncomputable def f18n3 (bo1 : List NettingSet) (ba2 : List NettingFlow) (ba3 : List NettingFlow) (bd4 : Int) : Option f18n3O :=
  (f18n4 FUEL bo1 ba2 ba3 bd4 true 0 []).bind fun o345 => match o345 with
  | .exit2 v347 v348 => some (.norm v347 v348)
theorem f18n3_ok (bo1 : List NettingSet) (ba2 : List NettingFlow) (ba3 : List NettingFlow) (bd4 : Int) {o : f18n3O} (h : (f18n3 bo1 ba2 ba3 bd4) = some o) : T Try.prog Try.f18.ntmps 0 (cL (dropC 3 (cL (cL (dropC 1 (cL (cL (dropC 1 (cL (dropC 3 c18)))))))))) (f18n3S bo1 ba2 ba3 bd4) (fun r => r = f18n3E bo1 ba2 ba3 bd4 o) := by
  unfold f18n3 at h
  refine rN cfg_ok 1 [j3] [] [.mat 9 6] [0] [0, 1, 6, 7, 8, 9, 10] (f18n4S bo1 ba2 ba3 bd4 true 0 []) an ?_
  obtain ⟨o345, h346, h⟩ := bind_cases h
  cases o345 with
  | exit2 v347 v348 =>
    obtain rfl := some_inj h
    exact T.last' (T.bl (i := 2) (by kernel_rfl) (by kernel_rfl) (f18n4_ok FUEL bo1 ba2 ba3 bd4 true 0 [] h346)) (tds := []) (m := [0]) (keep := [0, 1, 6, 7, 8, 9]) (st2 := (f18n3E bo1 ba2 ba3 bd4 (.norm v347 v348)).2) (by kernel_rfl) an rfl
inductive f18n2O where
  | norm (v377 : List NettingFlow)
  | ret (v378 : Int)
def f18n2E (bo1 : List NettingSet) (ba2 : List NettingFlow) (ba3 : List NettingFlow) (bd4 : Int) : f18n2O → Ex × Tr × Hp
  | .norm v377 => (.norm, mkS [(0, (jL 3 NettingSet.cells bo1)), (1, (jL 6 NettingFlow.cells ba2)), (6, (jL 6 NettingFlow.cells v377)), (7, (jI bd4))], [])
  | .ret v378 => (.ret, mkS [(4, (.pl (.sl .nil 0 []))), (5, (jI v378))], [])
def f18n2S (bo1 : List NettingSet) (ba2 : List NettingFlow) (ba3 : List NettingFlow) (bd4 : Int) : Tr × Hp := (mkS [(0, (jL 3 NettingSet.cells bo1)), (1, (jL 6 NettingFlow.cells ba2)), (6, (jL 6 NettingFlow.cells ba3)), (7, (jI bd4))], [])
noncomputable def f18n2 (bo1 : List NettingSet) (ba2 : List NettingFlow) (ba3 : List NettingFlow) (bd4 : Int) : Option f18n2O :=
  (at? ba2 bd4).bind fun x272 =>
  bif (seq x272.Set str_x) then
    (f43 ba3 x272).bind fun x275 =>
    some (.norm x275)
  else
    (f18n3 bo1 ba2 ba3 bd4).bind fun o351 => match o351 with
    | .norm v353 v354 => bif v353 then
        (f44 bo1 x272.Set).bind fun x359 =>
        (f45 x359.1 v354 x272.Date x272.Ccy).bind fun x363 =>
        bif (decide (x363.2.2 = 0)) then
          bif x363.2.1 then
            (f43 ba3 x363.1).bind fun x375 =>
            some (.norm x375)
          else
            some (.norm ba3)
        else
          some (.ret x363.2.2)
      else
        some (.norm ba3)
theorem f18n2_ok (bo1 : List NettingSet) (ba2 : List NettingFlow) (ba3 : List NettingFlow) (bd4 : Int) {o : f18n2O} (h : (f18n2 bo1 ba2 ba3 bd4) = some o) : T Try.prog Try.f18.ntmps 0 (cL (dropC 1 (cL (cL (dropC 1 (cL (dropC 3 c18))))))) (f18n2S bo1 ba2 ba3 bd4) (fun r => r = f18n2E bo1 ba2 ba3 bd4 o) := by
  unfold f18n2 at h
  refine T.block' (i := 1) (by kernel_rfl) ?_
  obtain ⟨x272, h273, h⟩ := bind_cases h
  rcases cond_cases h with ⟨h274, h⟩ | ⟨h274, h⟩
  · obtain ⟨x275, h276, h⟩ := bind_cases h
    obtain rfl := some_inj h
    exact rK cfg_ok 1 [([], [(2, .idx (Int.toNat bd4) (NettingFlow.cells x272))], []), ([], [(3, .idx (Int.toNat bd4) (NettingFlow.cells x272)), jH 5 (jL 6 NettingFlow.cells x275)], [])] [some true] [] [] [0, 1, 6, 7] (.exit 1) ((f18n2E bo1 ba2 ba3 bd4 (.norm x275)).2) (ap (at_some h273).1 (ap (at_map NettingFlow.cells (at_some h273).2) (ap h274 (ap (at_some h273).1 (ap (at_map NettingFlow.cells (at_some h273).2) (ap (f43_ok ba3 x272 h276) an)))))) rfl
  · refine rN cfg_ok 3 [([], [(2, .idx (Int.toNat bd4) (NettingFlow.cells x272))], []), j3, j3] [some false] [] [] [0, 1, 6, 7, 8, 9] (f18n3S bo1 ba2 ba3 bd4) (ap (at_some h273).1 (ap (at_map NettingFlow.cells (at_some h273).2) (ap h274 an))) ?_
    obtain ⟨o351, h352, h⟩ := bind_cases h
    cases o351 with
    | norm v353 v354 =>
      refine T.oneN (by kernel_rfl) (f18n3_ok bo1 ba2 ba3 bd4 h352) (st2 := (f18n3E bo1 ba2 ba3 bd4 (.norm v353 v354)).2) rfl ?_
      rcases cond_cases h with ⟨h356, h⟩ | ⟨h356, h⟩
      · obtain ⟨x359, h360, h⟩ := bind_cases h
        obtain ⟨x363, h364, h⟩ := bind_cases h
        refine rN cfg_ok 3 [j3, ([], [(3, .idx (Int.toNat bd4) (NettingFlow.cells x272)), jH 6 (.tup [(jA NettingSet.cells x359.1), (jB x359.2)])], []), ([], [(4, .idx (Int.toNat bd4) (NettingFlow.cells x272)), (9, .idx (Int.toNat bd4) (NettingFlow.cells x272)), jH 12 (.tup [(jA NettingFlow.cells x363.1), (jB x363.2.1), (jI x363.2.2)])], [])] [some false] [] [2] [0, 1, 6, 7, 13, 14, 15] (mkS [(0, (jL 3 NettingSet.cells bo1)), (1, (jL 6 NettingFlow.cells ba2)), (6, (jL 6 NettingFlow.cells ba3)), (7, (jI bd4)), (13, (.bp 0 0)), (14, (jB x363.2.1)), (15, (jI x363.2.2))], [some (.box ((NettingFlow.cells x363.1).map .pl))]) (ap (not_t h356) (ap (at_some h273).1 (ap (at_map NettingFlow.cells (at_some h273).2) (ap (f44_ok bo1 x272.Set h360) (ap (at_some h273).1 (ap (at_map NettingFlow.cells (at_some h273).2) (ap (at_some h273).1 (ap (at_map NettingFlow.cells (at_some h273).2) (ap (f45_ok x359.1 v354 x272.Date x272.Ccy h364) an))))))))) ?_
        rcases cond_cases h with ⟨h370, h⟩ | ⟨h370, h⟩
        · rcases cond_cases h with ⟨h374, h⟩ | ⟨h374, h⟩
          · obtain ⟨x375, h376, h⟩ := bind_cases h
            obtain rfl := some_inj h
            exact rE cfg_ok [j3, j3, ([], [jH 2 (jL 6 NettingFlow.cells x375)], [])] [some false, some true] [] [] [0, 1, 6, 7] (.norm, (f18n2E bo1 ba2 ba3 bd4 (.norm x375)).2) (ap (not_t h370) (ap h374 (ap (f43_ok ba3 x363.1 h376) an))) rfl
          · obtain rfl := some_inj h
            exact rE cfg_ok [j3, j3] [some false, some false] [] [] [0, 1, 6, 7] (.norm, (f18n2E bo1 ba2 ba3 bd4 (.norm ba3)).2) (ap (not_t h370) (ap h374 an)) rfl
        · obtain rfl := some_inj h
          exact rK cfg_ok 1 [j3, j3] [some true] [] [] [4, 5] .ret ((f18n2E bo1 ba2 ba3 bd4 (.ret x363.2.2)).2) (ap (not_f h370) an) rfl
      · obtain rfl := some_inj h
        exact rK cfg_ok 1 [j3] [some true] [] [] [0, 1, 6, 7] (.exit 1) ((f18n2E bo1 ba2 ba3 bd4 (.norm ba3)).2) (ap (not_f h356) an) rfl
inductive f18n5O where
  | exit0 (v383 : List NettingFlow)
  | ret (v384 : Int)
def f18n5E (bo1 : List NettingSet) (ba2 : List NettingFlow) : f18n5O → Ex × Tr × Hp
  | .exit0 v383 => ((.exit 0), mkS [(6, (jL 6 NettingFlow.cells v383))], [])
  | .ret v384 => (.ret, mkS [(4, (.pl (.sl .nil 0 []))), (5, (jI v384))], [])
def f18n5S (bo1 : List NettingSet) (ba2 : List NettingFlow) (v263 : List NettingFlow) (v264 : Int) : Tr × Hp := (mkS [(0, (jL 3 NettingSet.cells bo1)), (1, (jL 6 NettingFlow.cells ba2)), (6, (jL 6 NettingFlow.cells v263)), (7, (jI v264))], [])
noncomputable def f18n5 : Nat → List NettingSet → List NettingFlow → List NettingFlow → Int → Option f18n5O
  | 0, _, _, _, _ => none
  | f + 1, bo1, ba2, v263, v264 =>
    bif (decide (v264 < (ba2.length : Int))) then
      (f18n2 bo1 ba2 v263 v264).bind fun o379 => match o379 with
      | .norm v381 => (f18n5 f bo1 ba2 v381 (wr64 (v264 + 1)))
      | .ret v382 => some (.ret v382)
    else
      some (.exit0 v263)
theorem f18n5_ok : ∀ (f : Nat) (bo1 : List NettingSet) (ba2 : List NettingFlow) (v263 : List NettingFlow) (v264 : Int) {o : f18n5O}, (f18n5 f bo1 ba2 v263 v264) = some o → TL Try.prog Try.f18.ntmps 0 f (cL (cL (dropC 1 (cL (dropC 3 c18))))) (f18n5S bo1 ba2 v263 v264) (fun r => r = f18n5E bo1 ba2 o)
  | 0, _, _, _, _, o, h => by rw [f18n5] at h; cases h
  | f + 1, bo1, ba2, v263, v264, o, h => by
    rw [f18n5] at h
    refine TL.body (K := fun s => ∃ v263 : List NettingFlow, ∃ v264 : Int, s = (f18n5S bo1 ba2 v263 v264) ∧ (f18n5 f bo1 ba2 v263 v264) = some o) ?_ (by rintro _ ⟨v263, v264, rfl, hk⟩; exact f18n5_ok f _ _ _ _ hk)
    rcases cond_cases h with ⟨h266, h⟩ | ⟨h266, h⟩
    · refine rN cfg_ok 1 [([], [], [(2, .val (jI (ba2.length : Int)))])] [some true] [] [] [0, 1, 6, 7] (f18n2S bo1 ba2 v263 v264) (ap (len_cv (xs := ba2) (c := NettingFlow.cells)) (ap h266 an)) ?_
      obtain ⟨o379, h380, h⟩ := bind_cases h
      cases o379 with
      | norm v381 =>
        refine T.oneN (by kernel_rfl) (f18n2_ok bo1 ba2 v263 v264 h380) (st2 := (f18n2E bo1 ba2 v263 v264 (.norm v381)).2) rfl ?_
        exact rE cfg_ok [j3] [] [] [] [0, 1, 6, 7] (.norm, (f18n5S bo1 ba2 v381 (wr64 (v264 + 1)))) an (LoopQ.norm ⟨v381, (wr64 (v264 + 1)), rfl, h⟩)
      | ret v382 =>
        obtain rfl := some_inj h
        exact T.oneX' (by kernel_rfl) (f18n2_ok bo1 ba2 v263 v264 h380) (tds := []) (m := []) (keep := [4, 5]) (st2 := (f18n5E bo1 ba2 (.ret v382)).2) (by kernel_rfl) an rfl (LoopQ.out rfl rfl)
    · obtain rfl := some_inj h
      exact rK cfg_ok 1 [([], [], [(2, .val (jI (ba2.length : Int)))])] [some false] [] [] [6] (.exit 0) ((f18n5E bo1 ba2 (.exit0 v263)).2) (ap (len_cv (xs := ba2) (c := NettingFlow.cells)) (ap h266 an)) (LoopQ.out rfl rfl)
inductive f18n1O where
  | norm (v389 : List NettingFlow)
  | ret (v390 : Int)
def f18n1E (bo1 : List NettingSet) (ba2 : List NettingFlow) : f18n1O → Ex × Tr × Hp
  | .norm v389 => (.norm, mkS [(6, (jL 6 NettingFlow.cells v389))], [])
  | .ret v390 => (.ret, mkS [(4, (.pl (.sl .nil 0 []))), (5, (jI v390))], [])
def f18n1S (bo1 : List NettingSet) (ba2 : List NettingFlow) : Tr × Hp := (mkS [(0, (jL 3 NettingSet.cells bo1)), (1, (jL 6 NettingFlow.cells ba2)), (6, (.pl (.sl .nil 0 [])))], [])
noncomputable def f18n1 (bo1 : List NettingSet) (ba2 : List NettingFlow) : Option f18n1O :=
  (f18n5 FUEL bo1 ba2 [] 0).bind fun o385 => match o385 with
  | .exit0 v387 => some (.norm v387)
  | .ret v388 => some (.ret v388)
theorem f18n1_ok (bo1 : List NettingSet) (ba2 : List NettingFlow) {o : f18n1O} (h : (f18n1 bo1 ba2) = some o) : T Try.prog Try.f18.ntmps 0 (cL (dropC 3 c18)) (f18n1S bo1 ba2) (fun r => r = f18n1E bo1 ba2 o) := by
  unfold f18n1 at h
  refine rN cfg_ok 1 [j3] [] [.wk 6 (.pl (.sl .any 6 ([].map NettingFlow.cells)))] [] [0, 1, 6, 7] (f18n5S bo1 ba2 [] 0) (ap ((Wk.pl (WkP.nil (f := .nil) (sz := 0) (sz' := 6))) : Wk (.pl (.sl .nil 0 [])) (.pl (.sl .any 6 ([].map NettingFlow.cells)))) an) ?_
  obtain ⟨o385, h386, h⟩ := bind_cases h
  cases o385 with
  | exit0 v387 =>
    obtain rfl := some_inj h
    exact T.last' (T.bl (i := 0) (by kernel_rfl) (by kernel_rfl) (f18n5_ok FUEL bo1 ba2 [] 0 h386)) (tds := []) (m := []) (keep := [6]) (st2 := (f18n1E bo1 ba2 (.norm v387)).2) (by kernel_rfl) an rfl
  | ret v388 =>
    obtain rfl := some_inj h
    exact T.last' (T.bl (i := 0) (by kernel_rfl) (by kernel_rfl) (f18n5_ok FUEL bo1 ba2 [] 0 h386)) (tds := []) (m := []) (keep := [4, 5]) (st2 := (f18n1E bo1 ba2 (.ret v388)).2) (by kernel_rfl) an rfl
inductive f18n0O where
  | ret (v395 : List NettingFlow) (v396 : Int)
def f18n0E (a1 : List NettingSet) (a2 : List NettingFlow) : f18n0O → Ex × Tr × Hp
  | .ret v395 v396 => (.ret, mkS [(4, (jL 6 NettingFlow.cells v395)), (5, (jI v396))], [])
def f18n0S (a1 : List NettingSet) (a2 : List NettingFlow) : Tr × Hp := (initS [(jL 3 NettingSet.cells a1), (jL 6 NettingFlow.cells a2)] 0 .leaf, [])
noncomputable def f18n0 (a1 : List NettingSet) (a2 : List NettingFlow) : Option f18n0O :=
  (f22 a1 a2).bind fun x6 =>
  bif (decide (x6 = 0)) then
    (f18n1 a1 a2).bind fun o391 => match o391 with
    | .norm v393 => some (.ret v393 0)
    | .ret v394 => some (.ret [] v394)
  else
    some (.ret [] 8)
theorem f18n0_ok (a1 : List NettingSet) (a2 : List NettingFlow) {o : f18n0O} (h : (f18n0 a1 a2) = some o) : T Try.prog Try.f18.ntmps 0 c18 (f18n0S a1 a2) (fun r => r = f18n0E a1 a2 o) := by
  unfold f18n0 at h
  obtain ⟨x6, h7, h⟩ := bind_cases h
  rcases cond_cases h with ⟨h8, h⟩ | ⟨h8, h⟩
  · refine rN cfg_ok 3 [j3, ([], [jH 2 (jI x6)], []), j3] [some false] [] [] [0, 1, 6] (f18n1S a1 a2) (ap (f22_ok a1 a2 h7) (ap (not_t h8) an)) ?_
    obtain ⟨o391, h392, h⟩ := bind_cases h
    cases o391 with
    | norm v393 =>
      refine T.oneN (by kernel_rfl) (f18n1_ok a1 a2 h392) (st2 := (f18n1E a1 a2 (.norm v393)).2) rfl ?_
      obtain rfl := some_inj h
      exact rE cfg_ok [j3] [] [] [] [4, 5] (.ret, (f18n0E a1 a2 (.ret v393 0)).2) an rfl
    | ret v394 =>
      obtain rfl := some_inj h
      exact T.oneX' (by kernel_rfl) (f18n1_ok a1 a2 h392) (tds := [.wk 4 (.pl (.sl .any 6 ([].map NettingFlow.cells)))]) (m := []) (keep := [4, 5]) (st2 := (f18n0E a1 a2 (.ret [] v394)).2) (by kernel_rfl) (ap ((Wk.pl (WkP.nil (f := .nil) (sz := 0) (sz' := 6))) : Wk (.pl (.sl .nil 0 [])) (.pl (.sl .any 6 ([].map NettingFlow.cells)))) an) rfl rfl
  · obtain rfl := some_inj h
    exact rK cfg_ok 2 [j3, ([], [jH 2 (jI x6)], []), j3] [some true] [.wk 4 (.pl (.sl .any 6 ([].map NettingFlow.cells)))] [] [4, 5] .ret ((f18n0E a1 a2 (.ret [] 8)).2) (ap (f22_ok a1 a2 h7) (ap (not_f h8) (ap ((Wk.pl (WkP.nil (f := .nil) (sz := 0) (sz' := 6))) : Wk (.pl (.sl .nil 0 [])) (.pl (.sl .any 6 ([].map NettingFlow.cells)))) an))) rfl
noncomputable def f18 (a1 : List NettingSet) (a2 : List NettingFlow) : Option ((List NettingFlow) × Int) := (f18n0 a1 a2).bind fun o => match o with
  | .ret v395 v396 => some (v395, v396)
theorem f18_ok (a1 : List NettingSet) (a2 : List NettingFlow) {r : (List NettingFlow) × Int} (h : (f18 a1 a2) = some r) : CallS Try.prog false 18 [(jL 3 NettingSet.cells a1), (jL 6 NettingFlow.cells a2)] [] (.tup [(jL 6 NettingFlow.cells r.1), (jI r.2)]) [] := by
  unfold f18 at h
  obtain ⟨o, ho, h⟩ := bind_cases h
  cases o with
  | ret v395 v396 =>
    obtain rfl := some_inj h
    exact CallS.plain cfg_ok (f := Try.f18) (c := c18) (by kernel_rfl) (by kernel_rfl) (by kernel_rfl) (by kernel_rfl) ((f18n0_ok a1 a2 ho).mono fun r e => by subst e; exact ⟨.inl rfl, (.tup [(jL 6 NettingFlow.cells v395), (jI v396)]), (.tup [(jL 6 NettingFlow.cells v395), (jI v396)]), by kernel_rfl, by kernel_rfl, ((Wk.refl _) : Wk (.tup [(jL 6 NettingFlow.cells v395), (jI v396)]) (.tup [(jL 6 NettingFlow.cells v395), (jI v396)]))⟩)

noncomputable def c47 : Code := Try.f47.body.getD .skip
inductive f47r1n0O where
  | ret (v6 : Bool)
def f47r1n0E (a1 : NettingFlow) (a2 : Int) (a3 : ByteArray) : f47r1n0O → Ex × Tr × Hp
  | .ret v6 => (.ret, mkS [(4, (.bp 2 0)), (5, (jB v6))], [some (.box (((cInt .i64) a2).map .pl)), some (.box ((cStr a3).map .pl)), some (.box ((Key_.cells (Key_.mk a2 a3 a1.Ccy)).map .pl))])
def f47r1n0S (a1 : NettingFlow) (a2 : Int) (a3 : ByteArray) : Tr × Hp := (initS [(jA NettingFlow.cells a1), (.bp 0 0), (.bp 1 0)] 0 .leaf, [some (.box (((cInt .i64) a2).map .pl)), some (.box ((cStr a3).map .pl))])
noncomputable def f47r1n0 (a1 : NettingFlow) (a2 : Int) (a3 : ByteArray) : Option f47r1n0O :=
  bif (seq a1.Set a3) then
    some (.ret (decide (a2 ≤ a1.Date)))
  else
    some (.ret false)
theorem f47r1n0_ok (a1 : NettingFlow) (a2 : Int) (a3 : ByteArray) {o : f47r1n0O} (h : (f47r1n0 a1 a2 a3) = some o) : T Try.prog Try.f47.ntmps 2 c47 (f47r1n0S a1 a2 a3) (fun r => r = f47r1n0E a1 a2 a3 o) := by
  unfold f47r1n0 at h
  rcases cond_cases h with ⟨h5, h⟩ | ⟨h5, h⟩
  · obtain rfl := some_inj h
    exact rE cfg_ok [j3, (jT [10, 11, 12, 13], [(14, .bool true)], [])] [] [] [3] [4, 5] (.ret, (f47r1n0E a1 a2 a3 (.ret (decide (a2 ≤ a1.Date)))).2) (ap h5 (ap4 h5 an)) rfl
  · obtain rfl := some_inj h
    exact rE cfg_ok [j3, (jF [10, 11, 12, 13], [(14, .bool false)], [])] [] [] [3] [4, 5] (.ret, (f47r1n0E a1 a2 a3 (.ret false)).2) (ap h5 (ap4 h5 an)) rfl
noncomputable def f47r1 (a1 : NettingFlow) (a2 : Int) (a3 : ByteArray) : Option Bool := (f47r1n0 a1 a2 a3).bind fun o => match o with
  | .ret v6 => some v6
theorem f47r1_ok (a1 : NettingFlow) (a2 : Int) (a3 : ByteArray) {r : Bool} (h : (f47r1 a1 a2 a3) = some r) : CallS Try.prog true 47 [(jA NettingFlow.cells a1), (.bp 0 0), (.bp 1 0)] [some (.box (((cInt .i64) a2).map .pl)), some (.box ((cStr a3).map .pl))] (.tup [(.pl (.agg (Key_.cells (Key_.mk a2 a3 a1.Ccy)))), (jB r)]) [some (.box (((cInt .i64) a2).map .pl)), some (.box ((cStr a3).map .pl)), some (.box ((Key_.cells (Key_.mk a2 a3 a1.Ccy)).map .pl))] := by
  unfold f47r1 at h
  obtain ⟨o, ho, h⟩ := bind_cases h
  cases o with
  | ret v6 =>
    obtain rfl := some_inj h
    exact CallS.shared cfg_ok (f := Try.f47) (c := c47) (by kernel_rfl) (by kernel_rfl) (by kernel_rfl) ((f47r1n0_ok a1 a2 a3 ho).mono fun r e => by subst e; exact ⟨.inl rfl, by kernel_rfl, by kernel_rfl⟩)

inductive f32r2n2O where
  | exit0 (v57 : List NettingFlow) (v58 : List (Key_ × Int))
def f32r2n2E (ba2 : List NettingFlow) (bo1 : List NettingSet) (bd3 : Int) (bb4 : ByteArray) : f32r2n2O → Ex × Tr × Hp
  | .exit0 v57 v58 => ((.exit 0), mkS [(0, (.own 0)), (6, (.own 4)), (7, (.pl (.sl .nil 0 []))), (9, (.mp 5))], [jR 3 NettingSet.cells bo1, jR 6 NettingFlow.cells ba2, some (.box (((cInt .i64) bd3).map .pl)), some (.box ((cStr bb4).map .pl)), jR 6 NettingFlow.cells v57, some (.map (v58.map (mkv (pAgg Key_.cells) (pInt .i64))))])
def f32r2n2S (ba2 : List NettingFlow) (bo1 : List NettingSet) (bd3 : Int) (bb4 : ByteArray) (v38 : Int) (v39 : List NettingFlow) (v40 : List (Key_ × Int)) : Tr × Hp := (mkS [(0, (.own 0)), (2, (.clo 47 [(.bp 2 0), (.bp 3 0)])), (6, (.own 4)), (7, (.pl (.sl .nil 0 []))), (9, (.mp 5)), (21, (.own 1)), (22, (jI (ba2.length : Int))), (23, (jI v38))], [jR 3 NettingSet.cells bo1, jR 6 NettingFlow.cells ba2, some (.box (((cInt .i64) bd3).map .pl)), some (.box ((cStr bb4).map .pl)), jR 6 NettingFlow.cells v39, some (.map (v40.map (mkv (pAgg Key_.cells) (pInt .i64))))])
noncomputable def f32r2n2 : Nat → List NettingFlow → List NettingSet → Int → ByteArray → Int → List NettingFlow → List (Key_ × Int) → Option f32r2n2O
  | 0, _, _, _, _, _, _, _ => none
  | f + 1, ba2, bo1, bd3, bb4, v38, v39, v40 =>
    bif (decide (v38 < (ba2.length : Int))) then
      (at? ba2 v38).bind fun x50 =>
      (f47r1 x50 bd3 bb4).bind fun x52 =>
      bif x52 then
        bif (slt x50.From x50.To) then
          (f32r2n2 f ba2 bo1 bd3 bb4 (wr64 (v38 + 1)) v39 (mPut Key_.eqb (Key_.mk bd3 bb4 x50.Ccy) (wr64 ((mGet Key_.eqb 0 (Key_.mk bd3 bb4 x50.Ccy) v40) + x50.Amount)) v40))
        else
          (f32r2n2 f ba2 bo1 bd3 bb4 (wr64 (v38 + 1)) v39 (mPut Key_.eqb (Key_.mk bd3 bb4 x50.Ccy) (wr64 ((mGet Key_.eqb 0 (Key_.mk bd3 bb4 x50.Ccy) v40) - x50.Amount)) v40))
      else
        req (fit (v39.length + 1) 80) <|
        (f32r2n2 f ba2 bo1 bd3 bb4 (wr64 (v38 + 1)) (v39 ++ [x50]) v40)
    else
      some (.exit0 v39 v40)
theorem f32r2n2_ok : ∀ (f : Nat) (ba2 : List NettingFlow) (bo1 : List NettingSet) (bd3 : Int) (bb4 : ByteArray) (v38 : Int) (v39 : List NettingFlow) (v40 : List (Key_ × Int)) {o : f32r2n2O}, (f32r2n2 f ba2 bo1 bd3 bb4 v38 v39 v40) = some o → TL Try.prog Try.f32.ntmps 4 f (cL (cL (dropC 1 (cL (dropC 2 c32))))) (f32r2n2S ba2 bo1 bd3 bb4 v38 v39 v40) (fun r => r = f32r2n2E ba2 bo1 bd3 bb4 o)
  | 0, _, _, _, _, _, _, _, o, h => by rw [f32r2n2] at h; cases h
  | f + 1, ba2, bo1, bd3, bb4, v38, v39, v40, o, h => by
    rw [f32r2n2] at h
    refine TL.body (K := fun s => ∃ v38 : Int, ∃ v39 : List NettingFlow, ∃ v40 : List (Key_ × Int), s = (f32r2n2S ba2 bo1 bd3 bb4 v38 v39 v40) ∧ (f32r2n2 f ba2 bo1 bd3 bb4 v38 v39 v40) = some o) ?_ (by rintro _ ⟨v38, v39, v40, rfl, hk⟩; exact f32r2n2_ok f _ _ _ _ _ _ _ hk)
    rcases cond_cases h with ⟨h42, h⟩ | ⟨h42, h⟩
    · obtain ⟨x50, h51, h⟩ := bind_cases h
      obtain ⟨x52, h53, h⟩ := bind_cases h
      rcases cond_cases h with ⟨h54, h⟩ | ⟨h54, h⟩
      · rcases cond_cases h with ⟨h55, h⟩ | ⟨h55, h⟩
        · exact rE cfg_ok [j3, ([], [(0, .at_ (Int.toNat v38)), (1, .idx 0 (NettingFlow.cells x50))], []), ([], [(2, .call (.tup [(.pl (.agg (Key_.cells (Key_.mk bd3 bb4 x50.Ccy)))), (jB x52)]) [none, none, some (.box (((cInt .i64) bd3).map .pl)), some (.box ((cStr bb4).map .pl)), none, none, none, some (.box ((Key_.cells (Key_.mk bd3 bb4 x50.Ccy)).map .pl))])], []), j3, j3, ([], [(2, .look ((pInt .i64) (mGet Key_.eqb 0 (Key_.mk bd3 bb4 x50.Ccy) v40)) (mHas Key_.eqb (Key_.mk bd3 bb4 x50.Ccy) v40)), (6, .ment ((pInt .i64) (mGet Key_.eqb 0 (Key_.mk bd3 bb4 x50.Ccy) v40)) (mIdx Key_.eqb (Key_.mk bd3 bb4 x50.Ccy) v40) ((mEns Key_.eqb 0 (Key_.mk bd3 bb4 x50.Ccy) v40).map (mkv (pAgg Key_.cells) (pInt .i64)))), (8, .mst (mIdx Key_.eqb (Key_.mk bd3 bb4 x50.Ccy) v40) ((pAgg Key_.cells) (Key_.mk bd3 bb4 x50.Ccy)) ((pInt .i64) (mGet Key_.eqb 0 (Key_.mk bd3 bb4 x50.Ccy) v40)))], [(8, .map 5 ((mPut Key_.eqb (Key_.mk bd3 bb4 x50.Ccy) (wr64 ((mGet Key_.eqb 0 (Key_.mk bd3 bb4 x50.Ccy) v40) + x50.Amount)) v40).map (mkv (pAgg Key_.cells) (pInt .i64))))]), j3] [some true, some false, some true] [] [4, 5] [0, 2, 6, 7, 9, 21, 22, 23] (.norm, (f32r2n2S ba2 bo1 bd3 bb4 (wr64 (v38 + 1)) v39 (mPut Key_.eqb (Key_.mk bd3 bb4 x50.Ccy) (wr64 ((mGet Key_.eqb 0 (Key_.mk bd3 bb4 x50.Ccy) v40) + x50.Amount)) v40))) (ap h42 (ap (at_some h51).1 (ap (lt_map NettingFlow.cells (at_some h51).2) (ap (at_map NettingFlow.cells (at_some h51).2) (ap (CallS.rn 7 [2, 3] (f47r1_ok x50 bd3 bb4 h53)) (ap (not_t h54) (ap h55 (ap (look_map (vp := (pInt .i64)) (e := 3) key_62 0 (by kernel_rfl) (Key_.mk bd3 bb4 x50.Ccy) v40) (ap (ment_map (vp := (pInt .i64)) (e := 3) key_62 0 (by kernel_rfl) (Key_.mk bd3 bb4 x50.Ccy) v40) (ap (rfl : ((mIdx Key_.eqb (Key_.mk bd3 bb4 x50.Ccy) v40) : Int) = (((mIdx Key_.eqb (Key_.mk bd3 bb4 x50.Ccy) v40) : Nat) : Int)) (ap (mst_at (vp := (pInt .i64)) key_62 0 (Key_.mk bd3 bb4 x50.Ccy) v40) (ap (mst_put (vp := (pInt .i64)) key_62 0 (wr64 ((mGet Key_.eqb 0 (Key_.mk bd3 bb4 x50.Ccy) v40) + x50.Amount)) (Key_.mk bd3 bb4 x50.Ccy) v40) an)))))))))))) (LoopQ.norm ⟨(wr64 (v38 + 1)), v39, (mPut Key_.eqb (Key_.mk bd3 bb4 x50.Ccy) (wr64 ((mGet Key_.eqb 0 (Key_.mk bd3 bb4 x50.Ccy) v40) + x50.Amount)) v40), rfl, h⟩)
        · exact rE cfg_ok [j3, ([], [(0, .at_ (Int.toNat v38)), (1, .idx 0 (NettingFlow.cells x50))], []), ([], [(2, .call (.tup [(.pl (.agg (Key_.cells (Key_.mk bd3 bb4 x50.Ccy)))), (jB x52)]) [none, none, some (.box (((cInt .i64) bd3).map .pl)), some (.box ((cStr bb4).map .pl)), none, none, none, some (.box ((Key_.cells (Key_.mk bd3 bb4 x50.Ccy)).map .pl))])], []), j3, j3, ([], [(2, .look ((pInt .i64) (mGet Key_.eqb 0 (Key_.mk bd3 bb4 x50.Ccy) v40)) (mHas Key_.eqb (Key_.mk bd3 bb4 x50.Ccy) v40)), (6, .ment ((pInt .i64) (mGet Key_.eqb 0 (Key_.mk bd3 bb4 x50.Ccy) v40)) (mIdx Key_.eqb (Key_.mk bd3 bb4 x50.Ccy) v40) ((mEns Key_.eqb 0 (Key_.mk bd3 bb4 x50.Ccy) v40).map (mkv (pAgg Key_.cells) (pInt .i64)))), (8, .mst (mIdx Key_.eqb (Key_.mk bd3 bb4 x50.Ccy) v40) ((pAgg Key_.cells) (Key_.mk bd3 bb4 x50.Ccy)) ((pInt .i64) (mGet Key_.eqb 0 (Key_.mk bd3 bb4 x50.Ccy) v40)))], [(8, .map 5 ((mPut Key_.eqb (Key_.mk bd3 bb4 x50.Ccy) (wr64 ((mGet Key_.eqb 0 (Key_.mk bd3 bb4 x50.Ccy) v40) - x50.Amount)) v40).map (mkv (pAgg Key_.cells) (pInt .i64))))]), j3] [some true, some false, some false] [] [4, 5] [0, 2, 6, 7, 9, 21, 22, 23] (.norm, (f32r2n2S ba2 bo1 bd3 bb4 (wr64 (v38 + 1)) v39 (mPut Key_.eqb (Key_.mk bd3 bb4 x50.Ccy) (wr64 ((mGet Key_.eqb 0 (Key_.mk bd3 bb4 x50.Ccy) v40) - x50.Amount)) v40))) (ap h42 (ap (at_some h51).1 (ap (lt_map NettingFlow.cells (at_some h51).2) (ap (at_map NettingFlow.cells (at_some h51).2) (ap (CallS.rn 7 [2, 3] (f47r1_ok x50 bd3 bb4 h53)) (ap (not_t h54) (ap h55 (ap (look_map (vp := (pInt .i64)) (e := 3) key_62 0 (by kernel_rfl) (Key_.mk bd3 bb4 x50.Ccy) v40) (ap (ment_map (vp := (pInt .i64)) (e := 3) key_62 0 (by kernel_rfl) (Key_.mk bd3 bb4 x50.Ccy) v40) (ap (rfl : ((mIdx Key_.eqb (Key_.mk bd3 bb4 x50.Ccy) v40) : Int) = (((mIdx Key_.eqb (Key_.mk bd3 bb4 x50.Ccy) v40) : Nat) : Int)) (ap (mst_at (vp := (pInt .i64)) key_62 0 (Key_.mk bd3 bb4 x50.Ccy) v40) (ap (mst_put (vp := (pInt .i64)) key_62 0 (wr64 ((mGet Key_.eqb 0 (Key_.mk bd3 bb4 x50.Ccy) v40) - x50.Amount)) (Key_.mk bd3 bb4 x50.Ccy) v40) an)))))))))))) (LoopQ.norm ⟨(wr64 (v38 + 1)), v39, (mPut Key_.eqb (Key_.mk bd3 bb4 x50.Ccy) (wr64 ((mGet Key_.eqb 0 (Key_.mk bd3 bb4 x50.Ccy) v40) - x50.Amount)) v40), rfl, h⟩)
      · obtain ⟨h56, h⟩ := req_cases h
        exact rE cfg_ok [j3, ([], [(0, .at_ (Int.toNat v38)), (1, .idx 0 (NettingFlow.cells x50))], []), ([], [(2, .call (.tup [(.pl (.agg (Key_.cells (Key_.mk bd3 bb4 x50.Ccy)))), (jB x52)]) [none, none, some (.box (((cInt .i64) bd3).map .pl)), some (.box ((cStr bb4).map .pl)), none, none, none, some (.box ((Key_.cells (Key_.mk bd3 bb4 x50.Ccy)).map .pl))])], []), j3, ([], [(3, .fits)], [(3, .row 10 ((v39 ++ [x50]).map NettingFlow.cells))]), j3] [some true, some true] [] [10, 5] [0, 2, 6, 7, 9, 21, 22, 23] (.norm, (f32r2n2S ba2 bo1 bd3 bb4 (wr64 (v38 + 1)) (v39 ++ [x50]) v40)) (ap h42 (ap (at_some h51).1 (ap (lt_map NettingFlow.cells (at_some h51).2) (ap (at_map NettingFlow.cells (at_some h51).2) (ap (CallS.rn 7 [2, 3] (f47r1_ok x50 bd3 bb4 h53)) (ap (not_f h54) (ap (fit_map (te := ti32) (xs := v39) (n := 1) (c := NettingFlow.cells) h56 rfl) (ap (app_cv (xs := v39) (ys := [x50]) (c := NettingFlow.cells)) an)))))))) (LoopQ.norm ⟨(wr64 (v38 + 1)), (v39 ++ [x50]), v40, rfl, h⟩)
    · obtain rfl := some_inj h
      exact rK cfg_ok 2 [j3] [some false] [] [4, 5] [0, 6, 7, 9] (.exit 0) ((f32r2n2E ba2 bo1 bd3 bb4 (.exit0 v39 v40)).2) (ap h42 an) (LoopQ.out rfl rfl)
noncomputable def f32r2n2L (ba2 : List NettingFlow) (bo1 : List NettingSet) (bd3 : Int) (bb4 : ByteArray) : List NettingFlow → Int → (List NettingFlow) → (List (Key_ × Int)) → Option f32r2n2O
  | [], v38, v39, v40 =>
    some (.exit0 v39 v40)
  | x0 :: rest, v38, v39, v40 =>
    (f47r1 x0 bd3 bb4).bind fun x52 =>
    bif x52 then
      bif (slt x0.From x0.To) then
        (f32r2n2L ba2 bo1 bd3 bb4 rest (v38 + 1) v39 (mPut Key_.eqb (Key_.mk bd3 bb4 x0.Ccy) (wr64 ((mGet Key_.eqb 0 (Key_.mk bd3 bb4 x0.Ccy) v40) + x0.Amount)) v40))
      else
        (f32r2n2L ba2 bo1 bd3 bb4 rest (v38 + 1) v39 (mPut Key_.eqb (Key_.mk bd3 bb4 x0.Ccy) (wr64 ((mGet Key_.eqb 0 (Key_.mk bd3 bb4 x0.Ccy) v40) - x0.Amount)) v40))
    else
      req (fit (v39.length + 1) 80) <|
      (f32r2n2L ba2 bo1 bd3 bb4 rest (v38 + 1) (v39 ++ [x0]) v40)
theorem f32r2n2L_eq (ba2 : List NettingFlow) (bo1 : List NettingSet) (bd3 : Int) (bb4 : ByteArray) : ∀ (rest : List NettingFlow) (f k : Nat) (v39 : List NettingFlow) (v40 : List (Key_ × Int)), ba2.drop k = rest → ba2.length ≤ maxLen → rest.length < f → f32r2n2 f ba2 bo1 bd3 bb4 (k : Int) v39 v40 = f32r2n2L ba2 bo1 bd3 bb4 rest (k : Int) v39 v40
  | _, 0, _, _, _, _, _, hf => absurd hf (Nat.not_lt_zero _)
  | [], f + 1, k, v39, v40, hd, hm, hf => by
    have hk : ¬ ((k : Int) < (ba2.length : Int)) := by have := drop_nil hd; omega
    rw [f32r2n2, f32r2n2L]
    simp only [decide_eq_false hk, cond_false]
  | x0 :: rest, f + 1, k, v39, v40, hd, hm, hf => by
    obtain ⟨hx, hlt, hd'⟩ := drop_cons hd
    have hk : (k : Int) < (ba2.length : Int) := by omega
    have hw : wr64 ((k : Int) + 1) = (k : Int) + 1 := wr64_of (by omega) (by unfold maxLen at hm; omega)
    have ih : ∀ (v39 : List NettingFlow) (v40 : List (Key_ × Int)), f32r2n2 f ba2 bo1 bd3 bb4 ((k : Int) + 1) v39 v40 = f32r2n2L ba2 bo1 bd3 bb4 rest ((k : Int) + 1) v39 v40 := fun v39 v40 => f32r2n2L_eq ba2 bo1 bd3 bb4 rest f (k + 1) v39 v40 hd' hm (by simpa using hf)
    rw [f32r2n2, f32r2n2L]
    simp only [decide_eq_true hk, cond_true, at_nat, hx, Option.bind_some, hw, ih]
theorem f32r2n2_run (ba2 : List NettingFlow) (bo1 : List NettingSet) (bd3 : Int) (bb4 : ByteArray) (v39 : List NettingFlow) (v40 : List (Key_ × Int)) (hm : ba2.length ≤ maxLen) : f32r2n2 FUEL ba2 bo1 bd3 bb4 0 v39 v40 = f32r2n2L ba2 bo1 bd3 bb4 ba2 0 v39 v40 := f32r2n2L_eq ba2 bo1 bd3 bb4 ba2 FUEL 0 v39 v40 List.drop_zero hm (lt_FUEL hm)
inductive f32r2n1O where
  | norm (v63 : List NettingFlow) (v64 : List (Key_ × Int))
def f32r2n1E (bo1 : List NettingSet) (ba2 : List NettingFlow) (bd3 : Int) (bb4 : ByteArray) : f32r2n1O → Ex × Tr × Hp
  | .norm v63 v64 => (.norm, mkS [(0, (.own 0)), (6, (.own 4)), (7, (.pl (.sl .nil 0 []))), (9, (.mp 5))], [jR 3 NettingSet.cells bo1, jR 6 NettingFlow.cells ba2, some (.box (((cInt .i64) bd3).map .pl)), some (.box ((cStr bb4).map .pl)), jR 6 NettingFlow.cells v63, some (.map (v64.map (mkv (pAgg Key_.cells) (pInt .i64))))])
def f32r2n1S (bo1 : List NettingSet) (ba2 : List NettingFlow) (bd3 : Int) (bb4 : ByteArray) : Tr × Hp := (mkS [(0, (.own 0)), (1, (.own 1)), (2, (.clo 47 [(.bp 2 0), (.bp 3 0)])), (6, (.pl (.sl .nil 0 []))), (7, (.pl (.sl .nil 0 []))), (9, (.mp 4))], [jR 3 NettingSet.cells bo1, jR 6 NettingFlow.cells ba2, some (.box (((cInt .i64) bd3).map .pl)), some (.box ((cStr bb4).map .pl)), some (.map ([].map (mkv (pAgg Key_.cells) (pInt .i64))))])
noncomputable def f32r2n1 (bo1 : List NettingSet) (ba2 : List NettingFlow) (bd3 : Int) (bb4 : ByteArray) : Option f32r2n1O :=
  (f32r2n2 FUEL ba2 bo1 bd3 bb4 0 [] []).bind fun o59 => match o59 with
  | .exit0 v61 v62 => some (.norm v61 v62)
theorem f32r2n1_ok (bo1 : List NettingSet) (ba2 : List NettingFlow) (bd3 : Int) (bb4 : ByteArray) {o : f32r2n1O} (h : (f32r2n1 bo1 ba2 bd3 bb4) = some o) : T Try.prog Try.f32.ntmps 4 (cL (dropC 2 c32)) (f32r2n1S bo1 ba2 bd3 bb4) (fun r => r = f32r2n1E bo1 ba2 bd3 bb4 o) := by
  unfold f32r2n1 at h
  refine rN cfg_ok 1 [([], [], [(1, .val (jI (ba2.length : Int)))])] [] [.mat 6 6] [5, 4] [0, 2, 6, 7, 9, 21, 22, 23] (f32r2n2S ba2 bo1 bd3 bb4 0 [] []) (ap (len_cv (xs := ba2) (c := NettingFlow.cells)) an) ?_
  obtain ⟨o59, h60, h⟩ := bind_cases h
  cases o59 with
  | exit0 v61 v62 =>
    obtain rfl := some_inj h
    exact T.last' (T.bl (i := 0) (by kernel_rfl) (by kernel_rfl) (f32r2n2_ok FUEL ba2 bo1 bd3 bb4 0 [] [] h60)) (tds := []) (m := [4, 5]) (keep := [0, 6, 7, 9]) (st2 := (f32r2n1E bo1 ba2 bd3 bb4 (.norm v61 v62)).2) (by kernel_rfl) an rfl
inductive f32r2n4O where
  | exit2 (v120 : List NettingFlow)
  | ret
def f32r2n4E (bo1 : List NettingSet) (ba2 : List NettingFlow) (bd3 : Int) (bb4 : ByteArray) (ba5 : List NettingFlow) (bf6 : List (Key_ × Int)) : f32r2n4O → Ex × Tr × Hp
  | .exit2 v120 => ((.exit 2), mkS [(6, (.own 4)), (7, (.own 5))], [jR 3 NettingSet.cells bo1, jR 6 NettingFlow.cells ba2, some (.box (((cInt .i64) bd3).map .pl)), some (.box ((cStr bb4).map .pl)), jR 6 NettingFlow.cells ba5, jR 6 NettingFlow.cells v120])
  | .ret => (.ret, mkS [(6, (.pl (.sl .nil 0 []))), (7, (.pl (.sl .nil 0 []))), (8, (jI 14))], [jR 3 NettingSet.cells bo1, jR 6 NettingFlow.cells ba2, some (.box (((cInt .i64) bd3).map .pl)), some (.box ((cStr bb4).map .pl))])
def f32r2n4S (bo1 : List NettingSet) (ba2 : List NettingFlow) (bd3 : Int) (bb4 : ByteArray) (ba5 : List NettingFlow) (bf6 : List (Key_ × Int)) (v102 : List NettingFlow) (sn0 : List Nat) : Tr × Hp := (mkS [(0, (.own 0)), (6, (.own 4)), (7, (.own 5)), (62, (.it 6))], [jR 3 NettingSet.cells bo1, jR 6 NettingFlow.cells ba2, some (.box (((cInt .i64) bd3).map .pl)), some (.box ((cStr bb4).map .pl)), jR 6 NettingFlow.cells ba5, jR 6 NettingFlow.cells v102, some (.iter 7 (bf6.map (mkv (pAgg Key_.cells) (pInt .i64))).length sn0), some (.map (bf6.map (mkv (pAgg Key_.cells) (pInt .i64))))])
noncomputable def f32r2n4 (bo1 : List NettingSet) (ba2 : List NettingFlow) (bd3 : Int) (bb4 : ByteArray) (ba5 : List NettingFlow) (bf6 : List (Key_ × Int)) : List (Key_ × Int) → (List NettingFlow) → Option f32r2n4O
  | [], v102 =>
    some (.exit2 v102)
  | x104 :: rest, v102 =>
    bif (decide (1125899906842624 < (mxI x104.2 (wr64 (0 - x104.2))))) then
      some .ret
    else
      (f46 bo1 x104.1.set).bind fun x114 =>
      (f37 x104.1 x114.1.First x114.1.Second x104.2).bind fun x116 =>
      bif x116.2 then
        req (fit (v102.length + 1) 80) <|
        (f32r2n4 bo1 ba2 bd3 bb4 ba5 bf6 rest (v102 ++ [x116.1]))
      else
        (f32r2n4 bo1 ba2 bd3 bb4 ba5 bf6 rest v102)
theorem f32r2n4_ok (bo1 : List NettingSet) (ba2 : List NettingFlow) (bd3 : Int) (bb4 : ByteArray) (ba5 : List NettingFlow) (bf6 : List (Key_ × Int)) : ∀ (f : Nat) (sn0 rem : List Nat) (v102 : List NettingFlow) {Q : f32r2n4O → Prop}, Rem bf6.length sn0 rem → rem.length < f → (∀ p, p.Perm rem → ∃ o, f32r2n4 bo1 ba2 bd3 bb4 ba5 bf6 (ords bf6 p) v102 = some o ∧ Q o) → TL Try.prog Try.f32.ntmps 4 f (cL (cL (dropC 1 (cL (dropC 0 (dropC 1 (dropC 2 c32))))))) (f32r2n4S bo1 ba2 bd3 bb4 ba5 bf6 v102 sn0) (fun r => ∃ o, Q o ∧ r = f32r2n4E bo1 ba2 bd3 bb4 ba5 bf6 o)
  | 0, _, _, _, _, _, hf, _ => absurd hf (Nat.not_lt_zero _)
  | f + 1, sn0, rem, v102, Q, hR, hf, H => by
    refine TL.bodyQ (K := fun s => ∃ (sn0 rem : List Nat) (v102 : List NettingFlow), s = f32r2n4S bo1 ba2 bd3 bb4 ba5 bf6 v102 sn0 ∧ Rem bf6.length sn0 rem ∧ rem.length < f ∧ (∀ p, p.Perm rem → ∃ o, f32r2n4 bo1 ba2 bd3 bb4 ba5 bf6 (ords bf6 p) v102 = some o ∧ Q o)) ?_ (by rintro _ ⟨sn0, rem, v102, rfl, h1, h2, h3⟩; exact f32r2n4_ok bo1 ba2 bd3 bb4 ba5 bf6 f sn0 rem v102 h1 h2 h3)
    refine T.oneNext cfg_ok (x := .tmp 62) (t := 63) (tb := 64) (i := 6) (o := 7) (m := (bf6.map (mkv (pAgg Key_.cells) (pInt .i64))).length) (seen := sn0) (kvs := (bf6.map (mkv (pAgg Key_.cells) (pInt .i64)))) (by kernel_rfl) (by kernel_rfl) (by kernel_rfl) (by kernel_rfl) (by kernel_rfl) (by kernel_rfl) rfl (fun hs => ?_) (fun j103 k v hj hs hx => ?_)
    · obtain rfl := hR.none (by simpa using hs)
      obtain ⟨o, h0, hq⟩ := H [] (List.Perm.refl _)
      have h : f32r2n4 bo1 ba2 bd3 bb4 ba5 bf6 [] v102 = some o := h0
      rw [f32r2n4] at h
      obtain rfl := some_inj h
      exact rK cfg_ok 1 [] [none] [] [4, 5] [6, 7] (.exit 2) ((f32r2n4E bo1 ba2 bd3 bb4 ba5 bf6 (.exit2 v102)).2) an (LoopQ2.out ⟨_, hq, rfl⟩ rfl)
    · obtain ⟨x104, h105, rfl, rfl⟩ := mkv_at hx
      obtain ⟨hR2, hlen, hP⟩ := hR.step (j := j103) (by simpa using hj) hs
      have H2 : ∀ p, p.Perm (rem.erase j103) → ∃ o, f32r2n4 bo1 ba2 bd3 bb4 ba5 bf6 (x104 :: ords bf6 p) v102 = some o ∧ Q o := fun p hp => by obtain ⟨o, h, hq⟩ := H _ (hP p hp); rw [ords_cons h105] at h; exact ⟨o, h, hq⟩
      obtain ⟨o, h, hq⟩ := H2 _ (List.Perm.refl _)
      rw [f32r2n4] at h
      rcases cond_cases h with ⟨h113, h⟩ | ⟨h113, h⟩
      · obtain rfl := some_inj h
        exact rE cfg_ok [([], [(0, .entr j103 ((pAgg Key_.cells) x104.1) ((pInt .i64) x104.2))], []), j3, j3] [none, some true] [] [] [6, 7, 8] (.ret, (f32r2n4E bo1 ba2 bd3 bb4 ba5 bf6 .ret).2) (ap (last_app (seen := sn0) (j := j103)) (ap (rfl : (bf6.map (mkv (pAgg Key_.cells) (pInt .i64))).length = (bf6.map (mkv (pAgg Key_.cells) (pInt .i64))).length) (ap (at_mkv (kp := (pAgg Key_.cells)) (vp := (pInt .i64)) h105) (ap h113 an)))) (LoopQ2.out ⟨_, hq, rfl⟩ rfl)
      · obtain ⟨x114, h115, h⟩ := bind_cases h
        obtain ⟨x116, h117, h⟩ := bind_cases h
        rcases cond_cases h with ⟨h118, h⟩ | ⟨h118, h⟩
        · obtain ⟨h119, h⟩ := req_cases h
          exact rE cfg_ok [([], [(0, .entr j103 ((pAgg Key_.cells) x104.1) ((pInt .i64) x104.2))], []), j3, ([], [jH 3 (.tup [(jA NettingSet.cells x114.1), (jB x114.2)])], []), ([], [jH 6 (.tup [(jA NettingFlow.cells x116.1), (jB x116.2)])], []), j3, ([], [(3, .fits)], [(3, .row 12 ((v102 ++ [x116.1]).map NettingFlow.cells))])] [none, some false, some true] [] [4, 12, 6, 7] [0, 6, 7, 62] (.norm, (f32r2n4S bo1 ba2 bd3 bb4 ba5 bf6 (v102 ++ [x116.1]) (sn0 ++ [j103]))) (ap (last_app (seen := sn0) (j := j103)) (ap (rfl : (bf6.map (mkv (pAgg Key_.cells) (pInt .i64))).length = (bf6.map (mkv (pAgg Key_.cells) (pInt .i64))).length) (ap (at_mkv (kp := (pAgg Key_.cells)) (vp := (pInt .i64)) h105) (ap h113 (ap (f46_ok bo1 x104.1.set h115) (ap (f37_ok x104.1 x114.1.First x114.1.Second x104.2 h117) (ap h118 (ap (fit_map (te := ti32) (xs := v102) (n := 1) (c := NettingFlow.cells) h119 rfl) (ap (app_cv (xs := v102) (ys := [x116.1]) (c := NettingFlow.cells)) an))))))))) (LoopQ2.norm ⟨sn0 ++ [j103], rem.erase j103, (v102 ++ [x116.1]), rfl, hR2, by omega, fun p hp => by obtain ⟨o, h, hq⟩ := H2 p hp; refine ⟨o, ?_, hq⟩; rw [f32r2n4] at h; simp only [h113, h115, h117, h118, h119, cond_true, cond_false, Option.bind_some, req] at h; exact h⟩)
        · exact rE cfg_ok [([], [(0, .entr j103 ((pAgg Key_.cells) x104.1) ((pInt .i64) x104.2))], []), j3, ([], [jH 3 (.tup [(jA NettingSet.cells x114.1), (jB x114.2)])], []), ([], [jH 6 (.tup [(jA NettingFlow.cells x116.1), (jB x116.2)])], []), j3] [none, some false, some false] [] [4, 5, 6, 7] [0, 6, 7, 62] (.norm, (f32r2n4S bo1 ba2 bd3 bb4 ba5 bf6 v102 (sn0 ++ [j103]))) (ap (last_app (seen := sn0) (j := j103)) (ap (rfl : (bf6.map (mkv (pAgg Key_.cells) (pInt .i64))).length = (bf6.map (mkv (pAgg Key_.cells) (pInt .i64))).length) (ap (at_mkv (kp := (pAgg Key_.cells)) (vp := (pInt .i64)) h105) (ap h113 (ap (f46_ok bo1 x104.1.set h115) (ap (f37_ok x104.1 x114.1.First x114.1.Second x104.2 h117) (ap h118 an))))))) (LoopQ2.norm ⟨sn0 ++ [j103], rem.erase j103, v102, rfl, hR2, by omega, fun p hp => by obtain ⟨o, h, hq⟩ := H2 p hp; refine ⟨o, ?_, hq⟩; rw [f32r2n4] at h; simp only [h113, h115, h117, h118, cond_true, cond_false, Option.bind_some, req] at h; exact h⟩)
inductive f32r2n3O where
  | norm (v124 : List NettingFlow)
  | ret
def f32r2n3E (bo1 : List NettingSet) (ba2 : List NettingFlow) (bd3 : Int) (bb4 : ByteArray) (ba5 : List NettingFlow) (bf6 : List (Key_ × Int)) : f32r2n3O → Ex × Tr × Hp
  | .norm v124 => (.norm, mkS [(6, (.own 4)), (7, (.own 5))], [jR 3 NettingSet.cells bo1, jR 6 NettingFlow.cells ba2, some (.box (((cInt .i64) bd3).map .pl)), some (.box ((cStr bb4).map .pl)), jR 6 NettingFlow.cells ba5, jR 6 NettingFlow.cells v124])
  | .ret => (.ret, mkS [(6, (.pl (.sl .nil 0 []))), (7, (.pl (.sl .nil 0 []))), (8, (jI 14))], [jR 3 NettingSet.cells bo1, jR 6 NettingFlow.cells ba2, some (.box (((cInt .i64) bd3).map .pl)), some (.box ((cStr bb4).map .pl))])
def f32r2n3S (bo1 : List NettingSet) (ba2 : List NettingFlow) (bd3 : Int) (bb4 : ByteArray) (ba5 : List NettingFlow) (bf6 : List (Key_ × Int)) : Tr × Hp := (mkS [(0, (.own 0)), (6, (.own 4)), (7, (.pl (.sl .nil 0 []))), (9, (.mp 5))], [jR 3 NettingSet.cells bo1, jR 6 NettingFlow.cells ba2, some (.box (((cInt .i64) bd3).map .pl)), some (.box ((cStr bb4).map .pl)), jR 6 NettingFlow.cells ba5, some (.map (bf6.map (mkv (pAgg Key_.cells) (pInt .i64))))])
noncomputable def f32r2n3 (bo1 : List NettingSet) (ba2 : List NettingFlow) (bd3 : Int) (bb4 : ByteArray) (ba5 : List NettingFlow) (bf6 : List (Key_ × Int)) (p : List (Key_ × Int)) : Option f32r2n3O :=
  (f32r2n4 bo1 ba2 bd3 bb4 ba5 bf6 p []).bind fun o121 => match o121 with
  | .exit2 v123 => some (.norm v123)
  | .ret => some .ret
theorem f32r2n3_ok (bo1 : List NettingSet) (ba2 : List NettingFlow) (bd3 : Int) (bb4 : ByteArray) (ba5 : List NettingFlow) (bf6 : List (Key_ × Int)) {Q : f32r2n3O → Prop} (H : ∀ p, p.Perm bf6 → ∃ o, f32r2n3 bo1 ba2 bd3 bb4 ba5 bf6 p = some o ∧ Q o) : T Try.prog Try.f32.ntmps 4 (cL (dropC 0 (dropC 1 (dropC 2 c32)))) (f32r2n3S bo1 ba2 bd3 bb4 ba5 bf6) (fun r => ∃ o, Q o ∧ r = f32r2n3E bo1 ba2 bd3 bb4 ba5 bf6 o) := by
  refine rN cfg_ok 1 [j3] [] [.mat 7 6] [4, 7, 6, 5] [0, 6, 7, 62] (f32r2n4S bo1 ba2 bd3 bb4 ba5 bf6 [] []) an ?_
  refine T.lastQ (T.blQ (i := 2) (by kernel_rfl) (by kernel_rfl) (f32r2n4_ok bo1 ba2 bd3 bb4 ba5 bf6 _ [] (List.range bf6.length) [] (Rem.start _) (Nat.lt_succ_self _) (Q := fun y => ∃ o, (match y with | .exit2 v123 => some (.norm v123) | .ret => some .ret) = some o ∧ Q o) (fun p hp => by obtain ⟨o, h, hq⟩ := H _ (ords_perm hp); unfold f32r2n3 at h; obtain ⟨y, hy, h⟩ := bind_ex h; exact ⟨y, hy, o, h, hq⟩))) ?_
  rintro y ⟨o, h, hq⟩
  cases y with
  | exit2 v123 =>
    obtain rfl := some_inj h
    exact Tidy.of [] [4, 5] [6, 7] ((f32r2n3E bo1 ba2 bd3 bb4 ba5 bf6 (.norm v123)).2) (by kernel_rfl) an ⟨_, hq, rfl⟩
  | ret =>
    obtain rfl := some_inj h
    exact Tidy.of [] [] [6, 7, 8] ((f32r2n3E bo1 ba2 bd3 bb4 ba5 bf6 .ret).2) (by kernel_rfl) an ⟨_, hq, rfl⟩
inductive f32r2n0O where
  | ret (v132 : Int) (v133 : List NettingFlow) (v134 : List NettingFlow)
def f32r2n0E (a1 : List NettingSet) (a2 : List NettingFlow) (a3 : Int) (a4 : ByteArray) : f32r2n0O → Ex × Tr × Hp
  | .ret v132 v133 v134 => (.ret, mkS [(6, (.own 4)), (7, (.own 5)), (8, (jI v132))], [jR 3 NettingSet.cells a1, jR 6 NettingFlow.cells a2, some (.box (((cInt .i64) a3).map .pl)), some (.box ((cStr a4).map .pl)), jR 6 NettingFlow.cells v133, jR 6 NettingFlow.cells v134])
def f32r2n0S (a1 : List NettingSet) (a2 : List NettingFlow) (a3 : Int) (a4 : ByteArray) : Tr × Hp := (initS [(.own 0), (.own 1), (.clo 47 [(.bp 2 0), (.bp 3 0)])] 0 .leaf, [jR 3 NettingSet.cells a1, jR 6 NettingFlow.cells a2, some (.box (((cInt .i64) a3).map .pl)), some (.box ((cStr a4).map .pl))])
noncomputable def f32r2n0 (a1 : List NettingSet) (a2 : List NettingFlow) (a3 : Int) (a4 : ByteArray) : Option f32r2n0O :=
  (f32r2n1 a1 a2 a3 a4).bind fun o65 => match o65 with
  | .norm v67 v68 => (anyOrder v68 fun p => (f32r2n3 a1 a2 a3 a4 v67 v68 p).bind fun o125 => match o125 with
    | .norm v127 => (f34r1 v127).bind fun x130 =>
      some (.ret 0 v67 x130)
    | .ret => some (.ret 14 [] []))
theorem f32r2n0_ok (a1 : List NettingSet) (a2 : List NettingFlow) (a3 : Int) (a4 : ByteArray) {o : f32r2n0O} (h : (f32r2n0 a1 a2 a3 a4) = some o) : T Try.prog Try.f32.ntmps 4 c32 (f32r2n0S a1 a2 a3 a4) (fun r => r = f32r2n0E a1 a2 a3 a4 o) := by
  unfold f32r2n0 at h
  refine rN cfg_ok 2 [j3, j3] [] [] [4] [0, 1, 2, 6, 7, 9] (f32r2n1S a1 a2 a3 a4) an ?_
  obtain ⟨o65, h66, h⟩ := bind_cases h
  cases o65 with
  | norm v67 v68 =>
    refine T.oneN (by kernel_rfl) (f32r2n1_ok a1 a2 a3 a4 h66) (st2 := (f32r2n1E a1 a2 a3 a4 (.norm v67 v68)).2) rfl ?_
    refine rN cfg_ok 0 [] [] [] [4, 5] [0, 6, 7, 9] (f32r2n3S a1 a2 a3 a4 v67 v68) an ?_
    refine T.oneQ (by kernel_rfl) (f32r2n3_ok a1 a2 a3 a4 v67 v68 (fun p hp => bind_ex (anyOrder_at h p hp))) ?_
    intro o125 h
    cases o125 with
    | norm v127 =>
      refine OneR.go ((f32r2n3E a1 a2 a3 a4 v67 v68 (.norm v127)).2) rfl ?_
      obtain ⟨x130, h131, h⟩ := bind_cases h
      obtain rfl := some_inj h
      exact rE cfg_ok [([], [(1, .call (.tup []) (jN 5 [jR 6 NettingFlow.cells x130]))], []), j3] [] [] [4, 5] [6, 7, 8] (.ret, (f32r2n0E a1 a2 a3 a4 (.ret 0 v67 x130)).2) (ap (CallS.rn 6 [5] (f34r1_ok v127 h131)) an) rfl
    | ret =>
      obtain rfl := some_inj h
      exact OneR.out [.mat 6 6, .mat 7 6] [4, 5] [6, 7, 8] ((f32r2n0E a1 a2 a3 a4 (.ret 14 [] [])).2) (by kernel_rfl) an rfl rfl
noncomputable def f32r2 (a1 : List NettingSet) (a2 : List NettingFlow) (a3 : Int) (a4 : ByteArray) : Option (Int × (List NettingFlow) × (List NettingFlow)) := (f32r2n0 a1 a2 a3 a4).bind fun o => match o with
  | .ret v132 v133 v134 => some (v132, v133, v134)
theorem f32r2_ok (a1 : List NettingSet) (a2 : List NettingFlow) (a3 : Int) (a4 : ByteArray) {r : Int × (List NettingFlow) × (List NettingFlow)} (h : (f32r2 a1 a2 a3 a4) = some r) : CallS Try.prog true 32 [(.own 0), (.own 1), (.clo 47 [(.bp 2 0), (.bp 3 0)])] [jR 3 NettingSet.cells a1, jR 6 NettingFlow.cells a2, some (.box (((cInt .i64) a3).map .pl)), some (.box ((cStr a4).map .pl))] (.tup [(.own 4), (.own 5), (jI r.1)]) [jR 3 NettingSet.cells a1, jR 6 NettingFlow.cells a2, some (.box (((cInt .i64) a3).map .pl)), some (.box ((cStr a4).map .pl)), jR 6 NettingFlow.cells r.2.1, jR 6 NettingFlow.cells r.2.2] := by
  unfold f32r2 at h
  obtain ⟨o, ho, h⟩ := bind_cases h
  cases o with
  | ret v132 v133 v134 =>
    obtain rfl := some_inj h
    exact CallS.shared cfg_ok (f := Try.f32) (c := c32) (by kernel_rfl) (by kernel_rfl) (by kernel_rfl) ((f32r2n0_ok a1 a2 a3 a4 ho).mono fun r e => by subst e; exact ⟨.inl rfl, by kernel_rfl, by kernel_rfl⟩)

noncomputable def c19 : Code := Try.f19.body.getD .skip
inductive f19r1n0O where
  | ret (v34 : Int) (v35 : List NettingFlow)
def f19r1n0E (a1 : ByteArray) (a2 : Int) (a3 : List NettingSet) (a4 : List NettingFlow) : f19r1n0O → Ex × Tr × Hp
  | .ret v34 v35 => (.ret, mkS [(8, (.own 2)), (9, (jI v34))], [jR 3 NettingSet.cells a3, jR 6 NettingFlow.cells a4, jR 6 NettingFlow.cells v35])
def f19r1n0S (a1 : ByteArray) (a2 : Int) (a3 : List NettingSet) (a4 : List NettingFlow) : Tr × Hp := (initS [(.own 0), (.own 1), (jS a1), (jI a2)] 0 .leaf, [jR 3 NettingSet.cells a3, jR 6 NettingFlow.cells a4])
noncomputable def f19r1n0 (a1 : ByteArray) (a2 : Int) (a3 : List NettingSet) (a4 : List NettingFlow) : Option f19r1n0O :=
  (f21 a3 a4).bind fun x8 =>
  bif (decide (x8 = 0)) then
    (f46 a3 a1).bind fun x14 =>
    bif x14.2 then
      bif (decide (a2 < 0)) then
        some (.ret 2 [])
      else
        bif (decide (99999 < a2)) then
          some (.ret 2 [])
        else
          (f32r2 a3 a4 a2 a1).bind fun x23 =>
          bif (decide (x23.1 = 0)) then
            bif (x23.2.2.isEmpty) then
              some (.ret 0 x23.2.1)
            else
              req (fit (x23.2.1.length + x23.2.2.length) 80) <|
              some (.ret 0 (x23.2.1 ++ x23.2.2))
          else
            some (.ret x23.1 [])
    else
      some (.ret 6 [])
  else
    some (.ret x8 [])
theorem f19r1n0_ok (a1 : ByteArray) (a2 : Int) (a3 : List NettingSet) (a4 : List NettingFlow) {o : f19r1n0O} (h : (f19r1n0 a1 a2 a3 a4) = some o) : T Try.prog Try.f19.ntmps 2 c19 (f19r1n0S a1 a2 a3 a4) (fun r => r = f19r1n0E a1 a2 a3 a4 o) := by
  unfold f19r1n0 at h
  obtain ⟨x8, h9, h⟩ := bind_cases h
  rcases cond_cases h with ⟨h10, h⟩ | ⟨h10, h⟩
  · obtain ⟨x14, h15, h⟩ := bind_cases h
    rcases cond_cases h with ⟨h16, h⟩ | ⟨h16, h⟩
    · rcases cond_cases h with ⟨h19, h⟩ | ⟨h19, h⟩
      · obtain rfl := some_inj h
        exact rK cfg_ok 4 [j3, ([], [jH 2 (jI x8)], []), j3, ([], [jH 2 (.tup [(jA NettingSet.cells x14.1), (jB x14.2)])], []), j3, ([(3, true), (4, true)], [(5, .bool true)], []), j3] [some false, some false, none] [.mat 8 6] [5] [8, 9] .ret ((f19r1n0E a1 a2 a3 a4 (.ret 2 [])).2) (ap (f21_ok a3 a4 h9) (ap (not_t h10) (ap (f46_ok a3 a1 h15) (ap (not_t h16) (ap3 h19 an))))) rfl
      · rcases cond_cases h with ⟨h20, h⟩ | ⟨h20, h⟩
        · obtain rfl := some_inj h
          exact rK cfg_ok 4 [j3, ([], [jH 2 (jI x8)], []), j3, ([], [jH 2 (.tup [(jA NettingSet.cells x14.1), (jB x14.2)])], []), j3, ([(3, false), (4, false)], [(5, .bool false)], []), j3] [some false, some false, some true] [.mat 8 6] [5] [8, 9] .ret ((f19r1n0E a1 a2 a3 a4 (.ret 2 [])).2) (ap (f21_ok a3 a4 h9) (ap (not_t h10) (ap (f46_ok a3 a1 h15) (ap (not_t h16) (ap3 h19 (ap h20 an)))))) rfl
        · obtain ⟨x23, h24, h⟩ := bind_cases h
          refine rN cfg_ok 5 [j3, ([], [jH 2 (jI x8)], []), j3, ([], [jH 2 (.tup [(jA NettingSet.cells x14.1), (jB x14.2)])], []), j3, ([(3, false), (4, false)], [(5, .bool false)], []), ([], [(3, .call (.tup [(.own 5), (.own 6), (jI x23.1)]) [jR 3 NettingSet.cells a3, jR 6 NettingFlow.cells a4, some (.box ((cStr a1).map .pl)), some (.box (((cInt .i64) a2).map .pl)), none, jR 6 NettingFlow.cells x23.2.1, jR 6 NettingFlow.cells x23.2.2])], [])] [some false, some false, some false] [] [5, 6] [13, 14, 15] (mkS [(13, (.own 2)), (14, (.own 3)), (15, (jI x23.1))], [jR 3 NettingSet.cells a3, jR 6 NettingFlow.cells a4, jR 6 NettingFlow.cells x23.2.1, jR 6 NettingFlow.cells x23.2.2]) (ap (f21_ok a3 a4 h9) (ap (not_t h10) (ap (f46_ok a3 a1 h15) (ap (not_t h16) (ap3 h19 (ap h20 (ap (CallS.rn 5 [0, 1, 3, 2] (f32r2_ok a3 a4 a2 a1 h24)) an))))))) ?_
          rcases cond_cases h with ⟨h29, h⟩ | ⟨h29, h⟩
          · rcases cond_cases h with ⟨h32, h⟩ | ⟨h32, h⟩
            · obtain rfl := some_inj h
              exact rE cfg_ok [j3, ([], [(2, .app false)], [])] [some false] [] [2] [8, 9] (.ret, (f19r1n0E a1 a2 a3 a4 (.ret 0 x23.2.1)).2) (ap (not_t h29) (ap (nil_map (c := NettingFlow.cells) h32) an)) rfl
            · obtain ⟨h33, h⟩ := req_cases h
              obtain rfl := some_inj h
              exact rE cfg_ok [j3, ([], [(2, .app true)], [(2, .row 4 ((x23.2.1 ++ x23.2.2).map NettingFlow.cells))])] [some false] [] [4] [8, 9] (.ret, (f19r1n0E a1 a2 a3 a4 (.ret 0 (x23.2.1 ++ x23.2.2))).2) (ap (not_t h29) (ap (fit_map2 (te := ti32) (xs := x23.2.1) (ys := x23.2.2) (c := NettingFlow.cells) (d := NettingFlow.cells) h33 rfl) (ap (ne_map (c := NettingFlow.cells) h32) (ap (len_all (c := NettingFlow.cells) (xs := x23.2.2) (n := 6) (fun _ => rfl)) (ap (app_cv (xs := x23.2.1) (ys := x23.2.2) (c := NettingFlow.cells)) an))))) rfl
          · obtain rfl := some_inj h
            exact rK cfg_ok 1 [j3, j3] [some true] [.mat 8 6] [4] [8, 9] .ret ((f19r1n0E a1 a2 a3 a4 (.ret x23.1 [])).2) (ap (not_f h29) an) rfl
    · obtain rfl := some_inj h
      exact rK cfg_ok 3 [j3, ([], [jH 2 (jI x8)], []), j3, ([], [jH 2 (.tup [(jA NettingSet.cells x14.1), (jB x14.2)])], []), j3, j3] [some false, some true] [.mat 8 6] [5] [8, 9] .ret ((f19r1n0E a1 a2 a3 a4 (.ret 6 [])).2) (ap (f21_ok a3 a4 h9) (ap (not_t h10) (ap (f46_ok a3 a1 h15) (ap (not_f h16) an)))) rfl
  · obtain rfl := some_inj h
    exact rK cfg_ok 2 [j3, ([], [jH 2 (jI x8)], []), j3, j3] [some true] [.mat 8 6] [4] [8, 9] .ret ((f19r1n0E a1 a2 a3 a4 (.ret x8 [])).2) (ap (f21_ok a3 a4 h9) (ap (not_f h10) an)) rfl
noncomputable def f19r1 (a1 : ByteArray) (a2 : Int) (a3 : List NettingSet) (a4 : List NettingFlow) : Option (Int × (List NettingFlow)) := (f19r1n0 a1 a2 a3 a4).bind fun o => match o with
  | .ret v34 v35 => some (v34, v35)
theorem f19r1_ok (a1 : ByteArray) (a2 : Int) (a3 : List NettingSet) (a4 : List NettingFlow) {r : Int × (List NettingFlow)} (h : (f19r1 a1 a2 a3 a4) = some r) : CallS Try.prog true 19 [(.own 0), (.own 1), (jS a1), (jI a2)] [jR 3 NettingSet.cells a3, jR 6 NettingFlow.cells a4] (.tup [(.own 2), (jI r.1)]) [jR 3 NettingSet.cells a3, jR 6 NettingFlow.cells a4, jR 6 NettingFlow.cells r.2] := by
  unfold f19r1 at h
  obtain ⟨o, ho, h⟩ := bind_cases h
  cases o with
  | ret v34 v35 =>
    obtain rfl := some_inj h
    exact CallS.shared cfg_ok (f := Try.f19) (c := c19) (by kernel_rfl) (by kernel_rfl) (by kernel_rfl) ((f19r1n0_ok a1 a2 a3 a4 ho).mono fun r e => by subst e; exact ⟨.inl rfl, by kernel_rfl, by kernel_rfl⟩)

noncomputable def c20 : Code := Try.f20.body.getD .skip
inductive f20n4O where
  | exit2 (v346 : Bool) (v347 : List NettingFlow)
def f20n4E (ba1 : List NettingFlow) (bb2 : ByteArray) (bd3 : Int) (ba4 : List NettingFlow) (bd5 : Int) (br6 : NettingSet × Bool) (ba7 : List NettingFlow) : f20n4O → Ex × Tr × Hp
  | .exit2 v346 v347 => ((.exit 2), mkS [(1, (jL 6 NettingFlow.cells ba1)), (2, (jS bb2)), (3, (jI bd3)), (10, (.bp 0 0)), (12, (.own 1)), (13, (jL 6 NettingFlow.cells ba4)), (14, (jI bd5)), (15, (jB v346)), (16, (.own 2))], [some (.box ((NettingSet.cells br6.1).map .pl)), jR 6 NettingFlow.cells ba7, jR 6 NettingFlow.cells v347])
def f20n4S (ba1 : List NettingFlow) (bb2 : ByteArray) (bd3 : Int) (ba4 : List NettingFlow) (bd5 : Int) (br6 : NettingSet × Bool) (ba7 : List NettingFlow) (v321 : Bool) (v322 : Int) (v323 : List NettingFlow) : Tr × Hp := (mkS [(1, (jL 6 NettingFlow.cells ba1)), (2, (jS bb2)), (3, (jI bd3)), (10, (.bp 0 0)), (12, (.own 1)), (13, (jL 6 NettingFlow.cells ba4)), (14, (jI bd5)), (15, (jB v321)), (16, (.own 2)), (17, (jI v322))], [some (.box ((NettingSet.cells br6.1).map .pl)), jR 6 NettingFlow.cells ba7, jR 6 NettingFlow.cells v323])
noncomputable def f20n4 : Nat → List NettingFlow → ByteArray → Int → List NettingFlow → Int → NettingSet × Bool → List NettingFlow → Bool → Int → List NettingFlow → Option f20n4O
  | 0, _, _, _, _, _, _, _, _, _, _ => none
  | f + 1, ba1, bb2, bd3, ba4, bd5, br6, ba7, v321, v322, v323 =>
    bif (decide (v322 < (ba1.length : Int))) then
      (at? ba1 v322).bind fun x336 =>
      bif (seq x336.Set bb2) then
        bif (decide (bd3 ≤ x336.Date)) then
          (at? ba1 bd5).bind fun x340 =>
          bif (seq x336.Ccy x340.Ccy) then
            bif v321 then
              req (fit (v323.length + 1) 80) <|
              (f20n4 f ba1 bb2 bd3 ba4 bd5 br6 ba7 (decide (bd5 ≤ v322)) (wr64 (v322 + 1)) (v323 ++ [x336]))
            else
              req (fit (v323.length + 1) 80) <|
              (f20n4 f ba1 bb2 bd3 ba4 bd5 br6 ba7 false (wr64 (v322 + 1)) (v323 ++ [x336]))
          else
            (f20n4 f ba1 bb2 bd3 ba4 bd5 br6 ba7 v321 (wr64 (v322 + 1)) v323)
        else
          (f20n4 f ba1 bb2 bd3 ba4 bd5 br6 ba7 v321 (wr64 (v322 + 1)) v323)
      else
        (f20n4 f ba1 bb2 bd3 ba4 bd5 br6 ba7 v321 (wr64 (v322 + 1)) v323)
    else
      some (.exit2 v321 v323)
theorem f20n4_ok : ∀ (f : Nat) (ba1 : List NettingFlow) (bb2 : ByteArray) (bd3 : Int) (ba4 : List NettingFlow) (bd5 : Int) (br6 : NettingSet × Bool) (ba7 : List NettingFlow) (v321 : Bool) (v322 : Int) (v323 : List NettingFlow) {o : f20n4O}, (f20n4 f ba1 bb2 bd3 ba4 bd5 br6 ba7 v321 v322 v323) = some o → TL Try.prog Try.f20.ntmps 0 f (cL (cL (dropC 1 (cL (dropC 3 (cL (cL (dropC 1 (cL (cL (dropC 1 (cL (dropC 6 c20))))))))))))) (f20n4S ba1 bb2 bd3 ba4 bd5 br6 ba7 v321 v322 v323) (fun r => r = f20n4E ba1 bb2 bd3 ba4 bd5 br6 ba7 o)
  | 0, _, _, _, _, _, _, _, _, _, _, o, h => by rw [f20n4] at h; cases h
  | f + 1, ba1, bb2, bd3, ba4, bd5, br6, ba7, v321, v322, v323, o, h => by
    rw [f20n4] at h
    refine TL.body (K := fun s => ∃ v321 : Bool, ∃ v322 : Int, ∃ v323 : List NettingFlow, s = (f20n4S ba1 bb2 bd3 ba4 bd5 br6 ba7 v321 v322 v323) ∧ (f20n4 f ba1 bb2 bd3 ba4 bd5 br6 ba7 v321 v322 v323) = some o) ?_ (by rintro _ ⟨v321, v322, v323, rfl, hk⟩; exact f20n4_ok f _ _ _ _ _ _ _ _ _ _ hk)
    rcases cond_cases h with ⟨h325, h⟩ | ⟨h325, h⟩
    · obtain ⟨x336, h337, h⟩ := bind_cases h
      rcases cond_cases h with ⟨h338, h⟩ | ⟨h338, h⟩
      · rcases cond_cases h with ⟨h339, h⟩ | ⟨h339, h⟩
        · obtain ⟨x340, h341, h⟩ := bind_cases h
          rcases cond_cases h with ⟨h342, h⟩ | ⟨h342, h⟩
          · rcases cond_cases h with ⟨h343, h⟩ | ⟨h343, h⟩
            · obtain ⟨h344, h⟩ := req_cases h
              exact rE cfg_ok [([], [], [(2, .val (jI (ba1.length : Int)))]), (jT [8, 9, 10, 11, 12, 13, 14, 17, 18, 19, 20, 21, 22, 23, 24, 25, 26, 27], [(2, .idx (Int.toNat v322) (NettingFlow.cells x336)), (10, .idx (Int.toNat v322) (NettingFlow.cells x336)), (15, .bool true), (19, .idx (Int.toNat v322) (NettingFlow.cells x336)), (24, .idx (Int.toNat bd5) (NettingFlow.cells x340)), (28, .bool true)], []), (jT [2, 3, 4], [(5, .bool true)], []), ([], [(3, .idx (Int.toNat v322) (NettingFlow.cells x336)), (6, .fits)], [(6, .row 5 ((v323 ++ [x336]).map NettingFlow.cells))]), j3] [some true, some true] [] [0, 1, 5] [1, 2, 3, 10, 12, 13, 14, 15, 16, 17] (.norm, (f20n4S ba1 bb2 bd3 ba4 bd5 br6 ba7 (decide (bd5 ≤ v322)) (wr64 (v322 + 1)) (v323 ++ [x336]))) (ap (len_cv (xs := ba1) (c := NettingFlow.cells)) (ap h325 (ap (at_some h337).1 (ap (at_map NettingFlow.cells (at_some h337).2) (ap3 h338 (ap (at_some h337).1 (ap (at_map NettingFlow.cells (at_some h337).2) (ap h338 (ap4 h338 (ap3 h339 (ap (at_some h337).1 (ap (at_map NettingFlow.cells (at_some h337).2) (ap h339 (ap4 h339 (ap (at_some h341).1 (ap (at_map NettingFlow.cells (at_some h341).2) (ap4 h339 (ap h342 (ap4 h343 (ap (at_some h337).1 (ap (at_map NettingFlow.cells (at_some h337).2) (ap (fit_map (te := ti32) (xs := v323) (n := 1) (c := NettingFlow.cells) h344 rfl) (ap (app_cv (xs := v323) (ys := [x336]) (c := NettingFlow.cells)) an))))))))))))))))))))))) (LoopQ.norm ⟨(decide (bd5 ≤ v322)), (wr64 (v322 + 1)), (v323 ++ [x336]), rfl, h⟩)
            · obtain ⟨h345, h⟩ := req_cases h
              exact rE cfg_ok [([], [], [(2, .val (jI (ba1.length : Int)))]), (jT [8, 9, 10, 11, 12, 13, 14, 17, 18, 19, 20, 21, 22, 23, 24, 25, 26, 27], [(2, .idx (Int.toNat v322) (NettingFlow.cells x336)), (10, .idx (Int.toNat v322) (NettingFlow.cells x336)), (15, .bool true), (19, .idx (Int.toNat v322) (NettingFlow.cells x336)), (24, .idx (Int.toNat bd5) (NettingFlow.cells x340)), (28, .bool true)], []), (jF [2, 3, 4], [(5, .bool false)], []), ([], [(3, .idx (Int.toNat v322) (NettingFlow.cells x336)), (6, .fits)], [(6, .row 5 ((v323 ++ [x336]).map NettingFlow.cells))]), j3] [some true, some true] [] [0, 1, 5] [1, 2, 3, 10, 12, 13, 14, 15, 16, 17] (.norm, (f20n4S ba1 bb2 bd3 ba4 bd5 br6 ba7 false (wr64 (v322 + 1)) (v323 ++ [x336]))) (ap (len_cv (xs := ba1) (c := NettingFlow.cells)) (ap h325 (ap (at_some h337).1 (ap (at_map NettingFlow.cells (at_some h337).2) (ap3 h338 (ap (at_some h337).1 (ap (at_map NettingFlow.cells (at_some h337).2) (ap h338 (ap4 h338 (ap3 h339 (ap (at_some h337).1 (ap (at_map NettingFlow.cells (at_some h337).2) (ap h339 (ap4 h339 (ap (at_some h341).1 (ap (at_map NettingFlow.cells (at_some h341).2) (ap4 h339 (ap h342 (ap4 h343 (ap (at_some h337).1 (ap (at_map NettingFlow.cells (at_some h337).2) (ap (fit_map (te := ti32) (xs := v323) (n := 1) (c := NettingFlow.cells) h345 rfl) (ap (app_cv (xs := v323) (ys := [x336]) (c := NettingFlow.cells)) an))))))))))))))))))))))) (LoopQ.norm ⟨false, (wr64 (v322 + 1)), (v323 ++ [x336]), rfl, h⟩)
          · exact rE cfg_ok [([], [], [(2, .val (jI (ba1.length : Int)))]), (jT [8, 9, 10, 11, 12, 13, 14, 17, 18, 19, 20, 21, 22, 23, 24, 25, 26, 27], [(2, .idx (Int.toNat v322) (NettingFlow.cells x336)), (10, .idx (Int.toNat v322) (NettingFlow.cells x336)), (15, .bool true), (19, .idx (Int.toNat v322) (NettingFlow.cells x336)), (24, .idx (Int.toNat bd5) (NettingFlow.cells x340)), (28, .bool true)], []), j3] [some true, some false] [] [0, 1, 2] [1, 2, 3, 10, 12, 13, 14, 15, 16, 17] (.norm, (f20n4S ba1 bb2 bd3 ba4 bd5 br6 ba7 v321 (wr64 (v322 + 1)) v323)) (ap (len_cv (xs := ba1) (c := NettingFlow.cells)) (ap h325 (ap (at_some h337).1 (ap (at_map NettingFlow.cells (at_some h337).2) (ap3 h338 (ap (at_some h337).1 (ap (at_map NettingFlow.cells (at_some h337).2) (ap h338 (ap4 h338 (ap3 h339 (ap (at_some h337).1 (ap (at_map NettingFlow.cells (at_some h337).2) (ap h339 (ap4 h339 (ap (at_some h341).1 (ap (at_map NettingFlow.cells (at_some h341).2) (ap4 h339 (ap h342 an)))))))))))))))))) (LoopQ.norm ⟨v321, (wr64 (v322 + 1)), v323, rfl, h⟩)
        · exact rE cfg_ok [([], [], [(2, .val (jI (ba1.length : Int)))]), (jF [17, 18, 19, 20, 21, 22, 23, 24, 25, 26, 27] ++ jT [8, 9, 10, 11, 12, 13, 14], [(2, .idx (Int.toNat v322) (NettingFlow.cells x336)), (10, .idx (Int.toNat v322) (NettingFlow.cells x336)), (15, .bool true), (28, .bool false)], []), j3] [some true, none] [] [0, 1, 2] [1, 2, 3, 10, 12, 13, 14, 15, 16, 17] (.norm, (f20n4S ba1 bb2 bd3 ba4 bd5 br6 ba7 v321 (wr64 (v322 + 1)) v323)) (ap (len_cv (xs := ba1) (c := NettingFlow.cells)) (ap h325 (ap (at_some h337).1 (ap (at_map NettingFlow.cells (at_some h337).2) (ap3 h338 (ap (at_some h337).1 (ap (at_map NettingFlow.cells (at_some h337).2) (ap h338 (ap4 h338 (ap4 h339 (ap4 h339 (ap4 h339 an)))))))))))) (LoopQ.norm ⟨v321, (wr64 (v322 + 1)), v323, rfl, h⟩)
      · exact rE cfg_ok [([], [], [(2, .val (jI (ba1.length : Int)))]), (jF [8, 9, 10, 11, 12, 13, 14], [(2, .idx (Int.toNat v322) (NettingFlow.cells x336)), (15, .bool false)], []), j3] [some true, none] [] [0, 1, 2] [1, 2, 3, 10, 12, 13, 14, 15, 16, 17] (.norm, (f20n4S ba1 bb2 bd3 ba4 bd5 br6 ba7 v321 (wr64 (v322 + 1)) v323)) (ap (len_cv (xs := ba1) (c := NettingFlow.cells)) (ap h325 (ap (at_some h337).1 (ap (at_map NettingFlow.cells (at_some h337).2) (ap4 h338 (ap4 h338 an)))))) (LoopQ.norm ⟨v321, (wr64 (v322 + 1)), v323, rfl, h⟩)
    · obtain rfl := some_inj h
      exact rK cfg_ok 1 [([], [], [(2, .val (jI (ba1.length : Int)))])] [some false] [] [0, 1, 2] [1, 2, 3, 10, 12, 13, 14, 15, 16] (.exit 2) ((f20n4E ba1 bb2 bd3 ba4 bd5 br6 ba7 (.exit2 v321 v323)).2) (ap (len_cv (xs := ba1) (c := NettingFlow.cells)) (ap h325 an)) (LoopQ.out rfl rfl)
noncomputable def f20n4L (ba1 : List NettingFlow) (bb2 : ByteArray) (bd3 : Int) (ba4 : List NettingFlow) (bd5 : Int) (br6 : NettingSet × Bool) (ba7 : List NettingFlow) : List NettingFlow → Bool → Int → (List NettingFlow) → Option f20n4O
  | [], v321, v322, v323 =>
    some (.exit2 v321 v323)
  | x0 :: rest, v321, v322, v323 =>
    bif (seq x0.Set bb2) then
      bif (decide (bd3 ≤ x0.Date)) then
        (at? ba1 bd5).bind fun x340 =>
        bif (seq x0.Ccy x340.Ccy) then
          bif v321 then
            req (fit (v323.length + 1) 80) <|
            (f20n4L ba1 bb2 bd3 ba4 bd5 br6 ba7 rest (decide (bd5 ≤ v322)) (v322 + 1) (v323 ++ [x0]))
          else
            req (fit (v323.length + 1) 80) <|
            (f20n4L ba1 bb2 bd3 ba4 bd5 br6 ba7 rest false (v322 + 1) (v323 ++ [x0]))
        else
          (f20n4L ba1 bb2 bd3 ba4 bd5 br6 ba7 rest v321 (v322 + 1) v323)
      else
        (f20n4L ba1 bb2 bd3 ba4 bd5 br6 ba7 rest v321 (v322 + 1) v323)
    else
      (f20n4L ba1 bb2 bd3 ba4 bd5 br6 ba7 rest v321 (v322 + 1) v323)
theorem f20n4L_eq (ba1 : List NettingFlow) (bb2 : ByteArray) (bd3 : Int) (ba4 : List NettingFlow) (bd5 : Int) (br6 : NettingSet × Bool) (ba7 : List NettingFlow) : ∀ (rest : List NettingFlow) (f k : Nat) (v321 : Bool) (v323 : List NettingFlow), ba1.drop k = rest → ba1.length ≤ maxLen → rest.length < f → f20n4 f ba1 bb2 bd3 ba4 bd5 br6 ba7 v321 (k : Int) v323 = f20n4L ba1 bb2 bd3 ba4 bd5 br6 ba7 rest v321 (k : Int) v323
  | _, 0, _, _, _, _, _, hf => absurd hf (Nat.not_lt_zero _)
  | [], f + 1, k, v321, v323, hd, hm, hf => by
    have hk : ¬ ((k : Int) < (ba1.length : Int)) := by have := drop_nil hd; omega
    rw [f20n4, f20n4L]
    simp only [decide_eq_false hk, cond_false]
  | x0 :: rest, f + 1, k, v321, v323, hd, hm, hf => by
    obtain ⟨hx, hlt, hd'⟩ := drop_cons hd
    have hk : (k : Int) < (ba1.length : Int) := by omega
    have hw : wr64 ((k : Int) + 1) = (k : Int) + 1 := wr64_of (by omega) (by unfold maxLen at hm; omega)
    have ih : ∀ (v321 : Bool) (v323 : List NettingFlow), f20n4 f ba1 bb2 bd3 ba4 bd5 br6 ba7 v321 ((k : Int) + 1) v323 = f20n4L ba1 bb2 bd3 ba4 bd5 br6 ba7 rest v321 ((k : Int) + 1) v323 := fun v321 v323 => f20n4L_eq ba1 bb2 bd3 ba4 bd5 br6 ba7 rest f (k + 1) v321 v323 hd' hm (by simpa using hf)
    rw [f20n4, f20n4L]
    simp only [decide_eq_true hk, cond_true, at_nat, hx, Option.bind_some, hw, ih]
theorem f20n4_run (ba1 : List NettingFlow) (bb2 : ByteArray) (bd3 : Int) (ba4 : List NettingFlow) (bd5 : Int) (br6 : NettingSet × Bool) (ba7 : List NettingFlow) (v321 : Bool) (v323 : List NettingFlow) (hm : ba1.length ≤ maxLen) : f20n4 FUEL ba1 bb2 bd3 ba4 bd5 br6 ba7 v321 0 v323 = f20n4L ba1 bb2 bd3 ba4 bd5 br6 ba7 ba1 v321 0 v323 := f20n4L_eq ba1 bb2 bd3 ba4 bd5 br6 ba7 ba1 FUEL 0 v321 v323 List.drop_zero hm (lt_FUEL hm)
inductive f20n3O where
  | norm (v352 : Bool) (v353 : List NettingFlow)
def f20n3E (ba1 : List NettingFlow) (bb2 : ByteArray) (bd3 : Int) (ba4 : List NettingFlow) (bd5 : Int) (br6 : NettingSet × Bool) (ba7 : List NettingFlow) : f20n3O → Ex × Tr × Hp
  | .norm v352 v353 => (.norm, mkS [(1, (jL 6 NettingFlow.cells ba1)), (2, (jS bb2)), (3, (jI bd3)), (10, (.bp 0 0)), (12, (.own 1)), (13, (jL 6 NettingFlow.cells ba4)), (14, (jI bd5)), (15, (jB v352)), (16, (.own 2))], [some (.box ((NettingSet.cells br6.1).map .pl)), jR 6 NettingFlow.cells ba7, jR 6 NettingFlow.cells v353])
def f20n3S (ba1 : List NettingFlow) (bb2 : ByteArray) (bd3 : Int) (ba4 : List NettingFlow) (bd5 : Int) (br6 : NettingSet × Bool) (ba7 : List NettingFlow) : Tr × Hp := (mkS [(1, (jL 6 NettingFlow.cells ba1)), (2, (jS bb2)), (3, (jI bd3)), (10, (.bp 0 0)), (12, (.own 1)), (13, (jL 6 NettingFlow.cells ba4)), (14, (jI bd5)), (15, (jB true)), (16, (.pl (.sl .nil 0 [])))], [some (.box ((NettingSet.cells br6.1).map .pl)), jR 6 NettingFlow.cells ba7])
noncomputable def f20n3 (ba1 : List NettingFlow) (bb2 : ByteArray) (bd3 : Int) (ba4 : List NettingFlow) (bd5 : Int) (br6 : NettingSet × Bool) (ba7 : List NettingFlow) : Option f20n3O :=
  (f20n4 FUEL ba1 bb2 bd3 ba4 bd5 br6 ba7 true 0 []).bind fun o348 => match o348 with
  | .exit2 v350 v351 => some (.norm v350 v351)
theorem f20n3_ok (ba1 : List NettingFlow) (bb2 : ByteArray) (bd3 : Int) (ba4 : List NettingFlow) (bd5 : Int) (br6 : NettingSet × Bool) (ba7 : List NettingFlow) {o : f20n3O} (h : (f20n3 ba1 bb2 bd3 ba4 bd5 br6 ba7) = some o) : T Try.prog Try.f20.ntmps 0 (cL (dropC 3 (cL (cL (dropC 1 (cL (cL (dropC 1 (cL (dropC 6 c20)))))))))) (f20n3S ba1 bb2 bd3 ba4 bd5 br6 ba7) (fun r => r = f20n3E ba1 bb2 bd3 ba4 bd5 br6 ba7 o) := by
  unfold f20n3 at h
  refine rN cfg_ok 1 [j3] [] [.mat 16 6] [0, 1, 2] [1, 2, 3, 10, 12, 13, 14, 15, 16, 17] (f20n4S ba1 bb2 bd3 ba4 bd5 br6 ba7 true 0 []) an ?_
  obtain ⟨o348, h349, h⟩ := bind_cases h
  cases o348 with
  | exit2 v350 v351 =>
    obtain rfl := some_inj h
    exact T.last' (T.bl (i := 2) (by kernel_rfl) (by kernel_rfl) (f20n4_ok FUEL ba1 bb2 bd3 ba4 bd5 br6 ba7 true 0 [] h349)) (tds := []) (m := [0, 1, 2]) (keep := [1, 2, 3, 10, 12, 13, 14, 15, 16]) (st2 := (f20n3E ba1 bb2 bd3 ba4 bd5 br6 ba7 (.norm v350 v351)).2) (by kernel_rfl) an rfl
inductive f20n2O where
  | norm (v373 : List NettingFlow) (v374 : List NettingFlow)
  | ret (v375 : Int)
def f20n2E (ba1 : List NettingFlow) (bb2 : ByteArray) (bd3 : Int) (ba4 : List NettingFlow) (bd5 : Int) (br6 : NettingSet × Bool) (ba7 : List NettingFlow) : f20n2O → Ex × Tr × Hp
  | .norm v373 v374 => (.norm, mkS [(1, (jL 6 NettingFlow.cells ba1)), (2, (jS bb2)), (3, (jI bd3)), (10, (.bp 0 0)), (12, (.own 1)), (13, (jL 6 NettingFlow.cells v373)), (14, (jI bd5))], [some (.box ((NettingSet.cells br6.1).map .pl)), jR 6 NettingFlow.cells v374])
  | .ret v375 => (.ret, mkS [(8, (.pl (.sl .nil 0 []))), (9, (jI v375))], [])
def f20n2S (ba1 : List NettingFlow) (bb2 : ByteArray) (bd3 : Int) (ba4 : List NettingFlow) (bd5 : Int) (br6 : NettingSet × Bool) (ba7 : List NettingFlow) : Tr × Hp := (mkS [(1, (jL 6 NettingFlow.cells ba1)), (2, (jS bb2)), (3, (jI bd3)), (10, (.bp 0 0)), (12, (.own 1)), (13, (jL 6 NettingFlow.cells ba4)), (14, (jI bd5))], [some (.box ((NettingSet.cells br6.1).map .pl)), jR 6 NettingFlow.cells ba7])
noncomputable def f20n2 (ba1 : List NettingFlow) (bb2 : ByteArray) (bd3 : Int) (ba4 : List NettingFlow) (bd5 : Int) (br6 : NettingSet × Bool) (ba7 : List NettingFlow) : Option f20n2O :=
  (at? ba1 bd5).bind fun x275 =>
  bif (seq x275.Set bb2) then
    bif (decide (x275.Date < bd3)) then
      req (fit (ba7.length + 1) 80) <|
      some (.norm ba4 (ba7 ++ [x275]))
    else
      (f20n3 ba1 bb2 bd3 ba4 bd5 br6 ba7).bind fun o354 => match o354 with
      | .norm v356 v357 => bif v356 then
          (f45 br6.1 v357 bd3 x275.Ccy).bind fun x362 =>
          bif (decide (x362.2.2 = 0)) then
            bif x362.2.1 then
              (f43 ba4 x362.1).bind fun x370 =>
              some (.norm x370 ba7)
            else
              some (.norm ba4 ba7)
          else
            some (.ret x362.2.2)
        else
          some (.norm ba4 ba7)
  else
    req (fit (ba7.length + 1) 80) <|
    some (.norm ba4 (ba7 ++ [x275]))
theorem f20n2_ok (ba1 : List NettingFlow) (bb2 : ByteArray) (bd3 : Int) (ba4 : List NettingFlow) (bd5 : Int) (br6 : NettingSet × Bool) (ba7 : List NettingFlow) {o : f20n2O} (h : (f20n2 ba1 bb2 bd3 ba4 bd5 br6 ba7) = some o) : T Try.prog Try.f20.ntmps 0 (cL (dropC 1 (cL (cL (dropC 1 (cL (dropC 6 c20))))))) (f20n2S ba1 bb2 bd3 ba4 bd5 br6 ba7) (fun r => r = f20n2E ba1 bb2 bd3 ba4 bd5 br6 ba7 o) := by
  unfold f20n2 at h
  refine T.block' (i := 1) (by kernel_rfl) ?_
  obtain ⟨x275, h276, h⟩ := bind_cases h
  rcases cond_cases h with ⟨h277, h⟩ | ⟨h277, h⟩
  · rcases cond_cases h with ⟨h278, h⟩ | ⟨h278, h⟩
    · obtain ⟨h279, h⟩ := req_cases h
      obtain rfl := some_inj h
      exact rK cfg_ok 1 [(jF [8, 9, 10, 11, 12, 13, 14], [(2, .idx (Int.toNat bd5) (NettingFlow.cells x275)), (10, .idx (Int.toNat bd5) (NettingFlow.cells x275)), (15, .bool false)], []), ([], [(3, .idx (Int.toNat bd5) (NettingFlow.cells x275)), (6, .fits)], [(6, .row 3 ((ba7 ++ [x275]).map NettingFlow.cells))])] [some true] [] [0, 3] [1, 2, 3, 10, 12, 13, 14] (.exit 1) ((f20n2E ba1 bb2 bd3 ba4 bd5 br6 ba7 (.norm ba4 (ba7 ++ [x275]))).2) (ap (at_some h276).1 (ap (at_map NettingFlow.cells (at_some h276).2) (ap3 (not_t h277) (ap (at_some h276).1 (ap (at_map NettingFlow.cells (at_some h276).2) (ap (not_t h277) (ap4 (not_t h277) (ap h278 (ap (at_some h276).1 (ap (at_map NettingFlow.cells (at_some h276).2) (ap (fit_map (te := ti32) (xs := ba7) (n := 1) (c := NettingFlow.cells) h279 rfl) (ap (app_cv (xs := ba7) (ys := [x275]) (c := NettingFlow.cells)) an)))))))))))) rfl
    · refine rN cfg_ok 3 [(jF [8, 9, 10, 11, 12, 13, 14], [(2, .idx (Int.toNat bd5) (NettingFlow.cells x275)), (10, .idx (Int.toNat bd5) (NettingFlow.cells x275)), (15, .bool false)], []), j3, j3] [some false] [] [0, 1] [1, 2, 3, 10, 12, 13, 14, 15, 16] (f20n3S ba1 bb2 bd3 ba4 bd5 br6 ba7) (ap (at_some h276).1 (ap (at_map NettingFlow.cells (at_some h276).2) (ap3 (not_t h277) (ap (at_some h276).1 (ap (at_map NettingFlow.cells (at_some h276).2) (ap (not_t h277) (ap4 (not_t h277) (ap h278 an)))))))) ?_
      obtain ⟨o354, h355, h⟩ := bind_cases h
      cases o354 with
      | norm v356 v357 =>
        refine T.oneN (by kernel_rfl) (f20n3_ok ba1 bb2 bd3 ba4 bd5 br6 ba7 h355) (st2 := (f20n3E ba1 bb2 bd3 ba4 bd5 br6 ba7 (.norm v356 v357)).2) rfl ?_
        rcases cond_cases h with ⟨h359, h⟩ | ⟨h359, h⟩
        · obtain ⟨x362, h363, h⟩ := bind_cases h
          rcases cond_cases h with ⟨h365, h⟩ | ⟨h365, h⟩
          · rcases cond_cases h with ⟨h369, h⟩ | ⟨h369, h⟩
            · obtain ⟨x370, h371, h⟩ := bind_cases h
              obtain rfl := some_inj h
              exact rE cfg_ok [j3, ([], [(5, .idx (Int.toNat bd5) (NettingFlow.cells x275)), jH 8 (.tup [(jA NettingFlow.cells x362.1), (jB x362.2.1), (jI x362.2.2)])], []), j3, j3, ([], [jH 2 (jL 6 NettingFlow.cells x370)], [])] [some false, some false, some true] [] [0, 1] [1, 2, 3, 10, 12, 13, 14] (.norm, (f20n2E ba1 bb2 bd3 ba4 bd5 br6 ba7 (.norm x370 ba7)).2) (ap (not_t h359) (ap (at_some h276).1 (ap (at_map NettingFlow.cells (at_some h276).2) (ap (f45_ok br6.1 v357 bd3 x275.Ccy h363) (ap (not_t h365) (ap h369 (ap (f43_ok ba4 x362.1 h371) an))))))) rfl
            · obtain rfl := some_inj h
              exact rE cfg_ok [j3, ([], [(5, .idx (Int.toNat bd5) (NettingFlow.cells x275)), jH 8 (.tup [(jA NettingFlow.cells x362.1), (jB x362.2.1), (jI x362.2.2)])], []), j3, j3] [some false, some false, some false] [] [0, 1] [1, 2, 3, 10, 12, 13, 14] (.norm, (f20n2E ba1 bb2 bd3 ba4 bd5 br6 ba7 (.norm ba4 ba7)).2) (ap (not_t h359) (ap (at_some h276).1 (ap (at_map NettingFlow.cells (at_some h276).2) (ap (f45_ok br6.1 v357 bd3 x275.Ccy h363) (ap (not_t h365) (ap h369 an)))))) rfl
          · obtain rfl := some_inj h
            exact rK cfg_ok 3 [j3, ([], [(5, .idx (Int.toNat bd5) (NettingFlow.cells x275)), jH 8 (.tup [(jA NettingFlow.cells x362.1), (jB x362.2.1), (jI x362.2.2)])], []), j3, j3] [some false, some true] [] [] [8, 9] .ret ((f20n2E ba1 bb2 bd3 ba4 bd5 br6 ba7 (.ret x362.2.2)).2) (ap (not_t h359) (ap (at_some h276).1 (ap (at_map NettingFlow.cells (at_some h276).2) (ap (f45_ok br6.1 v357 bd3 x275.Ccy h363) (ap (not_f h365) an))))) rfl
        · obtain rfl := some_inj h
          exact rK cfg_ok 1 [j3] [some true] [] [0, 1] [1, 2, 3, 10, 12, 13, 14] (.exit 1) ((f20n2E ba1 bb2 bd3 ba4 bd5 br6 ba7 (.norm ba4 ba7)).2) (ap (not_f h359) an) rfl
  · obtain ⟨h372, h⟩ := req_cases h
    obtain rfl := some_inj h
    exact rK cfg_ok 1 [(jT [8, 9, 10, 11, 12, 13, 14], [(2, .idx (Int.toNat bd5) (NettingFlow.cells x275)), (15, .bool true)], []), ([], [(3, .idx (Int.toNat bd5) (NettingFlow.cells x275)), (6, .fits)], [(6, .row 3 ((ba7 ++ [x275]).map NettingFlow.cells))])] [none] [] [0, 3] [1, 2, 3, 10, 12, 13, 14] (.exit 1) ((f20n2E ba1 bb2 bd3 ba4 bd5 br6 ba7 (.norm ba4 (ba7 ++ [x275]))).2) (ap (at_some h276).1 (ap (at_map NettingFlow.cells (at_some h276).2) (ap4 (not_f h277) (ap4 (not_f h277) (ap (at_some h276).1 (ap (at_map NettingFlow.cells (at_some h276).2) (ap (fit_map (te := ti32) (xs := ba7) (n := 1) (c := NettingFlow.cells) h372 rfl) (ap (app_cv (xs := ba7) (ys := [x275]) (c := NettingFlow.cells)) an)))))))) rfl
inductive f20n5O where
  | exit0 (v381 : List NettingFlow) (v382 : List NettingFlow)
  | ret (v383 : Int)
def f20n5E (ba1 : List NettingFlow) (bb2 : ByteArray) (bd3 : Int) (br4 : NettingSet × Bool) : f20n5O → Ex × Tr × Hp
  | .exit0 v381 v382 => ((.exit 0), mkS [(12, (.own 0)), (13, (jL 6 NettingFlow.cells v381))], [jR 6 NettingFlow.cells v382])
  | .ret v383 => (.ret, mkS [(8, (.pl (.sl .nil 0 []))), (9, (jI v383))], [])
def f20n5S (ba1 : List NettingFlow) (bb2 : ByteArray) (bd3 : Int) (br4 : NettingSet × Bool) (v264 : List NettingFlow) (v265 : Int) (v266 : List NettingFlow) : Tr × Hp := (mkS [(1, (jL 6 NettingFlow.cells ba1)), (2, (jS bb2)), (3, (jI bd3)), (10, (.bp 0 0)), (12, (.own 1)), (13, (jL 6 NettingFlow.cells v264)), (14, (jI v265))], [some (.box ((NettingSet.cells br4.1).map .pl)), jR 6 NettingFlow.cells v266])
noncomputable def f20n5 : Nat → List NettingFlow → ByteArray → Int → NettingSet × Bool → List NettingFlow → Int → List NettingFlow → Option f20n5O
  | 0, _, _, _, _, _, _, _ => none
  | f + 1, ba1, bb2, bd3, br4, v264, v265, v266 =>
    bif (decide (v265 < (ba1.length : Int))) then
      (f20n2 ba1 bb2 bd3 v264 v265 br4 v266).bind fun o376 => match o376 with
      | .norm v378 v379 => (f20n5 f ba1 bb2 bd3 br4 v378 (wr64 (v265 + 1)) v379)
      | .ret v380 => some (.ret v380)
    else
      some (.exit0 v264 v266)
theorem f20n5_ok : ∀ (f : Nat) (ba1 : List NettingFlow) (bb2 : ByteArray) (bd3 : Int) (br4 : NettingSet × Bool) (v264 : List NettingFlow) (v265 : Int) (v266 : List NettingFlow) {o : f20n5O}, (f20n5 f ba1 bb2 bd3 br4 v264 v265 v266) = some o → TL Try.prog Try.f20.ntmps 0 f (cL (cL (dropC 1 (cL (dropC 6 c20))))) (f20n5S ba1 bb2 bd3 br4 v264 v265 v266) (fun r => r = f20n5E ba1 bb2 bd3 br4 o)
  | 0, _, _, _, _, _, _, _, o, h => by rw [f20n5] at h; cases h
  | f + 1, ba1, bb2, bd3, br4, v264, v265, v266, o, h => by
    rw [f20n5] at h
    refine TL.body (K := fun s => ∃ v264 : List NettingFlow, ∃ v265 : Int, ∃ v266 : List NettingFlow, s = (f20n5S ba1 bb2 bd3 br4 v264 v265 v266) ∧ (f20n5 f ba1 bb2 bd3 br4 v264 v265 v266) = some o) ?_ (by rintro _ ⟨v264, v265, v266, rfl, hk⟩; exact f20n5_ok f _ _ _ _ _ _ _ hk)
    rcases cond_cases h with ⟨h268, h⟩ | ⟨h268, h⟩
    · refine rN cfg_ok 1 [([], [], [(2, .val (jI (ba1.length : Int)))])] [some true] [] [0, 1] [1, 2, 3, 10, 12, 13, 14] (f20n2S ba1 bb2 bd3 v264 v265 br4 v266) (ap (len_cv (xs := ba1) (c := NettingFlow.cells)) (ap h268 an)) ?_
      obtain ⟨o376, h377, h⟩ := bind_cases h
      cases o376 with
      | norm v378 v379 =>
        refine T.oneN (by kernel_rfl) (f20n2_ok ba1 bb2 bd3 v264 v265 br4 v266 h377) (st2 := (f20n2E ba1 bb2 bd3 v264 v265 br4 v266 (.norm v378 v379)).2) rfl ?_
        exact rE cfg_ok [j3] [] [] [0, 1] [1, 2, 3, 10, 12, 13, 14] (.norm, (f20n5S ba1 bb2 bd3 br4 v378 (wr64 (v265 + 1)) v379)) an (LoopQ.norm ⟨v378, (wr64 (v265 + 1)), v379, rfl, h⟩)
      | ret v380 =>
        obtain rfl := some_inj h
        exact T.oneX' (by kernel_rfl) (f20n2_ok ba1 bb2 bd3 v264 v265 br4 v266 h377) (tds := []) (m := []) (keep := [8, 9]) (st2 := (f20n5E ba1 bb2 bd3 br4 (.ret v380)).2) (by kernel_rfl) an rfl (LoopQ.out rfl rfl)
    · obtain rfl := some_inj h
      exact rK cfg_ok 1 [([], [], [(2, .val (jI (ba1.length : Int)))])] [some false] [] [1] [12, 13] (.exit 0) ((f20n5E ba1 bb2 bd3 br4 (.exit0 v264 v266)).2) (ap (len_cv (xs := ba1) (c := NettingFlow.cells)) (ap h268 an)) (LoopQ.out rfl rfl)
inductive f20n1O where
  | norm (v389 : List NettingFlow) (v390 : List NettingFlow)
  | ret (v391 : Int)
def f20n1E (ba1 : List NettingFlow) (bb2 : ByteArray) (bd3 : Int) (br4 : NettingSet × Bool) : f20n1O → Ex × Tr × Hp
  | .norm v389 v390 => (.norm, mkS [(12, (.own 0)), (13, (jL 6 NettingFlow.cells v389))], [jR 6 NettingFlow.cells v390])
  | .ret v391 => (.ret, mkS [(8, (.pl (.sl .nil 0 []))), (9, (jI v391))], [])
def f20n1S (ba1 : List NettingFlow) (bb2 : ByteArray) (bd3 : Int) (br4 : NettingSet × Bool) : Tr × Hp := (mkS [(1, (jL 6 NettingFlow.cells ba1)), (2, (jS bb2)), (3, (jI bd3)), (10, (.bp 0 0)), (12, (.pl (.sl .nil 0 []))), (13, (.pl (.sl .nil 0 [])))], [some (.box ((NettingSet.cells br4.1).map .pl))])
noncomputable def f20n1 (ba1 : List NettingFlow) (bb2 : ByteArray) (bd3 : Int) (br4 : NettingSet × Bool) : Option f20n1O :=
  (f20n5 FUEL ba1 bb2 bd3 br4 [] 0 []).bind fun o384 => match o384 with
  | .exit0 v386 v387 => some (.norm v386 v387)
  | .ret v388 => some (.ret v388)
theorem f20n1_ok (ba1 : List NettingFlow) (bb2 : ByteArray) (bd3 : Int) (br4 : NettingSet × Bool) {o : f20n1O} (h : (f20n1 ba1 bb2 bd3 br4) = some o) : T Try.prog Try.f20.ntmps 0 (cL (dropC 6 c20)) (f20n1S ba1 bb2 bd3 br4) (fun r => r = f20n1E ba1 bb2 bd3 br4 o) := by
  unfold f20n1 at h
  refine rN cfg_ok 1 [j3] [] [.mat 12 6, .wk 13 (.pl (.sl .any 6 ([].map NettingFlow.cells)))] [0, 1] [1, 2, 3, 10, 12, 13, 14] (f20n5S ba1 bb2 bd3 br4 [] 0 []) (ap ((Wk.pl (WkP.nil (f := .nil) (sz := 0) (sz' := 6))) : Wk (.pl (.sl .nil 0 [])) (.pl (.sl .any 6 ([].map NettingFlow.cells)))) an) ?_
  obtain ⟨o384, h385, h⟩ := bind_cases h
  cases o384 with
  | exit0 v386 v387 =>
    obtain rfl := some_inj h
    exact T.last' (T.bl (i := 0) (by kernel_rfl) (by kernel_rfl) (f20n5_ok FUEL ba1 bb2 bd3 br4 [] 0 [] h385)) (tds := []) (m := [0]) (keep := [12, 13]) (st2 := (f20n1E ba1 bb2 bd3 br4 (.norm v386 v387)).2) (by kernel_rfl) an rfl
  | ret v388 =>
    obtain rfl := some_inj h
    exact T.last' (T.bl (i := 0) (by kernel_rfl) (by kernel_rfl) (f20n5_ok FUEL ba1 bb2 bd3 br4 [] 0 [] h385)) (tds := []) (m := []) (keep := [8, 9]) (st2 := (f20n1E ba1 bb2 bd3 br4 (.ret v388)).2) (by kernel_rfl) an rfl
inductive f20n0O where
  | ret (v401 : Int) (v402 : List NettingFlow)
def f20n0E (a1 : List NettingSet) (a2 : List NettingFlow) (a3 : ByteArray) (a4 : Int) : f20n0O → Ex × Tr × Hp
  | .ret v401 v402 => (.ret, mkS [(8, (.own 0)), (9, (jI v401))], [jR 6 NettingFlow.cells v402])
def f20n0S (a1 : List NettingSet) (a2 : List NettingFlow) (a3 : ByteArray) (a4 : Int) : Tr × Hp := (initS [(jL 3 NettingSet.cells a1), (jL 6 NettingFlow.cells a2), (jS a3), (jI a4)] 0 .leaf, [])
noncomputable def f20n0 (a1 : List NettingSet) (a2 : List NettingFlow) (a3 : ByteArray) (a4 : Int) : Option f20n0O :=
  (f22 a1 a2).bind fun x8 =>
  bif (decide (x8 = 0)) then
    (f44 a1 a3).bind fun x13 =>
    bif x13.2 then
      bif (decide (a4 < 0)) then
        some (.ret 2 [])
      else
        bif (decide (99999 < a4)) then
          some (.ret 2 [])
        else
          (f20n1 a2 a3 a4 x13).bind fun o392 => match o392 with
          | .norm v394 v395 => bif (v394.isEmpty) then
              some (.ret 0 v395)
            else
              req (fit (v395.length + v394.length) 80) <|
              some (.ret 0 (v395 ++ v394))
          | .ret v400 => some (.ret v400 [])
    else
      some (.ret 6 [])
  else
    some (.ret 8 [])
theorem f20n0_ok (a1 : List NettingSet) (a2 : List NettingFlow) (a3 : ByteArray) (a4 : Int) {o : f20n0O} (h : (f20n0 a1 a2 a3 a4) = some o) : T Try.prog Try.f20.ntmps 0 c20 (f20n0S a1 a2 a3 a4) (fun r => r = f20n0E a1 a2 a3 a4 o) := by
  unfold f20n0 at h
  obtain ⟨x8, h9, h⟩ := bind_cases h
  rcases cond_cases h with ⟨h10, h⟩ | ⟨h10, h⟩
  · obtain ⟨x13, h14, h⟩ := bind_cases h
    rcases cond_cases h with ⟨h16, h⟩ | ⟨h16, h⟩
    · rcases cond_cases h with ⟨h19, h⟩ | ⟨h19, h⟩
      · obtain rfl := some_inj h
        exact rK cfg_ok 5 [j3, ([], [jH 2 (jI x8)], []), ([], [jH 2 (.tup [(jA NettingSet.cells x13.1), (jB x13.2)])], []), j3, ([(3, true), (4, true)], [(5, .bool true)], []), j3] [some false, some false, none] [.mat 8 6] [1] [8, 9] .ret ((f20n0E a1 a2 a3 a4 (.ret 2 [])).2) (ap (f22_ok a1 a2 h9) (ap (not_t h10) (ap (f44_ok a1 a3 h14) (ap (not_t h16) (ap3 h19 an))))) rfl
      · rcases cond_cases h with ⟨h20, h⟩ | ⟨h20, h⟩
        · obtain rfl := some_inj h
          exact rK cfg_ok 5 [j3, ([], [jH 2 (jI x8)], []), ([], [jH 2 (.tup [(jA NettingSet.cells x13.1), (jB x13.2)])], []), j3, ([(3, false), (4, false)], [(5, .bool false)], []), j3] [some false, some false, some true] [.mat 8 6] [1] [8, 9] .ret ((f20n0E a1 a2 a3 a4 (.ret 2 [])).2) (ap (f22_ok a1 a2 h9) (ap (not_t h10) (ap (f44_ok a1 a3 h14) (ap (not_t h16) (ap3 h19 (ap h20 an)))))) rfl
        · refine rN cfg_ok 6 [j3, ([], [jH 2 (jI x8)], []), ([], [jH 2 (.tup [(jA NettingSet.cells x13.1), (jB x13.2)])], []), j3, ([(3, false), (4, false)], [(5, .bool false)], []), j3] [some false, some false, some false] [] [0] [1, 2, 3, 10, 12, 13] (f20n1S a2 a3 a4 x13) (ap (f22_ok a1 a2 h9) (ap (not_t h10) (ap (f44_ok a1 a3 h14) (ap (not_t h16) (ap3 h19 (ap h20 an)))))) ?_
          obtain ⟨o392, h393, h⟩ := bind_cases h
          cases o392 with
          | norm v394 v395 =>
            refine T.oneN (by kernel_rfl) (f20n1_ok a2 a3 a4 x13 h393) (st2 := (f20n1E a2 a3 a4 x13 (.norm v394 v395)).2) rfl ?_
            rcases cond_cases h with ⟨h398, h⟩ | ⟨h398, h⟩
            · obtain rfl := some_inj h
              exact rE cfg_ok [([], [(2, .app false)], [])] [] [] [0] [8, 9] (.ret, (f20n0E a1 a2 a3 a4 (.ret 0 v395)).2) (ap (nil_map (c := NettingFlow.cells) h398) an) rfl
            · obtain ⟨h399, h⟩ := req_cases h
              obtain rfl := some_inj h
              exact rE cfg_ok [([], [(2, .app true)], [(2, .row 1 ((v395 ++ v394).map NettingFlow.cells))])] [] [] [1] [8, 9] (.ret, (f20n0E a1 a2 a3 a4 (.ret 0 (v395 ++ v394))).2) (ap (fit_map2 (te := ti32) (xs := v395) (ys := v394) (c := NettingFlow.cells) (d := NettingFlow.cells) h399 rfl) (ap (ne_map (c := NettingFlow.cells) h398) (ap (len_all (c := NettingFlow.cells) (xs := v394) (n := 6) (fun _ => rfl)) (ap (app_cv (xs := v395) (ys := v394) (c := NettingFlow.cells)) an)))) rfl
          | ret v400 =>
            obtain rfl := some_inj h
            exact T.oneX' (by kernel_rfl) (f20n1_ok a2 a3 a4 x13 h393) (tds := [.mat 8 6]) (m := [0]) (keep := [8, 9]) (st2 := (f20n0E a1 a2 a3 a4 (.ret v400 [])).2) (by kernel_rfl) an rfl rfl
    · obtain rfl := some_inj h
      exact rK cfg_ok 4 [j3, ([], [jH 2 (jI x8)], []), ([], [jH 2 (.tup [(jA NettingSet.cells x13.1), (jB x13.2)])], []), j3, j3] [some false, some true] [.mat 8 6] [1] [8, 9] .ret ((f20n0E a1 a2 a3 a4 (.ret 6 [])).2) (ap (f22_ok a1 a2 h9) (ap (not_t h10) (ap (f44_ok a1 a3 h14) (ap (not_f h16) an)))) rfl
  · obtain rfl := some_inj h
    exact rK cfg_ok 2 [j3, ([], [jH 2 (jI x8)], []), j3] [some true] [.mat 8 6] [0] [8, 9] .ret ((f20n0E a1 a2 a3 a4 (.ret 8 [])).2) (ap (f22_ok a1 a2 h9) (ap (not_f h10) an)) rfl
noncomputable def f20 (a1 : List NettingSet) (a2 : List NettingFlow) (a3 : ByteArray) (a4 : Int) : Option ((List NettingFlow) × Int) := (f20n0 a1 a2 a3 a4).bind fun o => match o with
  | .ret v401 v402 => some (v402, v401)
theorem f20_ok (a1 : List NettingSet) (a2 : List NettingFlow) (a3 : ByteArray) (a4 : Int) {r : (List NettingFlow) × Int} (h : (f20 a1 a2 a3 a4) = some r) : CallS Try.prog false 20 [(jL 3 NettingSet.cells a1), (jL 6 NettingFlow.cells a2), (jS a3), (jI a4)] [] (.tup [(jL 6 NettingFlow.cells r.1), (jI r.2)]) [] := by
  unfold f20 at h
  obtain ⟨o, ho, h⟩ := bind_cases h
  cases o with
  | ret v401 v402 =>
    obtain rfl := some_inj h
    exact CallS.plain cfg_ok (f := Try.f20) (c := c20) (by kernel_rfl) (by kernel_rfl) (by kernel_rfl) (by kernel_rfl) ((f20n0_ok a1 a2 a3 a4 ho).mono fun r e => by subst e; exact ⟨.inl rfl, (.tup [(.own 0), (jI v401)]), (.tup [(jL 6 NettingFlow.cells v402), (jI v401)]), by kernel_rfl, by kernel_rfl, ((Wk.refl _) : Wk (.tup [(jL 6 NettingFlow.cells v402), (jI v401)]) (.tup [(jL 6 NettingFlow.cells v402), (jI v401)]))⟩)

noncomputable def c5 : Code := Try.f5.body.getD .skip
inductive f5n1O where
  | norm (v29 : List NettingFlow) (v30 : List NettingSet)
def f5n1E (bo1 : List NettingSet) (ba2 : List NettingFlow) (bb3 : ByteArray) (bd4 : Int) (bi5 : Bool) : f5n1O → Ex × Tr × Hp
  | .norm v29 v30 => (.norm, mkS [(0, (jL 3 NettingSet.cells bo1)), (1, (jL 6 NettingFlow.cells ba2)), (2, (jS bb3)), (3, (jI bd4)), (9, (jB bi5)), (10, (.own 0)), (11, (.own 1))], [jR 6 NettingFlow.cells v29, jR 3 NettingSet.cells v30])
def f5n1S (bo1 : List NettingSet) (ba2 : List NettingFlow) (bb3 : ByteArray) (bd4 : Int) (bi5 : Bool) : Tr × Hp := (mkS [(0, (jL 3 NettingSet.cells bo1)), (1, (jL 6 NettingFlow.cells ba2)), (2, (jS bb3)), (3, (jI bd4)), (9, (jB bi5))], [])
noncomputable def f5n1 (bo1 : List NettingSet) (ba2 : List NettingFlow) (bb3 : ByteArray) (bd4 : Int) (bi5 : Bool) : Option f5n1O :=
  (f14r1 ba2).bind fun x25 =>
  bif (bo1.isEmpty) then
    some (.norm x25 [])
  else
    req (fit bo1.length 48) <|
    some (.norm x25 bo1)
theorem f5n1_ok (bo1 : List NettingSet) (ba2 : List NettingFlow) (bb3 : ByteArray) (bd4 : Int) (bi5 : Bool) {o : f5n1O} (h : (f5n1 bo1 ba2 bb3 bd4 bi5) = some o) : T Try.prog Try.f5.ntmps 0 (cL (dropC 3 c5)) (f5n1S bo1 ba2 bb3 bd4 bi5) (fun r => r = f5n1E bo1 ba2 bb3 bd4 bi5 o) := by
  unfold f5n1 at h
  obtain ⟨x25, h26, h⟩ := bind_cases h
  rcases cond_cases h with ⟨h27, h⟩ | ⟨h27, h⟩
  · obtain rfl := some_inj h
    exact rE cfg_ok [([], [(1, .call (.own 0) [jR 6 NettingFlow.cells x25]), (4, .app false)], [])] [] [] [0, 1] [0, 1, 2, 3, 9, 10, 11] (.norm, (f5n1E bo1 ba2 bb3 bd4 bi5 (.norm x25 [])).2) (ap (nil_map (c := NettingSet.cells) h27) (ap (f14r1_ok ba2 h26) an)) rfl
  · obtain ⟨h28, h⟩ := req_cases h
    obtain rfl := some_inj h
    exact rE cfg_ok [([], [(1, .call (.own 0) [jR 6 NettingFlow.cells x25]), (4, .app true)], [])] [] [] [0, 2] [0, 1, 2, 3, 9, 10, 11] (.norm, (f5n1E bo1 ba2 bb3 bd4 bi5 (.norm x25 bo1)).2) (ap (fit_map0z (te := ti46) (xs := bo1) (c := NettingSet.cells) h28 rfl) (ap (ne_map (c := NettingSet.cells) h27) (ap (len_all (c := NettingSet.cells) (xs := bo1) (n := 3) (fun _ => rfl)) (ap (f14r1_ok ba2 h26) an)))) rfl
inductive f5n2O where
  | norm (v102 : Bool)
def f5n2E (bo1 : List NettingSet) (ba2 : List NettingFlow) (bi3 : Bool) (bl4 : Int × (List NettingFlow)) (bm5 : (List NettingFlow) × Int) (bl6 : Int × (List NettingFlow)) (bm7 : (List NettingFlow) × Int) (ba8 : List NettingFlow) (bo9 : List NettingSet) : f5n2O → Ex × Tr × Hp
  | .norm v102 => (.norm, mkS [(0, (jL 3 NettingSet.cells bo1)), (1, (jL 6 NettingFlow.cells ba2)), (9, (jB bi3)), (10, (.own 0)), (11, (.own 1)), (12, (.own 2)), (16, (.own 3)), (20, (jB v102))], [jR 6 NettingFlow.cells ba8, jR 3 NettingSet.cells bo9, jR 6 NettingFlow.cells bl4.2, jR 6 NettingFlow.cells bl6.2])
def f5n2S (bo1 : List NettingSet) (ba2 : List NettingFlow) (bi3 : Bool) (bl4 : Int × (List NettingFlow)) (bm5 : (List NettingFlow) × Int) (bl6 : Int × (List NettingFlow)) (bm7 : (List NettingFlow) × Int) (ba8 : List NettingFlow) (bo9 : List NettingSet) : Tr × Hp := (mkS [(0, (jL 3 NettingSet.cells bo1)), (1, (jL 6 NettingFlow.cells ba2)), (9, (jB bi3)), (10, (.own 0)), (11, (.own 1)), (12, (.own 2)), (13, (jI bl4.1)), (14, (jL 6 NettingFlow.cells bm5.1)), (15, (jI bm5.2)), (16, (.own 3)), (17, (jI bl6.1)), (18, (jL 6 NettingFlow.cells bm7.1)), (19, (jI bm7.2))], [jR 6 NettingFlow.cells ba8, jR 3 NettingSet.cells bo9, jR 6 NettingFlow.cells bl4.2, jR 6 NettingFlow.cells bl6.2])
noncomputable def f5n2 (bo1 : List NettingSet) (ba2 : List NettingFlow) (bi3 : Bool) (bl4 : Int × (List NettingFlow)) (bm5 : (List NettingFlow) × Int) (bl6 : Int × (List NettingFlow)) (bm7 : (List NettingFlow) × Int) (ba8 : List NettingFlow) (bo9 : List NettingSet) : Option f5n2O :=
  (f17 bl4.2 bm5.1).bind fun x85 =>
  bif x85 then
    bif (decide (bl4.1 = bm5.2)) then
      (f17 bl6.2 bm7.1).bind fun x89 =>
      bif x89 then
        bif (decide (bl6.1 = bm7.2)) then
          (f21 bo9 ba8).bind fun x93 =>
          (f22 bo1 ba2).bind fun x95 =>
          bif (decide (x93 = x95)) then
            (f23 bo9).bind fun x98 =>
            (f24 bo1).bind fun x100 =>
            some (.norm (decide (x98 = x100)))
          else
            some (.norm false)
        else
          some (.norm false)
      else
        some (.norm false)
    else
      some (.norm false)
  else
    some (.norm false)
theorem f5n2_ok (bo1 : List NettingSet) (ba2 : List NettingFlow) (bi3 : Bool) (bl4 : Int × (List NettingFlow)) (bm5 : (List NettingFlow) × Int) (bl6 : Int × (List NettingFlow)) (bm7 : (List NettingFlow) × Int) (ba8 : List NettingFlow) (bo9 : List NettingSet) {o : f5n2O} (h : (f5n2 bo1 ba2 bi3 bl4 bm5 bl6 bm7 ba8 bo9) = some o) : T Try.prog Try.f5.ntmps 0 (cL (dropC 1 (dropC 3 (dropC 1 (dropC 3 c5))))) (f5n2S bo1 ba2 bi3 bl4 bm5 bl6 bm7 ba8 bo9) (fun r => r = f5n2E bo1 ba2 bi3 bl4 bm5 bl6 bm7 ba8 bo9 o) := by
  unfold f5n2 at h
  obtain ⟨x85, h86, h⟩ := bind_cases h
  rcases cond_cases h with ⟨h87, h⟩ | ⟨h87, h⟩
  · rcases cond_cases h with ⟨h88, h⟩ | ⟨h88, h⟩
    · obtain ⟨x89, h90, h⟩ := bind_cases h
      rcases cond_cases h with ⟨h91, h⟩ | ⟨h91, h⟩
      · rcases cond_cases h with ⟨h92, h⟩ | ⟨h92, h⟩
        · obtain ⟨x93, h94, h⟩ := bind_cases h
          obtain ⟨x95, h96, h⟩ := bind_cases h
          rcases cond_cases h with ⟨h97, h⟩ | ⟨h97, h⟩
          · obtain ⟨x98, h99, h⟩ := bind_cases h
            obtain ⟨x100, h101, h⟩ := bind_cases h
            obtain rfl := some_inj h
            exact rE cfg_ok [(jT [4, 5, 6, 9, 10, 11, 14, 15, 16, 19, 20, 21, 22, 23, 24, 25, 28, 29, 30, 31, 32], [jH 2 (jB x85), (7, .bool true), jH 11 (jB x89), (12, .bool true), (17, .bool true), jH 21 (jI x93), jH 24 (jI x95), (26, .bool true), jH 29 (jI x98), jH 31 (jI x100), (33, .bool true)], [])] [] [] [0, 1, 2, 3] [0, 1, 9, 10, 11, 12, 16, 20] (.norm, (f5n2E bo1 ba2 bi3 bl4 bm5 bl6 bm7 ba8 bo9 (.norm (decide (x98 = x100)))).2) (ap4 h87 (ap4 h88 (ap4 h91 (ap4 h92 (ap4 h92 (ap2 h97 (ap4 h97 (ap (f17_ok bl4.2 bm5.1 h86) (ap (f17_ok bl6.2 bm7.1 h90) (ap (f21_ok bo9 ba8 h94) (ap (f22_ok bo1 ba2 h96) (ap (f23_ok bo9 h99) (ap (f24_ok bo1 h101) an))))))))))))) rfl
          · obtain rfl := some_inj h
            exact rE cfg_ok [(jF [28, 29, 30, 31, 32] ++ jT [4, 5, 6, 9, 10, 11, 14, 15, 16, 19, 20, 21, 22, 23, 24, 25], [jH 2 (jB x85), (7, .bool true), jH 11 (jB x89), (12, .bool true), (17, .bool true), jH 21 (jI x93), jH 24 (jI x95), (26, .bool true), (33, .bool false)], [])] [] [] [0, 1, 2, 3] [0, 1, 9, 10, 11, 12, 16, 20] (.norm, (f5n2E bo1 ba2 bi3 bl4 bm5 bl6 bm7 ba8 bo9 (.norm false)).2) (ap4 h87 (ap4 h88 (ap4 h91 (ap4 h92 (ap4 h92 (ap2 h97 (ap4 h97 (ap (f17_ok bl4.2 bm5.1 h86) (ap (f17_ok bl6.2 bm7.1 h90) (ap (f21_ok bo9 ba8 h94) (ap (f22_ok bo1 ba2 h96) an))))))))))) rfl
        · obtain rfl := some_inj h
          exact rE cfg_ok [(jF [19, 20, 21, 22, 23, 24, 25] ++ jT [4, 5, 6, 9, 10, 11, 14, 15, 16], [jH 2 (jB x85), (7, .bool true), jH 11 (jB x89), (12, .bool true), (17, .bool true), (26, .bool false)], [])] [] [] [0, 1, 2, 3] [0, 1, 9, 10, 11, 12, 16, 20] (.norm, (f5n2E bo1 ba2 bi3 bl4 bm5 bl6 bm7 ba8 bo9 (.norm false)).2) (ap4 h87 (ap4 h88 (ap4 h91 (ap4 h92 (ap4 h92 (ap (f17_ok bl4.2 bm5.1 h86) (ap (f17_ok bl6.2 bm7.1 h90) an))))))) rfl
      · obtain rfl := some_inj h
        exact rE cfg_ok [(jF [14, 15, 16] ++ jT [4, 5, 6, 9, 10, 11], [jH 2 (jB x85), (7, .bool true), jH 11 (jB x89), (12, .bool true), (17, .bool false)], [])] [] [] [0, 1, 2, 3] [0, 1, 9, 10, 11, 12, 16, 20] (.norm, (f5n2E bo1 ba2 bi3 bl4 bm5 bl6 bm7 ba8 bo9 (.norm false)).2) (ap4 h87 (ap4 h88 (ap4 h91 (ap (f17_ok bl4.2 bm5.1 h86) (ap (f17_ok bl6.2 bm7.1 h90) an))))) rfl
    · obtain rfl := some_inj h
      exact rE cfg_ok [(jF [9, 10, 11] ++ jT [4, 5, 6], [jH 2 (jB x85), (7, .bool true), (12, .bool false)], [])] [] [] [0, 1, 2, 3] [0, 1, 9, 10, 11, 12, 16, 20] (.norm, (f5n2E bo1 ba2 bi3 bl4 bm5 bl6 bm7 ba8 bo9 (.norm false)).2) (ap4 h87 (ap4 h88 (ap (f17_ok bl4.2 bm5.1 h86) an))) rfl
  · obtain rfl := some_inj h
    exact rE cfg_ok [(jF [4, 5, 6], [jH 2 (jB x85), (7, .bool false)], [])] [] [] [0, 1, 2, 3] [0, 1, 9, 10, 11, 12, 16, 20] (.norm, (f5n2E bo1 ba2 bi3 bl4 bm5 bl6 bm7 ba8 bo9 (.norm false)).2) (ap4 h87 (ap (f17_ok bl4.2 bm5.1 h86) an)) rfl
inductive f5n4O where
  | exit0 (v154 : Bool)
def f5n4E (bo1 : List NettingSet) (ba2 : List NettingFlow) (bi3 : Bool) (ba5 : List NettingFlow) (bo6 : List NettingSet) : f5n4O → Ex × Tr × Hp
  | .exit0 v154 => ((.exit 0), mkS [(1, (jL 6 NettingFlow.cells ba2)), (9, (jB bi3)), (10, (.own 0)), (20, (jB v154))], [jR 6 NettingFlow.cells ba5])
def f5n4S (bo1 : List NettingSet) (ba2 : List NettingFlow) (bi3 : Bool) (ba5 : List NettingFlow) (bo6 : List NettingSet) (v140 : Bool) (v141 : Int) : Tr × Hp := (mkS [(0, (jL 3 NettingSet.cells bo1)), (1, (jL 6 NettingFlow.cells ba2)), (9, (jB bi3)), (10, (.own 0)), (11, (.own 1)), (20, (jB v140)), (21, (jI v141))], [jR 6 NettingFlow.cells ba5, jR 3 NettingSet.cells bo6])
noncomputable def f5n4 : Nat → List NettingSet → List NettingFlow → Bool → List NettingFlow → List NettingSet → Bool → Int → Option f5n4O
  | 0, _, _, _, _, _, _, _ => none
  | f + 1, bo1, ba2, bi3, ba5, bo6, v140, v141 =>
    bif (decide (v141 < (bo1.length : Int))) then
      bif v140 then
        (at? bo6 v141).bind fun x150 =>
        (at? bo1 v141).bind fun x152 =>
        (f5n4 f bo1 ba2 bi3 ba5 bo6 (NettingSet.eqb x150 x152) (wr64 (v141 + 1)))
      else
        (f5n4 f bo1 ba2 bi3 ba5 bo6 false (wr64 (v141 + 1)))
    else
      some (.exit0 v140)
theorem f5n4_ok : ∀ (f : Nat) (bo1 : List NettingSet) (ba2 : List NettingFlow) (bi3 : Bool) (ba5 : List NettingFlow) (bo6 : List NettingSet) (v140 : Bool) (v141 : Int) {o : f5n4O}, (f5n4 f bo1 ba2 bi3 ba5 bo6 v140 v141) = some o → TL Try.prog Try.f5.ntmps 0 f (cL (cL (dropC 1 (cL (dropC 2 (dropC 1 (dropC 1 (dropC 3 (dropC 1 (dropC 3 c5)))))))))) (f5n4S bo1 ba2 bi3 ba5 bo6 v140 v141) (fun r => r = f5n4E bo1 ba2 bi3 ba5 bo6 o)
  | 0, _, _, _, _, _, _, _, o, h => by rw [f5n4] at h; cases h
  | f + 1, bo1, ba2, bi3, ba5, bo6, v140, v141, o, h => by
    rw [f5n4] at h
    refine TL.body (K := fun s => ∃ v140 : Bool, ∃ v141 : Int, s = (f5n4S bo1 ba2 bi3 ba5 bo6 v140 v141) ∧ (f5n4 f bo1 ba2 bi3 ba5 bo6 v140 v141) = some o) ?_ (by rintro _ ⟨v140, v141, rfl, hk⟩; exact f5n4_ok f _ _ _ _ _ _ _ hk)
    rcases cond_cases h with ⟨h143, h⟩ | ⟨h143, h⟩
    · rcases cond_cases h with ⟨h149, h⟩ | ⟨h149, h⟩
      · obtain ⟨x150, h151, h⟩ := bind_cases h
        obtain ⟨x152, h153, h⟩ := bind_cases h
        exact rE cfg_ok [([], [], [(2, .val (jI (bo1.length : Int)))]), (jT [2, 3, 4, 5, 6, 7, 8, 9, 10], [(4, .at_ (Int.toNat v141)), (5, .idx 0 (NettingSet.cells x150)), (8, .idx (Int.toNat v141) (NettingSet.cells x152)), (10, .bool (NettingSet.eqb x150 x152)), (11, .bool true)], []), j3] [some true] [] [0, 1] [0, 1, 9, 10, 11, 20, 21] (.norm, (f5n4S bo1 ba2 bi3 ba5 bo6 (NettingSet.eqb x150 x152) (wr64 (v141 + 1)))) (ap (len_cv (xs := bo1) (c := NettingSet.cells)) (ap h143 (ap3 h149 (ap (at_some h151).1 (ap (lt_map NettingSet.cells (at_some h151).2) (ap h149 (ap (at_map NettingSet.cells (at_some h151).2) (ap3 h149 (ap (at_some h153).1 (ap (at_map NettingSet.cells (at_some h153).2) (ap2 h149 (ap (NettingSet.eqb_ok x150 x152) (ap h149 an))))))))))))) (LoopQ.norm ⟨(NettingSet.eqb x150 x152), (wr64 (v141 + 1)), rfl, h⟩)
      · exact rE cfg_ok [([], [], [(2, .val (jI (bo1.length : Int)))]), (jF [2, 3, 4, 5, 6, 7, 8, 9, 10], [(11, .bool false)], []), j3] [some true] [] [0, 1] [0, 1, 9, 10, 11, 20, 21] (.norm, (f5n4S bo1 ba2 bi3 ba5 bo6 false (wr64 (v141 + 1)))) (ap (len_cv (xs := bo1) (c := NettingSet.cells)) (ap h143 (ap2 h149 (ap4 h149 (ap4 h149 an))))) (LoopQ.norm ⟨false, (wr64 (v141 + 1)), rfl, h⟩)
    · obtain rfl := some_inj h
      exact rK cfg_ok 1 [([], [], [(2, .val (jI (bo1.length : Int)))])] [some false] [] [0] [1, 9, 10, 20] (.exit 0) ((f5n4E bo1 ba2 bi3 ba5 bo6 (.exit0 v140)).2) (ap (len_cv (xs := bo1) (c := NettingSet.cells)) (ap h143 an)) (LoopQ.out rfl rfl)
noncomputable def f5n4L (bo1 : List NettingSet) (ba2 : List NettingFlow) (bi3 : Bool) (ba5 : List NettingFlow) (bo6 : List NettingSet) : List NettingSet → Bool → Int → Option f5n4O
  | [], v140, v141 =>
    some (.exit0 v140)
  | x0 :: rest, v140, v141 =>
    bif v140 then
      (at? bo6 v141).bind fun x150 =>
      (f5n4L bo1 ba2 bi3 ba5 bo6 rest (NettingSet.eqb x150 x0) (v141 + 1))
    else
      (f5n4L bo1 ba2 bi3 ba5 bo6 rest false (v141 + 1))
theorem f5n4L_eq (bo1 : List NettingSet) (ba2 : List NettingFlow) (bi3 : Bool) (ba5 : List NettingFlow) (bo6 : List NettingSet) : ∀ (rest : List NettingSet) (f k : Nat) (v140 : Bool), bo1.drop k = rest → bo1.length ≤ maxLen → rest.length < f → f5n4 f bo1 ba2 bi3 ba5 bo6 v140 (k : Int) = f5n4L bo1 ba2 bi3 ba5 bo6 rest v140 (k : Int)
  | _, 0, _, _, _, _, hf => absurd hf (Nat.not_lt_zero _)
  | [], f + 1, k, v140, hd, hm, hf => by
    have hk : ¬ ((k : Int) < (bo1.length : Int)) := by have := drop_nil hd; omega
    rw [f5n4, f5n4L]
    simp only [decide_eq_false hk, cond_false]
  | x0 :: rest, f + 1, k, v140, hd, hm, hf => by
    obtain ⟨hx, hlt, hd'⟩ := drop_cons hd
    have hk : (k : Int) < (bo1.length : Int) := by omega
    have hw : wr64 ((k : Int) + 1) = (k : Int) + 1 := wr64_of (by omega) (by unfold maxLen at hm; omega)
    have ih : ∀ (v140 : Bool), f5n4 f bo1 ba2 bi3 ba5 bo6 v140 ((k : Int) + 1) = f5n4L bo1 ba2 bi3 ba5 bo6 rest v140 ((k : Int) + 1) := fun v140 => f5n4L_eq bo1 ba2 bi3 ba5 bo6 rest f (k + 1) v140 hd' hm (by simpa using hf)
    rw [f5n4, f5n4L]
    simp only [decide_eq_true hk, cond_true, at_nat, hx, Option.bind_some, hw, ih]
theorem f5n4_run (bo1 : List NettingSet) (ba2 : List NettingFlow) (bi3 : Bool) (ba5 : List NettingFlow) (bo6 : List NettingSet) (v140 : Bool) (hm : bo1.length ≤ maxLen) : f5n4 FUEL bo1 ba2 bi3 ba5 bo6 v140 0 = f5n4L bo1 ba2 bi3 ba5 bo6 bo1 v140 0 := f5n4L_eq bo1 ba2 bi3 ba5 bo6 bo1 FUEL 0 v140 List.drop_zero hm (lt_FUEL hm)
inductive f5n3O where
  | norm (v158 : Bool)
def f5n3E (bo1 : List NettingSet) (ba2 : List NettingFlow) (bi3 : Bool) (bi4 : Bool) (ba5 : List NettingFlow) (bo6 : List NettingSet) : f5n3O → Ex × Tr × Hp
  | .norm v158 => (.norm, mkS [(1, (jL 6 NettingFlow.cells ba2)), (9, (jB bi3)), (10, (.own 0)), (20, (jB v158))], [jR 6 NettingFlow.cells ba5])
def f5n3S (bo1 : List NettingSet) (ba2 : List NettingFlow) (bi3 : Bool) (bi4 : Bool) (ba5 : List NettingFlow) (bo6 : List NettingSet) : Tr × Hp := (mkS [(0, (jL 3 NettingSet.cells bo1)), (1, (jL 6 NettingFlow.cells ba2)), (9, (jB bi3)), (10, (.own 0)), (11, (.own 1)), (20, (jB bi4))], [jR 6 NettingFlow.cells ba5, jR 3 NettingSet.cells bo6])
noncomputable def f5n3 (bo1 : List NettingSet) (ba2 : List NettingFlow) (bi3 : Bool) (bi4 : Bool) (ba5 : List NettingFlow) (bo6 : List NettingSet) : Option f5n3O :=
  (f5n4 FUEL bo1 ba2 bi3 ba5 bo6 bi4 0).bind fun o155 => match o155 with
  | .exit0 v157 => some (.norm v157)
theorem f5n3_ok (bo1 : List NettingSet) (ba2 : List NettingFlow) (bi3 : Bool) (bi4 : Bool) (ba5 : List NettingFlow) (bo6 : List NettingSet) {o : f5n3O} (h : (f5n3 bo1 ba2 bi3 bi4 ba5 bo6) = some o) : T Try.prog Try.f5.ntmps 0 (cL (dropC 2 (dropC 1 (dropC 1 (dropC 3 (dropC 1 (dropC 3 c5))))))) (f5n3S bo1 ba2 bi3 bi4 ba5 bo6) (fun r => r = f5n3E bo1 ba2 bi3 bi4 ba5 bo6 o) := by
  unfold f5n3 at h
  refine rN cfg_ok 1 [j3] [] [] [0, 1] [0, 1, 9, 10, 11, 20, 21] (f5n4S bo1 ba2 bi3 ba5 bo6 bi4 0) an ?_
  obtain ⟨o155, h156, h⟩ := bind_cases h
  cases o155 with
  | exit0 v157 =>
    obtain rfl := some_inj h
    exact T.last' (T.bl (i := 0) (by kernel_rfl) (by kernel_rfl) (f5n4_ok FUEL bo1 ba2 bi3 ba5 bo6 bi4 0 h156)) (tds := []) (m := [0]) (keep := [1, 9, 10, 20]) (st2 := (f5n3E bo1 ba2 bi3 bi4 ba5 bo6 (.norm v157)).2) (by kernel_rfl) an rfl
inductive f5n0O where
  | ret (v168 : Bool)
def f5n0E (a1 : List NettingSet) (a2 : List NettingFlow) (a3 : ByteArray) (a4 : Int) : f5n0O → Ex × Tr × Hp
  | .ret v168 => (.ret, mkS [(8, (jB v168))], [])
def f5n0S (a1 : List NettingSet) (a2 : List NettingFlow) (a3 : ByteArray) (a4 : Int) : Tr × Hp := (initS [(jL 3 NettingSet.cells a1), (jL 6 NettingFlow.cells a2), (jS a3), (jI a4)] 0 .leaf, [])
noncomputable def f5n0 (a1 : List NettingSet) (a2 : List NettingFlow) (a3 : ByteArray) (a4 : Int) : Option f5n0O :=
  f11.bind fun x7 =>
  (f12 a1 a2).bind fun x13 =>
  bif x13 then
    some (.ret x7)
  else
    bif x7 then
      (f5n1 a1 a2 a3 a4 x7).bind fun o31 => match o31 with
      | .norm v33 v34 => (f13r1 v34 v33).bind fun x37 =>
        (f18 a1 a2).bind fun x41 =>
        (f19r1 a3 a4 v34 v33).bind fun x45 =>
        (f20 a1 a2 a3 a4).bind fun x49 =>
        (f5n2 a1 a2 x7 x37 x41 x45 x49 v33 v34).bind fun o103 => match o103 with
        | .norm v105 => (f25r1 x37.2).bind fun x108 =>
          (f25r1 x45.2).bind fun x112 =>
          (f5n3 a1 a2 x7 v105 v33 v34).bind fun o159 => match o159 with
          | .norm v161 => bif v161 then
              (f17 v33 a2).bind fun x166 =>
              some (.ret x166)
            else
              some (.ret false)
    else
      some (.ret x7)
theorem f5n0_ok (a1 : List NettingSet) (a2 : List NettingFlow) (a3 : ByteArray) (a4 : Int) {o : f5n0O} (h : (f5n0 a1 a2 a3 a4) = some o) : T Try.prog Try.f5.ntmps 0 c5 (f5n0S a1 a2 a3 a4) (fun r => r = f5n0E a1 a2 a3 a4 o) := by
  unfold f5n0 at h
  obtain ⟨x7, h8, h⟩ := bind_cases h
  obtain ⟨x13, h14, h⟩ := bind_cases h
  rcases cond_cases h with ⟨h15, h⟩ | ⟨h15, h⟩
  · obtain rfl := some_inj h
    exact rK cfg_ok 3 [j3, ([], [jH 0 (jB x7)], []), ([(4, true), (5, true)], [jH 2 (jB x13), (6, .bool true)], []), j3] [none] [] [] [8] .ret ((f5n0E a1 a2 a3 a4 (.ret x7)).2) (ap (f11_ok h8) (ap3 h15 (ap (f12_ok a1 a2 h14) an))) rfl
  · rcases cond_cases h with ⟨h16, h⟩ | ⟨h16, h⟩
    · refine rN cfg_ok 3 [j3, ([], [jH 0 (jB x7)], []), ([(4, false), (5, false)], [jH 2 (jB x13), (6, .bool false)], [])] [some false] [] [] [0, 1, 2, 3, 9] (f5n1S a1 a2 a3 a4 x7) (ap (f11_ok h8) (ap3 h15 (ap (f12_ok a1 a2 h14) (ap (not_t h16) an)))) ?_
      obtain ⟨o31, h32, h⟩ := bind_cases h
      cases o31 with
      | norm v33 v34 =>
        refine T.oneN (by kernel_rfl) (f5n1_ok a1 a2 a3 a4 x7 h32) (st2 := (f5n1E a1 a2 a3 a4 x7 (.norm v33 v34)).2) rfl ?_
        obtain ⟨x37, h38, h⟩ := bind_cases h
        obtain ⟨x41, h42, h⟩ := bind_cases h
        obtain ⟨x45, h46, h⟩ := bind_cases h
        refine rN cfg_ok 3 [([], [(2, .call (.tup [(.own 2), (jI x37.1)]) [jR 6 NettingFlow.cells v33, jR 3 NettingSet.cells v34, jR 6 NettingFlow.cells x37.2])], []), ([], [jH 2 (.tup [(jL 6 NettingFlow.cells x41.1), (jI x41.2)])], []), ([], [(4, .call (.tup [(.own 3), (jI x45.1)]) [jR 6 NettingFlow.cells v33, jR 3 NettingSet.cells v34, none, jR 6 NettingFlow.cells x45.2])], [])] [] [] [0, 1, 2, 3] [0, 1, 2, 3, 9, 10, 11, 12, 13, 14, 15, 16, 17] (mkS [(0, (jL 3 NettingSet.cells a1)), (1, (jL 6 NettingFlow.cells a2)), (2, (jS a3)), (3, (jI a4)), (9, (jB x7)), (10, (.own 0)), (11, (.own 1)), (12, (.own 2)), (13, (jI x37.1)), (14, (jL 6 NettingFlow.cells x41.1)), (15, (jI x41.2)), (16, (.own 3)), (17, (jI x45.1))], [jR 6 NettingFlow.cells v33, jR 3 NettingSet.cells v34, jR 6 NettingFlow.cells x37.2, jR 6 NettingFlow.cells x45.2]) (ap (CallS.rn 2 [1, 0] (f13r1_ok v34 v33 h38)) (ap (f18_ok a1 a2 h42) (ap (CallS.rn 3 [1, 0] (f19r1_ok a3 a4 v34 v33 h46)) an))) ?_
        obtain ⟨x49, h50, h⟩ := bind_cases h
        refine rN cfg_ok 1 [([], [jH 4 (.tup [(jL 6 NettingFlow.cells x49.1), (jI x49.2)])], [])] [] [] [0, 1, 2, 3] [0, 1, 9, 10, 11, 12, 13, 14, 15, 16, 17, 18, 19] (f5n2S a1 a2 x7 x37 x41 x45 x49 v33 v34) (ap (f20_ok a1 a2 a3 a4 h50) an) ?_
        obtain ⟨o103, h104, h⟩ := bind_cases h
        cases o103 with
        | norm v105 =>
          refine T.oneN (by kernel_rfl) (f5n2_ok a1 a2 x7 x37 x41 x45 x49 v33 v34 h104) (st2 := (f5n2E a1 a2 x7 x37 x41 x45 x49 v33 v34 (.norm v105)).2) rfl ?_
          obtain ⟨x108, h109, h⟩ := bind_cases h
          obtain ⟨x112, h113, h⟩ := bind_cases h
          refine rN cfg_ok 2 [([], [(1, .call (.tup []) [none, none, jR 6 NettingFlow.cells x108, none])], []), ([], [(1, .call (.tup []) (jN 3 [jR 6 NettingFlow.cells x112]))], [])] [] [] [0, 1] [0, 1, 9, 10, 11, 20] (f5n3S a1 a2 x7 v105 v33 v34) (ap (CallS.rn 4 [2] (f25r1_ok x37.2 h109)) (ap (CallS.rn 4 [3] (f25r1_ok x45.2 h113)) an)) ?_
          obtain ⟨o159, h160, h⟩ := bind_cases h
          cases o159 with
          | norm v161 =>
            refine T.oneN (by kernel_rfl) (f5n3_ok a1 a2 x7 v105 v33 v34 h160) (st2 := (f5n3E a1 a2 x7 v105 v33 v34 (.norm v161)).2) rfl ?_
            rcases cond_cases h with ⟨h165, h⟩ | ⟨h165, h⟩
            · obtain ⟨x166, h167, h⟩ := bind_cases h
              obtain rfl := some_inj h
              exact rE cfg_ok [(jT [2, 5, 6, 7], [(3, .bool true), jH 7 (jB x166), (8, .bool true)], [])] [] [] [] [8] (.ret, (f5n0E a1 a2 a3 a4 (.ret x166)).2) (ap2 h16 (ap4 h165 (ap (f17_ok v33 a2 h167) an))) rfl
            · obtain rfl := some_inj h
              exact rE cfg_ok [(jF [5, 6, 7] ++ jT [2], [(3, .bool true), (8, .bool false)], [])] [] [] [] [8] (.ret, (f5n0E a1 a2 a3 a4 (.ret false)).2) (ap2 h16 (ap4 h165 an)) rfl
    · obtain rfl := some_inj h
      exact rK cfg_ok 3 [j3, ([], [jH 0 (jB x7)], []), ([(4, false), (5, false)], [jH 2 (jB x13), (6, .bool false)], []), j3] [some true] [] [] [8] .ret ((f5n0E a1 a2 a3 a4 (.ret x7)).2) (ap (f11_ok h8) (ap3 h15 (ap (f12_ok a1 a2 h14) (ap (not_f h16) an)))) rfl
noncomputable def f5 (a1 : List NettingSet) (a2 : List NettingFlow) (a3 : ByteArray) (a4 : Int) : Option Bool := (f5n0 a1 a2 a3 a4).bind fun o => match o with
  | .ret v168 => some v168
theorem f5_ok (a1 : List NettingSet) (a2 : List NettingFlow) (a3 : ByteArray) (a4 : Int) {r : Bool} (h : (f5 a1 a2 a3 a4) = some r) : CallS Try.prog false 5 [(jL 3 NettingSet.cells a1), (jL 6 NettingFlow.cells a2), (jS a3), (jI a4)] [] (jB r) [] := by
  unfold f5 at h
  obtain ⟨o, ho, h⟩ := bind_cases h
  cases o with
  | ret v168 =>
    obtain rfl := some_inj h
    exact CallS.plain cfg_ok (f := Try.f5) (c := c5) (by kernel_rfl) (by kernel_rfl) (by kernel_rfl) (by kernel_rfl) ((f5n0_ok a1 a2 a3 a4 ho).mono fun r e => by subst e; exact ⟨.inl rfl, (jB v168), (jB v168), by kernel_rfl, by kernel_rfl, ((Wk.refl _) : Wk (jB v168) (jB v168))⟩)
end Go.Proofs.Ytkcafackfihmiaa
namespace Go.Proofs.Ytkcafackfihmiaa
set_option linter.unusedVariables false
set_option linter.unusedSimpArgs false
open Go.RowKit
section
variable {c : NettingFlow → NettingFlow → Int} (hc : ∀ x y, f55 x y = some (c x y)) (o : SWo fun x y => decide (c x y < 0))
abbrev st_lt (c : NettingFlow → NettingFlow → Int) : NettingFlow → NettingFlow → Bool := fun x y => decide (c x y < 0)

include hc o in
theorem st_ins_in (a b i : Int) : ∀ (n : Nat) (S P R : List NettingFlow) (x : NettingFlow) (f : Nat), S.length = n → n < f → P.length + n ≤ 1000000 → Sd (st_lt c) S →
    ∃ S', f81r1n2 f a b i ((P.length + n : Nat) : Int) (P ++ (S ++ x :: R)) = some (.exit2 (P ++ (S' ++ R))) ∧ Sd (st_lt c) S' ∧ Cl (st_lt c) (S ++ [x]) S' ∨ a ≠ (P.length : Int)
  | _, S, P, R, x, 0, _, h, _, _ => absurd h (Nat.not_lt_zero _)
  | n, S, P, R, x, f + 1, hn, hf, hb, hs => by
    by_cases ha : a = (P.length : Int)
    · subst ha
      rcases List.eq_nil_or_concat S with rfl | ⟨S0, y, rfl⟩
      · refine ⟨[x], .inl ⟨?_, by simp, Cl.refl _⟩⟩
        have : n = 0 := by simpa using hn.symm
        subst this
        rw [f81r1n2, decide_eq_false (by omega), cond_false]; simp
      · rw [List.concat_eq_append] at hn hs ⊢
        have hn' : n = S0.length + 1 := by simpa using hn.symm
        subst hn'
        have e1 : P ++ ((S0 ++ [y]) ++ x :: R) = (P ++ S0) ++ y :: x :: R := by simp
        have e2 : P ++ ((S0 ++ [y]) ++ x :: R) = ((P ++ S0) ++ [y]) ++ x :: R := by simp
        have k1 : wr64 (((P.length + (S0.length + 1) : Nat) : Int) - 1) = ((P.length + S0.length : Nat) : Int) := by rw [wrIn (by omega) (by omega)]; omega
        rw [f81r1n2, decide_eq_true (by omega), cond_true, k1, at_len (k := P.length + (S0.length + 1)) e2 (by simp <;> omega), at_len (k := P.length + S0.length) e1 (by simp)]
        simp only [Option.bind_some, hc]
        rw [show (Int.toNat ((P.length + (S0.length + 1) : Nat) : Int)) = P.length + (S0.length + 1) from rfl, show (Int.toNat ((P.length + S0.length : Nat) : Int)) = P.length + S0.length from rfl, set_len (k := P.length + (S0.length + 1)) (y := y) e2 (by simp <;> omega)]
        have e3 : ((P ++ S0) ++ [y]) ++ y :: R = (P ++ S0) ++ y :: y :: R := by simp
        rw [at_len (k := P.length + S0.length) e3 (by simp), set_len (k := P.length + S0.length) (y := x) e3 (by simp)]
        cases hlt : decide (c x y < 0) with
        | true =>
          have hs' := List.pairwise_append.1 hs
          rcases st_ins_in (P.length : Int) b i S0.length S0 P (y :: R) x f rfl (by omega) (by omega) hs'.1 with ⟨S', h | h⟩
          · obtain ⟨h1, h2, h3⟩ := h
            simp only [cond_true, Option.bind_some]
            rw [show (P ++ S0) ++ x :: y :: R = P ++ (S0 ++ x :: (y :: R)) by simp, h1]
            refine ⟨S' ++ [y], .inl ⟨by simp, h2.app (by simp) fun z hz w hw => ?_, ?_⟩⟩
            · rw [List.mem_singleton.1 hw]
              rcases List.mem_append.1 (h3.mem.1 hz) with hz | hz
              · exact hs'.2.2 z hz y (by simp)
              · rw [List.mem_singleton.1 hz]; exact o.asym hlt
            · have e := (Cl.refl (lt := st_lt c) S0).app (Cl.swap (lt := st_lt c) (u := [y]) (v := [x]) o (fun a ha b hb => by rw [List.mem_singleton.1 ha, List.mem_singleton.1 hb]; exact hlt))
              have e' := e.trans (by simpa using h3.app (Cl.refl (lt := st_lt c) [y]) : Cl (st_lt c) (S0 ++ ([x] ++ [y])) (S' ++ [y]))
              simpa using e'
          · exact absurd rfl h
        | false =>
          refine ⟨(S0 ++ [y]) ++ [x], .inl ⟨by simp, hs.app (by simp) fun z hz w hw => ?_, Cl.refl _⟩⟩
          rw [List.mem_singleton.1 hw]
          rcases List.mem_append.1 hz with hz | hz
          · exact o.nt hlt ((List.pairwise_append.1 hs).2.2 z hz y (by simp))
          · rw [List.mem_singleton.1 hz]; exact hlt
    · exact ⟨[], .inr ha⟩
include hc o in
theorem st_ins_out : ∀ (X S P R : List NettingFlow) (f : Nat), X.length < f → P.length + S.length + X.length ≤ 1000000 → Sd (st_lt c) S →
    ∃ S', f81r1n3 f (P.length : Int) ((P.length + S.length + X.length : Nat) : Int) ((P.length + S.length : Nat) : Int) (P ++ (S ++ (X ++ R))) = some (.exit0 (P ++ (S' ++ R))) ∧ Sd (st_lt c) S' ∧ Cl (st_lt c) (S ++ X) S'
  | _, S, P, R, 0, h, _, _ => absurd h (Nat.not_lt_zero _)
  | [], S, P, R, f + 1, _, _, hs => ⟨S, by rw [f81r1n3, decide_eq_false (by simp), cond_false]; simp, hs, by simpa using Cl.refl _⟩
  | x :: X, S, P, R, f + 1, hf, hb, hs => by
    simp only [List.length_cons] at hf hb
    rcases st_ins_in hc o (P.length : Int) ((P.length + S.length + (x :: X).length : Nat) : Int) ((P.length + S.length : Nat) : Int) S.length S P (X ++ R) x FUEL rfl (lt_FUEL (Nat.le_trans (by omega : S.length ≤ 1000000) (by unfold maxLen; decide))) (by omega) hs with ⟨S1, h | h⟩
    · obtain ⟨h1, h2, h3⟩ := h
      have hl := h3.len
      simp only [List.length_append, List.length_cons, List.length_nil] at hl
      obtain ⟨S', k1, k2, k3⟩ := st_ins_out X S1 P R f (by omega) (by omega) h2
      refine ⟨S', ?_, k2, ?_⟩
      · rw [f81r1n3, decide_eq_true (by simp only [List.length_cons]; omega), cond_true]
        unfold f81r1n1
        rw [show P ++ (S ++ (x :: X ++ R)) = P ++ (S ++ x :: (X ++ R)) by simp, h1]
        simp only [Option.bind_some]
        rw [show wr64 (((P.length + S.length : Nat) : Int) + 1) = ((P.length + S1.length : Nat) : Int) by rw [wrIn (by omega) (by omega)]; omega]
        rw [show ((P.length + S.length + (x :: X).length : Nat) : Int) = ((P.length + S1.length + X.length : Nat) : Int) by simp only [List.length_cons]; omega]
        exact k1
      · have := (h3.app (Cl.refl (lt := st_lt c) X)).trans k3
        simpa using this
    · exact absurd rfl h
include hc o in
theorem st_ins_ok (P X R : List NettingFlow) (hb : P.length + X.length ≤ 1000000) : f81r1 (P.length : Int) ((P.length + X.length : Nat) : Int) (P ++ (X ++ R)) = some (P ++ (sortS (st_lt c) X ++ R)) := by
  have main : f81r1n3 FUEL (P.length : Int) ((P.length + X.length : Nat) : Int) (wr64 ((P.length : Int) + 1)) (P ++ (X ++ R)) = some (.exit0 (P ++ (sortS (st_lt c) X ++ R))) := by
    rw [show wr64 ((P.length : Int) + 1) = ((P.length + 1 : Nat) : Int) by rw [wrIn (by omega) (by omega)]; omega]
    have hF : ∀ n : Nat, n ≤ 1000000 → n < FUEL := fun n hn => lt_FUEL (Nat.le_trans hn (by unfold maxLen; decide))
    cases X with
    | nil =>
      have : FUEL = (FUEL - 1) + 1 := by decide
      rw [this, f81r1n3, decide_eq_false (by simp <;> omega), cond_false]; rfl
    | cons x X =>
      simp only [List.length_cons] at hb
      obtain ⟨S', k1, k2, k3⟩ := st_ins_out hc o X [x] P R FUEL (hF _ (by omega)) (by simp <;> omega) (by simp)
      rw [sortS_of o k2 k3] at k1
      simp only [List.length_cons, List.length_nil, List.cons_append, List.nil_append] at k1 ⊢
      rw [show P.length + (X.length + 1) = P.length + (0 + 1) + X.length by omega, show P.length + 1 = P.length + (0 + 1) by omega]
      exact k1
  unfold f81r1 f81r1n0
  rw [main]; rfl
end
theorem st_swp_at : ∀ (X Y A M S : List NettingFlow) (a b i n : Nat) (f : Nat), X.length = Y.length → X.length < f → a + i = A.length → b + i = A.length + X.length + M.length → n = i + X.length → A.length + X.length + M.length + Y.length ≤ 1000000 →
    f90r1n1 f (a : Int) (b : Int) (n : Int) (i : Int) (A ++ (X ++ (M ++ (Y ++ S)))) = some (.exit0 (A ++ (Y ++ (M ++ (X ++ S)))))
  | _, _, _, _, _, _, _, _, _, 0, _, h, _, _, _, _ => absurd h (Nat.not_lt_zero _)
  | [], [], A, M, S, a, b, i, n, f + 1, _, _, _, _, hn, _ => by rw [f90r1n1, decide_eq_false (by simp at hn; omega), cond_false]
  | [], y :: Y, _, _, _, _, _, _, _, _ + 1, h, _, _, _, _, _ => absurd h (by simp)
  | x :: X, [], _, _, _, _, _, _, _, _ + 1, h, _, _, _, _, _ => absurd h (by simp)
  | x :: X, y :: Y, A, M, S, a, b, i, n, f + 1, h, hf, ha, hb, hn, hl => by
    simp only [List.length_cons] at h hf hb hn hl
    have e1 : A ++ (x :: X ++ (M ++ (y :: Y ++ S))) = A ++ x :: (X ++ (M ++ (y :: Y ++ S))) := by simp
    have e2 : A ++ (x :: X ++ (M ++ (y :: Y ++ S))) = (A ++ (x :: X ++ M)) ++ y :: (Y ++ S) := by simp
    have e3 : A ++ y :: (X ++ (M ++ (y :: Y ++ S))) = (A ++ (y :: X ++ M)) ++ y :: (Y ++ S) := by simp
    have k1 : wr64 ((a : Int) + (i : Int)) = ((a + i : Nat) : Int) := by rw [wrIn (by omega) (by omega)]; omega
    have k2 : wr64 ((b : Int) + (i : Int)) = ((b + i : Nat) : Int) := by rw [wrIn (by omega) (by omega)]; omega
    have k3 : wr64 ((i : Int) + 1) = ((i + 1 : Nat) : Int) := by rw [wrIn (by omega) (by omega)]; omega
    rw [f90r1n1, decide_eq_true (by omega), cond_true, k1, k2, k3, at_len e2 (by simp <;> omega), at_len e1 ha]
    simp only [Option.bind_some]
    rw [show (Int.toNat ((a + i : Nat) : Int)) = a + i from rfl, show (Int.toNat ((b + i : Nat) : Int)) = b + i from rfl, set_len (y := y) e1 ha, at_len e3 (by simp <;> omega), set_len (y := x) e3 (by simp <;> omega)]
    simp only [Option.bind_some]
    have ih := st_swp_at X Y (A ++ [y]) (M ++ [x]) S a b (i + 1) n f (by omega) (by omega) (by simp <;> omega) (by simp <;> omega) (by omega) (by simp <;> omega)
    rw [show (A ++ (y :: X ++ M)) ++ x :: (Y ++ S) = (A ++ [y]) ++ (X ++ ((M ++ [x]) ++ (Y ++ S))) by simp, ih]
    simp
theorem st_swp_ok (P X M Y S : List NettingFlow) {a b n : Nat} (h : X.length = Y.length) (ha : a = P.length) (hb : b = P.length + X.length + M.length) (hn : n = X.length) (hl : P.length + X.length + M.length + Y.length ≤ 1000000) :
    f90r1 (a : Int) (b : Int) (n : Int) (P ++ (X ++ (M ++ (Y ++ S)))) = some (P ++ (Y ++ (M ++ (X ++ S)))) := by
  have k := st_swp_at X Y P M S a b 0 n FUEL h (lt_FUEL (Nat.le_trans (by omega : X.length ≤ 1000000) (by unfold maxLen; decide))) (by omega) (by omega) (by omega) hl
  unfold f90r1 f90r1n0
  rw [show (0 : Int) = ((0 : Nat) : Int) from rfl, k]; rfl

theorem st_rot_at : ∀ (n : Nat) (P U V S : List NettingFlow) (f m : Nat), U.length + V.length ≤ n → n < f → 0 < U.length → 0 < V.length → m = P.length + U.length → P.length + U.length + V.length ≤ 1000000 →
    ∃ i l, f88r1n1 f (m : Int) (U.length : Int) (V.length : Int) (P ++ (U ++ (V ++ S))) = some (.exit0 i l) ∧ f90r1 (wr64 ((m : Int) - i)) (m : Int) i l = some (P ++ (V ++ (U ++ S)))
  | _, _, _, _, _, 0, _, _, h, _, _, _, _ => absurd h (Nat.not_lt_zero _)
  | 0, _, _, _, _, _ + 1, _, h, _, hu, _, _, _ => by omega
  | n + 1, P, U, V, S, f + 1, m, h, hf, hu, hv, hm, hl => by
    rw [f88r1n1]
    by_cases he : U.length = V.length
    · rw [decide_eq_true (by omega), cond_true]
      refine ⟨_, _, rfl, ?_⟩
      rw [show wr64 ((m : Int) - (U.length : Int)) = ((P.length : Nat) : Int) by rw [wrIn (by omega) (by omega)]; omega]
      have := st_swp_ok P U [] V S (a := P.length) (b := m) (n := U.length) he rfl (by simp <;> omega) rfl (by simp <;> omega)
      simpa using this
    · rw [decide_eq_false (by omega), cond_false]
      by_cases hlt : V.length < U.length
      · rw [decide_eq_true (by omega), cond_true]
        obtain ⟨U1, U2, rfl, hU1⟩ := cutL_ (l := U) (n := V.length) (by omega)
        simp only [List.length_append] at *
        rw [show wr64 ((m : Int) - ((U1.length + U2.length : Nat) : Int)) = ((P.length : Nat) : Int) by rw [wrIn (by omega) (by omega)]; omega]
        have k := st_swp_ok P U1 U2 V S (a := P.length) (b := m) (n := V.length) hU1 rfl (by omega) hU1.symm (by omega)
        rw [show P ++ ((U1 ++ U2) ++ (V ++ S)) = P ++ (U1 ++ (U2 ++ (V ++ S))) by simp, k]
        simp only [Option.bind_some]
        obtain ⟨i, l, q1, q2⟩ := st_rot_at n (P ++ V) U2 U1 S f m (by omega) (by omega) (by omega) (by omega) (by simp <;> omega) (by simp <;> omega)
        refine ⟨i, l, ?_, by rw [q2]; simp⟩
        rw [show wr64 (((U1.length + U2.length : Nat) : Int) - (V.length : Int)) = ((U2.length : Nat) : Int) by rw [wrIn (by omega) (by omega)]; omega, ← hU1]
        rw [show P ++ (V ++ (U2 ++ (U1 ++ S))) = (P ++ V) ++ (U2 ++ (U1 ++ S)) by simp]
        exact q1
      · rw [decide_eq_false (by omega), cond_false]
        obtain ⟨V1, V2, rfl, hV2⟩ := cutR_ (l := V) (n := U.length) (by omega)
        simp only [List.length_append] at *
        rw [show wr64 ((m : Int) - (U.length : Int)) = ((P.length : Nat) : Int) by rw [wrIn (by omega) (by omega)]; omega]
        rw [show wr64 (wr64 ((m : Int) + ((V1.length + V2.length : Nat) : Int)) - (U.length : Int)) = ((m + V1.length : Nat) : Int) by rw [wrIn (n := (m : Int) + ((V1.length + V2.length : Nat) : Int)) (by omega) (by omega), wrIn (by omega) (by omega)]; omega]
        have k := st_swp_ok P U V1 V2 S (a := P.length) (b := m + V1.length) (n := U.length) hV2.symm rfl (by omega) rfl (by omega)
        rw [show P ++ (U ++ ((V1 ++ V2) ++ S)) = P ++ (U ++ (V1 ++ (V2 ++ S))) by simp, k]
        simp only [Option.bind_some]
        obtain ⟨i, l, q1, q2⟩ := st_rot_at n P V2 V1 (U ++ S) f m (by omega) (by omega) (by omega) (by omega) (by omega) (by omega)
        refine ⟨i, l, ?_, by rw [q2]; simp⟩
        rw [show wr64 (((V1.length + V2.length : Nat) : Int) - (U.length : Int)) = ((V1.length : Nat) : Int) by rw [wrIn (by omega) (by omega)]; omega, ← hV2]
        exact q1
theorem st_rot_ok (P U V S : List NettingFlow) {a m b : Nat} (ha : a = P.length) (hm : m = P.length + U.length) (hb : b = P.length + U.length + V.length) (hu : 0 < U.length) (hv : 0 < V.length) (hl : P.length + U.length + V.length ≤ 1000000) :
    f88r1 (a : Int) (m : Int) (b : Int) (P ++ (U ++ (V ++ S))) = some (P ++ (V ++ (U ++ S))) := by
  obtain ⟨i, l, q1, q2⟩ := st_rot_at (U.length + V.length) P U V S FUEL m (Nat.le_refl _) (lt_FUEL (Nat.le_trans (by omega : U.length + V.length ≤ 1000000) (by unfold maxLen; decide))) hu hv hm hl
  unfold f88r1 f88r1n0
  rw [show wr64 ((m : Int) - (a : Int)) = ((U.length : Nat) : Int) by rw [wrIn (by omega) (by omega)]; omega, show wr64 ((b : Int) - (m : Int)) = ((V.length : Nat) : Int) by rw [wrIn (by omega) (by omega)]; omega, q1]
  simp only [Option.bind_some, q2]
end Go.Proofs.Ytkcafackfihmiaa
namespace Go.Proofs.Ytkcafackfihmiaa
set_option linter.unusedVariables false
set_option linter.unusedSimpArgs false
open Go.RowKit
abbrev st_self := Int → Int → Int → List NettingFlow → Option (List NettingFlow)
theorem st_half {a b : Nat} (h : a + b ≤ 1000000000) : wr64 (shrK .u64 (wru64 (wr64 ((a : Int) + (b : Int)))) 1) = (((a + b) / 2 : Nat) : Int) := by
  rw [show (a : Int) + (b : Int) = ((a + b : Nat) : Int) by omega]; exact half_eq h
section
variable {c : NettingFlow → NettingFlow → Int} (hc : ∀ x y, f55 x y = some (c x y)) (self : st_self)
include hc
theorem st_n3 {l : List NettingFlow} {x : NettingFlow} {a : Int} (hx : at? l a = some x) (hl : l.length ≤ 1000000) : ∀ (f lo hi : Nat), hi ≤ l.length → lo ≤ 1000000 → f82r1n3 self f a l (lo : Int) (hi : Int) = (bsN (pq (fun y => decide (c y x < 0)) l) f lo hi).map fun r => .exit0 (r : Int)
  | 0, lo, hi, _, _ => rfl
  | f + 1, lo, hi, h, h0 => by
    rw [f82r1n3, bsN]
    by_cases hlt : lo < hi
    · have hk : (lo + hi) / 2 < l.length := by omega
      rw [decide_eq_true hlt, decide_eq_true (by omega : (lo : Int) < (hi : Int)), st_half (by omega), at_in hk, hx]
      simp only [cond_true, Option.bind_some, hc]
      have ep : pq (fun y => decide (c y x < 0)) l ((lo + hi) / 2) = decide (c l[(lo + hi) / 2] x < 0) := by unfold pq; rw [List.getElem?_eq_getElem hk]
      rw [ep]
      cases decide (c l[(lo + hi) / 2] x < 0) with
      | true => rw [cond_true, cond_true, show wr64 ((((lo + hi) / 2 : Nat) : Int) + 1) = (((lo + hi) / 2 + 1 : Nat) : Int) by rw [wrIn (by omega) (by omega)]; omega]; exact st_n3 hx hl f _ _ h (by omega)
      | false => rw [cond_false, cond_false]; exact st_n3 hx hl f _ _ (by omega) h0
    · rw [decide_eq_false hlt, decide_eq_false (by omega : ¬ (lo : Int) < (hi : Int))]; rfl
theorem st_n8 {l : List NettingFlow} {x : NettingFlow} {a : Int} (hx : at? l a = some x) (hl : l.length ≤ 1000000) : ∀ (f lo hi : Nat), hi ≤ l.length → lo ≤ 1000000 → f82r1n8 self f a l (lo : Int) (hi : Int) = (bsN (pq (fun y => !decide (c x y < 0)) l) f lo hi).map fun r => .exit4 (r : Int)
  | 0, lo, hi, _, _ => rfl
  | f + 1, lo, hi, h, h0 => by
    rw [f82r1n8, bsN]
    by_cases hlt : lo < hi
    · have hk : (lo + hi) / 2 < l.length := by omega
      rw [decide_eq_true hlt, decide_eq_true (by omega : (lo : Int) < (hi : Int)), st_half (by omega), at_in hk, hx]
      simp only [cond_true, Option.bind_some, hc]
      have ep : pq (fun y => !decide (c x y < 0)) l ((lo + hi) / 2) = !decide (c x l[(lo + hi) / 2] < 0) := by unfold pq; rw [List.getElem?_eq_getElem hk]
      rw [ep]
      cases decide (c x l[(lo + hi) / 2] < 0) with
      | true => simp only [cond_true, Bool.not_true, cond_false]; exact st_n8 hx hl f _ _ (by omega) h0
      | false => simp only [cond_true, Bool.not_false, cond_false]; rw [show wr64 ((((lo + hi) / 2 : Nat) : Int) + 1) = (((lo + hi) / 2 + 1 : Nat) : Int) by rw [wrIn (by omega) (by omega)]; omega]; exact st_n8 hx hl f _ _ h (by omega)
    · rw [decide_eq_false hlt, decide_eq_false (by omega : ¬ (lo : Int) < (hi : Int))]; rfl
def st_pr (c : NettingFlow → NettingFlow → Int) (l : List NettingFlow) (n h : Nat) : Bool := match l[n - 1 - h]?, l[h]? with | some y, some x => !decide (c y x < 0) | _, _ => false
theorem st_n12 {l : List NettingFlow} {a m b : Nat} (hl : l.length ≤ 1000000) (hb : b ≤ l.length) (ham : a ≤ m) (hmb : m ≤ b) : ∀ (f lo hi : Nat), (∀ h, lo ≤ h → h < hi → h + 1 ≤ (a + b) / 2 + m ∧ (a + b) / 2 + m - 1 - h < l.length ∧ h < l.length) → lo ≤ 1000000 → hi ≤ 1000000 →
    f82r1n12 self f (a : Int) (m : Int) (b : Int) l (lo : Int) (hi : Int) = (bsN (st_pr c l ((a + b) / 2 + m)) f lo hi).map fun r => .exit8 (r : Int)
  | 0, lo, hi, _, _, _ => rfl
  | f + 1, lo, hi, h, h0, h00 => by
    rw [f82r1n12, bsN]
    by_cases hlt : lo < hi
    · obtain ⟨k1, k2, k3⟩ := h ((lo + hi) / 2) (by omega) (by omega)
      rw [decide_eq_true hlt, decide_eq_true (by omega : (lo : Int) < (hi : Int)), st_half (a := lo) (b := hi) (by omega), st_half (a := a) (b := b) (by omega), at_in k3]
      rw [wrIn (n := (((a + b) / 2 : Nat) : Int) + (m : Int)) (by omega) (by omega), wrIn (n := (((a + b) / 2 : Nat) : Int) + (m : Int) - 1) (by omega) (by omega), wrIn (by omega) (by omega)]
      rw [show (((a + b) / 2 : Nat) : Int) + (m : Int) - 1 - (((lo + hi) / 2 : Nat) : Int) = (((a + b) / 2 + m - 1 - (lo + hi) / 2 : Nat) : Int) by omega, at_in k2]
      simp only [cond_true, Option.bind_some, hc]
      have ep : st_pr c l ((a + b) / 2 + m) ((lo + hi) / 2) = !decide (c l[(a + b) / 2 + m - 1 - (lo + hi) / 2] l[(lo + hi) / 2] < 0) := by unfold st_pr; rw [List.getElem?_eq_getElem k3, List.getElem?_eq_getElem k2]
      rw [ep]
      cases decide (c l[(a + b) / 2 + m - 1 - (lo + hi) / 2] l[(lo + hi) / 2] < 0) with
      | true => simp only [cond_true, Bool.not_true, cond_false]; exact st_n12 hl hb ham hmb f _ _ (fun i hi1 hi2 => h i hi1 (by omega)) h0 (by omega)
      | false =>
        simp only [cond_true, Bool.not_false, cond_false]
        rw [show wr64 ((((lo + hi) / 2 : Nat) : Int) + 1) = (((lo + hi) / 2 + 1 : Nat) : Int) by rw [wrIn (by omega) (by omega)]; omega]
        exact st_n12 hl hb ham hmb f _ _ (fun i hi1 hi2 => h i (by omega) hi2) (by omega) h00
    · rw [decide_eq_false hlt, decide_eq_false (by omega : ¬ (lo : Int) < (hi : Int))]; rfl
omit hc
theorem st_n5 : ∀ (Z A R : List NettingFlow) (x : NettingFlow) (f i : Nat), Z.length < f → i = A.length + Z.length + 1 → i ≤ 1000000 → f82r1n5 self f (i : Int) (A.length : Int) (A ++ x :: (Z ++ R)) = some (.exit2 (A ++ (Z ++ x :: R)))
  | _, _, _, _, 0, _, h, _, _ => absurd h (Nat.not_lt_zero _)
  | [], A, R, x, f + 1, i, _, hi, hl => by
    simp only [List.length_nil] at hi
    rw [f82r1n5, wrIn (by omega) (by omega), decide_eq_false (by omega), cond_false]; rfl
  | z :: Z, A, R, x, f + 1, i, hf, hi, hl => by
    simp only [List.length_cons] at hf hi
    have e1 : A ++ x :: (z :: Z ++ R) = (A ++ [x]) ++ z :: (Z ++ R) := by simp
    have e2 : A ++ x :: (z :: Z ++ R) = A ++ x :: (z :: Z ++ R) := rfl
    have e3 : A ++ z :: (z :: Z ++ R) = (A ++ [z]) ++ z :: (Z ++ R) := by simp
    rw [f82r1n5, wrIn (n := (i : Int) - 1) (by omega) (by omega), decide_eq_true (by omega), cond_true, show wr64 ((A.length : Int) + 1) = ((A.length + 1 : Nat) : Int) by rw [wrIn (by omega) (by omega)]; omega]
    rw [at_len e1 (by simp), at_len e2 rfl]
    simp only [Option.bind_some]
    rw [show (Int.toNat (A.length : Int)) = A.length from rfl, show (Int.toNat ((A.length + 1 : Nat) : Int)) = A.length + 1 from rfl, set_len (y := z) e2 rfl, at_len e3 (by simp), set_len (y := x) e3 (by simp)]
    simp only [Option.bind_some]
    have ih := st_n5 Z (A ++ [z]) R x f i (by omega) (by simp <;> omega) hl
    rw [List.length_append] at ih
    simp only [List.length_cons, List.length_nil] at ih
    rw [show A.length + 1 = A.length + (0 + 1) by omega, ih]
    simp
theorem st_n10 : ∀ (n : Nat) (Z A R : List NettingFlow) (x : NettingFlow) (f : Nat), Z.length = n → n < f → A.length + n ≤ 1000000 → f82r1n10 self f (A.length : Int) ((A.length + n : Nat) : Int) (A ++ (Z ++ x :: R)) = some (.exit6 (A ++ x :: (Z ++ R)))
  | _, _, _, _, _, 0, _, h, _ => absurd h (Nat.not_lt_zero _)
  | n, Z, A, R, x, f + 1, hz, hf, hl => by
    rcases List.eq_nil_or_concat Z with rfl | ⟨Z0, z, rfl⟩
    · have : n = 0 := by simpa using hz.symm
      subst this
      rw [f82r1n10, decide_eq_false (by omega), cond_false]; rfl
    · rw [List.concat_eq_append] at hz ⊢
      have hz' : n = Z0.length + 1 := by simpa using hz.symm
      subst hz'
      have e1 : A ++ ((Z0 ++ [z]) ++ x :: R) = (A ++ Z0) ++ z :: (x :: R) := by simp
      have e2 : A ++ ((Z0 ++ [z]) ++ x :: R) = ((A ++ Z0) ++ [z]) ++ x :: R := by simp
      have e3 : ((A ++ Z0) ++ [z]) ++ z :: R = (A ++ Z0) ++ z :: (z :: R) := by simp
      rw [f82r1n10, decide_eq_true (by omega), cond_true, show wr64 (((A.length + (Z0.length + 1) : Nat) : Int) - 1) = ((A.length + Z0.length : Nat) : Int) by rw [wrIn (by omega) (by omega)]; omega]
      rw [at_len e1 (by simp), at_len e2 (by simp <;> omega)]
      simp only [Option.bind_some]
      rw [show (Int.toNat ((A.length + Z0.length : Nat) : Int)) = A.length + Z0.length from rfl, show (Int.toNat ((A.length + (Z0.length + 1) : Nat) : Int)) = A.length + (Z0.length + 1) from rfl, set_len (y := z) e2 (by simp <;> omega), at_len e3 (by simp), set_len (y := x) e3 (by simp)]
      simp only [Option.bind_some]
      rw [show (A ++ Z0) ++ x :: (z :: R) = A ++ (Z0 ++ x :: (z :: R)) by simp, st_n10 Z0.length Z0 A (z :: R) x f rfl (by omega) (by omega)]
      simp
end
section
variable {c : NettingFlow → NettingFlow → Int} (hc : ∀ x y, f55 x y = some (c x y)) (o : SWo (st_lt c)) (self : st_self)
include hc o
theorem st_one (P B S : List NettingFlow) (x : NettingFlow) (hb : Sd (st_lt c) B) (hl : P.length + 1 + B.length + S.length ≤ 500000) :
    f82r1n2 self (P.length : Int) ((P.length + 1 : Nat) : Int) ((P.length + 1 + B.length : Nat) : Int) (P ++ x :: (B ++ S)) = some (.ret (P ++ (sortS (st_lt c) (x :: B) ++ S))) := by
  have e0 : P ++ x :: (B ++ S) = (P ++ [x]) ++ (B ++ S) := by simp
  have hlen : (P ++ x :: (B ++ S)).length = P.length + 1 + B.length + S.length := by simp <;> omega
  have h3 := st_n3 hc self (l := P ++ x :: (B ++ S)) (a := (P.length : Int)) (at_len rfl rfl) (by omega) FUEL (P.length + 1) (P.length + 1 + B.length) (by omega) (by omega)
  obtain ⟨r, q1, q2, q3, q4, q5⟩ := bsN_ok (p := pq (fun y => decide (c y x < 0)) (P ++ x :: (B ++ S))) FUEL (P.length + 1) (P.length + 1 + B.length) (by omega) (lt_FUEL (Nat.le_trans (by omega : P.length + 1 + B.length - (P.length + 1) ≤ 1000000) (by unfold maxLen; decide))) fun i j a1 a2 a3 a4 => by
    rw [e0] at a4 ⊢
    exact pq_mono (X := P ++ [x]) (B := B) (R := S) (hb.imp fun {u w} huw hq => o.le_lt huw hq) i j (by simp <;> omega) a2 (by simp <;> omega) a4
  obtain ⟨B1, B2, rfl, hB1⟩ := cutL_ (l := B) (n := r - (P.length + 1)) (by omega)
  simp only [List.length_append] at *
  have hb' := List.pairwise_append.1 hb
  have f1 : ∀ y ∈ B1, decide (c y x < 0) = true := pq_seg (X := P ++ [x]) (R := B2 ++ S) fun i a1 a2 => by
    have := q4 i (by simp at a1; omega) (by simp at a2; omega)
    simpa using this
  have f2 : ∀ y ∈ B2, decide (c y x < 0) = false := pq_seg (X := P ++ [x] ++ B1) (R := S) fun i a1 a2 => by
    have := q5 i (by simp at a1; omega) (by simp at a2; omega)
    simpa using this
  unfold f82r1n2 f82r1n4
  rw [show wr64 (((P.length + 1 : Nat) : Int) - (P.length : Int)) = 1 by rw [wrIn (by omega) (by omega)]; omega, h3, q1]
  simp only [decide_true, cond_true, Option.map_some, Option.bind_some]
  have h5 := st_n5 self B1 P (B2 ++ S) x FUEL r (lt_FUEL (Nat.le_trans (by omega : B1.length ≤ 1000000) (by unfold maxLen; decide))) (by omega) (by omega)
  rw [show P ++ x :: (B1 ++ B2 ++ S) = P ++ x :: (B1 ++ (B2 ++ S)) by simp, h5]
  simp only [Option.bind_some]
  have hS : B1 ++ x :: B2 = sortS (st_lt c) (x :: (B1 ++ B2)) := by
    refine sortS_of o ?_ ?_
    · refine Sd.app hb'.1 (List.pairwise_cons.2 ⟨fun y hy => f2 y hy, hb'.2.1⟩) fun u hu w hw => ?_
      rcases List.mem_cons.1 hw with rfl | hw
      · exact o.asym (f1 u hu)
      · exact hb'.2.2 u hu w hw
    · have := (Cl.swap (lt := st_lt c) (u := [x]) (v := B1) o (fun a ha b hb => by rw [List.mem_singleton.1 ha]; exact f1 b hb)).app (Cl.refl (lt := st_lt c) B2)
      simpa using this
  rw [← hS]; simp
theorem st_last (P A S : List NettingFlow) (y : NettingFlow) (ha : Sd (st_lt c) A) (hl : P.length + A.length + 1 + S.length ≤ 500000) :
    f82r1n7 self (P.length : Int) ((P.length + A.length : Nat) : Int) ((P.length + A.length + 1 : Nat) : Int) (P ++ (A ++ y :: S)) = some (.ret (P ++ (sortS (st_lt c) (A ++ [y]) ++ S))) := by
  have hlen : (P ++ (A ++ y :: S)).length = P.length + A.length + 1 + S.length := by simp <;> omega
  have h3 := st_n8 hc self (l := P ++ (A ++ y :: S)) (x := y) (a := ((P.length + A.length : Nat) : Int)) (at_len (a := P ++ A) (b := S) (by simp) (by simp)) (by omega) FUEL P.length (P.length + A.length) (by omega) (by omega)
  obtain ⟨r, q1, q2, q3, q4, q5⟩ := bsN_ok (p := pq (fun z => !decide (c y z < 0)) (P ++ (A ++ y :: S))) FUEL P.length (P.length + A.length) (by omega) (lt_FUEL (Nat.le_trans (by omega : P.length + A.length - P.length ≤ 1000000) (by unfold maxLen; decide))) fun i j a1 a2 a3 a4 => by
    refine pq_mono (X := P) (B := A) (R := y :: S) (ha.imp fun {u w} huw hq => ?_) i j a1 a2 a3 a4
    simp only [Bool.not_eq_true'] at hq ⊢
    exact o.nt hq huw
  obtain ⟨A1, A2, rfl, hA1⟩ := cutL_ (l := A) (n := r - P.length) (by omega)
  simp only [List.length_append] at *
  have ha' := List.pairwise_append.1 ha
  have f1 : ∀ z ∈ A1, (!decide (c y z < 0)) = true := pq_seg (X := P) (R := A2 ++ y :: S) fun i a1 a2 => by
    have := q4 i a1 (by omega)
    simpa using this
  have f2 : ∀ z ∈ A2, (!decide (c y z < 0)) = false := pq_seg (X := P ++ A1) (R := y :: S) fun i a1 a2 => by
    have := q5 i (by simp at a1; omega) (by simp at a2; omega)
    simpa using this
  unfold f82r1n7 f82r1n9
  rw [show wr64 (((P.length + (A1.length + A2.length) + 1 : Nat) : Int) - ((P.length + (A1.length + A2.length) : Nat) : Int)) = 1 by rw [wrIn (by omega) (by omega)]; omega, h3, q1]
  simp only [decide_true, cond_true, Option.map_some, Option.bind_some]
  have h5 := st_n10 self A2.length A2 (P ++ A1) S y FUEL rfl (lt_FUEL (Nat.le_trans (by omega : A2.length ≤ 1000000) (by unfold maxLen; decide))) (by simp <;> omega)
  rw [List.length_append] at h5
  rw [show P ++ (A1 ++ A2 ++ y :: S) = (P ++ A1) ++ (A2 ++ y :: S) by simp, show P.length + (A1.length + A2.length) = P.length + A1.length + A2.length by omega, show r = P.length + A1.length by omega, h5]
  simp only [Option.bind_some]
  have hS : A1 ++ y :: A2 = sortS (st_lt c) ((A1 ++ A2) ++ [y]) := by
    refine sortS_of o ?_ ?_
    · refine Sd.app ha'.1 (List.pairwise_cons.2 ⟨fun z hz => ?_, ha'.2.1⟩) fun u hu w hw => ?_
      · have := f2 z hz
        simp only [Bool.not_eq_false'] at this
        exact o.asym this
      · rcases List.mem_cons.1 hw with rfl | hw
        · have := f1 u hu
          simpa using this
        · exact ha'.2.2 u hu w hw
    · have := (Cl.refl (lt := st_lt c) A1).app (Cl.swap (lt := st_lt c) (u := A2) (v := [y]) o (fun a ha b hb => by
        rw [List.mem_singleton.1 hb]
        have := f2 a ha
        simpa using this))
      simpa using this
  rw [← hS]; simp
end
end Go.Proofs.Ytkcafackfihmiaa
