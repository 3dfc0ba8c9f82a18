/- Several texts in one. No condition. -/
import Derived.Test.YtgbolgaodaokcaaW6
namespace Go.Proofs.Ytgbolgaodaokcaa
set_option linter.unusedVariables false
set_option linter.unusedSimpArgs false
set_option maxRecDepth 100000
open Go.RowKit



noncomputable def c21 : Code := Try.f21.body.getD .skip
inductive f21n0O where
  | ret (v12 : Int) (v13 : Int)
def f21n0E (a1 : List WaterfallFund) : f21n0O → Ex × Tr × Hp
  | .ret v12 v13 => (.ret, mkS [(2, (jI v12)), (3, (jI v13))], [])
def f21n0S (a1 : List WaterfallFund) : Tr × Hp := (initS [(jL 4 WaterfallFund.cells a1)] 0 .leaf, [])
noncomputable def f21n0 (a1 : List WaterfallFund) : Option f21n0O :=
  (f23 a1).bind fun x5 =>
  bif (decide (x5 = 0)) then
    (f45_37 a1).bind fun x10 =>
    some (.ret x10 0)
  else
    some (.ret 0 x5)
theorem f21n0_ok (a1 : List WaterfallFund) {o : f21n0O} (h : (f21n0 a1) = some o) : T Try.prog Try.f21.ntmps 0 c21 (f21n0S a1) (fun r => r = f21n0E a1 o) := by
  unfold f21n0 at h
  obtain ⟨x5, h6, h⟩ := bind_cases h
  rcases cond_cases h with ⟨h7, h⟩ | ⟨h7, h⟩
  · obtain ⟨x10, h11, h⟩ := bind_cases h
    obtain rfl := some_inj h
    exact rE cfg_ok [j3, ([], [jH 1 (jI x5)], []), j3, ([], [jH 1 (jI x10)], [])] [some false] [] [] [2, 3] (.ret, (f21n0E a1 (.ret x10 0)).2) (ap (f23_ok a1 h6) (ap (not_t h7) (ap (f45_37_ok a1 h11) an))) rfl
  · obtain rfl := some_inj h
    exact rK cfg_ok 2 [j3, ([], [jH 1 (jI x5)], []), j3, j3] [some true] [] [] [2, 3] .ret ((f21n0E a1 (.ret 0 x5)).2) (ap (f23_ok a1 h6) (ap (not_f h7) an)) rfl
noncomputable def f21 (a1 : List WaterfallFund) : Option (Int × Int) := (f21n0 a1).bind fun o => match o with
  | .ret v12 v13 => some (v12, v13)
theorem f21_ok (a1 : List WaterfallFund) {r : Int × Int} (h : (f21 a1) = some r) : CallS Try.prog false 21 [(jL 4 WaterfallFund.cells a1)] [] (.tup [(jI r.1), (jI r.2)]) [] := by
  unfold f21 at h
  obtain ⟨o, ho, h⟩ := bind_cases h
  cases o with
  | ret v12 v13 =>
    obtain rfl := some_inj h
    exact CallS.plain cfg_ok (f := Try.f21) (c := c21) (by kernel_rfl) (by kernel_rfl) (by kernel_rfl) (by kernel_rfl) ((f21n0_ok a1 ho).mono fun r e => by subst e; exact ⟨.inl rfl, (.tup [(jI v12), (jI v13)]), (.tup [(jI v12), (jI v13)]), by kernel_rfl, by kernel_rfl, ((Wk.refl _) : Wk (.tup [(jI v12), (jI v13)]) (.tup [(jI v12), (jI v13)]))⟩)



noncomputable def c6 : Code := Try.f6.body.getD .skip

noncomputable def c48 : Code := Try.f48.body.getD .skip
inductive f48r1n0O where
  | ret (v5 : List WaterfallFund)
def f48r1n0E (a1 : List WaterfallFund) : f48r1n0O → Ex × Tr × Hp
  | .ret v5 => (.ret, mkS [(2, (.own 1))], [jR 4 WaterfallFund.cells a1, jR 4 WaterfallFund.cells v5])
def f48r1n0S (a1 : List WaterfallFund) : Tr × Hp := (initS [(.own 0)] 0 .leaf, [jR 4 WaterfallFund.cells a1])
noncomputable def f48r1n0 (a1 : List WaterfallFund) : Option f48r1n0O :=
  bif (a1.isEmpty) then
    some (.ret [])
  else
    req (fit a1.length 40) <|
    some (.ret a1)
theorem f48r1n0_ok (a1 : List WaterfallFund) {o : f48r1n0O} (h : (f48r1n0 a1) = some o) : T Try.prog Try.f48.ntmps 1 c48 (f48r1n0S a1) (fun r => r = f48r1n0E a1 o) := by
  unfold f48r1n0 at h
  refine rN cfg_ok 1 [j3] [] [] [] [0] (mkS [(0, (.own 0))], [jR 4 WaterfallFund.cells a1]) an ?_
  refine T.nest (by kernel_rfl) ?_
  rcases cond_cases h with ⟨h2, h⟩ | ⟨h2, h⟩
  · refine rN cfg_ok 0 [] [] [] [] [0] (mkS [(0, (.own 0))], [jR 4 WaterfallFund.cells a1]) an ?_
    refine T.oneNil cfg_ok (x := .tmp 0) (t := 22) (t3 := 3) (t4 := 4) (sz := 4) (es := (a1.map WaterfallFund.cells)) (by kernel_rfl) (by kernel_rfl) (by kernel_rfl) (by kernel_rfl) (by kernel_rfl) (fun b hb => ?_)
    cases b
    · refine rE cfg_ok [] [none] [] [] [0] (.norm, (mkS [(0, (.own 0))], [jR 4 WaterfallFund.cells a1])) an (ThenQ.norm ?_)
      obtain rfl := some_inj h
      exact rE cfg_ok [([], [(2, .app false)], [])] [] [] [1] [2] (.ret, (f48r1n0E a1 (.ret [])).2) (ap (nil_map (c := WaterfallFund.cells) h2) an) rfl
    · obtain rfl := some_inj h
      exact rE cfg_ok [j3] [none] [.mat 2 4] [1] [2] (.ret, (f48r1n0E a1 (.ret [])).2) an (ThenQ.out rfl rfl)
  · refine rN cfg_ok 0 [] [] [] [] [0] (mkS [(0, (.own 0))], [jR 4 WaterfallFund.cells a1]) an ?_
    refine T.oneNil cfg_ok (x := .tmp 0) (t := 22) (t3 := 3) (t4 := 4) (sz := 4) (es := (a1.map WaterfallFund.cells)) (by kernel_rfl) (by kernel_rfl) (by kernel_rfl) (by kernel_rfl) (by kernel_rfl) (fun b hb => ?_)
    cases b
    · refine rE cfg_ok [] [none] [] [] [0] (.norm, (mkS [(0, (.own 0))], [jR 4 WaterfallFund.cells a1])) an (ThenQ.norm ?_)
      obtain ⟨h4, h⟩ := req_cases h
      obtain rfl := some_inj h
      exact rE cfg_ok [([], [(2, .app true)], [])] [] [] [2] [2] (.ret, (f48r1n0E a1 (.ret a1)).2) (ap (fit_map0z (te := ti33) (xs := a1) (c := WaterfallFund.cells) h4 rfl) (ap (ne_map (c := WaterfallFund.cells) h2) (ap (len_all (c := WaterfallFund.cells) (xs := a1) (n := 4) (fun _ => rfl)) an))) rfl
    · exact absurd (hb rfl) (ne_map (c := WaterfallFund.cells) h2)
noncomputable def f48r1 (a1 : List WaterfallFund) : Option (List WaterfallFund) := (f48r1n0 a1).bind fun o => match o with
  | .ret v5 => some v5
theorem f48r1_ok (a1 : List WaterfallFund) {r : List WaterfallFund} (h : (f48r1 a1) = some r) : CallS Try.prog true 48 [(.own 0)] [jR 4 WaterfallFund.cells a1] (.own 1) [jR 4 WaterfallFund.cells a1, jR 4 WaterfallFund.cells r] := by
  unfold f48r1 at h
  obtain ⟨o, ho, h⟩ := bind_cases h
  cases o with
  | ret v5 =>
    obtain rfl := some_inj h
    exact CallS.shared cfg_ok (f := Try.f48) (c := c48) (by kernel_rfl) (by kernel_rfl) (by kernel_rfl) ((f48r1n0_ok a1 ho).mono fun r e => by subst e; exact ⟨.inl rfl, by kernel_rfl, by kernel_rfl⟩)

noncomputable def c50 : Code := Try.f50.body.getD .skip
inductive f50r1n0O where
  | norm (v8 : List WaterfallFund)
def f50r1n0E (a1 : Int) (a2 : Int) (a3 : List WaterfallFund) : f50r1n0O → Ex × Tr × Hp
  | .norm v8 => (.norm, mkS [], [some (.box [(.own 1)]), jR 4 WaterfallFund.cells v8])
def f50r1n0S (a1 : Int) (a2 : Int) (a3 : List WaterfallFund) : Tr × Hp := (initS [(jI a1), (jI a2), (.bp 0 0)] 0 .leaf, [some (.box [(.own 1)]), jR 4 WaterfallFund.cells a3])
noncomputable def f50r1n0 (a1 : Int) (a2 : Int) (a3 : List WaterfallFund) : Option f50r1n0O :=
  (at? a3 a1).bind fun x6 =>
  some (.norm (a3.set (Int.toNat a1) (WaterfallFund.mk x6.Level x6.Owner (wr64 (x6.Size - a2)) x6.Called)))
theorem f50r1n0_ok (a1 : Int) (a2 : Int) (a3 : List WaterfallFund) {o : f50r1n0O} (h : (f50r1n0 a1 a2 a3) = some o) : T Try.prog Try.f50.ntmps 2 c50 (f50r1n0S a1 a2 a3) (fun r => r = f50r1n0E a1 a2 a3 o) := by
  unfold f50r1n0 at h
  obtain ⟨x6, h7, h⟩ := bind_cases h
  obtain rfl := some_inj h
  exact rE cfg_ok [([], [(2, .at_ (Int.toNat a1)), (4, .idx 0 (WaterfallFund.cells x6)), (7, .at_ (Int.toNat a1)), (9, .idx 0 (WaterfallFund.cells x6))], [(9, .row 1 ((a3.set (Int.toNat a1) (WaterfallFund.mk x6.Level x6.Owner (wr64 (x6.Size - a2)) x6.Called)).map WaterfallFund.cells))])] [] [] [] [] (.norm, (f50r1n0E a1 a2 a3 (.norm (a3.set (Int.toNat a1) (WaterfallFund.mk x6.Level x6.Owner (wr64 (x6.Size - a2)) x6.Called)))).2) (ap (at_some h7).1 (ap (lt_map WaterfallFund.cells (at_some h7).2) (ap (at_map WaterfallFund.cells (at_some h7).2) (ap (at_some h7).1 (ap (lt_map WaterfallFund.cells (at_some h7).2) (ap (at_map WaterfallFund.cells (at_some h7).2) (ap (set_cv (xs := a3) (c := WaterfallFund.cells) (k := (Int.toNat a1)) (x := (WaterfallFund.mk x6.Level x6.Owner (wr64 (x6.Size - a2)) x6.Called))) an))))))) rfl
noncomputable def f50r1 (a1 : Int) (a2 : Int) (a3 : List WaterfallFund) : Option (List WaterfallFund) := (f50r1n0 a1 a2 a3).bind fun o => match o with
  | .norm v8 => some v8
theorem f50r1_ok (a1 : Int) (a2 : Int) (a3 : List WaterfallFund) {r : List WaterfallFund} (h : (f50r1 a1 a2 a3) = some r) : CallS Try.prog true 50 [(jI a1), (jI a2), (.bp 0 0)] [some (.box [(.own 1)]), jR 4 WaterfallFund.cells a3] (.tup []) [some (.box [(.own 1)]), jR 4 WaterfallFund.cells r] := by
  unfold f50r1 at h
  obtain ⟨o, ho, h⟩ := bind_cases h
  cases o with
  | norm v8 =>
    obtain rfl := some_inj h
    exact CallS.shared cfg_ok (f := Try.f50) (c := c50) (by kernel_rfl) (by kernel_rfl) (by kernel_rfl) ((f50r1n0_ok a1 a2 a3 ho).mono fun r e => by subst e; exact ⟨.inr rfl, by kernel_rfl, by kernel_rfl⟩)

noncomputable def c49 : Code := Try.f49.body.getD .skip
inductive f49r1n2O where
  | exit0 (v50 : List (Key_ × Int))
def f49r1n2E (ba1 : List WaterfallFund) (bg2 : List WaterfallShare) (ba3 : List WaterfallFund) : f49r1n2O → Ex × Tr × Hp
  | .exit0 v50 => ((.exit 0), mkS [(0, (.own 0)), (1, (.own 1)), (2, (.clo 50 [(.bp 2 0)])), (8, (.mp 4))], [jR 4 WaterfallFund.cells ba1, jR 3 WaterfallShare.cells bg2, some (.box [(.own 3)]), jR 4 WaterfallFund.cells ba3, some (.map (v50.map (mkv (pAgg Key_.cells) (pInt .i64))))])
def f49r1n2S (ba1 : List WaterfallFund) (bg2 : List WaterfallShare) (ba3 : List WaterfallFund) (v38 : Int) (v39 : List (Key_ × Int)) : Tr × Hp := (mkS [(0, (.own 0)), (1, (.own 1)), (2, (.clo 50 [(.bp 2 0)])), (8, (.mp 4)), (27, (.own 0)), (28, (jI (ba1.length : Int))), (29, (jI v38))], [jR 4 WaterfallFund.cells ba1, jR 3 WaterfallShare.cells bg2, some (.box [(.own 3)]), jR 4 WaterfallFund.cells ba3, some (.map (v39.map (mkv (pAgg Key_.cells) (pInt .i64))))])
noncomputable def f49r1n2 : Nat → List WaterfallFund → List WaterfallShare → List WaterfallFund → Int → List (Key_ × Int) → Option f49r1n2O
  | 0, _, _, _, _, _ => none
  | f + 1, ba1, bg2, ba3, v38, v39 =>
    bif (decide (v38 < (ba1.length : Int))) then
      (at? ba1 v38).bind fun x46 =>
      (f36 x46).bind fun x48 =>
      (f49r1n2 f ba1 bg2 ba3 (wr64 (v38 + 1)) (mPut Key_.eqb x48 v38 v39))
    else
      some (.exit0 v39)
theorem f49r1n2_ok : ∀ (f : Nat) (ba1 : List WaterfallFund) (bg2 : List WaterfallShare) (ba3 : List WaterfallFund) (v38 : Int) (v39 : List (Key_ × Int)) {o : f49r1n2O}, (f49r1n2 f ba1 bg2 ba3 v38 v39) = some o → TL Try.prog Try.f49.ntmps 4 f (cL (cL (dropC 1 (cL (dropC 4 c49))))) (f49r1n2S ba1 bg2 ba3 v38 v39) (fun r => r = f49r1n2E ba1 bg2 ba3 o)
  | 0, _, _, _, _, _, o, h => by rw [f49r1n2] at h; cases h
  | f + 1, ba1, bg2, ba3, v38, v39, o, h => by
    rw [f49r1n2] at h
    refine TL.body (K := fun s => ∃ v38 : Int, ∃ v39 : List (Key_ × Int), s = (f49r1n2S ba1 bg2 ba3 v38 v39) ∧ (f49r1n2 f ba1 bg2 ba3 v38 v39) = some o) ?_ (by rintro _ ⟨v38, v39, rfl, hk⟩; exact f49r1n2_ok f _ _ _ _ _ hk)
    rcases cond_cases h with ⟨h41, h⟩ | ⟨h41, h⟩
    · obtain ⟨x46, h47, h⟩ := bind_cases h
      obtain ⟨x48, h49, h⟩ := bind_cases h
      exact rE cfg_ok [j3, ([], [(1, .at_ (Int.toNat v38)), (2, .idx 0 (WaterfallFund.cells x46))], []), ([], [jH 2 (jA Key_.cells x48), (4, .mset ((mPut Key_.eqb x48 v38 v39).map (mkv (pAgg Key_.cells) (pInt .i64))))], []), j3] [some true] [] [4] [0, 1, 2, 8, 27, 28, 29] (.norm, (f49r1n2S ba1 bg2 ba3 (wr64 (v38 + 1)) (mPut Key_.eqb x48 v38 v39))) (ap h41 (ap (at_some h47).1 (ap (lt_map WaterfallFund.cells (at_some h47).2) (ap (at_map WaterfallFund.cells (at_some h47).2) (ap (mset_map (vp := (pInt .i64)) key_87 x48 v38 v39) (ap (f36_ok x46 h49) an)))))) (LoopQ.norm ⟨(wr64 (v38 + 1)), (mPut Key_.eqb x48 v38 v39), rfl, h⟩)
    · obtain rfl := some_inj h
      exact rK cfg_ok 2 [j3] [some false] [] [4] [0, 1, 2, 8] (.exit 0) ((f49r1n2E ba1 bg2 ba3 (.exit0 v39)).2) (ap h41 an) (LoopQ.out rfl rfl)
inductive f49r1n1O where
  | norm (v54 : List (Key_ × Int))
def f49r1n1E (ba1 : List WaterfallFund) (bg2 : List WaterfallShare) (ba3 : List WaterfallFund) : f49r1n1O → Ex × Tr × Hp
  | .norm v54 => (.norm, mkS [(0, (.own 0)), (1, (.own 1)), (2, (.clo 50 [(.bp 2 0)])), (8, (.mp 4))], [jR 4 WaterfallFund.cells ba1, jR 3 WaterfallShare.cells bg2, some (.box [(.own 3)]), jR 4 WaterfallFund.cells ba3, some (.map (v54.map (mkv (pAgg Key_.cells) (pInt .i64))))])
def f49r1n1S (ba1 : List WaterfallFund) (bg2 : List WaterfallShare) (ba3 : List WaterfallFund) : Tr × Hp := (mkS [(0, (.own 0)), (1, (.own 1)), (2, (.clo 50 [(.bp 2 0)])), (8, (.mp 4))], [jR 4 WaterfallFund.cells ba1, jR 3 WaterfallShare.cells bg2, some (.box [(.own 3)]), jR 4 WaterfallFund.cells ba3, some (.map ([].map (mkv (pAgg Key_.cells) (pInt .i64))))])
noncomputable def f49r1n1 (ba1 : List WaterfallFund) (bg2 : List WaterfallShare) (ba3 : List WaterfallFund) : Option f49r1n1O :=
  (f49r1n2 FUEL ba1 bg2 ba3 0 []).bind fun o51 => match o51 with
  | .exit0 v53 => some (.norm v53)
theorem f49r1n1_ok (ba1 : List WaterfallFund) (bg2 : List WaterfallShare) (ba3 : List WaterfallFund) {o : f49r1n1O} (h : (f49r1n1 ba1 bg2 ba3) = some o) : T Try.prog Try.f49.ntmps 4 (cL (dropC 4 c49)) (f49r1n1S ba1 bg2 ba3) (fun r => r = f49r1n1E ba1 bg2 ba3 o) := by
  unfold f49r1n1 at h
  refine rN cfg_ok 1 [([], [], [(1, .val (jI (ba1.length : Int)))])] [] [] [4] [0, 1, 2, 8, 27, 28, 29] (f49r1n2S ba1 bg2 ba3 0 []) (ap (len_cv (xs := ba1) (c := WaterfallFund.cells)) an) ?_
  obtain ⟨o51, h52, h⟩ := bind_cases h
  cases o51 with
  | exit0 v53 =>
    obtain rfl := some_inj h
    exact T.last' (T.bl (i := 0) (by kernel_rfl) (by kernel_rfl) (f49r1n2_ok FUEL ba1 bg2 ba3 0 [] h52)) (tds := []) (m := [4]) (keep := [0, 1, 2, 8]) (st2 := (f49r1n1E ba1 bg2 ba3 (.norm v53)).2) (by kernel_rfl) an rfl
inductive f49r1n4O where
  | exit2 (v116 : Int)
  | ret
def f49r1n4E (bg2 : List WaterfallShare) (ba1 : List WaterfallFund) (ba3 : List WaterfallFund) (bm4 : List (Key_ × Int)) : f49r1n4O → Ex × Tr × Hp
  | .exit2 v116 => ((.exit 2), mkS [(1, (.own 1)), (2, (.clo 50 [(.bp 2 0)])), (8, (.mp 4)), (11, (jI v116))], [jR 4 WaterfallFund.cells ba1, jR 3 WaterfallShare.cells bg2, some (.box [(.own 3)]), jR 4 WaterfallFund.cells ba3, some (.map (bm4.map (mkv (pAgg Key_.cells) (pInt .i64))))])
  | .ret => (.ret, mkS [(6, (jI 6))], [jR 4 WaterfallFund.cells ba1, jR 3 WaterfallShare.cells bg2, some (.box [(.own 3)]), jR 4 WaterfallFund.cells ba3])
def f49r1n4S (bg2 : List WaterfallShare) (ba1 : List WaterfallFund) (ba3 : List WaterfallFund) (bm4 : List (Key_ × Int)) (v96 : Int) (v97 : Int) : Tr × Hp := (mkS [(0, (.own 0)), (1, (.own 1)), (2, (.clo 50 [(.bp 2 0)])), (8, (.mp 4)), (11, (jI v96)), (39, (.own 1)), (40, (jI (bg2.length : Int))), (41, (jI v97))], [jR 4 WaterfallFund.cells ba1, jR 3 WaterfallShare.cells bg2, some (.box [(.own 3)]), jR 4 WaterfallFund.cells ba3, some (.map (bm4.map (mkv (pAgg Key_.cells) (pInt .i64))))])
noncomputable def f49r1n4 : Nat → List WaterfallShare → List WaterfallFund → List WaterfallFund → List (Key_ × Int) → Int → Int → Option f49r1n4O
  | 0, _, _, _, _, _, _ => none
  | f + 1, bg2, ba1, ba3, bm4, v96, v97 =>
    bif (decide (v97 < (bg2.length : Int))) then
      (at? bg2 v97).bind fun x108 =>
      (f39 x108).bind fun x110 =>
      bif (mHas Key_.eqb x110 bm4) then
        (at? ba1 (mGet Key_.eqb 0 x110 bm4)).bind fun x113 =>
        bif (decide (x113.Size < x108.Amount)) then
          (f49r1n4 f bg2 ba1 ba3 bm4 50 (wr64 (v97 + 1)))
        else
          (f49r1n4 f bg2 ba1 ba3 bm4 v96 (wr64 (v97 + 1)))
      else
        some .ret
    else
      some (.exit2 v96)
theorem f49r1n4_ok : ∀ (f : Nat) (bg2 : List WaterfallShare) (ba1 : List WaterfallFund) (ba3 : List WaterfallFund) (bm4 : List (Key_ × Int)) (v96 : Int) (v97 : Int) {o : f49r1n4O}, (f49r1n4 f bg2 ba1 ba3 bm4 v96 v97) = some o → TL Try.prog Try.f49.ntmps 4 f (cL (cL (dropC 1 (cL (dropC 1 (dropC 1 (dropC 4 c49))))))) (f49r1n4S bg2 ba1 ba3 bm4 v96 v97) (fun r => r = f49r1n4E bg2 ba1 ba3 bm4 o)
  | 0, _, _, _, _, _, _, o, h => by rw [f49r1n4] at h; cases h
  | f + 1, bg2, ba1, ba3, bm4, v96, v97, o, h => by
    rw [f49r1n4] at h
    refine TL.body (K := fun s => ∃ v96 : Int, ∃ v97 : Int, s = (f49r1n4S bg2 ba1 ba3 bm4 v96 v97) ∧ (f49r1n4 f bg2 ba1 ba3 bm4 v96 v97) = some o) ?_ (by rintro _ ⟨v96, v97, rfl, hk⟩; exact f49r1n4_ok f _ _ _ _ _ _ hk)
    rcases cond_cases h with ⟨h99, h⟩ | ⟨h99, h⟩
    · obtain ⟨x108, h109, h⟩ := bind_cases h
      obtain ⟨x110, h111, h⟩ := bind_cases h
      rcases cond_cases h with ⟨h112, h⟩ | ⟨h112, h⟩
      · obtain ⟨x113, h114, h⟩ := bind_cases h
        rcases cond_cases h with ⟨h115, h⟩ | ⟨h115, h⟩
        · exact rE cfg_ok [j3, ([], [(0, .at_ (Int.toNat v97)), (1, .idx 0 (WaterfallShare.cells x108))], []), ([], [jH 2 (jA Key_.cells x110), (3, .look ((pInt .i64) (mGet Key_.eqb 0 x110 bm4)) (mHas Key_.eqb x110 bm4))], []), j3, ([], [(4, .at_ (Int.toNat (mGet Key_.eqb 0 x110 bm4))), (6, .idx 0 (WaterfallFund.cells x113))], []), j3, j3] [some true, some false, some true] [] [4] [0, 1, 2, 8, 11, 39, 40, 41] (.norm, (f49r1n4S bg2 ba1 ba3 bm4 50 (wr64 (v97 + 1)))) (ap h99 (ap (at_some h109).1 (ap (lt_map WaterfallShare.cells (at_some h109).2) (ap (at_map WaterfallShare.cells (at_some h109).2) (ap (look_map (vp := (pInt .i64)) (e := 3) key_87 0 (by kernel_rfl) x110 bm4) (ap (f39_ok x108 h111) (ap (not_t h112) (ap (at_some h114).1 (ap (lt_map WaterfallFund.cells (at_some h114).2) (ap (at_map WaterfallFund.cells (at_some h114).2) (ap h115 an))))))))))) (LoopQ.norm ⟨50, (wr64 (v97 + 1)), rfl, h⟩)
        · exact rE cfg_ok [j3, ([], [(0, .at_ (Int.toNat v97)), (1, .idx 0 (WaterfallShare.cells x108))], []), ([], [jH 2 (jA Key_.cells x110), (3, .look ((pInt .i64) (mGet Key_.eqb 0 x110 bm4)) (mHas Key_.eqb x110 bm4))], []), j3, ([], [(4, .at_ (Int.toNat (mGet Key_.eqb 0 x110 bm4))), (6, .idx 0 (WaterfallFund.cells x113))], []), j3] [some true, some false, some false] [] [4] [0, 1, 2, 8, 11, 39, 40, 41] (.norm, (f49r1n4S bg2 ba1 ba3 bm4 v96 (wr64 (v97 + 1)))) (ap h99 (ap (at_some h109).1 (ap (lt_map WaterfallShare.cells (at_some h109).2) (ap (at_map WaterfallShare.cells (at_some h109).2) (ap (look_map (vp := (pInt .i64)) (e := 3) key_87 0 (by kernel_rfl) x110 bm4) (ap (f39_ok x108 h111) (ap (not_t h112) (ap (at_some h114).1 (ap (lt_map WaterfallFund.cells (at_some h114).2) (ap (at_map WaterfallFund.cells (at_some h114).2) (ap h115 an))))))))))) (LoopQ.norm ⟨v96, (wr64 (v97 + 1)), rfl, h⟩)
      · obtain rfl := some_inj h
        exact rK cfg_ok 3 [j3, ([], [(0, .at_ (Int.toNat v97)), (1, .idx 0 (WaterfallShare.cells x108))], []), ([], [jH 2 (jA Key_.cells x110), (3, .look ((pInt .i64) (mGet Key_.eqb 0 x110 bm4)) (mHas Key_.eqb x110 bm4))], []), j3, j3] [some true, some true] [] [] [6] .ret ((f49r1n4E bg2 ba1 ba3 bm4 .ret).2) (ap h99 (ap (at_some h109).1 (ap (lt_map WaterfallShare.cells (at_some h109).2) (ap (at_map WaterfallShare.cells (at_some h109).2) (ap (look_map (vp := (pInt .i64)) (e := 3) key_87 0 (by kernel_rfl) x110 bm4) (ap (f39_ok x108 h111) (ap (not_f h112) an))))))) (LoopQ.out rfl rfl)
    · obtain rfl := some_inj h
      exact rK cfg_ok 2 [j3] [some false] [] [4] [1, 2, 8, 11] (.exit 2) ((f49r1n4E bg2 ba1 ba3 bm4 (.exit2 v96)).2) (ap h99 an) (LoopQ.out rfl rfl)
inductive f49r1n3O where
  | norm (v120 : Int)
  | ret
def f49r1n3E (ba1 : List WaterfallFund) (bg2 : List WaterfallShare) (ba3 : List WaterfallFund) (bm4 : List (Key_ × Int)) : f49r1n3O → Ex × Tr × Hp
  | .norm v120 => (.norm, mkS [(1, (.own 1)), (2, (.clo 50 [(.bp 2 0)])), (8, (.mp 4)), (11, (jI v120))], [jR 4 WaterfallFund.cells ba1, jR 3 WaterfallShare.cells bg2, some (.box [(.own 3)]), jR 4 WaterfallFund.cells ba3, some (.map (bm4.map (mkv (pAgg Key_.cells) (pInt .i64))))])
  | .ret => (.ret, mkS [(6, (jI 6))], [jR 4 WaterfallFund.cells ba1, jR 3 WaterfallShare.cells bg2, some (.box [(.own 3)]), jR 4 WaterfallFund.cells ba3])
def f49r1n3S (ba1 : List WaterfallFund) (bg2 : List WaterfallShare) (ba3 : List WaterfallFund) (bm4 : List (Key_ × Int)) : Tr × Hp := (mkS [(0, (.own 0)), (1, (.own 1)), (2, (.clo 50 [(.bp 2 0)])), (8, (.mp 4)), (11, (jI 0))], [jR 4 WaterfallFund.cells ba1, jR 3 WaterfallShare.cells bg2, some (.box [(.own 3)]), jR 4 WaterfallFund.cells ba3, some (.map (bm4.map (mkv (pAgg Key_.cells) (pInt .i64))))])
noncomputable def f49r1n3 (ba1 : List WaterfallFund) (bg2 : List WaterfallShare) (ba3 : List WaterfallFund) (bm4 : List (Key_ × Int)) : Option f49r1n3O :=
  (f49r1n4 FUEL bg2 ba1 ba3 bm4 0 0).bind fun o117 => match o117 with
  | .exit2 v119 => some (.norm v119)
  | .ret => some .ret
theorem f49r1n3_ok (ba1 : List WaterfallFund) (bg2 : List WaterfallShare) (ba3 : List WaterfallFund) (bm4 : List (Key_ × Int)) {o : f49r1n3O} (h : (f49r1n3 ba1 bg2 ba3 bm4) = some o) : T Try.prog Try.f49.ntmps 4 (cL (dropC 1 (dropC 1 (dropC 4 c49)))) (f49r1n3S ba1 bg2 ba3 bm4) (fun r => r = f49r1n3E ba1 bg2 ba3 bm4 o) := by
  unfold f49r1n3 at h
  refine rN cfg_ok 1 [([], [], [(1, .val (jI (bg2.length : Int)))])] [] [] [4] [0, 1, 2, 8, 11, 39, 40, 41] (f49r1n4S bg2 ba1 ba3 bm4 0 0) (ap (len_cv (xs := bg2) (c := WaterfallShare.cells)) an) ?_
  obtain ⟨o117, h118, h⟩ := bind_cases h
  cases o117 with
  | exit2 v119 =>
    obtain rfl := some_inj h
    exact T.last' (T.bl (i := 2) (by kernel_rfl) (by kernel_rfl) (f49r1n4_ok FUEL bg2 ba1 ba3 bm4 0 0 h118)) (tds := []) (m := [4]) (keep := [1, 2, 8, 11]) (st2 := (f49r1n3E ba1 bg2 ba3 bm4 (.norm v119)).2) (by kernel_rfl) an rfl
  | ret =>
    obtain rfl := some_inj h
    exact T.last' (T.bl (i := 2) (by kernel_rfl) (by kernel_rfl) (f49r1n4_ok FUEL bg2 ba1 ba3 bm4 0 0 h118)) (tds := []) (m := []) (keep := [6]) (st2 := (f49r1n3E ba1 bg2 ba3 bm4 .ret).2) (by kernel_rfl) an rfl
inductive f49r1n6O where
  | exit4 (v172 : List WaterfallFund)
def f49r1n6E (bg2 : List WaterfallShare) (ba1 : List WaterfallFund) (bm4 : List (Key_ × Int)) : f49r1n6O → Ex × Tr × Hp
  | .exit4 v172 => ((.exit 4), mkS [], [jR 4 WaterfallFund.cells ba1, jR 3 WaterfallShare.cells bg2, some (.box [(.own 3)]), jR 4 WaterfallFund.cells v172])
def f49r1n6S (bg2 : List WaterfallShare) (ba1 : List WaterfallFund) (bm4 : List (Key_ × Int)) (v156 : Int) (v157 : List WaterfallFund) : Tr × Hp := (mkS [(2, (.clo 50 [(.bp 2 0)])), (8, (.mp 4)), (66, (.own 1)), (67, (jI (bg2.length : Int))), (68, (jI v156))], [jR 4 WaterfallFund.cells ba1, jR 3 WaterfallShare.cells bg2, some (.box [(.own 3)]), jR 4 WaterfallFund.cells v157, some (.map (bm4.map (mkv (pAgg Key_.cells) (pInt .i64))))])
noncomputable def f49r1n6 : Nat → List WaterfallShare → List WaterfallFund → List (Key_ × Int) → Int → List WaterfallFund → Option f49r1n6O
  | 0, _, _, _, _, _ => none
  | f + 1, bg2, ba1, bm4, v156, v157 =>
    bif (decide (v156 < (bg2.length : Int))) then
      (at? bg2 v156).bind fun x166 =>
      (f39 x166).bind fun x168 =>
      (f50r1 (mGet Key_.eqb 0 x168 bm4) x166.Amount v157).bind fun x170 =>
      (f49r1n6 f bg2 ba1 bm4 (wr64 (v156 + 1)) x170)
    else
      some (.exit4 v157)
theorem f49r1n6_ok : ∀ (f : Nat) (bg2 : List WaterfallShare) (ba1 : List WaterfallFund) (bm4 : List (Key_ × Int)) (v156 : Int) (v157 : List WaterfallFund) {o : f49r1n6O}, (f49r1n6 f bg2 ba1 bm4 v156 v157) = some o → TL Try.prog Try.f49.ntmps 4 f (cL (cL (dropC 1 (cL (dropC 1 (dropC 1 (dropC 1 (dropC 1 (dropC 4 c49))))))))) (f49r1n6S bg2 ba1 bm4 v156 v157) (fun r => r = f49r1n6E bg2 ba1 bm4 o)
  | 0, _, _, _, _, _, o, h => by rw [f49r1n6] at h; cases h
  | f + 1, bg2, ba1, bm4, v156, v157, o, h => by
    rw [f49r1n6] at h
    refine TL.body (K := fun s => ∃ v156 : Int, ∃ v157 : List WaterfallFund, s = (f49r1n6S bg2 ba1 bm4 v156 v157) ∧ (f49r1n6 f bg2 ba1 bm4 v156 v157) = some o) ?_ (by rintro _ ⟨v156, v157, rfl, hk⟩; exact f49r1n6_ok f _ _ _ _ _ hk)
    rcases cond_cases h with ⟨h159, h⟩ | ⟨h159, h⟩
    · obtain ⟨x166, h167, h⟩ := bind_cases h
      obtain ⟨x168, h169, h⟩ := bind_cases h
      obtain ⟨x170, h171, h⟩ := bind_cases h
      exact rE cfg_ok [j3, ([], [(0, .at_ (Int.toNat v156)), (1, .idx 0 (WaterfallShare.cells x166))], []), ([], [jH 3 (jA Key_.cells x168), (4, .look ((pInt .i64) (mGet Key_.eqb 0 x168 bm4)) (mHas Key_.eqb x168 bm4)), (7, .call (.tup []) [none, none, some (.box [(.own 3)]), jR 4 WaterfallFund.cells x170, none, none, none])], []), j3] [some true] [] [4] [2, 8, 66, 67, 68] (.norm, (f49r1n6S bg2 ba1 bm4 (wr64 (v156 + 1)) x170)) (ap h159 (ap (at_some h167).1 (ap (lt_map WaterfallShare.cells (at_some h167).2) (ap (at_map WaterfallShare.cells (at_some h167).2) (ap (look_map (vp := (pInt .i64)) (e := 3) key_87 0 (by kernel_rfl) x168 bm4) (ap (f39_ok x166 h169) (ap (CallS.rn 7 [2, 3] (f50r1_ok (mGet Key_.eqb 0 x168 bm4) x166.Amount v157 h171)) an))))))) (LoopQ.norm ⟨(wr64 (v156 + 1)), x170, rfl, h⟩)
    · obtain rfl := some_inj h
      exact rK cfg_ok 2 [j3] [some false] [] [] [] (.exit 4) ((f49r1n6E bg2 ba1 bm4 (.exit4 v157)).2) (ap h159 an) (LoopQ.out rfl rfl)
inductive f49r1n5O where
  | norm (v176 : List WaterfallFund)
def f49r1n5E (ba1 : List WaterfallFund) (bg2 : List WaterfallShare) (ba3 : List WaterfallFund) (bm4 : List (Key_ × Int)) : f49r1n5O → Ex × Tr × Hp
  | .norm v176 => (.norm, mkS [], [jR 4 WaterfallFund.cells ba1, jR 3 WaterfallShare.cells bg2, some (.box [(.own 3)]), jR 4 WaterfallFund.cells v176])
def f49r1n5S (ba1 : List WaterfallFund) (bg2 : List WaterfallShare) (ba3 : List WaterfallFund) (bm4 : List (Key_ × Int)) : Tr × Hp := (mkS [(1, (.own 1)), (2, (.clo 50 [(.bp 2 0)])), (8, (.mp 4))], [jR 4 WaterfallFund.cells ba1, jR 3 WaterfallShare.cells bg2, some (.box [(.own 3)]), jR 4 WaterfallFund.cells ba3, some (.map (bm4.map (mkv (pAgg Key_.cells) (pInt .i64))))])
noncomputable def f49r1n5 (ba1 : List WaterfallFund) (bg2 : List WaterfallShare) (ba3 : List WaterfallFund) (bm4 : List (Key_ × Int)) : Option f49r1n5O :=
  (f49r1n6 FUEL bg2 ba1 bm4 0 ba3).bind fun o173 => match o173 with
  | .exit4 v175 => some (.norm v175)
theorem f49r1n5_ok (ba1 : List WaterfallFund) (bg2 : List WaterfallShare) (ba3 : List WaterfallFund) (bm4 : List (Key_ × Int)) {o : f49r1n5O} (h : (f49r1n5 ba1 bg2 ba3 bm4) = some o) : T Try.prog Try.f49.ntmps 4 (cL (dropC 1 (dropC 1 (dropC 1 (dropC 1 (dropC 4 c49)))))) (f49r1n5S ba1 bg2 ba3 bm4) (fun r => r = f49r1n5E ba1 bg2 ba3 bm4 o) := by
  unfold f49r1n5 at h
  refine rN cfg_ok 1 [([], [], [(1, .val (jI (bg2.length : Int)))])] [] [] [4] [2, 8, 66, 67, 68] (f49r1n6S bg2 ba1 bm4 0 ba3) (ap (len_cv (xs := bg2) (c := WaterfallShare.cells)) an) ?_
  obtain ⟨o173, h174, h⟩ := bind_cases h
  cases o173 with
  | exit4 v175 =>
    obtain rfl := some_inj h
    exact T.last' (T.bl (i := 4) (by kernel_rfl) (by kernel_rfl) (f49r1n6_ok FUEL bg2 ba1 bm4 0 ba3 h174)) (tds := []) (m := []) (keep := []) (st2 := (f49r1n5E ba1 bg2 ba3 bm4 (.norm v175)).2) (by kernel_rfl) an rfl
inductive f49r1n0O where
  | ret (v180 : Int) (v181 : List WaterfallFund)
def f49r1n0E (a1 : List WaterfallFund) (a2 : List WaterfallShare) (a3 : List WaterfallFund) : f49r1n0O → Ex × Tr × Hp
  | .ret v180 v181 => (.ret, mkS [(6, (jI v180))], [jR 4 WaterfallFund.cells a1, jR 3 WaterfallShare.cells a2, some (.box [(.own 3)]), jR 4 WaterfallFund.cells v181])
def f49r1n0S (a1 : List WaterfallFund) (a2 : List WaterfallShare) (a3 : List WaterfallFund) : Tr × Hp := (initS [(.own 0), (.own 1), (.clo 50 [(.bp 2 0)])] 0 .leaf, [jR 4 WaterfallFund.cells a1, jR 3 WaterfallShare.cells a2, some (.box [(.own 3)]), jR 4 WaterfallFund.cells a3])
noncomputable def f49r1n0 (a1 : List WaterfallFund) (a2 : List WaterfallShare) (a3 : List WaterfallFund) : Option f49r1n0O :=
  (f23 a1).bind fun x7 =>
  bif (decide (x7 = 0)) then
    (f38_39_40 a2 1).bind fun x13 =>
    bif x13 then
      (f49r1n1 a1 a2 a3).bind fun o55 => match o55 with
      | .norm v57 => (f49r1n3 a1 a2 a3 v57).bind fun o121 => match o121 with
        | .norm v123 => bif (decide (v123 = 0)) then
            (f49r1n5 a1 a2 a3 v57).bind fun o177 => match o177 with
            | .norm v179 => some (.ret 0 v179)
          else
            some (.ret v123 a3)
        | .ret => some (.ret 6 a3)
    else
      some (.ret 2 a3)
  else
    some (.ret x7 a3)
theorem f49r1n0_ok (a1 : List WaterfallFund) (a2 : List WaterfallShare) (a3 : List WaterfallFund) {o : f49r1n0O} (h : (f49r1n0 a1 a2 a3) = some o) : T Try.prog Try.f49.ntmps 4 c49 (f49r1n0S a1 a2 a3) (fun r => r = f49r1n0E a1 a2 a3 o) := by
  unfold f49r1n0 at h
  obtain ⟨x7, h8, h⟩ := bind_cases h
  rcases cond_cases h with ⟨h9, h⟩ | ⟨h9, h⟩
  · obtain ⟨x13, h14, h⟩ := bind_cases h
    rcases cond_cases h with ⟨h15, h⟩ | ⟨h15, h⟩
    · refine rN cfg_ok 4 [j3, ([], [jH 1 (jI x7)], []), j3, ([], [jH 1 (jB x13)], []), j3] [some false, some false] [] [4] [0, 1, 2, 8] (f49r1n1S a1 a2 a3) (ap (f23_ok a1 h8) (ap (not_t h9) (ap (f38_39_40_ok a2 1 h14) (ap (not_t h15) an)))) ?_
      obtain ⟨o55, h56, h⟩ := bind_cases h
      cases o55 with
      | norm v57 =>
        refine T.oneN (by kernel_rfl) (f49r1n1_ok a1 a2 a3 h56) (st2 := (f49r1n1E a1 a2 a3 (.norm v57)).2) rfl ?_
        refine rN cfg_ok 1 [j3] [] [] [4] [0, 1, 2, 8, 11] (f49r1n3S a1 a2 a3 v57) an ?_
        obtain ⟨o121, h122, h⟩ := bind_cases h
        cases o121 with
        | norm v123 =>
          refine T.oneN (by kernel_rfl) (f49r1n3_ok a1 a2 a3 v57 h122) (st2 := (f49r1n3E a1 a2 a3 v57 (.norm v123)).2) rfl ?_
          rcases cond_cases h with ⟨h125, h⟩ | ⟨h125, h⟩
          · refine rN cfg_ok 1 [j3] [some false] [] [4] [1, 2, 8] (f49r1n5S a1 a2 a3 v57) (ap (not_t h125) an) ?_
            obtain ⟨o177, h178, h⟩ := bind_cases h
            cases o177 with
            | norm v179 =>
              refine T.oneN (by kernel_rfl) (f49r1n5_ok a1 a2 a3 v57 h178) (st2 := (f49r1n5E a1 a2 a3 v57 (.norm v179)).2) rfl ?_
              obtain rfl := some_inj h
              exact rE cfg_ok [j3] [] [] [] [6] (.ret, (f49r1n0E a1 a2 a3 (.ret 0 v179)).2) an rfl
          · obtain rfl := some_inj h
            exact rK cfg_ok 1 [j3, j3] [some true] [] [] [6] .ret ((f49r1n0E a1 a2 a3 (.ret v123 a3)).2) (ap (not_f h125) an) rfl
        | ret =>
          obtain rfl := some_inj h
          exact T.oneX' (by kernel_rfl) (f49r1n3_ok a1 a2 a3 v57 h122) (tds := []) (m := []) (keep := [6]) (st2 := (f49r1n0E a1 a2 a3 (.ret 6 a3)).2) (by kernel_rfl) an rfl rfl
    · obtain rfl := some_inj h
      exact rK cfg_ok 3 [j3, ([], [jH 1 (jI x7)], []), j3, ([], [jH 1 (jB x13)], []), j3] [some false, some true] [] [] [6] .ret ((f49r1n0E a1 a2 a3 (.ret 2 a3)).2) (ap (f23_ok a1 h8) (ap (not_t h9) (ap (f38_39_40_ok a2 1 h14) (ap (not_f h15) an)))) rfl
  · obtain rfl := some_inj h
    exact rK cfg_ok 2 [j3, ([], [jH 1 (jI x7)], []), j3, j3] [some true] [] [] [6] .ret ((f49r1n0E a1 a2 a3 (.ret x7 a3)).2) (ap (f23_ok a1 h8) (ap (not_f h9) an)) rfl
noncomputable def f49r1 (a1 : List WaterfallFund) (a2 : List WaterfallShare) (a3 : List WaterfallFund) : Option (Int × (List WaterfallFund)) := (f49r1n0 a1 a2 a3).bind fun o => match o with
  | .ret v180 v181 => some (v180, v181)
theorem f49r1_ok (a1 : List WaterfallFund) (a2 : List WaterfallShare) (a3 : List WaterfallFund) {r : Int × (List WaterfallFund)} (h : (f49r1 a1 a2 a3) = some r) : CallS Try.prog true 49 [(.own 0), (.own 1), (.clo 50 [(.bp 2 0)])] [jR 4 WaterfallFund.cells a1, jR 3 WaterfallShare.cells a2, some (.box [(.own 3)]), jR 4 WaterfallFund.cells a3] (jI r.1) [jR 4 WaterfallFund.cells a1, jR 3 WaterfallShare.cells a2, some (.box [(.own 3)]), jR 4 WaterfallFund.cells r.2] := by
  unfold f49r1 at h
  obtain ⟨o, ho, h⟩ := bind_cases h
  cases o with
  | ret v180 v181 =>
    obtain rfl := some_inj h
    exact CallS.shared cfg_ok (f := Try.f49) (c := c49) (by kernel_rfl) (by kernel_rfl) (by kernel_rfl) ((f49r1n0_ok a1 a2 a3 ho).mono fun r e => by subst e; exact ⟨.inl rfl, by kernel_rfl, by kernel_rfl⟩)
end Go.Proofs.Ytgbolgaodaokcaa
namespace Go.Proofs.Ytgbolgaodaokcaa
set_option linter.unusedVariables false
set_option linter.unusedSimpArgs false
set_option maxRecDepth 100000
open Go.RowKit
noncomputable def c26 : Code := Try.f26.body.getD .skip
inductive f26r1n0O where
  | ret (v13 : Int) (v14 : List WaterfallFund)
def f26r1n0E (a1 : List WaterfallFund) (a2 : List WaterfallShare) : f26r1n0O → Ex × Tr × Hp
  | .ret v13 v14 => (.ret, mkS [(4, (.own 2)), (5, (jI v13))], [jR 4 WaterfallFund.cells a1, jR 3 WaterfallShare.cells a2, jR 4 WaterfallFund.cells v14])
def f26r1n0S (a1 : List WaterfallFund) (a2 : List WaterfallShare) : Tr × Hp := (initS [(.own 0), (.own 1)] 0 .leaf, [jR 4 WaterfallFund.cells a1, jR 3 WaterfallShare.cells a2])
noncomputable def f26r1n0 (a1 : List WaterfallFund) (a2 : List WaterfallShare) : Option f26r1n0O :=
  (f48r1 a1).bind fun x5 =>
  (f49r1 a1 a2 x5).bind fun x10 =>
  bif (decide (x10.1 = 0)) then
    some (.ret 0 x10.2)
  else
    some (.ret x10.1 [])
theorem f26r1n0_ok (a1 : List WaterfallFund) (a2 : List WaterfallShare) {o : f26r1n0O} (h : (f26r1n0 a1 a2) = some o) : T Try.prog Try.f26.ntmps 2 c26 (f26r1n0S a1 a2) (fun r => r = f26r1n0E a1 a2 o) := by
  unfold f26r1n0 at h
  obtain ⟨x5, h6, h⟩ := bind_cases h
  obtain ⟨x10, h11, h⟩ := bind_cases h
  rcases cond_cases h with ⟨h12, h⟩ | ⟨h12, h⟩
  · obtain rfl := some_inj h
    exact rE cfg_ok [j3, ([], [(1, .call (.own 2) [jR 4 WaterfallFund.cells a1, none, jR 4 WaterfallFund.cells x5])], []), ([], [(3, .call (jI x10.1) [jR 4 WaterfallFund.cells a1, jR 3 WaterfallShare.cells a2, jR 4 WaterfallFund.cells x10.2, some (.box [(.own 2)])])], []), j3, j3] [some false] [] [2] [4, 5] (.ret, (f26r1n0E a1 a2 (.ret 0 x10.2)).2) (ap (CallS.rn 2 [0] (f48r1_ok a1 h6)) (ap (CallS.rn 4 [0, 1, 3, 2] (f49r1_ok a1 a2 x5 h11)) (ap (not_t h12) an))) rfl
  · obtain rfl := some_inj h
    exact rK cfg_ok 3 [j3, ([], [(1, .call (.own 2) [jR 4 WaterfallFund.cells a1, none, jR 4 WaterfallFund.cells x5])], []), ([], [(3, .call (jI x10.1) [jR 4 WaterfallFund.cells a1, jR 3 WaterfallShare.cells a2, jR 4 WaterfallFund.cells x10.2, some (.box [(.own 2)])])], []), j3, j3] [some true] [.mat 4 4] [4] [4, 5] .ret ((f26r1n0E a1 a2 (.ret x10.1 [])).2) (ap (CallS.rn 2 [0] (f48r1_ok a1 h6)) (ap (CallS.rn 4 [0, 1, 3, 2] (f49r1_ok a1 a2 x5 h11)) (ap (not_f h12) an))) rfl
noncomputable def f26r1 (a1 : List WaterfallFund) (a2 : List WaterfallShare) : Option (Int × (List WaterfallFund)) := (f26r1n0 a1 a2).bind fun o => match o with
  | .ret v13 v14 => some (v13, v14)
theorem f26r1_ok (a1 : List WaterfallFund) (a2 : List WaterfallShare) {r : Int × (List WaterfallFund)} (h : (f26r1 a1 a2) = some r) : CallS Try.prog true 26 [(.own 0), (.own 1)] [jR 4 WaterfallFund.cells a1, jR 3 WaterfallShare.cells a2] (.tup [(.own 2), (jI r.1)]) [jR 4 WaterfallFund.cells a1, jR 3 WaterfallShare.cells a2, jR 4 WaterfallFund.cells r.2] := by
  unfold f26r1 at h
  obtain ⟨o, ho, h⟩ := bind_cases h
  cases o with
  | ret v13 v14 =>
    obtain rfl := some_inj h
    exact CallS.shared cfg_ok (f := Try.f26) (c := c26) (by kernel_rfl) (by kernel_rfl) (by kernel_rfl) ((f26r1n0_ok a1 a2 ho).mono fun r e => by subst e; exact ⟨.inl rfl, by kernel_rfl, by kernel_rfl⟩)




noncomputable def c53 : Code := Try.f53.body.getD .skip
inductive f53r1n0O where
  | norm (v11 : Int)
def f53r1n0E (a1 : Int) (a2 : Int) (a3 : List WaterfallFund) (a4 : Int) : f53r1n0O → Ex × Tr × Hp
  | .norm v11 => (.norm, mkS [], [some (.box (((cLst 4 WaterfallFund.cells) a3).map .pl)), some (.box (((cInt .i64) v11).map .pl))])
def f53r1n0S (a1 : Int) (a2 : Int) (a3 : List WaterfallFund) (a4 : Int) : Tr × Hp := (initS [(jI a1), (jI a2), (.bp 0 0), (.bp 1 0)] 0 .leaf, [some (.box (((cLst 4 WaterfallFund.cells) a3).map .pl)), some (.box (((cInt .i64) a4).map .pl))])
noncomputable def f53r1n0 (a1 : Int) (a2 : Int) (a3 : List WaterfallFund) (a4 : Int) : Option f53r1n0O :=
  (at? a3 a1).bind fun x7 =>
  bif x7.Called then
    some (.norm (wr64 (a4 + a2)))
  else
    some (.norm a4)
theorem f53r1n0_ok (a1 : Int) (a2 : Int) (a3 : List WaterfallFund) (a4 : Int) {o : f53r1n0O} (h : (f53r1n0 a1 a2 a3 a4) = some o) : T Try.prog Try.f53.ntmps 2 c53 (f53r1n0S a1 a2 a3 a4) (fun r => r = f53r1n0E a1 a2 a3 a4 o) := by
  unfold f53r1n0 at h
  obtain ⟨x7, h8, h⟩ := bind_cases h
  rcases cond_cases h with ⟨h10, h⟩ | ⟨h10, h⟩
  · obtain rfl := some_inj h
    exact rE cfg_ok [([], [(2, .idx (Int.toNat a1) (WaterfallFund.cells x7))], []), j3] [some true] [] [] [] (.norm, (f53r1n0E a1 a2 a3 a4 (.norm (wr64 (a4 + a2)))).2) (ap (at_some h8).1 (ap (at_map WaterfallFund.cells (at_some h8).2) (ap h10 an))) rfl
  · obtain rfl := some_inj h
    exact rE cfg_ok [([], [(2, .idx (Int.toNat a1) (WaterfallFund.cells x7))], [])] [some false] [] [] [] (.norm, (f53r1n0E a1 a2 a3 a4 (.norm a4)).2) (ap (at_some h8).1 (ap (at_map WaterfallFund.cells (at_some h8).2) (ap h10 an))) rfl
noncomputable def f53r1 (a1 : Int) (a2 : Int) (a3 : List WaterfallFund) (a4 : Int) : Option Int := (f53r1n0 a1 a2 a3 a4).bind fun o => match o with
  | .norm v11 => some v11
theorem f53r1_ok (a1 : Int) (a2 : Int) (a3 : List WaterfallFund) (a4 : Int) {r : Int} (h : (f53r1 a1 a2 a3 a4) = some r) : CallS Try.prog true 53 [(jI a1), (jI a2), (.bp 0 0), (.bp 1 0)] [some (.box (((cLst 4 WaterfallFund.cells) a3).map .pl)), some (.box (((cInt .i64) a4).map .pl))] (.tup []) [some (.box (((cLst 4 WaterfallFund.cells) a3).map .pl)), some (.box (((cInt .i64) r).map .pl))] := by
  unfold f53r1 at h
  obtain ⟨o, ho, h⟩ := bind_cases h
  cases o with
  | norm v11 =>
    obtain rfl := some_inj h
    exact CallS.shared cfg_ok (f := Try.f53) (c := c53) (by kernel_rfl) (by kernel_rfl) (by kernel_rfl) ((f53r1n0_ok a1 a2 a3 a4 ho).mono fun r e => by subst e; exact ⟨.inr rfl, by kernel_rfl, by kernel_rfl⟩)

inductive f49r2n2O where
  | exit0 (v50 : List (Key_ × Int))
def f49r2n2E (ba1 : List WaterfallFund) (bg2 : List WaterfallShare) (bb3 : Int) : f49r2n2O → Ex × Tr × Hp
  | .exit0 v50 => ((.exit 0), mkS [(0, (jL 4 WaterfallFund.cells ba1)), (1, (jL 3 WaterfallShare.cells bg2)), (2, (.clo 53 [(.bp 0 0), (.bp 1 0)])), (8, (.mp 2))], [some (.box (((cLst 4 WaterfallFund.cells) ba1).map .pl)), some (.box (((cInt .i64) bb3).map .pl)), some (.map (v50.map (mkv (pAgg Key_.cells) (pInt .i64))))])
def f49r2n2S (ba1 : List WaterfallFund) (bg2 : List WaterfallShare) (bb3 : Int) (v38 : Int) (v39 : List (Key_ × Int)) : Tr × Hp := (mkS [(0, (jL 4 WaterfallFund.cells ba1)), (1, (jL 3 WaterfallShare.cells bg2)), (2, (.clo 53 [(.bp 0 0), (.bp 1 0)])), (8, (.mp 2)), (27, (jL 4 WaterfallFund.cells ba1)), (28, (jI (ba1.length : Int))), (29, (jI v38))], [some (.box (((cLst 4 WaterfallFund.cells) ba1).map .pl)), some (.box (((cInt .i64) bb3).map .pl)), some (.map (v39.map (mkv (pAgg Key_.cells) (pInt .i64))))])
noncomputable def f49r2n2 : Nat → List WaterfallFund → List WaterfallShare → Int → Int → List (Key_ × Int) → Option f49r2n2O
  | 0, _, _, _, _, _ => none
  | f + 1, ba1, bg2, bb3, v38, v39 =>
    bif (decide (v38 < (ba1.length : Int))) then
      (at? ba1 v38).bind fun x46 =>
      (f36 x46).bind fun x48 =>
      (f49r2n2 f ba1 bg2 bb3 (wr64 (v38 + 1)) (mPut Key_.eqb x48 v38 v39))
    else
      some (.exit0 v39)
theorem f49r2n2_ok : ∀ (f : Nat) (ba1 : List WaterfallFund) (bg2 : List WaterfallShare) (bb3 : Int) (v38 : Int) (v39 : List (Key_ × Int)) {o : f49r2n2O}, (f49r2n2 f ba1 bg2 bb3 v38 v39) = some o → TL Try.prog Try.f49.ntmps 2 f (cL (cL (dropC 1 (cL (dropC 4 c49))))) (f49r2n2S ba1 bg2 bb3 v38 v39) (fun r => r = f49r2n2E ba1 bg2 bb3 o)
  | 0, _, _, _, _, _, o, h => by rw [f49r2n2] at h; cases h
  | f + 1, ba1, bg2, bb3, v38, v39, o, h => by
    rw [f49r2n2] at h
    refine TL.body (K := fun s => ∃ v38 : Int, ∃ v39 : List (Key_ × Int), s = (f49r2n2S ba1 bg2 bb3 v38 v39) ∧ (f49r2n2 f ba1 bg2 bb3 v38 v39) = some o) ?_ (by rintro _ ⟨v38, v39, rfl, hk⟩; exact f49r2n2_ok f _ _ _ _ _ hk)
    rcases cond_cases h with ⟨h41, h⟩ | ⟨h41, h⟩
    · obtain ⟨x46, h47, h⟩ := bind_cases h
      obtain ⟨x48, h49, h⟩ := bind_cases h
      exact rE cfg_ok [j3, ([], [(1, .idx (Int.toNat v38) (WaterfallFund.cells x46))], []), ([], [jH 2 (jA Key_.cells x48), (4, .mset ((mPut Key_.eqb x48 v38 v39).map (mkv (pAgg Key_.cells) (pInt .i64))))], []), j3] [some true] [] [2] [0, 1, 2, 8, 27, 28, 29] (.norm, (f49r2n2S ba1 bg2 bb3 (wr64 (v38 + 1)) (mPut Key_.eqb x48 v38 v39))) (ap h41 (ap (at_some h47).1 (ap (at_map WaterfallFund.cells (at_some h47).2) (ap (mset_map (vp := (pInt .i64)) key_87 x48 v38 v39) (ap (f36_ok x46 h49) an))))) (LoopQ.norm ⟨(wr64 (v38 + 1)), (mPut Key_.eqb x48 v38 v39), rfl, h⟩)
    · obtain rfl := some_inj h
      exact rK cfg_ok 2 [j3] [some false] [] [2] [0, 1, 2, 8] (.exit 0) ((f49r2n2E ba1 bg2 bb3 (.exit0 v39)).2) (ap h41 an) (LoopQ.out rfl rfl)
inductive f49r2n1O where
  | norm (v54 : List (Key_ × Int))
def f49r2n1E (ba1 : List WaterfallFund) (bg2 : List WaterfallShare) (bb3 : Int) : f49r2n1O → Ex × Tr × Hp
  | .norm v54 => (.norm, mkS [(0, (jL 4 WaterfallFund.cells ba1)), (1, (jL 3 WaterfallShare.cells bg2)), (2, (.clo 53 [(.bp 0 0), (.bp 1 0)])), (8, (.mp 2))], [some (.box (((cLst 4 WaterfallFund.cells) ba1).map .pl)), some (.box (((cInt .i64) bb3).map .pl)), some (.map (v54.map (mkv (pAgg Key_.cells) (pInt .i64))))])
def f49r2n1S (ba1 : List WaterfallFund) (bg2 : List WaterfallShare) (bb3 : Int) : Tr × Hp := (mkS [(0, (jL 4 WaterfallFund.cells ba1)), (1, (jL 3 WaterfallShare.cells bg2)), (2, (.clo 53 [(.bp 0 0), (.bp 1 0)])), (8, (.mp 2))], [some (.box (((cLst 4 WaterfallFund.cells) ba1).map .pl)), some (.box (((cInt .i64) bb3).map .pl)), some (.map ([].map (mkv (pAgg Key_.cells) (pInt .i64))))])
noncomputable def f49r2n1 (ba1 : List WaterfallFund) (bg2 : List WaterfallShare) (bb3 : Int) : Option f49r2n1O :=
  (f49r2n2 FUEL ba1 bg2 bb3 0 []).bind fun o51 => match o51 with
  | .exit0 v53 => some (.norm v53)
theorem f49r2n1_ok (ba1 : List WaterfallFund) (bg2 : List WaterfallShare) (bb3 : Int) {o : f49r2n1O} (h : (f49r2n1 ba1 bg2 bb3) = some o) : T Try.prog Try.f49.ntmps 2 (cL (dropC 4 c49)) (f49r2n1S ba1 bg2 bb3) (fun r => r = f49r2n1E ba1 bg2 bb3 o) := by
  unfold f49r2n1 at h
  refine rN cfg_ok 1 [([], [], [(1, .val (jI (ba1.length : Int)))])] [] [] [2] [0, 1, 2, 8, 27, 28, 29] (f49r2n2S ba1 bg2 bb3 0 []) (ap (len_cv (xs := ba1) (c := WaterfallFund.cells)) an) ?_
  obtain ⟨o51, h52, h⟩ := bind_cases h
  cases o51 with
  | exit0 v53 =>
    obtain rfl := some_inj h
    exact T.last' (T.bl (i := 0) (by kernel_rfl) (by kernel_rfl) (f49r2n2_ok FUEL ba1 bg2 bb3 0 [] h52)) (tds := []) (m := [2]) (keep := [0, 1, 2, 8]) (st2 := (f49r2n1E ba1 bg2 bb3 (.norm v53)).2) (by kernel_rfl) an rfl
inductive f49r2n4O where
  | exit2 (v116 : Int)
  | ret
def f49r2n4E (ba1 : List WaterfallFund) (bg2 : List WaterfallShare) (bb3 : Int) (bm4 : List (Key_ × Int)) : f49r2n4O → Ex × Tr × Hp
  | .exit2 v116 => ((.exit 2), mkS [(1, (jL 3 WaterfallShare.cells bg2)), (2, (.clo 53 [(.bp 0 0), (.bp 1 0)])), (8, (.mp 2)), (11, (jI v116))], [some (.box (((cLst 4 WaterfallFund.cells) ba1).map .pl)), some (.box (((cInt .i64) bb3).map .pl)), some (.map (bm4.map (mkv (pAgg Key_.cells) (pInt .i64))))])
  | .ret => (.ret, mkS [(6, (jI 6))], [some (.box (((cLst 4 WaterfallFund.cells) ba1).map .pl)), some (.box (((cInt .i64) bb3).map .pl))])
def f49r2n4S (ba1 : List WaterfallFund) (bg2 : List WaterfallShare) (bb3 : Int) (bm4 : List (Key_ × Int)) (v96 : Int) (v97 : Int) : Tr × Hp := (mkS [(0, (jL 4 WaterfallFund.cells ba1)), (1, (jL 3 WaterfallShare.cells bg2)), (2, (.clo 53 [(.bp 0 0), (.bp 1 0)])), (8, (.mp 2)), (11, (jI v96)), (39, (jL 3 WaterfallShare.cells bg2)), (40, (jI (bg2.length : Int))), (41, (jI v97))], [some (.box (((cLst 4 WaterfallFund.cells) ba1).map .pl)), some (.box (((cInt .i64) bb3).map .pl)), some (.map (bm4.map (mkv (pAgg Key_.cells) (pInt .i64))))])
noncomputable def f49r2n4 : Nat → List WaterfallFund → List WaterfallShare → Int → List (Key_ × Int) → Int → Int → Option f49r2n4O
  | 0, _, _, _, _, _, _ => none
  | f + 1, ba1, bg2, bb3, bm4, v96, v97 =>
    bif (decide (v97 < (bg2.length : Int))) then
      (at? bg2 v97).bind fun x108 =>
      (f39 x108).bind fun x110 =>
      bif (mHas Key_.eqb x110 bm4) then
        (at? ba1 (mGet Key_.eqb 0 x110 bm4)).bind fun x113 =>
        bif (decide (x113.Size < x108.Amount)) then
          (f49r2n4 f ba1 bg2 bb3 bm4 50 (wr64 (v97 + 1)))
        else
          (f49r2n4 f ba1 bg2 bb3 bm4 v96 (wr64 (v97 + 1)))
      else
        some .ret
    else
      some (.exit2 v96)
theorem f49r2n4_ok : ∀ (f : Nat) (ba1 : List WaterfallFund) (bg2 : List WaterfallShare) (bb3 : Int) (bm4 : List (Key_ × Int)) (v96 : Int) (v97 : Int) {o : f49r2n4O}, (f49r2n4 f ba1 bg2 bb3 bm4 v96 v97) = some o → TL Try.prog Try.f49.ntmps 2 f (cL (cL (dropC 1 (cL (dropC 1 (dropC 1 (dropC 4 c49))))))) (f49r2n4S ba1 bg2 bb3 bm4 v96 v97) (fun r => r = f49r2n4E ba1 bg2 bb3 bm4 o)
  | 0, _, _, _, _, _, _, o, h => by rw [f49r2n4] at h; cases h
  | f + 1, ba1, bg2, bb3, bm4, v96, v97, o, h => by
    rw [f49r2n4] at h
    refine TL.body (K := fun s => ∃ v96 : Int, ∃ v97 : Int, s = (f49r2n4S ba1 bg2 bb3 bm4 v96 v97) ∧ (f49r2n4 f ba1 bg2 bb3 bm4 v96 v97) = some o) ?_ (by rintro _ ⟨v96, v97, rfl, hk⟩; exact f49r2n4_ok f _ _ _ _ _ _ hk)
    rcases cond_cases h with ⟨h99, h⟩ | ⟨h99, h⟩
    · obtain ⟨x108, h109, h⟩ := bind_cases h
      obtain ⟨x110, h111, h⟩ := bind_cases h
      rcases cond_cases h with ⟨h112, h⟩ | ⟨h112, h⟩
      · obtain ⟨x113, h114, h⟩ := bind_cases h
        rcases cond_cases h with ⟨h115, h⟩ | ⟨h115, h⟩
        · exact rE cfg_ok [j3, ([], [(0, .idx (Int.toNat v97) (WaterfallShare.cells x108))], []), ([], [jH 2 (jA Key_.cells x110), (3, .look ((pInt .i64) (mGet Key_.eqb 0 x110 bm4)) (mHas Key_.eqb x110 bm4))], []), j3, ([], [(4, .idx (Int.toNat (mGet Key_.eqb 0 x110 bm4)) (WaterfallFund.cells x113))], []), j3, j3] [some true, some false, some true] [] [2] [0, 1, 2, 8, 11, 39, 40, 41] (.norm, (f49r2n4S ba1 bg2 bb3 bm4 50 (wr64 (v97 + 1)))) (ap h99 (ap (at_some h109).1 (ap (at_map WaterfallShare.cells (at_some h109).2) (ap (look_map (vp := (pInt .i64)) (e := 3) key_87 0 (by kernel_rfl) x110 bm4) (ap (f39_ok x108 h111) (ap (not_t h112) (ap (at_some h114).1 (ap (at_map WaterfallFund.cells (at_some h114).2) (ap h115 an))))))))) (LoopQ.norm ⟨50, (wr64 (v97 + 1)), rfl, h⟩)
        · exact rE cfg_ok [j3, ([], [(0, .idx (Int.toNat v97) (WaterfallShare.cells x108))], []), ([], [jH 2 (jA Key_.cells x110), (3, .look ((pInt .i64) (mGet Key_.eqb 0 x110 bm4)) (mHas Key_.eqb x110 bm4))], []), j3, ([], [(4, .idx (Int.toNat (mGet Key_.eqb 0 x110 bm4)) (WaterfallFund.cells x113))], []), j3] [some true, some false, some false] [] [2] [0, 1, 2, 8, 11, 39, 40, 41] (.norm, (f49r2n4S ba1 bg2 bb3 bm4 v96 (wr64 (v97 + 1)))) (ap h99 (ap (at_some h109).1 (ap (at_map WaterfallShare.cells (at_some h109).2) (ap (look_map (vp := (pInt .i64)) (e := 3) key_87 0 (by kernel_rfl) x110 bm4) (ap (f39_ok x108 h111) (ap (not_t h112) (ap (at_some h114).1 (ap (at_map WaterfallFund.cells (at_some h114).2) (ap h115 an))))))))) (LoopQ.norm ⟨v96, (wr64 (v97 + 1)), rfl, h⟩)
      · obtain rfl := some_inj h
        exact rK cfg_ok 3 [j3, ([], [(0, .idx (Int.toNat v97) (WaterfallShare.cells x108))], []), ([], [jH 2 (jA Key_.cells x110), (3, .look ((pInt .i64) (mGet Key_.eqb 0 x110 bm4)) (mHas Key_.eqb x110 bm4))], []), j3, j3] [some true, some true] [] [] [6] .ret ((f49r2n4E ba1 bg2 bb3 bm4 .ret).2) (ap h99 (ap (at_some h109).1 (ap (at_map WaterfallShare.cells (at_some h109).2) (ap (look_map (vp := (pInt .i64)) (e := 3) key_87 0 (by kernel_rfl) x110 bm4) (ap (f39_ok x108 h111) (ap (not_f h112) an)))))) (LoopQ.out rfl rfl)
    · obtain rfl := some_inj h
      exact rK cfg_ok 2 [j3] [some false] [] [2] [1, 2, 8, 11] (.exit 2) ((f49r2n4E ba1 bg2 bb3 bm4 (.exit2 v96)).2) (ap h99 an) (LoopQ.out rfl rfl)
inductive f49r2n3O where
  | norm (v120 : Int)
  | ret
def f49r2n3E (ba1 : List WaterfallFund) (bg2 : List WaterfallShare) (bb3 : Int) (bm4 : List (Key_ × Int)) : f49r2n3O → Ex × Tr × Hp
  | .norm v120 => (.norm, mkS [(1, (jL 3 WaterfallShare.cells bg2)), (2, (.clo 53 [(.bp 0 0), (.bp 1 0)])), (8, (.mp 2)), (11, (jI v120))], [some (.box (((cLst 4 WaterfallFund.cells) ba1).map .pl)), some (.box (((cInt .i64) bb3).map .pl)), some (.map (bm4.map (mkv (pAgg Key_.cells) (pInt .i64))))])
  | .ret => (.ret, mkS [(6, (jI 6))], [some (.box (((cLst 4 WaterfallFund.cells) ba1).map .pl)), some (.box (((cInt .i64) bb3).map .pl))])
def f49r2n3S (ba1 : List WaterfallFund) (bg2 : List WaterfallShare) (bb3 : Int) (bm4 : List (Key_ × Int)) : Tr × Hp := (mkS [(0, (jL 4 WaterfallFund.cells ba1)), (1, (jL 3 WaterfallShare.cells bg2)), (2, (.clo 53 [(.bp 0 0), (.bp 1 0)])), (8, (.mp 2)), (11, (jI 0))], [some (.box (((cLst 4 WaterfallFund.cells) ba1).map .pl)), some (.box (((cInt .i64) bb3).map .pl)), some (.map (bm4.map (mkv (pAgg Key_.cells) (pInt .i64))))])
noncomputable def f49r2n3 (ba1 : List WaterfallFund) (bg2 : List WaterfallShare) (bb3 : Int) (bm4 : List (Key_ × Int)) : Option f49r2n3O :=
  (f49r2n4 FUEL ba1 bg2 bb3 bm4 0 0).bind fun o117 => match o117 with
  | .exit2 v119 => some (.norm v119)
  | .ret => some .ret
theorem f49r2n3_ok (ba1 : List WaterfallFund) (bg2 : List WaterfallShare) (bb3 : Int) (bm4 : List (Key_ × Int)) {o : f49r2n3O} (h : (f49r2n3 ba1 bg2 bb3 bm4) = some o) : T Try.prog Try.f49.ntmps 2 (cL (dropC 1 (dropC 1 (dropC 4 c49)))) (f49r2n3S ba1 bg2 bb3 bm4) (fun r => r = f49r2n3E ba1 bg2 bb3 bm4 o) := by
  unfold f49r2n3 at h
  refine rN cfg_ok 1 [([], [], [(1, .val (jI (bg2.length : Int)))])] [] [] [2] [0, 1, 2, 8, 11, 39, 40, 41] (f49r2n4S ba1 bg2 bb3 bm4 0 0) (ap (len_cv (xs := bg2) (c := WaterfallShare.cells)) an) ?_
  obtain ⟨o117, h118, h⟩ := bind_cases h
  cases o117 with
  | exit2 v119 =>
    obtain rfl := some_inj h
    exact T.last' (T.bl (i := 2) (by kernel_rfl) (by kernel_rfl) (f49r2n4_ok FUEL ba1 bg2 bb3 bm4 0 0 h118)) (tds := []) (m := [2]) (keep := [1, 2, 8, 11]) (st2 := (f49r2n3E ba1 bg2 bb3 bm4 (.norm v119)).2) (by kernel_rfl) an rfl
  | ret =>
    obtain rfl := some_inj h
    exact T.last' (T.bl (i := 2) (by kernel_rfl) (by kernel_rfl) (f49r2n4_ok FUEL ba1 bg2 bb3 bm4 0 0 h118)) (tds := []) (m := []) (keep := [6]) (st2 := (f49r2n3E ba1 bg2 bb3 bm4 .ret).2) (by kernel_rfl) an rfl
inductive f49r2n6O where
  | exit4 (v172 : Int)
def f49r2n6E (bg1 : List WaterfallShare) (ba2 : List WaterfallFund) (bm4 : List (Key_ × Int)) : f49r2n6O → Ex × Tr × Hp
  | .exit4 v172 => ((.exit 4), mkS [], [some (.box (((cLst 4 WaterfallFund.cells) ba2).map .pl)), some (.box (((cInt .i64) v172).map .pl))])
def f49r2n6S (bg1 : List WaterfallShare) (ba2 : List WaterfallFund) (bm4 : List (Key_ × Int)) (v156 : Int) (v157 : Int) : Tr × Hp := (mkS [(2, (.clo 53 [(.bp 0 0), (.bp 1 0)])), (8, (.mp 2)), (66, (jL 3 WaterfallShare.cells bg1)), (67, (jI (bg1.length : Int))), (68, (jI v156))], [some (.box (((cLst 4 WaterfallFund.cells) ba2).map .pl)), some (.box (((cInt .i64) v157).map .pl)), some (.map (bm4.map (mkv (pAgg Key_.cells) (pInt .i64))))])
noncomputable def f49r2n6 : Nat → List WaterfallShare → List WaterfallFund → List (Key_ × Int) → Int → Int → Option f49r2n6O
  | 0, _, _, _, _, _ => none
  | f + 1, bg1, ba2, bm4, v156, v157 =>
    bif (decide (v156 < (bg1.length : Int))) then
      (at? bg1 v156).bind fun x166 =>
      (f39 x166).bind fun x168 =>
      (f53r1 (mGet Key_.eqb 0 x168 bm4) x166.Amount ba2 v157).bind fun x170 =>
      (f49r2n6 f bg1 ba2 bm4 (wr64 (v156 + 1)) x170)
    else
      some (.exit4 v157)
theorem f49r2n6_ok : ∀ (f : Nat) (bg1 : List WaterfallShare) (ba2 : List WaterfallFund) (bm4 : List (Key_ × Int)) (v156 : Int) (v157 : Int) {o : f49r2n6O}, (f49r2n6 f bg1 ba2 bm4 v156 v157) = some o → TL Try.prog Try.f49.ntmps 2 f (cL (cL (dropC 1 (cL (dropC 1 (dropC 1 (dropC 1 (dropC 1 (dropC 4 c49))))))))) (f49r2n6S bg1 ba2 bm4 v156 v157) (fun r => r = f49r2n6E bg1 ba2 bm4 o)
  | 0, _, _, _, _, _, o, h => by rw [f49r2n6] at h; cases h
  | f + 1, bg1, ba2, bm4, v156, v157, o, h => by
    rw [f49r2n6] at h
    refine TL.body (K := fun s => ∃ v156 : Int, ∃ v157 : Int, s = (f49r2n6S bg1 ba2 bm4 v156 v157) ∧ (f49r2n6 f bg1 ba2 bm4 v156 v157) = some o) ?_ (by rintro _ ⟨v156, v157, rfl, hk⟩; exact f49r2n6_ok f _ _ _ _ _ hk)
    rcases cond_cases h with ⟨h159, h⟩ | ⟨h159, h⟩
    · obtain ⟨x166, h167, h⟩ := bind_cases h
      obtain ⟨x168, h169, h⟩ := bind_cases h
      obtain ⟨x170, h171, h⟩ := bind_cases h
      exact rE cfg_ok [j3, ([], [(0, .idx (Int.toNat v156) (WaterfallShare.cells x166))], []), ([], [jH 3 (jA Key_.cells x168), (4, .look ((pInt .i64) (mGet Key_.eqb 0 x168 bm4)) (mHas Key_.eqb x168 bm4)), (7, .call (.tup []) [some (.box (((cLst 4 WaterfallFund.cells) ba2).map .pl)), some (.box (((cInt .i64) x170).map .pl)), none, none, none])], []), j3] [some true] [] [2] [2, 8, 66, 67, 68] (.norm, (f49r2n6S bg1 ba2 bm4 (wr64 (v156 + 1)) x170)) (ap h159 (ap (at_some h167).1 (ap (at_map WaterfallShare.cells (at_some h167).2) (ap (look_map (vp := (pInt .i64)) (e := 3) key_87 0 (by kernel_rfl) x168 bm4) (ap (f39_ok x166 h169) (ap (CallS.rn 5 [0, 1] (f53r1_ok (mGet Key_.eqb 0 x168 bm4) x166.Amount ba2 v157 h171)) an)))))) (LoopQ.norm ⟨(wr64 (v156 + 1)), x170, rfl, h⟩)
    · obtain rfl := some_inj h
      exact rK cfg_ok 2 [j3] [some false] [] [] [] (.exit 4) ((f49r2n6E bg1 ba2 bm4 (.exit4 v157)).2) (ap h159 an) (LoopQ.out rfl rfl)
inductive f49r2n5O where
  | norm (v176 : Int)
def f49r2n5E (bg1 : List WaterfallShare) (ba2 : List WaterfallFund) (bb3 : Int) (bm4 : List (Key_ × Int)) : f49r2n5O → Ex × Tr × Hp
  | .norm v176 => (.norm, mkS [], [some (.box (((cLst 4 WaterfallFund.cells) ba2).map .pl)), some (.box (((cInt .i64) v176).map .pl))])
def f49r2n5S (bg1 : List WaterfallShare) (ba2 : List WaterfallFund) (bb3 : Int) (bm4 : List (Key_ × Int)) : Tr × Hp := (mkS [(1, (jL 3 WaterfallShare.cells bg1)), (2, (.clo 53 [(.bp 0 0), (.bp 1 0)])), (8, (.mp 2))], [some (.box (((cLst 4 WaterfallFund.cells) ba2).map .pl)), some (.box (((cInt .i64) bb3).map .pl)), some (.map (bm4.map (mkv (pAgg Key_.cells) (pInt .i64))))])
noncomputable def f49r2n5 (bg1 : List WaterfallShare) (ba2 : List WaterfallFund) (bb3 : Int) (bm4 : List (Key_ × Int)) : Option f49r2n5O :=
  (f49r2n6 FUEL bg1 ba2 bm4 0 bb3).bind fun o173 => match o173 with
  | .exit4 v175 => some (.norm v175)
theorem f49r2n5_ok (bg1 : List WaterfallShare) (ba2 : List WaterfallFund) (bb3 : Int) (bm4 : List (Key_ × Int)) {o : f49r2n5O} (h : (f49r2n5 bg1 ba2 bb3 bm4) = some o) : T Try.prog Try.f49.ntmps 2 (cL (dropC 1 (dropC 1 (dropC 1 (dropC 1 (dropC 4 c49)))))) (f49r2n5S bg1 ba2 bb3 bm4) (fun r => r = f49r2n5E bg1 ba2 bb3 bm4 o) := by
  unfold f49r2n5 at h
  refine rN cfg_ok 1 [([], [], [(1, .val (jI (bg1.length : Int)))])] [] [] [2] [2, 8, 66, 67, 68] (f49r2n6S bg1 ba2 bm4 0 bb3) (ap (len_cv (xs := bg1) (c := WaterfallShare.cells)) an) ?_
  obtain ⟨o173, h174, h⟩ := bind_cases h
  cases o173 with
  | exit4 v175 =>
    obtain rfl := some_inj h
    exact T.last' (T.bl (i := 4) (by kernel_rfl) (by kernel_rfl) (f49r2n6_ok FUEL bg1 ba2 bm4 0 bb3 h174)) (tds := []) (m := []) (keep := []) (st2 := (f49r2n5E bg1 ba2 bb3 bm4 (.norm v175)).2) (by kernel_rfl) an rfl
inductive f49r2n0O where
  | ret (v180 : Int) (v181 : Int)
def f49r2n0E (a1 : List WaterfallFund) (a2 : List WaterfallShare) (a3 : Int) : f49r2n0O → Ex × Tr × Hp
  | .ret v180 v181 => (.ret, mkS [(6, (jI v180))], [some (.box (((cLst 4 WaterfallFund.cells) a1).map .pl)), some (.box (((cInt .i64) v181).map .pl))])
def f49r2n0S (a1 : List WaterfallFund) (a2 : List WaterfallShare) (a3 : Int) : Tr × Hp := (initS [(jL 4 WaterfallFund.cells a1), (jL 3 WaterfallShare.cells a2), (.clo 53 [(.bp 0 0), (.bp 1 0)])] 0 .leaf, [some (.box (((cLst 4 WaterfallFund.cells) a1).map .pl)), some (.box (((cInt .i64) a3).map .pl))])
noncomputable def f49r2n0 (a1 : List WaterfallFund) (a2 : List WaterfallShare) (a3 : Int) : Option f49r2n0O :=
  (f23 a1).bind fun x7 =>
  bif (decide (x7 = 0)) then
    (f38_39_40 a2 1).bind fun x13 =>
    bif x13 then
      (f49r2n1 a1 a2 a3).bind fun o55 => match o55 with
      | .norm v57 => (f49r2n3 a1 a2 a3 v57).bind fun o121 => match o121 with
        | .norm v123 => bif (decide (v123 = 0)) then
            (f49r2n5 a2 a1 a3 v57).bind fun o177 => match o177 with
            | .norm v179 => some (.ret 0 v179)
          else
            some (.ret v123 a3)
        | .ret => some (.ret 6 a3)
    else
      some (.ret 2 a3)
  else
    some (.ret x7 a3)
theorem f49r2n0_ok (a1 : List WaterfallFund) (a2 : List WaterfallShare) (a3 : Int) {o : f49r2n0O} (h : (f49r2n0 a1 a2 a3) = some o) : T Try.prog Try.f49.ntmps 2 c49 (f49r2n0S a1 a2 a3) (fun r => r = f49r2n0E a1 a2 a3 o) := by
  unfold f49r2n0 at h
  obtain ⟨x7, h8, h⟩ := bind_cases h
  rcases cond_cases h with ⟨h9, h⟩ | ⟨h9, h⟩
  · obtain ⟨x13, h14, h⟩ := bind_cases h
    rcases cond_cases h with ⟨h15, h⟩ | ⟨h15, h⟩
    · refine rN cfg_ok 4 [j3, ([], [jH 1 (jI x7)], []), j3, ([], [jH 1 (jB x13)], []), j3] [some false, some false] [] [2] [0, 1, 2, 8] (f49r2n1S a1 a2 a3) (ap (f23_ok a1 h8) (ap (not_t h9) (ap (f38_39_40_ok a2 1 h14) (ap (not_t h15) an)))) ?_
      obtain ⟨o55, h56, h⟩ := bind_cases h
      cases o55 with
      | norm v57 =>
        refine T.oneN (by kernel_rfl) (f49r2n1_ok a1 a2 a3 h56) (st2 := (f49r2n1E a1 a2 a3 (.norm v57)).2) rfl ?_
        refine rN cfg_ok 1 [j3] [] [] [2] [0, 1, 2, 8, 11] (f49r2n3S a1 a2 a3 v57) an ?_
        obtain ⟨o121, h122, h⟩ := bind_cases h
        cases o121 with
        | norm v123 =>
          refine T.oneN (by kernel_rfl) (f49r2n3_ok a1 a2 a3 v57 h122) (st2 := (f49r2n3E a1 a2 a3 v57 (.norm v123)).2) rfl ?_
          rcases cond_cases h with ⟨h125, h⟩ | ⟨h125, h⟩
          · refine rN cfg_ok 1 [j3] [some false] [] [2] [1, 2, 8] (f49r2n5S a2 a1 a3 v57) (ap (not_t h125) an) ?_
            obtain ⟨o177, h178, h⟩ := bind_cases h
            cases o177 with
            | norm v179 =>
              refine T.oneN (by kernel_rfl) (f49r2n5_ok a2 a1 a3 v57 h178) (st2 := (f49r2n5E a2 a1 a3 v57 (.norm v179)).2) rfl ?_
              obtain rfl := some_inj h
              exact rE cfg_ok [j3] [] [] [] [6] (.ret, (f49r2n0E a1 a2 a3 (.ret 0 v179)).2) an rfl
          · obtain rfl := some_inj h
            exact rK cfg_ok 1 [j3, j3] [some true] [] [] [6] .ret ((f49r2n0E a1 a2 a3 (.ret v123 a3)).2) (ap (not_f h125) an) rfl
        | ret =>
          obtain rfl := some_inj h
          exact T.oneX' (by kernel_rfl) (f49r2n3_ok a1 a2 a3 v57 h122) (tds := []) (m := []) (keep := [6]) (st2 := (f49r2n0E a1 a2 a3 (.ret 6 a3)).2) (by kernel_rfl) an rfl rfl
    · obtain rfl := some_inj h
      exact rK cfg_ok 3 [j3, ([], [jH 1 (jI x7)], []), j3, ([], [jH 1 (jB x13)], []), j3] [some false, some true] [] [] [6] .ret ((f49r2n0E a1 a2 a3 (.ret 2 a3)).2) (ap (f23_ok a1 h8) (ap (not_t h9) (ap (f38_39_40_ok a2 1 h14) (ap (not_f h15) an)))) rfl
  · obtain rfl := some_inj h
    exact rK cfg_ok 2 [j3, ([], [jH 1 (jI x7)], []), j3, j3] [some true] [] [] [6] .ret ((f49r2n0E a1 a2 a3 (.ret x7 a3)).2) (ap (f23_ok a1 h8) (ap (not_f h9) an)) rfl
noncomputable def f49r2 (a1 : List WaterfallFund) (a2 : List WaterfallShare) (a3 : Int) : Option (Int × Int) := (f49r2n0 a1 a2 a3).bind fun o => match o with
  | .ret v180 v181 => some (v180, v181)
theorem f49r2_ok (a1 : List WaterfallFund) (a2 : List WaterfallShare) (a3 : Int) {r : Int × Int} (h : (f49r2 a1 a2 a3) = some r) : CallS Try.prog true 49 [(jL 4 WaterfallFund.cells a1), (jL 3 WaterfallShare.cells a2), (.clo 53 [(.bp 0 0), (.bp 1 0)])] [some (.box (((cLst 4 WaterfallFund.cells) a1).map .pl)), some (.box (((cInt .i64) a3).map .pl))] (jI r.1) [some (.box (((cLst 4 WaterfallFund.cells) a1).map .pl)), some (.box (((cInt .i64) r.2).map .pl))] := by
  unfold f49r2 at h
  obtain ⟨o, ho, h⟩ := bind_cases h
  cases o with
  | ret v180 v181 =>
    obtain rfl := some_inj h
    exact CallS.shared cfg_ok (f := Try.f49) (c := c49) (by kernel_rfl) (by kernel_rfl) (by kernel_rfl) ((f49r2n0_ok a1 a2 a3 ho).mono fun r e => by subst e; exact ⟨.inl rfl, by kernel_rfl, by kernel_rfl⟩)

noncomputable def c29 : Code := Try.f29.body.getD .skip
inductive f29n0O where
  | ret (v7 : Int) (v8 : Int)
def f29n0E (a1 : List WaterfallFund) (a2 : List WaterfallShare) : f29n0O → Ex × Tr × Hp
  | .ret v7 v8 => (.ret, mkS [(4, (jI v7)), (5, (jI v8))], [])
def f29n0S (a1 : List WaterfallFund) (a2 : List WaterfallShare) : Tr × Hp := (initS [(jL 4 WaterfallFund.cells a1), (jL 3 WaterfallShare.cells a2)] 0 .leaf, [])
noncomputable def f29n0 (a1 : List WaterfallFund) (a2 : List WaterfallShare) : Option f29n0O :=
  (f49r2 a1 a2 0).bind fun x5 =>
  some (.ret x5.2 x5.1)
theorem f29n0_ok (a1 : List WaterfallFund) (a2 : List WaterfallShare) {o : f29n0O} (h : (f29n0 a1 a2) = some o) : T Try.prog Try.f29.ntmps 0 c29 (f29n0S a1 a2) (fun r => r = f29n0E a1 a2 o) := by
  unfold f29n0 at h
  obtain ⟨x5, h6, h⟩ := bind_cases h
  obtain rfl := some_inj h
  exact rE cfg_ok [j3, j3, ([], [(3, .call (jI x5.1) [some (.box (((cLst 4 WaterfallFund.cells) a1).map .pl)), some (.box (((cInt .i64) x5.2).map .pl))])], []), j3] [] [] [] [4, 5] (.ret, (f29n0E a1 a2 (.ret x5.2 x5.1)).2) (ap (f49r2_ok a1 a2 0 h6) an) rfl
noncomputable def f29 (a1 : List WaterfallFund) (a2 : List WaterfallShare) : Option (Int × Int) := (f29n0 a1 a2).bind fun o => match o with
  | .ret v7 v8 => some (v7, v8)
theorem f29_ok (a1 : List WaterfallFund) (a2 : List WaterfallShare) {r : Int × Int} (h : (f29 a1 a2) = some r) : CallS Try.prog false 29 [(jL 4 WaterfallFund.cells a1), (jL 3 WaterfallShare.cells a2)] [] (.tup [(jI r.1), (jI r.2)]) [] := by
  unfold f29 at h
  obtain ⟨o, ho, h⟩ := bind_cases h
  cases o with
  | ret v7 v8 =>
    obtain rfl := some_inj h
    exact CallS.plain cfg_ok (f := Try.f29) (c := c29) (by kernel_rfl) (by kernel_rfl) (by kernel_rfl) (by kernel_rfl) ((f29n0_ok a1 a2 ho).mono fun r e => by subst e; exact ⟨.inl rfl, (.tup [(jI v7), (jI v8)]), (.tup [(jI v7), (jI v8)]), by kernel_rfl, by kernel_rfl, ((Wk.refl _) : Wk (.tup [(jI v7), (jI v8)]) (.tup [(jI v7), (jI v8)]))⟩)



end Go.Proofs.Ytgbolgaodaokcaa
namespace Go.Proofs.Ytgbolgaodaokcaa
set_option linter.unusedVariables false
set_option linter.unusedSimpArgs false
set_option maxRecDepth 100000
open Go.RowKit
inductive f33r3n2O where
  | exit0 (v36 : List WaterfallShare)
def f33r3n2E (bg1 : List WaterfallShare) : f33r3n2O → Ex × Tr × Hp
  | .exit0 v36 => ((.exit 0), mkS [(10, (.own 0))], [jR 3 WaterfallShare.cells v36])
def f33r3n2S (bg1 : List WaterfallShare) (v24 : Int) (v25 : List WaterfallShare) : Tr × Hp := (mkS [(9, (.own 0)), (10, (.own 1)), (11, (jI v24))], [jR 3 WaterfallShare.cells bg1, jR 3 WaterfallShare.cells v25])
noncomputable def f33r3n2 : Nat → List WaterfallShare → Int → List WaterfallShare → Option f33r3n2O
  | 0, _, _, _ => none
  | f + 1, bg1, v24, v25 =>
    bif (decide (v24 < (bg1.length : Int))) then
      (at? bg1 v24).bind fun x32 =>
      bif (decide (0 < x32.Amount)) then
        req (fit (v25.length + 1) 32) <|
        (f33r3n2 f bg1 (wr64 (v24 + 1)) (v25 ++ [x32]))
      else
        (f33r3n2 f bg1 (wr64 (v24 + 1)) v25)
    else
      some (.exit0 v25)
theorem f33r3n2_ok : ∀ (f : Nat) (bg1 : List WaterfallShare) (v24 : Int) (v25 : List WaterfallShare) {o : f33r3n2O}, (f33r3n2 f bg1 v24 v25) = some o → TL Try.prog Try.f33.ntmps 0 f (cL (cL (dropC 1 (cL (dropC 3 c33))))) (f33r3n2S bg1 v24 v25) (fun r => r = f33r3n2E bg1 o)
  | 0, _, _, _, o, h => by rw [f33r3n2] at h; cases h
  | f + 1, bg1, v24, v25, o, h => by
    rw [f33r3n2] at h
    refine TL.body (K := fun s => ∃ v24 : Int, ∃ v25 : List WaterfallShare, s = (f33r3n2S bg1 v24 v25) ∧ (f33r3n2 f bg1 v24 v25) = some o) ?_ (by rintro _ ⟨v24, v25, rfl, hk⟩; exact f33r3n2_ok f _ _ _ hk)
    rcases cond_cases h with ⟨h27, h⟩ | ⟨h27, h⟩
    · obtain ⟨x32, h33, h⟩ := bind_cases h
      rcases cond_cases h with ⟨h34, h⟩ | ⟨h34, h⟩
      · obtain ⟨h35, h⟩ := req_cases h
        exact rE cfg_ok [([], [], [(2, .val (jI (bg1.length : Int)))]), ([], [(2, .at_ (Int.toNat v24)), (4, .idx 0 (WaterfallShare.cells x32))], []), ([], [(3, .at_ (Int.toNat v24)), (4, .idx 0 (WaterfallShare.cells x32)), (6, .fits)], [(6, .row 3 ((v25 ++ [x32]).map WaterfallShare.cells))]), j3] [some true, some true] [] [0, 3] [9, 10, 11] (.norm, (f33r3n2S bg1 (wr64 (v24 + 1)) (v25 ++ [x32]))) (ap (len_cv (xs := bg1) (c := WaterfallShare.cells)) (ap h27 (ap (at_some h33).1 (ap (lt_map WaterfallShare.cells (at_some h33).2) (ap (at_map WaterfallShare.cells (at_some h33).2) (ap h34 (ap (at_some h33).1 (ap (lt_map WaterfallShare.cells (at_some h33).2) (ap (at_map WaterfallShare.cells (at_some h33).2) (ap (fit_map (te := ti59) (xs := v25) (n := 1) (c := WaterfallShare.cells) h35 rfl) (ap (app_cv (xs := v25) (ys := [x32]) (c := WaterfallShare.cells)) an))))))))))) (LoopQ.norm ⟨(wr64 (v24 + 1)), (v25 ++ [x32]), rfl, h⟩)
      · exact rE cfg_ok [([], [], [(2, .val (jI (bg1.length : Int)))]), ([], [(2, .at_ (Int.toNat v24)), (4, .idx 0 (WaterfallShare.cells x32))], []), j3] [some true, some false] [] [0, 1] [9, 10, 11] (.norm, (f33r3n2S bg1 (wr64 (v24 + 1)) v25)) (ap (len_cv (xs := bg1) (c := WaterfallShare.cells)) (ap h27 (ap (at_some h33).1 (ap (lt_map WaterfallShare.cells (at_some h33).2) (ap (at_map WaterfallShare.cells (at_some h33).2) (ap h34 an)))))) (LoopQ.norm ⟨(wr64 (v24 + 1)), v25, rfl, h⟩)
    · obtain rfl := some_inj h
      exact rK cfg_ok 1 [([], [], [(2, .val (jI (bg1.length : Int)))])] [some false] [] [1] [10] (.exit 0) ((f33r3n2E bg1 (.exit0 v25)).2) (ap (len_cv (xs := bg1) (c := WaterfallShare.cells)) (ap h27 an)) (LoopQ.out rfl rfl)
inductive f33r3n1O where
  | norm (v40 : List WaterfallShare)
def f33r3n1E (bg1 : List WaterfallShare) : f33r3n1O → Ex × Tr × Hp
  | .norm v40 => (.norm, mkS [(10, (.own 0))], [jR 3 WaterfallShare.cells v40])
def f33r3n1S (bg1 : List WaterfallShare) : Tr × Hp := (mkS [(9, (.own 0)), (10, (.pl (.sl .nil 0 [])))], [jR 3 WaterfallShare.cells bg1])
noncomputable def f33r3n1 (bg1 : List WaterfallShare) : Option f33r3n1O :=
  (f33r3n2 FUEL bg1 0 []).bind fun o37 => match o37 with
  | .exit0 v39 => some (.norm v39)
theorem f33r3n1_ok (bg1 : List WaterfallShare) {o : f33r3n1O} (h : (f33r3n1 bg1) = some o) : T Try.prog Try.f33.ntmps 0 (cL (dropC 3 c33)) (f33r3n1S bg1) (fun r => r = f33r3n1E bg1 o) := by
  unfold f33r3n1 at h
  refine rN cfg_ok 1 [j3] [] [.mat 10 3] [0, 1] [9, 10, 11] (f33r3n2S bg1 0 []) an ?_
  obtain ⟨o37, h38, h⟩ := bind_cases h
  cases o37 with
  | exit0 v39 =>
    obtain rfl := some_inj h
    exact T.last' (T.bl (i := 0) (by kernel_rfl) (by kernel_rfl) (f33r3n2_ok FUEL bg1 0 [] h38)) (tds := []) (m := [0]) (keep := [10]) (st2 := (f33r3n1E bg1 (.norm v39)).2) (by kernel_rfl) an rfl
inductive f33r3n0O where
  | ret (v44 : List WaterfallShare)
def f33r3n0E (a1 : Int) (a2 : Int) : f33r3n0O → Ex × Tr × Hp
  | .ret v44 => (.ret, mkS [(8, (.own 0))], [jR 3 WaterfallShare.cells v44])
def f33r3n0S (a1 : Int) (a2 : Int) : Tr × Hp := (initS [(jI a1), (jI a2), (jI a2), (jI a2)] 0 .leaf, [])
noncomputable def f33r3n0 (a1 : Int) (a2 : Int) : Option f33r3n0O :=
  (f33r3n1 [(WaterfallShare.mk 0 str_m a1), (WaterfallShare.mk 1 str_a a2), (WaterfallShare.mk 1 str_b a2), (WaterfallShare.mk 1 str_c a2)]).bind fun o41 => match o41 with
  | .norm v43 => some (.ret v43)
theorem f33r3n0_ok (a1 : Int) (a2 : Int) {o : f33r3n0O} (h : (f33r3n0 a1 a2) = some o) : T Try.prog Try.f33.ntmps 0 c33 (f33r3n0S a1 a2) (fun r => r = f33r3n0E a1 a2 o) := by
  unfold f33r3n0 at h
  refine rN cfg_ok 3 [j3, j3, j3] [] [] [0] [9, 10] (f33r3n1S [(WaterfallShare.mk 0 str_m a1), (WaterfallShare.mk 1 str_a a2), (WaterfallShare.mk 1 str_b a2), (WaterfallShare.mk 1 str_c a2)]) an ?_
  obtain ⟨o41, h42, h⟩ := bind_cases h
  cases o41 with
  | norm v43 =>
    refine T.oneN (by kernel_rfl) (f33r3n1_ok [(WaterfallShare.mk 0 str_m a1), (WaterfallShare.mk 1 str_a a2), (WaterfallShare.mk 1 str_b a2), (WaterfallShare.mk 1 str_c a2)] h42) (st2 := (f33r3n1E [(WaterfallShare.mk 0 str_m a1), (WaterfallShare.mk 1 str_a a2), (WaterfallShare.mk 1 str_b a2), (WaterfallShare.mk 1 str_c a2)] (.norm v43)).2) rfl ?_
    obtain rfl := some_inj h
    exact rE cfg_ok [j3] [] [] [0] [8] (.ret, (f33r3n0E a1 a2 (.ret v43)).2) an rfl
noncomputable def f33r3 (a1 : Int) (a2 : Int) : Option (List WaterfallShare) := (f33r3n0 a1 a2).bind fun o => match o with
  | .ret v44 => some v44
theorem f33r3_ok (a1 : Int) (a2 : Int) {r : List WaterfallShare} (h : (f33r3 a1 a2) = some r) : CallS Try.prog true 33 [(jI a1), (jI a2), (jI a2), (jI a2)] [] (.own 0) [jR 3 WaterfallShare.cells r] := by
  unfold f33r3 at h
  obtain ⟨o, ho, h⟩ := bind_cases h
  cases o with
  | ret v44 =>
    obtain rfl := some_inj h
    exact CallS.shared cfg_ok (f := Try.f33) (c := c33) (by kernel_rfl) (by kernel_rfl) (by kernel_rfl) ((f33r3n0_ok a1 a2 ho).mono fun r e => by subst e; exact ⟨.inl rfl, by kernel_rfl, by kernel_rfl⟩)

inductive f33r4n2O where
  | exit0 (v38 : List WaterfallShare)
def f33r4n2E (bg1 : List WaterfallShare) : f33r4n2O → Ex × Tr × Hp
  | .exit0 v38 => ((.exit 0), mkS [(10, (.own 0))], [jR 3 WaterfallShare.cells v38])
def f33r4n2S (bg1 : List WaterfallShare) (v26 : Int) (v27 : List WaterfallShare) : Tr × Hp := (mkS [(9, (.own 0)), (10, (.own 1)), (11, (jI v26))], [jR 3 WaterfallShare.cells bg1, jR 3 WaterfallShare.cells v27])
noncomputable def f33r4n2 : Nat → List WaterfallShare → Int → List WaterfallShare → Option f33r4n2O
  | 0, _, _, _ => none
  | f + 1, bg1, v26, v27 =>
    bif (decide (v26 < (bg1.length : Int))) then
      (at? bg1 v26).bind fun x34 =>
      bif (decide (0 < x34.Amount)) then
        req (fit (v27.length + 1) 32) <|
        (f33r4n2 f bg1 (wr64 (v26 + 1)) (v27 ++ [x34]))
      else
        (f33r4n2 f bg1 (wr64 (v26 + 1)) v27)
    else
      some (.exit0 v27)
theorem f33r4n2_ok : ∀ (f : Nat) (bg1 : List WaterfallShare) (v26 : Int) (v27 : List WaterfallShare) {o : f33r4n2O}, (f33r4n2 f bg1 v26 v27) = some o → TL Try.prog Try.f33.ntmps 0 f (cL (cL (dropC 1 (cL (dropC 3 c33))))) (f33r4n2S bg1 v26 v27) (fun r => r = f33r4n2E bg1 o)
  | 0, _, _, _, o, h => by rw [f33r4n2] at h; cases h
  | f + 1, bg1, v26, v27, o, h => by
    rw [f33r4n2] at h
    refine TL.body (K := fun s => ∃ v26 : Int, ∃ v27 : List WaterfallShare, s = (f33r4n2S bg1 v26 v27) ∧ (f33r4n2 f bg1 v26 v27) = some o) ?_ (by rintro _ ⟨v26, v27, rfl, hk⟩; exact f33r4n2_ok f _ _ _ hk)
    rcases cond_cases h with ⟨h29, h⟩ | ⟨h29, h⟩
    · obtain ⟨x34, h35, h⟩ := bind_cases h
      rcases cond_cases h with ⟨h36, h⟩ | ⟨h36, h⟩
      · obtain ⟨h37, h⟩ := req_cases h
        exact rE cfg_ok [([], [], [(2, .val (jI (bg1.length : Int)))]), ([], [(2, .at_ (Int.toNat v26)), (4, .idx 0 (WaterfallShare.cells x34))], []), ([], [(3, .at_ (Int.toNat v26)), (4, .idx 0 (WaterfallShare.cells x34)), (6, .fits)], [(6, .row 3 ((v27 ++ [x34]).map WaterfallShare.cells))]), j3] [some true, some true] [] [0, 3] [9, 10, 11] (.norm, (f33r4n2S bg1 (wr64 (v26 + 1)) (v27 ++ [x34]))) (ap (len_cv (xs := bg1) (c := WaterfallShare.cells)) (ap h29 (ap (at_some h35).1 (ap (lt_map WaterfallShare.cells (at_some h35).2) (ap (at_map WaterfallShare.cells (at_some h35).2) (ap h36 (ap (at_some h35).1 (ap (lt_map WaterfallShare.cells (at_some h35).2) (ap (at_map WaterfallShare.cells (at_some h35).2) (ap (fit_map (te := ti59) (xs := v27) (n := 1) (c := WaterfallShare.cells) h37 rfl) (ap (app_cv (xs := v27) (ys := [x34]) (c := WaterfallShare.cells)) an))))))))))) (LoopQ.norm ⟨(wr64 (v26 + 1)), (v27 ++ [x34]), rfl, h⟩)
      · exact rE cfg_ok [([], [], [(2, .val (jI (bg1.length : Int)))]), ([], [(2, .at_ (Int.toNat v26)), (4, .idx 0 (WaterfallShare.cells x34))], []), j3] [some true, some false] [] [0, 1] [9, 10, 11] (.norm, (f33r4n2S bg1 (wr64 (v26 + 1)) v27)) (ap (len_cv (xs := bg1) (c := WaterfallShare.cells)) (ap h29 (ap (at_some h35).1 (ap (lt_map WaterfallShare.cells (at_some h35).2) (ap (at_map WaterfallShare.cells (at_some h35).2) (ap h36 an)))))) (LoopQ.norm ⟨(wr64 (v26 + 1)), v27, rfl, h⟩)
    · obtain rfl := some_inj h
      exact rK cfg_ok 1 [([], [], [(2, .val (jI (bg1.length : Int)))])] [some false] [] [1] [10] (.exit 0) ((f33r4n2E bg1 (.exit0 v27)).2) (ap (len_cv (xs := bg1) (c := WaterfallShare.cells)) (ap h29 an)) (LoopQ.out rfl rfl)
inductive f33r4n1O where
  | norm (v42 : List WaterfallShare)
def f33r4n1E (bg1 : List WaterfallShare) : f33r4n1O → Ex × Tr × Hp
  | .norm v42 => (.norm, mkS [(10, (.own 0))], [jR 3 WaterfallShare.cells v42])
def f33r4n1S (bg1 : List WaterfallShare) : Tr × Hp := (mkS [(9, (.own 0)), (10, (.pl (.sl .nil 0 [])))], [jR 3 WaterfallShare.cells bg1])
noncomputable def f33r4n1 (bg1 : List WaterfallShare) : Option f33r4n1O :=
  (f33r4n2 FUEL bg1 0 []).bind fun o39 => match o39 with
  | .exit0 v41 => some (.norm v41)
theorem f33r4n1_ok (bg1 : List WaterfallShare) {o : f33r4n1O} (h : (f33r4n1 bg1) = some o) : T Try.prog Try.f33.ntmps 0 (cL (dropC 3 c33)) (f33r4n1S bg1) (fun r => r = f33r4n1E bg1 o) := by
  unfold f33r4n1 at h
  refine rN cfg_ok 1 [j3] [] [.mat 10 3] [0, 1] [9, 10, 11] (f33r4n2S bg1 0 []) an ?_
  obtain ⟨o39, h40, h⟩ := bind_cases h
  cases o39 with
  | exit0 v41 =>
    obtain rfl := some_inj h
    exact T.last' (T.bl (i := 0) (by kernel_rfl) (by kernel_rfl) (f33r4n2_ok FUEL bg1 0 [] h40)) (tds := []) (m := [0]) (keep := [10]) (st2 := (f33r4n1E bg1 (.norm v41)).2) (by kernel_rfl) an rfl
inductive f33r4n0O where
  | ret (v46 : List WaterfallShare)
def f33r4n0E (a1 : Int) (a2 : Int) (a3 : Int) (a4 : Int) : f33r4n0O → Ex × Tr × Hp
  | .ret v46 => (.ret, mkS [(8, (.own 0))], [jR 3 WaterfallShare.cells v46])
def f33r4n0S (a1 : Int) (a2 : Int) (a3 : Int) (a4 : Int) : Tr × Hp := (initS [(jI a1), (jI a2), (jI a3), (jI a4)] 0 .leaf, [])
noncomputable def f33r4n0 (a1 : Int) (a2 : Int) (a3 : Int) (a4 : Int) : Option f33r4n0O :=
  (f33r4n1 [(WaterfallShare.mk 0 str_m a1), (WaterfallShare.mk 1 str_a a2), (WaterfallShare.mk 1 str_b a3), (WaterfallShare.mk 1 str_c a4)]).bind fun o43 => match o43 with
  | .norm v45 => some (.ret v45)
theorem f33r4n0_ok (a1 : Int) (a2 : Int) (a3 : Int) (a4 : Int) {o : f33r4n0O} (h : (f33r4n0 a1 a2 a3 a4) = some o) : T Try.prog Try.f33.ntmps 0 c33 (f33r4n0S a1 a2 a3 a4) (fun r => r = f33r4n0E a1 a2 a3 a4 o) := by
  unfold f33r4n0 at h
  refine rN cfg_ok 3 [j3, j3, j3] [] [] [0] [9, 10] (f33r4n1S [(WaterfallShare.mk 0 str_m a1), (WaterfallShare.mk 1 str_a a2), (WaterfallShare.mk 1 str_b a3), (WaterfallShare.mk 1 str_c a4)]) an ?_
  obtain ⟨o43, h44, h⟩ := bind_cases h
  cases o43 with
  | norm v45 =>
    refine T.oneN (by kernel_rfl) (f33r4n1_ok [(WaterfallShare.mk 0 str_m a1), (WaterfallShare.mk 1 str_a a2), (WaterfallShare.mk 1 str_b a3), (WaterfallShare.mk 1 str_c a4)] h44) (st2 := (f33r4n1E [(WaterfallShare.mk 0 str_m a1), (WaterfallShare.mk 1 str_a a2), (WaterfallShare.mk 1 str_b a3), (WaterfallShare.mk 1 str_c a4)] (.norm v45)).2) rfl ?_
    obtain rfl := some_inj h
    exact rE cfg_ok [j3] [] [] [0] [8] (.ret, (f33r4n0E a1 a2 a3 a4 (.ret v45)).2) an rfl
noncomputable def f33r4 (a1 : Int) (a2 : Int) (a3 : Int) (a4 : Int) : Option (List WaterfallShare) := (f33r4n0 a1 a2 a3 a4).bind fun o => match o with
  | .ret v46 => some v46
theorem f33r4_ok (a1 : Int) (a2 : Int) (a3 : Int) (a4 : Int) {r : List WaterfallShare} (h : (f33r4 a1 a2 a3 a4) = some r) : CallS Try.prog true 33 [(jI a1), (jI a2), (jI a3), (jI a4)] [] (.own 0) [jR 3 WaterfallShare.cells r] := by
  unfold f33r4 at h
  obtain ⟨o, ho, h⟩ := bind_cases h
  cases o with
  | ret v46 =>
    obtain rfl := some_inj h
    exact CallS.shared cfg_ok (f := Try.f33) (c := c33) (by kernel_rfl) (by kernel_rfl) (by kernel_rfl) ((f33r4n0_ok a1 a2 a3 a4 ho).mono fun r e => by subst e; exact ⟨.inl rfl, by kernel_rfl, by kernel_rfl⟩)

inductive f33r5n2O where
  | exit0 (v36 : List WaterfallShare)
def f33r5n2E (bg1 : List WaterfallShare) : f33r5n2O → Ex × Tr × Hp
  | .exit0 v36 => ((.exit 0), mkS [(10, (.own 0))], [jR 3 WaterfallShare.cells v36])
def f33r5n2S (bg1 : List WaterfallShare) (v24 : Int) (v25 : List WaterfallShare) : Tr × Hp := (mkS [(9, (.own 0)), (10, (.own 1)), (11, (jI v24))], [jR 3 WaterfallShare.cells bg1, jR 3 WaterfallShare.cells v25])
noncomputable def f33r5n2 : Nat → List WaterfallShare → Int → List WaterfallShare → Option f33r5n2O
  | 0, _, _, _ => none
  | f + 1, bg1, v24, v25 =>
    bif (decide (v24 < (bg1.length : Int))) then
      (at? bg1 v24).bind fun x32 =>
      bif (decide (0 < x32.Amount)) then
        req (fit (v25.length + 1) 32) <|
        (f33r5n2 f bg1 (wr64 (v24 + 1)) (v25 ++ [x32]))
      else
        (f33r5n2 f bg1 (wr64 (v24 + 1)) v25)
    else
      some (.exit0 v25)
theorem f33r5n2_ok : ∀ (f : Nat) (bg1 : List WaterfallShare) (v24 : Int) (v25 : List WaterfallShare) {o : f33r5n2O}, (f33r5n2 f bg1 v24 v25) = some o → TL Try.prog Try.f33.ntmps 0 f (cL (cL (dropC 1 (cL (dropC 3 c33))))) (f33r5n2S bg1 v24 v25) (fun r => r = f33r5n2E bg1 o)
  | 0, _, _, _, o, h => by rw [f33r5n2] at h; cases h
  | f + 1, bg1, v24, v25, o, h => by
    rw [f33r5n2] at h
    refine TL.body (K := fun s => ∃ v24 : Int, ∃ v25 : List WaterfallShare, s = (f33r5n2S bg1 v24 v25) ∧ (f33r5n2 f bg1 v24 v25) = some o) ?_ (by rintro _ ⟨v24, v25, rfl, hk⟩; exact f33r5n2_ok f _ _ _ hk)
    rcases cond_cases h with ⟨h27, h⟩ | ⟨h27, h⟩
    · obtain ⟨x32, h33, h⟩ := bind_cases h
      rcases cond_cases h with ⟨h34, h⟩ | ⟨h34, h⟩
      · obtain ⟨h35, h⟩ := req_cases h
        exact rE cfg_ok [([], [], [(2, .val (jI (bg1.length : Int)))]), ([], [(2, .at_ (Int.toNat v24)), (4, .idx 0 (WaterfallShare.cells x32))], []), ([], [(3, .at_ (Int.toNat v24)), (4, .idx 0 (WaterfallShare.cells x32)), (6, .fits)], [(6, .row 3 ((v25 ++ [x32]).map WaterfallShare.cells))]), j3] [some true, some true] [] [0, 3] [9, 10, 11] (.norm, (f33r5n2S bg1 (wr64 (v24 + 1)) (v25 ++ [x32]))) (ap (len_cv (xs := bg1) (c := WaterfallShare.cells)) (ap h27 (ap (at_some h33).1 (ap (lt_map WaterfallShare.cells (at_some h33).2) (ap (at_map WaterfallShare.cells (at_some h33).2) (ap h34 (ap (at_some h33).1 (ap (lt_map WaterfallShare.cells (at_some h33).2) (ap (at_map WaterfallShare.cells (at_some h33).2) (ap (fit_map (te := ti59) (xs := v25) (n := 1) (c := WaterfallShare.cells) h35 rfl) (ap (app_cv (xs := v25) (ys := [x32]) (c := WaterfallShare.cells)) an))))))))))) (LoopQ.norm ⟨(wr64 (v24 + 1)), (v25 ++ [x32]), rfl, h⟩)
      · exact rE cfg_ok [([], [], [(2, .val (jI (bg1.length : Int)))]), ([], [(2, .at_ (Int.toNat v24)), (4, .idx 0 (WaterfallShare.cells x32))], []), j3] [some true, some false] [] [0, 1] [9, 10, 11] (.norm, (f33r5n2S bg1 (wr64 (v24 + 1)) v25)) (ap (len_cv (xs := bg1) (c := WaterfallShare.cells)) (ap h27 (ap (at_some h33).1 (ap (lt_map WaterfallShare.cells (at_some h33).2) (ap (at_map WaterfallShare.cells (at_some h33).2) (ap h34 an)))))) (LoopQ.norm ⟨(wr64 (v24 + 1)), v25, rfl, h⟩)
    · obtain rfl := some_inj h
      exact rK cfg_ok 1 [([], [], [(2, .val (jI (bg1.length : Int)))])] [some false] [] [1] [10] (.exit 0) ((f33r5n2E bg1 (.exit0 v25)).2) (ap (len_cv (xs := bg1) (c := WaterfallShare.cells)) (ap h27 an)) (LoopQ.out rfl rfl)
inductive f33r5n1O where
  | norm (v40 : List WaterfallShare)
def f33r5n1E (bg1 : List WaterfallShare) : f33r5n1O → Ex × Tr × Hp
  | .norm v40 => (.norm, mkS [(10, (.own 0))], [jR 3 WaterfallShare.cells v40])
def f33r5n1S (bg1 : List WaterfallShare) : Tr × Hp := (mkS [(9, (.own 0)), (10, (.pl (.sl .nil 0 [])))], [jR 3 WaterfallShare.cells bg1])
noncomputable def f33r5n1 (bg1 : List WaterfallShare) : Option f33r5n1O :=
  (f33r5n2 FUEL bg1 0 []).bind fun o37 => match o37 with
  | .exit0 v39 => some (.norm v39)
theorem f33r5n1_ok (bg1 : List WaterfallShare) {o : f33r5n1O} (h : (f33r5n1 bg1) = some o) : T Try.prog Try.f33.ntmps 0 (cL (dropC 3 c33)) (f33r5n1S bg1) (fun r => r = f33r5n1E bg1 o) := by
  unfold f33r5n1 at h
  refine rN cfg_ok 1 [j3] [] [.mat 10 3] [0, 1] [9, 10, 11] (f33r5n2S bg1 0 []) an ?_
  obtain ⟨o37, h38, h⟩ := bind_cases h
  cases o37 with
  | exit0 v39 =>
    obtain rfl := some_inj h
    exact T.last' (T.bl (i := 0) (by kernel_rfl) (by kernel_rfl) (f33r5n2_ok FUEL bg1 0 [] h38)) (tds := []) (m := [0]) (keep := [10]) (st2 := (f33r5n1E bg1 (.norm v39)).2) (by kernel_rfl) an rfl
inductive f33r5n0O where
  | ret (v44 : List WaterfallShare)
def f33r5n0E (a1 : Int) (a2 : Int) : f33r5n0O → Ex × Tr × Hp
  | .ret v44 => (.ret, mkS [(8, (.own 0))], [jR 3 WaterfallShare.cells v44])
def f33r5n0S (a1 : Int) (a2 : Int) : Tr × Hp := (initS [(jI a1), (jI a1), (jI a2), (jI a2)] 0 .leaf, [])
noncomputable def f33r5n0 (a1 : Int) (a2 : Int) : Option f33r5n0O :=
  (f33r5n1 [(WaterfallShare.mk 0 str_m a1), (WaterfallShare.mk 1 str_a a1), (WaterfallShare.mk 1 str_b a2), (WaterfallShare.mk 1 str_c a2)]).bind fun o41 => match o41 with
  | .norm v43 => some (.ret v43)
theorem f33r5n0_ok (a1 : Int) (a2 : Int) {o : f33r5n0O} (h : (f33r5n0 a1 a2) = some o) : T Try.prog Try.f33.ntmps 0 c33 (f33r5n0S a1 a2) (fun r => r = f33r5n0E a1 a2 o) := by
  unfold f33r5n0 at h
  refine rN cfg_ok 3 [j3, j3, j3] [] [] [0] [9, 10] (f33r5n1S [(WaterfallShare.mk 0 str_m a1), (WaterfallShare.mk 1 str_a a1), (WaterfallShare.mk 1 str_b a2), (WaterfallShare.mk 1 str_c a2)]) an ?_
  obtain ⟨o41, h42, h⟩ := bind_cases h
  cases o41 with
  | norm v43 =>
    refine T.oneN (by kernel_rfl) (f33r5n1_ok [(WaterfallShare.mk 0 str_m a1), (WaterfallShare.mk 1 str_a a1), (WaterfallShare.mk 1 str_b a2), (WaterfallShare.mk 1 str_c a2)] h42) (st2 := (f33r5n1E [(WaterfallShare.mk 0 str_m a1), (WaterfallShare.mk 1 str_a a1), (WaterfallShare.mk 1 str_b a2), (WaterfallShare.mk 1 str_c a2)] (.norm v43)).2) rfl ?_
    obtain rfl := some_inj h
    exact rE cfg_ok [j3] [] [] [0] [8] (.ret, (f33r5n0E a1 a2 (.ret v43)).2) an rfl
noncomputable def f33r5 (a1 : Int) (a2 : Int) : Option (List WaterfallShare) := (f33r5n0 a1 a2).bind fun o => match o with
  | .ret v44 => some v44
theorem f33r5_ok (a1 : Int) (a2 : Int) {r : List WaterfallShare} (h : (f33r5 a1 a2) = some r) : CallS Try.prog true 33 [(jI a1), (jI a1), (jI a2), (jI a2)] [] (.own 0) [jR 3 WaterfallShare.cells r] := by
  unfold f33r5 at h
  obtain ⟨o, ho, h⟩ := bind_cases h
  cases o with
  | ret v44 =>
    obtain rfl := some_inj h
    exact CallS.shared cfg_ok (f := Try.f33) (c := c33) (by kernel_rfl) (by kernel_rfl) (by kernel_rfl) ((f33r5n0_ok a1 a2 ho).mono fun r e => by subst e; exact ⟨.inl rfl, by kernel_rfl, by kernel_rfl⟩)

noncomputable def c9 : Code := Try.f9.body.getD .skip
inductive f9n6O where
  | norm (v398 : List WaterfallFund)
def f9n6E (bb1 : Int) (ba2 : List WaterfallFund) : f9n6O → Ex × Tr × Hp
  | .norm v398 => (.norm, mkS [(1, (jI bb1)), (2, (.own 0))], [jR 4 WaterfallFund.cells v398])
def f9n6S (bb1 : Int) (ba2 : List WaterfallFund) : Tr × Hp := (mkS [(1, (jI bb1)), (2, (.own 0)), (45, (jI bb1)), (51, (.pl (.bool (decide (bb1 = 1)))))], [jR 4 WaterfallFund.cells ba2])
noncomputable def f9n6 (bb1 : Int) (ba2 : List WaterfallFund) : Option f9n6O :=
  bif (decide (bb1 = 1)) then
    (at? ba2 3).bind fun x366 =>
    some (.norm (ba2.set (Int.toNat 3) (WaterfallFund.mk 10 x366.Owner x366.Size x366.Called)))
  else
    bif (decide (bb1 = 2)) then
      (at? ba2 1).bind fun x384 =>
      some (.norm (ba2.set (Int.toNat 1) (WaterfallFund.mk x384.Level str_b x384.Size x384.Called)))
    else
      bif (decide (bb1 = 3)) then
        (at? ba2 0).bind fun x387 =>
        some (.norm (ba2.set (Int.toNat 0) (WaterfallFund.mk x387.Level x387.Owner (-1) x387.Called)))
      else
        bif (decide (bb1 = 4)) then
          (at? ba2 0).bind fun x390 =>
          some (.norm (ba2.set (Int.toNat 0) (WaterfallFund.mk x390.Level str_x6d206e x390.Size x390.Called)))
        else
          bif (decide (bb1 = 5)) then
            (at? ba2 0).bind fun x393 =>
            some (.norm (ba2.set (Int.toNat 0) (WaterfallFund.mk 2 x393.Owner x393.Size x393.Called)))
          else
            bif (decide (bb1 = 6)) then
              (at? ba2 0).bind fun x396 =>
              some (.norm (ba2.set (Int.toNat 0) (WaterfallFund.mk x396.Level x396.Owner 1125899906842595 x396.Called)))
            else
              some (.norm ba2)
theorem f9n6_ok (bb1 : Int) (ba2 : List WaterfallFund) {o : f9n6O} (h : (f9n6 bb1 ba2) = some o) : T Try.prog Try.f9.ntmps 0 (dropC 1 (cR (dropC 1 (cL (dropC 1 (cL (dropC 1 (cL (cL (dropC 1 (cL (cL (dropC 1 (cL (dropC 1 c9))))))))))))))) (f9n6S bb1 ba2) (fun r => r = f9n6E bb1 ba2 o) := by
  unfold f9n6 at h
  rcases cond_cases h with ⟨h363, h⟩ | ⟨h363, h⟩
  · refine T.condT (o := .tmp 51) (b := (decide (bb1 = 1))) (by kernel_rfl) (by kernel_rfl) h363 ?_
    obtain ⟨x366, h367, h⟩ := bind_cases h
    obtain rfl := some_inj h
    exact rE cfg_ok [([], [(1, .at_ (Int.toNat 3)), (3, .idx 0 (WaterfallFund.cells x366))], [(3, .row 0 ((ba2.set (Int.toNat 3) (WaterfallFund.mk 10 x366.Owner x366.Size x366.Called)).map WaterfallFund.cells))])] [] [] [0] [1, 2] (.norm, (f9n6E bb1 ba2 (.norm (ba2.set (Int.toNat 3) (WaterfallFund.mk 10 x366.Owner x366.Size x366.Called)))).2) (ap (at_some h367).1 (ap (lt_map WaterfallFund.cells (at_some h367).2) (ap (at_map WaterfallFund.cells (at_some h367).2) (ap (set_cv (xs := ba2) (c := WaterfallFund.cells) (k := (Int.toNat 3)) (x := (WaterfallFund.mk 10 x366.Owner x366.Size x366.Called))) an)))) rfl
  · refine T.condF (o := .tmp 51) (b := (decide (bb1 = 1))) (by kernel_rfl) (by kernel_rfl) h363 ?_
    rcases cond_cases h with ⟨h383, h⟩ | ⟨h383, h⟩
    · obtain ⟨x384, h385, h⟩ := bind_cases h
      obtain rfl := some_inj h
      exact rE cfg_ok [j3, ([], [(1, .at_ (Int.toNat 1)), (3, .idx 0 (WaterfallFund.cells x384))], [(3, .row 0 ((ba2.set (Int.toNat 1) (WaterfallFund.mk x384.Level str_b x384.Size x384.Called)).map WaterfallFund.cells))])] [some true] [] [0] [1, 2] (.norm, (f9n6E bb1 ba2 (.norm (ba2.set (Int.toNat 1) (WaterfallFund.mk x384.Level str_b x384.Size x384.Called)))).2) (ap h383 (ap (at_some h385).1 (ap (lt_map WaterfallFund.cells (at_some h385).2) (ap (at_map WaterfallFund.cells (at_some h385).2) (ap (set_cv (xs := ba2) (c := WaterfallFund.cells) (k := (Int.toNat 1)) (x := (WaterfallFund.mk x384.Level str_b x384.Size x384.Called))) an))))) rfl
    · rcases cond_cases h with ⟨h386, h⟩ | ⟨h386, h⟩
      · obtain ⟨x387, h388, h⟩ := bind_cases h
        obtain rfl := some_inj h
        exact rE cfg_ok [j3, j3, ([], [(1, .at_ (Int.toNat 0)), (3, .idx 0 (WaterfallFund.cells x387))], [(3, .row 0 ((ba2.set (Int.toNat 0) (WaterfallFund.mk x387.Level x387.Owner (-1) x387.Called)).map WaterfallFund.cells))])] [some false, some true] [] [0] [1, 2] (.norm, (f9n6E bb1 ba2 (.norm (ba2.set (Int.toNat 0) (WaterfallFund.mk x387.Level x387.Owner (-1) x387.Called)))).2) (ap h383 (ap h386 (ap (at_some h388).1 (ap (lt_map WaterfallFund.cells (at_some h388).2) (ap (at_map WaterfallFund.cells (at_some h388).2) (ap (set_cv (xs := ba2) (c := WaterfallFund.cells) (k := (Int.toNat 0)) (x := (WaterfallFund.mk x387.Level x387.Owner (-1) x387.Called))) an)))))) rfl
      · rcases cond_cases h with ⟨h389, h⟩ | ⟨h389, h⟩
        · obtain ⟨x390, h391, h⟩ := bind_cases h
          obtain rfl := some_inj h
          exact rE cfg_ok [j3, j3, j3, ([], [(1, .at_ (Int.toNat 0)), (3, .idx 0 (WaterfallFund.cells x390))], [(3, .row 0 ((ba2.set (Int.toNat 0) (WaterfallFund.mk x390.Level str_x6d206e x390.Size x390.Called)).map WaterfallFund.cells))])] [some false, some false, some true] [] [0] [1, 2] (.norm, (f9n6E bb1 ba2 (.norm (ba2.set (Int.toNat 0) (WaterfallFund.mk x390.Level str_x6d206e x390.Size x390.Called)))).2) (ap h383 (ap h386 (ap h389 (ap (at_some h391).1 (ap (lt_map WaterfallFund.cells (at_some h391).2) (ap (at_map WaterfallFund.cells (at_some h391).2) (ap (set_cv (xs := ba2) (c := WaterfallFund.cells) (k := (Int.toNat 0)) (x := (WaterfallFund.mk x390.Level str_x6d206e x390.Size x390.Called))) an))))))) rfl
        · rcases cond_cases h with ⟨h392, h⟩ | ⟨h392, h⟩
          · obtain ⟨x393, h394, h⟩ := bind_cases h
            obtain rfl := some_inj h
            exact rE cfg_ok [j3, j3, j3, j3, ([], [(1, .at_ (Int.toNat 0)), (3, .idx 0 (WaterfallFund.cells x393))], [(3, .row 0 ((ba2.set (Int.toNat 0) (WaterfallFund.mk 2 x393.Owner x393.Size x393.Called)).map WaterfallFund.cells))])] [some false, some false, some false, some true] [] [0] [1, 2] (.norm, (f9n6E bb1 ba2 (.norm (ba2.set (Int.toNat 0) (WaterfallFund.mk 2 x393.Owner x393.Size x393.Called)))).2) (ap h383 (ap h386 (ap h389 (ap h392 (ap (at_some h394).1 (ap (lt_map WaterfallFund.cells (at_some h394).2) (ap (at_map WaterfallFund.cells (at_some h394).2) (ap (set_cv (xs := ba2) (c := WaterfallFund.cells) (k := (Int.toNat 0)) (x := (WaterfallFund.mk 2 x393.Owner x393.Size x393.Called))) an)))))))) rfl
          · rcases cond_cases h with ⟨h395, h⟩ | ⟨h395, h⟩
            · obtain ⟨x396, h397, h⟩ := bind_cases h
              obtain rfl := some_inj h
              exact rE cfg_ok [j3, j3, j3, j3, j3, ([], [(1, .at_ (Int.toNat 0)), (3, .idx 0 (WaterfallFund.cells x396))], [(3, .row 0 ((ba2.set (Int.toNat 0) (WaterfallFund.mk x396.Level x396.Owner 1125899906842595 x396.Called)).map WaterfallFund.cells))])] [some false, some false, some false, some false, some true] [] [0] [1, 2] (.norm, (f9n6E bb1 ba2 (.norm (ba2.set (Int.toNat 0) (WaterfallFund.mk x396.Level x396.Owner 1125899906842595 x396.Called)))).2) (ap h383 (ap h386 (ap h389 (ap h392 (ap h395 (ap (at_some h397).1 (ap (lt_map WaterfallFund.cells (at_some h397).2) (ap (at_map WaterfallFund.cells (at_some h397).2) (ap (set_cv (xs := ba2) (c := WaterfallFund.cells) (k := (Int.toNat 0)) (x := (WaterfallFund.mk x396.Level x396.Owner 1125899906842595 x396.Called))) an))))))))) rfl
            · obtain rfl := some_inj h
              exact rE cfg_ok [j3, j3, j3, j3, j3] [some false, some false, some false, some false, some false] [] [0] [1, 2] (.norm, (f9n6E bb1 ba2 (.norm ba2)).2) (ap h383 (ap h386 (ap h389 (ap h392 (ap h395 an))))) rfl
inductive f9n5O where
  | norm (v402 : List WaterfallFund)
def f9n5E (bb1 : Int) (ba2 : List WaterfallFund) : f9n5O → Ex × Tr × Hp
  | .norm v402 => (.norm, mkS [(1, (jI bb1)), (2, (.own 0))], [jR 4 WaterfallFund.cells v402])
def f9n5S (bb1 : Int) (ba2 : List WaterfallFund) : Tr × Hp := (mkS [(1, (jI bb1)), (2, (.own 0)), (45, (jI bb1)), (46, (.pl (.bool (decide (bb1 = 0)))))], [jR 4 WaterfallFund.cells ba2])
noncomputable def f9n5 (bb1 : Int) (ba2 : List WaterfallFund) : Option f9n5O :=
  bif (decide (bb1 = 0)) then
    (at? ba2 0).bind fun x343 =>
    some (.norm (ba2.set (Int.toNat 0) (WaterfallFund.mk (-1) x343.Owner x343.Size x343.Called)))
  else
    (f9n6 bb1 ba2).bind fun o399 => match o399 with
    | .norm v401 => some (.norm v401)
theorem f9n5_ok (bb1 : Int) (ba2 : List WaterfallFund) {o : f9n5O} (h : (f9n5 bb1 ba2) = some o) : T Try.prog Try.f9.ntmps 0 (dropC 1 (cL (dropC 1 (cL (dropC 1 (cL (cL (dropC 1 (cL (cL (dropC 1 (cL (dropC 1 c9))))))))))))) (f9n5S bb1 ba2) (fun r => r = f9n5E bb1 ba2 o) := by
  unfold f9n5 at h
  rcases cond_cases h with ⟨h340, h⟩ | ⟨h340, h⟩
  · refine T.condT (o := .tmp 46) (b := (decide (bb1 = 0))) (by kernel_rfl) (by kernel_rfl) h340 ?_
    obtain ⟨x343, h344, h⟩ := bind_cases h
    obtain rfl := some_inj h
    exact rE cfg_ok [([], [(1, .at_ (Int.toNat 0)), (3, .idx 0 (WaterfallFund.cells x343))], [(3, .row 0 ((ba2.set (Int.toNat 0) (WaterfallFund.mk (-1) x343.Owner x343.Size x343.Called)).map WaterfallFund.cells))])] [] [] [0] [1, 2] (.norm, (f9n5E bb1 ba2 (.norm (ba2.set (Int.toNat 0) (WaterfallFund.mk (-1) x343.Owner x343.Size x343.Called)))).2) (ap (at_some h344).1 (ap (lt_map WaterfallFund.cells (at_some h344).2) (ap (at_map WaterfallFund.cells (at_some h344).2) (ap (set_cv (xs := ba2) (c := WaterfallFund.cells) (k := (Int.toNat 0)) (x := (WaterfallFund.mk (-1) x343.Owner x343.Size x343.Called))) an)))) rfl
  · refine T.condF (o := .tmp 46) (b := (decide (bb1 = 0))) (by kernel_rfl) (by kernel_rfl) h340 ?_
    refine rN cfg_ok 1 [j3] [] [] [0] [1, 2, 45, 51] (f9n6S bb1 ba2) an ?_
    obtain ⟨o399, h400, h⟩ := bind_cases h
    cases o399 with
    | norm v401 =>
      obtain rfl := some_inj h
      exact T.last' (f9n6_ok bb1 ba2 h400) (tds := []) (m := [0]) (keep := [1, 2]) (st2 := (f9n5E bb1 ba2 (.norm v401)).2) (by kernel_rfl) an rfl
inductive f9n4O where
  | norm (v406 : List WaterfallFund)
def f9n4E (bb1 : Int) (ba2 : List WaterfallFund) : f9n4O → Ex × Tr × Hp
  | .norm v406 => (.norm, mkS [(1, (jI bb1)), (2, (.own 0))], [jR 4 WaterfallFund.cells v406])
def f9n4S (bb1 : Int) (ba2 : List WaterfallFund) : Tr × Hp := (mkS [(1, (jI bb1)), (2, (.own 0)), (45, (jI bb1))], [jR 4 WaterfallFund.cells ba2])
noncomputable def f9n4 (bb1 : Int) (ba2 : List WaterfallFund) : Option f9n4O :=
  (f9n5 bb1 ba2).bind fun o403 => match o403 with
  | .norm v405 => some (.norm v405)
theorem f9n4_ok (bb1 : Int) (ba2 : List WaterfallFund) {o : f9n4O} (h : (f9n4 bb1 ba2) = some o) : T Try.prog Try.f9.ntmps 0 (dropC 1 (cL (dropC 1 (cL (cL (dropC 1 (cL (cL (dropC 1 (cL (dropC 1 c9))))))))))) (f9n4S bb1 ba2) (fun r => r = f9n4E bb1 ba2 o) := by
  unfold f9n4 at h
  refine T.block' (i := 2) (by kernel_rfl) ?_
  refine rN cfg_ok 1 [j3] [] [] [0] [1, 2, 45, 46] (f9n5S bb1 ba2) an ?_
  obtain ⟨o403, h404, h⟩ := bind_cases h
  cases o403 with
  | norm v405 =>
    obtain rfl := some_inj h
    exact T.last' (f9n5_ok bb1 ba2 h404) (tds := []) (m := [0]) (keep := [1, 2]) (st2 := (f9n4E bb1 ba2 (.norm v405)).2) (by kernel_rfl) an rfl
inductive f9n3O where
  | norm (v410 : List WaterfallFund)
def f9n3E (bb1 : Int) (ba2 : List WaterfallFund) : f9n3O → Ex × Tr × Hp
  | .norm v410 => (.norm, mkS [(1, (jI bb1)), (2, (.own 0))], [jR 4 WaterfallFund.cells v410])
def f9n3S (bb1 : Int) (ba2 : List WaterfallFund) : Tr × Hp := (mkS [(1, (jI bb1)), (2, (.own 0))], [jR 4 WaterfallFund.cells ba2])
noncomputable def f9n3 (bb1 : Int) (ba2 : List WaterfallFund) : Option f9n3O :=
  (f9n4 bb1 ba2).bind fun o407 => match o407 with
  | .norm v409 => some (.norm v409)
theorem f9n3_ok (bb1 : Int) (ba2 : List WaterfallFund) {o : f9n3O} (h : (f9n3 bb1 ba2) = some o) : T Try.prog Try.f9.ntmps 0 (cL (dropC 1 (cL (cL (dropC 1 (cL (cL (dropC 1 (cL (dropC 1 c9)))))))))) (f9n3S bb1 ba2) (fun r => r = f9n3E bb1 ba2 o) := by
  unfold f9n3 at h
  refine rN cfg_ok 1 [j3] [] [] [0] [1, 2, 45] (f9n4S bb1 ba2) an ?_
  obtain ⟨o407, h408, h⟩ := bind_cases h
  cases o407 with
  | norm v409 =>
    obtain rfl := some_inj h
    exact T.last' (f9n4_ok bb1 ba2 h408) (tds := []) (m := [0]) (keep := [1, 2]) (st2 := (f9n3E bb1 ba2 (.norm v409)).2) (by kernel_rfl) an rfl
inductive f9n7O where
  | norm (v427 : Bool)
def f9n7E (bb1 : Int) (ba2 : List WaterfallFund) (bi3 : (List WaterfallShare) × Int × Int) : f9n7O → Ex × Tr × Hp
  | .norm v427 => (.norm, mkS [(1, (jI bb1)), (93, (jB v427))], [])
def f9n7S (bb1 : Int) (ba2 : List WaterfallFund) (bi3 : (List WaterfallShare) × Int × Int) : Tr × Hp := (mkS [(1, (jI bb1)), (2, (jL 4 WaterfallFund.cells ba2)), (5, (jI bi3.2.2))], [])
noncomputable def f9n7 (bb1 : Int) (ba2 : List WaterfallFund) (bi3 : (List WaterfallShare) × Int × Int) : Option f9n7O :=
  (f23 ba2).bind fun x424 =>
  bif (decide (x424 = 8)) then
    some (.norm (!(decide (bi3.2.2 = 8))))
  else
    some (.norm true)
theorem f9n7_ok (bb1 : Int) (ba2 : List WaterfallFund) (bi3 : (List WaterfallShare) × Int × Int) {o : f9n7O} (h : (f9n7 bb1 ba2 bi3) = some o) : T Try.prog Try.f9.ntmps 0 (cL (dropC 1 (dropC 1 (dropC 1 (cL (cL (dropC 1 (cL (cL (dropC 1 (cL (dropC 1 c9)))))))))))) (f9n7S bb1 ba2 bi3) (fun r => r = f9n7E bb1 ba2 bi3 o) := by
  unfold f9n7 at h
  obtain ⟨x424, h425, h⟩ := bind_cases h
  rcases cond_cases h with ⟨h426, h⟩ | ⟨h426, h⟩
  · obtain rfl := some_inj h
    exact rE cfg_ok [([(4, false), (5, false)], [jH 1 (jI x424), (6, .bool false)], [])] [] [] [] [1, 93] (.norm, (f9n7E bb1 ba2 bi3 (.norm (!(decide (bi3.2.2 = 8))))).2) (ap3 (not_t h426) (ap (f23_ok ba2 h425) an)) rfl
  · obtain rfl := some_inj h
    exact rE cfg_ok [([(4, true), (5, true)], [jH 1 (jI x424), (6, .bool true)], [])] [] [] [] [1, 93] (.norm, (f9n7E bb1 ba2 bi3 (.norm true)).2) (ap3 (not_f h426) (ap (f23_ok ba2 h425) an)) rfl
inductive f9n2O where
  | norm
  | ret
def f9n2E (bb1 : Int) : f9n2O → Ex × Tr × Hp
  | .norm => (.norm, mkS [(1, (jI bb1))], [])
  | .ret => (.ret, mkS [(0, (jB false))], [])
def f9n2S (bb1 : Int) : Tr × Hp := (mkS [(1, (jI bb1))], [])
noncomputable def f9n2 (bb1 : Int) : Option f9n2O :=
  f32r1.bind fun x288 =>
  (f9n3 bb1 [(WaterfallFund.mk 0 str_m 10 false), (WaterfallFund.mk 1 str_a 5 false), (WaterfallFund.mk 1 str_b 5 true), (WaterfallFund.mk 1 str_c 20 false)]).bind fun o411 => match o411 with
  | .norm v413 => (f13 v413 1).bind fun x416 =>
    (f9n7 bb1 v413 x416).bind fun o428 => match o428 with
    | .norm v430 => bif v430 then
        some .ret
      else
        some .norm
theorem f9n2_ok (bb1 : Int) {o : f9n2O} (h : (f9n2 bb1) = some o) : T Try.prog Try.f9.ntmps 0 (cL (dropC 1 (cL (cL (dropC 1 (cL (dropC 1 c9))))))) (f9n2S bb1) (fun r => r = f9n2E bb1 o) := by
  unfold f9n2 at h
  refine T.block' (i := 1) (by kernel_rfl) ?_
  obtain ⟨x288, h289, h⟩ := bind_cases h
  refine rN cfg_ok 1 [([], [(0, .call (.own 0) [some (.row false 4 ([(WaterfallFund.mk 0 str_m 10 false), (WaterfallFund.mk 1 str_a 5 false), (WaterfallFund.mk 1 str_b 5 true), (WaterfallFund.mk 1 str_c 20 false)].map WaterfallFund.cells))])], [])] [] [] [0] [1, 2] (f9n3S bb1 [(WaterfallFund.mk 0 str_m 10 false), (WaterfallFund.mk 1 str_a 5 false), (WaterfallFund.mk 1 str_b 5 true), (WaterfallFund.mk 1 str_c 20 false)]) (ap (f32r1_ok h289) an) ?_
  obtain ⟨o411, h412, h⟩ := bind_cases h
  cases o411 with
  | norm v413 =>
    refine T.oneN (by kernel_rfl) (f9n3_ok bb1 [(WaterfallFund.mk 0 str_m 10 false), (WaterfallFund.mk 1 str_a 5 false), (WaterfallFund.mk 1 str_b 5 true), (WaterfallFund.mk 1 str_c 20 false)] h412) (st2 := (f9n3E bb1 [(WaterfallFund.mk 0 str_m 10 false), (WaterfallFund.mk 1 str_a 5 false), (WaterfallFund.mk 1 str_b 5 true), (WaterfallFund.mk 1 str_c 20 false)] (.norm v413)).2) rfl ?_
    obtain ⟨x416, h417, h⟩ := bind_cases h
    refine rN cfg_ok 1 [([], [jH 1 (.tup [(jL 3 WaterfallShare.cells x416.1), (jI x416.2.1), (jI x416.2.2)])], [])] [] [.frz 2] [] [1, 2, 5] (f9n7S bb1 v413 x416) (ap (f13_ok v413 1 h417) an) ?_
    obtain ⟨o428, h429, h⟩ := bind_cases h
    cases o428 with
    | norm v430 =>
      refine T.oneN (by kernel_rfl) (f9n7_ok bb1 v413 x416 h429) (st2 := (f9n7E bb1 v413 x416 (.norm v430)).2) rfl ?_
      rcases cond_cases h with ⟨h432, h⟩ | ⟨h432, h⟩
      · obtain rfl := some_inj h
        exact rE cfg_ok [j3] [some true] [] [] [0] (.ret, (f9n2E bb1 .ret).2) (ap h432 an) rfl
      · obtain rfl := some_inj h
        exact rE cfg_ok [] [some false] [] [] [1] (.norm, (f9n2E bb1 .norm).2) (ap h432 an) rfl
inductive f9n8O where
  | exit0
  | ret
def f9n8E : f9n8O → Ex × Tr × Hp
  | .exit0 => ((.exit 0), mkS [], [])
  | .ret => (.ret, mkS [(0, (jB false))], [])
def f9n8S (v226 : Int) : Tr × Hp := (mkS [(1, (jI v226))], [])
noncomputable def f9n8 : Nat → Int → Option f9n8O
  | 0, _ => none
  | f + 1, v226 =>
    bif (decide (v226 < 7)) then
      (f9n2 v226).bind fun o433 => match o433 with
      | .norm => (f9n8 f (wr64 (v226 + 1)))
      | .ret => some .ret
    else
      some .exit0
theorem f9n8_ok : ∀ (f : Nat) (v226 : Int) {o : f9n8O}, (f9n8 f v226) = some o → TL Try.prog Try.f9.ntmps 0 f (cL (cL (dropC 1 (cL (dropC 1 c9))))) (f9n8S v226) (fun r => r = f9n8E o)
  | 0, _, o, h => by rw [f9n8] at h; cases h
  | f + 1, v226, o, h => by
    rw [f9n8] at h
    refine TL.body (K := fun s => ∃ v226 : Int, s = (f9n8S v226) ∧ (f9n8 f v226) = some o) ?_ (by rintro _ ⟨v226, rfl, hk⟩; exact f9n8_ok f _ hk)
    rcases cond_cases h with ⟨h228, h⟩ | ⟨h228, h⟩
    · refine rN cfg_ok 1 [j3] [some true] [] [] [1] (f9n2S v226) (ap h228 an) ?_
      obtain ⟨o433, h434, h⟩ := bind_cases h
      cases o433 with
      | norm =>
        refine T.oneN (by kernel_rfl) (f9n2_ok v226 h434) (st2 := (f9n2E v226 .norm).2) rfl ?_
        exact rE cfg_ok [j3] [] [] [] [1] (.norm, (f9n8S (wr64 (v226 + 1)))) an (LoopQ.norm ⟨(wr64 (v226 + 1)), rfl, h⟩)
      | ret =>
        obtain rfl := some_inj h
        exact T.oneX' (by kernel_rfl) (f9n2_ok v226 h434) (tds := []) (m := []) (keep := [0]) (st2 := (f9n8E .ret).2) (by kernel_rfl) an rfl (LoopQ.out rfl rfl)
    · obtain rfl := some_inj h
      exact rK cfg_ok 1 [j3] [some false] [] [] [] (.exit 0) ((f9n8E .exit0).2) (ap h228 an) (LoopQ.out rfl rfl)
inductive f9n1O where
  | norm
  | ret
def f9n1E : f9n1O → Ex × Tr × Hp
  | .norm => (.norm, mkS [], [])
  | .ret => (.ret, mkS [(0, (jB false))], [])
def f9n1S : Tr × Hp := (mkS [], [])
noncomputable def f9n1 : Option f9n1O :=
  (f9n8 FUEL 0).bind fun o435 => match o435 with
  | .exit0 => some .norm
  | .ret => some .ret
theorem f9n1_ok {o : f9n1O} (h : f9n1 = some o) : T Try.prog Try.f9.ntmps 0 (cL (dropC 1 c9)) f9n1S (fun r => r = f9n1E o) := by
  unfold f9n1 at h
  refine rN cfg_ok 1 [j3] [] [] [] [1] (f9n8S 0) an ?_
  obtain ⟨o435, h436, h⟩ := bind_cases h
  cases o435 with
  | exit0 =>
    obtain rfl := some_inj h
    exact T.last' (T.bl (i := 0) (by kernel_rfl) (by kernel_rfl) (f9n8_ok FUEL 0 h436)) (tds := []) (m := []) (keep := []) (st2 := (f9n1E .norm).2) (by kernel_rfl) an rfl
  | ret =>
    obtain rfl := some_inj h
    exact T.last' (T.bl (i := 0) (by kernel_rfl) (by kernel_rfl) (f9n8_ok FUEL 0 h436)) (tds := []) (m := []) (keep := [0]) (st2 := (f9n1E .ret).2) (by kernel_rfl) an rfl
inductive f9n9O where
  | norm (v1751 : Bool)
def f9n9E (bi1 : (List WaterfallShare) × Int × Int) (bi2 : (List WaterfallShare) × Int × Int) (bi3 : (List WaterfallShare) × Int × Int) (bo4 : Int × (List WaterfallFund)) (bo5 : Int × (List WaterfallFund)) (bo6 : Int × (List WaterfallFund)) (bo7 : Int × (List WaterfallFund)) (bo8 : Int × (List WaterfallFund)) (bq9 : Int × Int) (bl10 : Int × Int × (List WaterfallShare)) (bl11 : Int × Int × (List WaterfallShare)) (bq12 : Int × Int) (bq13 : Int × Int) : f9n9O → Ex × Tr × Hp
  | .norm v1751 => (.norm, mkS [(23, (.own 0)), (29, (jI bl10.2.1)), (30, (.own 1)), (31, (jI bl11.1)), (32, (jI bl11.2.1)), (33, (jI bq12.1)), (34, (jI bq12.2)), (36, (jI bq13.1)), (37, (jI bq13.2)), (38, (jB v1751))], [jR 4 WaterfallFund.cells bo8.2, jR 3 WaterfallShare.cells bl11.2.2])
def f9n9S (bi1 : (List WaterfallShare) × Int × Int) (bi2 : (List WaterfallShare) × Int × Int) (bi3 : (List WaterfallShare) × Int × Int) (bo4 : Int × (List WaterfallFund)) (bo5 : Int × (List WaterfallFund)) (bo6 : Int × (List WaterfallFund)) (bo7 : Int × (List WaterfallFund)) (bo8 : Int × (List WaterfallFund)) (bq9 : Int × Int) (bl10 : Int × Int × (List WaterfallShare)) (bl11 : Int × Int × (List WaterfallShare)) (bq12 : Int × Int) (bq13 : Int × Int) : Tr × Hp := (mkS [(8, (jI bi1.2.2)), (11, (jI bi2.2.2)), (12, (jL 3 WaterfallShare.cells bi3.1)), (13, (jI bi3.2.1)), (14, (jI bi3.2.2)), (16, (jI bo4.1)), (18, (jI bo5.1)), (20, (jI bo6.1)), (22, (jI bo7.1)), (23, (.own 0)), (24, (jI bo8.1)), (25, (jI bq9.1)), (26, (jI bq9.2)), (29, (jI bl10.2.1)), (30, (.own 1)), (31, (jI bl11.1)), (32, (jI bl11.2.1)), (33, (jI bq12.1)), (34, (jI bq12.2)), (36, (jI bq13.1)), (37, (jI bq13.2))], [jR 4 WaterfallFund.cells bo8.2, jR 3 WaterfallShare.cells bl11.2.2])
noncomputable def f9n9 (bi1 : (List WaterfallShare) × Int × Int) (bi2 : (List WaterfallShare) × Int × Int) (bi3 : (List WaterfallShare) × Int × Int) (bo4 : Int × (List WaterfallFund)) (bo5 : Int × (List WaterfallFund)) (bo6 : Int × (List WaterfallFund)) (bo7 : Int × (List WaterfallFund)) (bo8 : Int × (List WaterfallFund)) (bq9 : Int × Int) (bl10 : Int × Int × (List WaterfallShare)) (bl11 : Int × Int × (List WaterfallShare)) (bq12 : Int × Int) (bq13 : Int × Int) : Option f9n9O :=
  bif (decide (bi1.2.2 = 2)) then
    bif (decide (bi2.2.2 = 2)) then
      bif (decide (bi3.2.2 = 0)) then
        bif (decide ((bi3.1.length : Int) = 0)) then
          bif (decide (bi3.2.1 = 0)) then
            bif (decide (bo4.1 = 6)) then
              bif (decide (bo5.1 = 50)) then
                bif (decide (bo6.1 = 6)) then
                  bif (decide (bo7.1 = 2)) then
                    bif (decide (bo8.1 = 0)) then
                      bif (decide ((bo8.2.length : Int) = 4)) then
                        bif (decide (bq9.2 = 0)) then
                          some (.norm (decide (bq9.1 = 2)))
                        else
                          some (.norm false)
                      else
                        some (.norm false)
                    else
                      some (.norm false)
                  else
                    some (.norm false)
                else
                  some (.norm false)
              else
                some (.norm false)
            else
              some (.norm false)
          else
            some (.norm false)
        else
          some (.norm false)
      else
        some (.norm false)
    else
      some (.norm false)
  else
    some (.norm false)
theorem f9n9_ok (bi1 : (List WaterfallShare) × Int × Int) (bi2 : (List WaterfallShare) × Int × Int) (bi3 : (List WaterfallShare) × Int × Int) (bo4 : Int × (List WaterfallFund)) (bo5 : Int × (List WaterfallFund)) (bo6 : Int × (List WaterfallFund)) (bo7 : Int × (List WaterfallFund)) (bo8 : Int × (List WaterfallFund)) (bq9 : Int × Int) (bl10 : Int × Int × (List WaterfallShare)) (bl11 : Int × Int × (List WaterfallShare)) (bq12 : Int × Int) (bq13 : Int × Int) {o : f9n9O} (h : (f9n9 bi1 bi2 bi3 bo4 bo5 bo6 bo7 bo8 bq9 bl10 bl11 bq12 bq13) = some o) : T Try.prog Try.f9.ntmps 0 (cL (dropC 2 (dropC 2 (dropC 2 (dropC 1 (dropC 1 (dropC 1 (dropC 1 (dropC 1 (dropC 2 (dropC 2 (dropC 1 (dropC 1 c9))))))))))))) (f9n9S bi1 bi2 bi3 bo4 bo5 bo6 bo7 bo8 bq9 bl10 bl11 bq12 bq13) (fun r => r = f9n9E bi1 bi2 bi3 bo4 bo5 bo6 bo7 bo8 bq9 bl10 bl11 bq12 bq13 o) := by
  unfold f9n9 at h
  rcases cond_cases h with ⟨h1739, h⟩ | ⟨h1739, h⟩
  · rcases cond_cases h with ⟨h1740, h⟩ | ⟨h1740, h⟩
    · rcases cond_cases h with ⟨h1741, h⟩ | ⟨h1741, h⟩
      · rcases cond_cases h with ⟨h1742, h⟩ | ⟨h1742, h⟩
        · rcases cond_cases h with ⟨h1743, h⟩ | ⟨h1743, h⟩
          · rcases cond_cases h with ⟨h1744, h⟩ | ⟨h1744, h⟩
            · rcases cond_cases h with ⟨h1745, h⟩ | ⟨h1745, h⟩
              · rcases cond_cases h with ⟨h1746, h⟩ | ⟨h1746, h⟩
                · rcases cond_cases h with ⟨h1747, h⟩ | ⟨h1747, h⟩
                  · rcases cond_cases h with ⟨h1748, h⟩ | ⟨h1748, h⟩
                    · rcases cond_cases h with ⟨h1749, h⟩ | ⟨h1749, h⟩
                      · rcases cond_cases h with ⟨h1750, h⟩ | ⟨h1750, h⟩
                        · obtain rfl := some_inj h
                          exact rE cfg_ok [(jT [3, 4, 7, 8, 11, 12, 13, 16, 17, 20, 21, 24, 25, 28, 29, 32, 33, 36, 37, 40, 41, 42, 45, 46, 49, 50], [(5, .bool true), (9, .bool true), (14, .bool true), (18, .bool true), (22, .bool true), (26, .bool true), (30, .bool true), (34, .bool true), (38, .bool true), (43, .bool true), (47, .bool true), (51, .bool true)], [(12, .val (jI (bi3.1.length : Int))), (41, .val (jI (bo8.2.length : Int)))])] [] [] [0, 1] [23, 29, 30, 31, 32, 33, 34, 36, 37, 38] (.norm, (f9n9E bi1 bi2 bi3 bo4 bo5 bo6 bo7 bo8 bq9 bl10 bl11 bq12 bq13 (.norm (decide (bq9.1 = 2)))).2) (ap3 h1739 (ap3 h1740 (ap2 h1741 (ap (len_cv (xs := bi3.1) (c := WaterfallShare.cells)) (ap2 h1741 (ap3 h1742 (ap3 h1743 (ap3 h1744 (ap3 h1745 (ap3 h1746 (ap3 h1747 (ap2 h1748 (ap (len_cv (xs := bo8.2) (c := WaterfallFund.cells)) (ap2 h1748 (ap3 h1749 (ap3 h1750 an)))))))))))))))) rfl
                        · obtain rfl := some_inj h
                          exact rE cfg_ok [(jF [49, 50] ++ jT [3, 4, 7, 8, 11, 12, 13, 16, 17, 20, 21, 24, 25, 28, 29, 32, 33, 36, 37, 40, 41, 42, 45, 46], [(5, .bool true), (9, .bool true), (14, .bool true), (18, .bool true), (22, .bool true), (26, .bool true), (30, .bool true), (34, .bool true), (38, .bool true), (43, .bool true), (47, .bool true), (51, .bool false)], [(12, .val (jI (bi3.1.length : Int))), (41, .val (jI (bo8.2.length : Int)))])] [] [] [0, 1] [23, 29, 30, 31, 32, 33, 34, 36, 37, 38] (.norm, (f9n9E bi1 bi2 bi3 bo4 bo5 bo6 bo7 bo8 bq9 bl10 bl11 bq12 bq13 (.norm false)).2) (ap3 h1739 (ap3 h1740 (ap2 h1741 (ap (len_cv (xs := bi3.1) (c := WaterfallShare.cells)) (ap2 h1741 (ap3 h1742 (ap3 h1743 (ap3 h1744 (ap3 h1745 (ap3 h1746 (ap3 h1747 (ap2 h1748 (ap (len_cv (xs := bo8.2) (c := WaterfallFund.cells)) (ap2 h1748 (ap3 h1749 (ap3 h1750 an)))))))))))))))) rfl
                      · obtain rfl := some_inj h
                        exact rE cfg_ok [(jF [45, 46] ++ jT [3, 4, 7, 8, 11, 12, 13, 16, 17, 20, 21, 24, 25, 28, 29, 32, 33, 36, 37, 40, 41, 42], [(5, .bool true), (9, .bool true), (14, .bool true), (18, .bool true), (22, .bool true), (26, .bool true), (30, .bool true), (34, .bool true), (38, .bool true), (43, .bool true), (47, .bool false)], [(12, .val (jI (bi3.1.length : Int))), (41, .val (jI (bo8.2.length : Int)))])] [] [] [0, 1] [23, 29, 30, 31, 32, 33, 34, 36, 37, 38] (.norm, (f9n9E bi1 bi2 bi3 bo4 bo5 bo6 bo7 bo8 bq9 bl10 bl11 bq12 bq13 (.norm false)).2) (ap3 h1739 (ap3 h1740 (ap2 h1741 (ap (len_cv (xs := bi3.1) (c := WaterfallShare.cells)) (ap2 h1741 (ap3 h1742 (ap3 h1743 (ap3 h1744 (ap3 h1745 (ap3 h1746 (ap3 h1747 (ap2 h1748 (ap (len_cv (xs := bo8.2) (c := WaterfallFund.cells)) (ap2 h1748 (ap3 h1749 an))))))))))))))) rfl
                    · obtain rfl := some_inj h
                      exact rE cfg_ok [(jF [40, 41, 42] ++ jT [3, 4, 7, 8, 11, 12, 13, 16, 17, 20, 21, 24, 25, 28, 29, 32, 33, 36, 37], [(5, .bool true), (9, .bool true), (14, .bool true), (18, .bool true), (22, .bool true), (26, .bool true), (30, .bool true), (34, .bool true), (38, .bool true), (43, .bool false)], [(12, .val (jI (bi3.1.length : Int)))])] [] [] [0, 1] [23, 29, 30, 31, 32, 33, 34, 36, 37, 38] (.norm, (f9n9E bi1 bi2 bi3 bo4 bo5 bo6 bo7 bo8 bq9 bl10 bl11 bq12 bq13 (.norm false)).2) (ap3 h1739 (ap3 h1740 (ap2 h1741 (ap (len_cv (xs := bi3.1) (c := WaterfallShare.cells)) (ap2 h1741 (ap3 h1742 (ap3 h1743 (ap3 h1744 (ap3 h1745 (ap3 h1746 (ap3 h1747 (ap4 h1748 an)))))))))))) rfl
                  · obtain rfl := some_inj h
                    exact rE cfg_ok [(jF [36, 37] ++ jT [3, 4, 7, 8, 11, 12, 13, 16, 17, 20, 21, 24, 25, 28, 29, 32, 33], [(5, .bool true), (9, .bool true), (14, .bool true), (18, .bool true), (22, .bool true), (26, .bool true), (30, .bool true), (34, .bool true), (38, .bool false)], [(12, .val (jI (bi3.1.length : Int)))])] [] [] [0, 1] [23, 29, 30, 31, 32, 33, 34, 36, 37, 38] (.norm, (f9n9E bi1 bi2 bi3 bo4 bo5 bo6 bo7 bo8 bq9 bl10 bl11 bq12 bq13 (.norm false)).2) (ap3 h1739 (ap3 h1740 (ap2 h1741 (ap (len_cv (xs := bi3.1) (c := WaterfallShare.cells)) (ap2 h1741 (ap3 h1742 (ap3 h1743 (ap3 h1744 (ap3 h1745 (ap3 h1746 (ap3 h1747 an))))))))))) rfl
                · obtain rfl := some_inj h
                  exact rE cfg_ok [(jF [32, 33] ++ jT [3, 4, 7, 8, 11, 12, 13, 16, 17, 20, 21, 24, 25, 28, 29], [(5, .bool true), (9, .bool true), (14, .bool true), (18, .bool true), (22, .bool true), (26, .bool true), (30, .bool true), (34, .bool false)], [(12, .val (jI (bi3.1.length : Int)))])] [] [] [0, 1] [23, 29, 30, 31, 32, 33, 34, 36, 37, 38] (.norm, (f9n9E bi1 bi2 bi3 bo4 bo5 bo6 bo7 bo8 bq9 bl10 bl11 bq12 bq13 (.norm false)).2) (ap3 h1739 (ap3 h1740 (ap2 h1741 (ap (len_cv (xs := bi3.1) (c := WaterfallShare.cells)) (ap2 h1741 (ap3 h1742 (ap3 h1743 (ap3 h1744 (ap3 h1745 (ap3 h1746 an)))))))))) rfl
              · obtain rfl := some_inj h
                exact rE cfg_ok [(jF [28, 29] ++ jT [3, 4, 7, 8, 11, 12, 13, 16, 17, 20, 21, 24, 25], [(5, .bool true), (9, .bool true), (14, .bool true), (18, .bool true), (22, .bool true), (26, .bool true), (30, .bool false)], [(12, .val (jI (bi3.1.length : Int)))])] [] [] [0, 1] [23, 29, 30, 31, 32, 33, 34, 36, 37, 38] (.norm, (f9n9E bi1 bi2 bi3 bo4 bo5 bo6 bo7 bo8 bq9 bl10 bl11 bq12 bq13 (.norm false)).2) (ap3 h1739 (ap3 h1740 (ap2 h1741 (ap (len_cv (xs := bi3.1) (c := WaterfallShare.cells)) (ap2 h1741 (ap3 h1742 (ap3 h1743 (ap3 h1744 (ap3 h1745 an))))))))) rfl
            · obtain rfl := some_inj h
              exact rE cfg_ok [(jF [24, 25] ++ jT [3, 4, 7, 8, 11, 12, 13, 16, 17, 20, 21], [(5, .bool true), (9, .bool true), (14, .bool true), (18, .bool true), (22, .bool true), (26, .bool false)], [(12, .val (jI (bi3.1.length : Int)))])] [] [] [0, 1] [23, 29, 30, 31, 32, 33, 34, 36, 37, 38] (.norm, (f9n9E bi1 bi2 bi3 bo4 bo5 bo6 bo7 bo8 bq9 bl10 bl11 bq12 bq13 (.norm false)).2) (ap3 h1739 (ap3 h1740 (ap2 h1741 (ap (len_cv (xs := bi3.1) (c := WaterfallShare.cells)) (ap2 h1741 (ap3 h1742 (ap3 h1743 (ap3 h1744 an)))))))) rfl
          · obtain rfl := some_inj h
            exact rE cfg_ok [(jF [20, 21] ++ jT [3, 4, 7, 8, 11, 12, 13, 16, 17], [(5, .bool true), (9, .bool true), (14, .bool true), (18, .bool true), (22, .bool false)], [(12, .val (jI (bi3.1.length : Int)))])] [] [] [0, 1] [23, 29, 30, 31, 32, 33, 34, 36, 37, 38] (.norm, (f9n9E bi1 bi2 bi3 bo4 bo5 bo6 bo7 bo8 bq9 bl10 bl11 bq12 bq13 (.norm false)).2) (ap3 h1739 (ap3 h1740 (ap2 h1741 (ap (len_cv (xs := bi3.1) (c := WaterfallShare.cells)) (ap2 h1741 (ap3 h1742 (ap3 h1743 an))))))) rfl
        · obtain rfl := some_inj h
          exact rE cfg_ok [(jF [16, 17] ++ jT [3, 4, 7, 8, 11, 12, 13], [(5, .bool true), (9, .bool true), (14, .bool true), (18, .bool false)], [(12, .val (jI (bi3.1.length : Int)))])] [] [] [0, 1] [23, 29, 30, 31, 32, 33, 34, 36, 37, 38] (.norm, (f9n9E bi1 bi2 bi3 bo4 bo5 bo6 bo7 bo8 bq9 bl10 bl11 bq12 bq13 (.norm false)).2) (ap3 h1739 (ap3 h1740 (ap2 h1741 (ap (len_cv (xs := bi3.1) (c := WaterfallShare.cells)) (ap2 h1741 (ap3 h1742 an)))))) rfl
      · obtain rfl := some_inj h
        exact rE cfg_ok [(jF [11, 12, 13] ++ jT [3, 4, 7, 8], [(5, .bool true), (9, .bool true), (14, .bool false)], [])] [] [] [0, 1] [23, 29, 30, 31, 32, 33, 34, 36, 37, 38] (.norm, (f9n9E bi1 bi2 bi3 bo4 bo5 bo6 bo7 bo8 bq9 bl10 bl11 bq12 bq13 (.norm false)).2) (ap3 h1739 (ap3 h1740 (ap4 h1741 an))) rfl
    · obtain rfl := some_inj h
      exact rE cfg_ok [(jF [7, 8] ++ jT [3, 4], [(5, .bool true), (9, .bool false)], [])] [] [] [0, 1] [23, 29, 30, 31, 32, 33, 34, 36, 37, 38] (.norm, (f9n9E bi1 bi2 bi3 bo4 bo5 bo6 bo7 bo8 bq9 bl10 bl11 bq12 bq13 (.norm false)).2) (ap3 h1739 (ap3 h1740 an)) rfl
  · obtain rfl := some_inj h
    exact rE cfg_ok [([(3, false), (4, false)], [(5, .bool false)], [])] [] [] [0, 1] [23, 29, 30, 31, 32, 33, 34, 36, 37, 38] (.norm, (f9n9E bi1 bi2 bi3 bo4 bo5 bo6 bo7 bo8 bq9 bl10 bl11 bq12 bq13 (.norm false)).2) (ap3 h1739 an) rfl
inductive f9n10O where
  | norm (v1788 : Bool)
def f9n10E (bl1 : Int × Int × (List WaterfallShare)) (bl2 : Int × Int × (List WaterfallShare)) (bq3 : Int × Int) (bq4 : Int × Int) (bh5 : Bool) (bo6 : Int × (List WaterfallFund)) : f9n10O → Ex × Tr × Hp
  | .norm v1788 => (.norm, mkS [(23, (.own 0)), (38, (jB bh5)), (39, (jB v1788))], [jR 4 WaterfallFund.cells bo6.2])
def f9n10S (bl1 : Int × Int × (List WaterfallShare)) (bl2 : Int × Int × (List WaterfallShare)) (bq3 : Int × Int) (bq4 : Int × Int) (bh5 : Bool) (bo6 : Int × (List WaterfallFund)) : Tr × Hp := (mkS [(23, (.own 0)), (29, (jI bl1.2.1)), (30, (.own 1)), (31, (jI bl2.1)), (32, (jI bl2.2.1)), (33, (jI bq3.1)), (34, (jI bq3.2)), (36, (jI bq4.1)), (37, (jI bq4.2)), (38, (jB bh5))], [jR 4 WaterfallFund.cells bo6.2, jR 3 WaterfallShare.cells bl2.2.2])
noncomputable def f9n10 (bl1 : Int × Int × (List WaterfallShare)) (bl2 : Int × Int × (List WaterfallShare)) (bq3 : Int × Int) (bq4 : Int × Int) (bh5 : Bool) (bo6 : Int × (List WaterfallFund)) : Option f9n10O :=
  bif (decide (bl1.2.1 = 2)) then
    bif (decide (bl2.2.1 = 0)) then
      bif (decide (bl2.1 = 3)) then
        (f33r5 1 0).bind fun x1780 =>
        (f18 bl2.2.2 x1780).bind fun x1782 =>
        bif x1782 then
          bif (decide (bq3.2 = 0)) then
            bif (decide (bq3.1 = 40)) then
              bif (decide (bq4.2 = 0)) then
                some (.norm (decide (bq4.1 = 1125899906842624)))
              else
                some (.norm false)
            else
              some (.norm false)
          else
            some (.norm false)
        else
          some (.norm false)
      else
        some (.norm false)
    else
      some (.norm false)
  else
    some (.norm false)
theorem f9n10_ok (bl1 : Int × Int × (List WaterfallShare)) (bl2 : Int × Int × (List WaterfallShare)) (bq3 : Int × Int) (bq4 : Int × Int) (bh5 : Bool) (bo6 : Int × (List WaterfallFund)) {o : f9n10O} (h : (f9n10 bl1 bl2 bq3 bq4 bh5 bo6) = some o) : T Try.prog Try.f9.ntmps 0 (cL (dropC 0 (dropC 1 (dropC 2 (dropC 2 (dropC 2 (dropC 1 (dropC 1 (dropC 1 (dropC 1 (dropC 1 (dropC 2 (dropC 2 (dropC 1 (dropC 1 c9))))))))))))))) (f9n10S bl1 bl2 bq3 bq4 bh5 bo6) (fun r => r = f9n10E bl1 bl2 bq3 bq4 bh5 bo6 o) := by
  unfold f9n10 at h
  rcases cond_cases h with ⟨h1777, h⟩ | ⟨h1777, h⟩
  · rcases cond_cases h with ⟨h1778, h⟩ | ⟨h1778, h⟩
    · rcases cond_cases h with ⟨h1779, h⟩ | ⟨h1779, h⟩
      · obtain ⟨x1780, h1781, h⟩ := bind_cases h
        obtain ⟨x1782, h1783, h⟩ := bind_cases h
        rcases cond_cases h with ⟨h1784, h⟩ | ⟨h1784, h⟩
        · rcases cond_cases h with ⟨h1785, h⟩ | ⟨h1785, h⟩
          · rcases cond_cases h with ⟨h1786, h⟩ | ⟨h1786, h⟩
            · rcases cond_cases h with ⟨h1787, h⟩ | ⟨h1787, h⟩
              · obtain rfl := some_inj h
                exact rE cfg_ok [(jT [3, 4, 7, 8, 11, 12, 13, 16, 17, 20, 21, 24, 25, 28, 29], [(5, .bool true), (9, .bool true), (12, .call (.own 2) [none, none, jR 3 WaterfallShare.cells x1780]), jH 13 (jB x1782), (14, .bool true), (18, .bool true), (22, .bool true), (26, .bool true), (30, .bool true)], [])] [] [] [0] [23, 38, 39] (.norm, (f9n10E bl1 bl2 bq3 bq4 bh5 bo6 (.norm (decide (bq4.1 = 1125899906842624)))).2) (ap3 h1777 (ap3 h1778 (ap4 h1779 (ap3 h1784 (ap3 h1785 (ap3 h1786 (ap3 h1787 (ap (CallS.rn 2 [] (f33r5_ok 1 0 h1781)) (ap (f18_ok bl2.2.2 x1780 h1783) an))))))))) rfl
              · obtain rfl := some_inj h
                exact rE cfg_ok [(jF [28, 29] ++ jT [3, 4, 7, 8, 11, 12, 13, 16, 17, 20, 21, 24, 25], [(5, .bool true), (9, .bool true), (12, .call (.own 2) [none, none, jR 3 WaterfallShare.cells x1780]), jH 13 (jB x1782), (14, .bool true), (18, .bool true), (22, .bool true), (26, .bool true), (30, .bool false)], [])] [] [] [0] [23, 38, 39] (.norm, (f9n10E bl1 bl2 bq3 bq4 bh5 bo6 (.norm false)).2) (ap3 h1777 (ap3 h1778 (ap4 h1779 (ap3 h1784 (ap3 h1785 (ap3 h1786 (ap3 h1787 (ap (CallS.rn 2 [] (f33r5_ok 1 0 h1781)) (ap (f18_ok bl2.2.2 x1780 h1783) an))))))))) rfl
            · obtain rfl := some_inj h
              exact rE cfg_ok [(jF [24, 25] ++ jT [3, 4, 7, 8, 11, 12, 13, 16, 17, 20, 21], [(5, .bool true), (9, .bool true), (12, .call (.own 2) [none, none, jR 3 WaterfallShare.cells x1780]), jH 13 (jB x1782), (14, .bool true), (18, .bool true), (22, .bool true), (26, .bool false)], [])] [] [] [0] [23, 38, 39] (.norm, (f9n10E bl1 bl2 bq3 bq4 bh5 bo6 (.norm false)).2) (ap3 h1777 (ap3 h1778 (ap4 h1779 (ap3 h1784 (ap3 h1785 (ap3 h1786 (ap (CallS.rn 2 [] (f33r5_ok 1 0 h1781)) (ap (f18_ok bl2.2.2 x1780 h1783) an)))))))) rfl
          · obtain rfl := some_inj h
            exact rE cfg_ok [(jF [20, 21] ++ jT [3, 4, 7, 8, 11, 12, 13, 16, 17], [(5, .bool true), (9, .bool true), (12, .call (.own 2) [none, none, jR 3 WaterfallShare.cells x1780]), jH 13 (jB x1782), (14, .bool true), (18, .bool true), (22, .bool false)], [])] [] [] [0] [23, 38, 39] (.norm, (f9n10E bl1 bl2 bq3 bq4 bh5 bo6 (.norm false)).2) (ap3 h1777 (ap3 h1778 (ap4 h1779 (ap3 h1784 (ap3 h1785 (ap (CallS.rn 2 [] (f33r5_ok 1 0 h1781)) (ap (f18_ok bl2.2.2 x1780 h1783) an))))))) rfl
        · obtain rfl := some_inj h
          exact rE cfg_ok [(jF [16, 17] ++ jT [3, 4, 7, 8, 11, 12, 13], [(5, .bool true), (9, .bool true), (12, .call (.own 2) [none, none, jR 3 WaterfallShare.cells x1780]), jH 13 (jB x1782), (14, .bool true), (18, .bool false)], [])] [] [] [0] [23, 38, 39] (.norm, (f9n10E bl1 bl2 bq3 bq4 bh5 bo6 (.norm false)).2) (ap3 h1777 (ap3 h1778 (ap4 h1779 (ap3 h1784 (ap (CallS.rn 2 [] (f33r5_ok 1 0 h1781)) (ap (f18_ok bl2.2.2 x1780 h1783) an)))))) rfl
      · obtain rfl := some_inj h
        exact rE cfg_ok [(jF [11, 12, 13] ++ jT [3, 4, 7, 8], [(5, .bool true), (9, .bool true), (14, .bool false)], [])] [] [] [0] [23, 38, 39] (.norm, (f9n10E bl1 bl2 bq3 bq4 bh5 bo6 (.norm false)).2) (ap3 h1777 (ap3 h1778 (ap4 h1779 an))) rfl
    · obtain rfl := some_inj h
      exact rE cfg_ok [(jF [7, 8] ++ jT [3, 4], [(5, .bool true), (9, .bool false)], [])] [] [] [0] [23, 38, 39] (.norm, (f9n10E bl1 bl2 bq3 bq4 bh5 bo6 (.norm false)).2) (ap3 h1777 (ap3 h1778 an)) rfl
  · obtain rfl := some_inj h
    exact rE cfg_ok [([(3, false), (4, false)], [(5, .bool false)], [])] [] [] [0] [23, 38, 39] (.norm, (f9n10E bl1 bl2 bq3 bq4 bh5 bo6 (.norm false)).2) (ap3 h1777 an) rfl
inductive f9n0O where
  | ret (v1824 : Bool)
def f9n0E : f9n0O → Ex × Tr × Hp
  | .ret v1824 => (.ret, mkS [(0, (jB v1824))], [])
def f9n0S : Tr × Hp := (initS [] 0 .leaf, [])
noncomputable def f9n0 : Option f9n0O :=
  f9n1.bind fun o437 => match o437 with
  | .norm => f32r1.bind fun x443 =>
    (f13 [(WaterfallFund.mk 0 str_m 10 false), (WaterfallFund.mk 1 str_a 5 false), (WaterfallFund.mk 1 str_b 5 true), (WaterfallFund.mk 1 str_c 20 false)] (-1)).bind fun x445 =>
    f32r1.bind fun x451 =>
    (f13 [(WaterfallFund.mk 0 str_m 10 false), (WaterfallFund.mk 1 str_a 5 false), (WaterfallFund.mk 1 str_b 5 true), (WaterfallFund.mk 1 str_c 20 false)] 1125899906842625).bind fun x453 =>
    f32r1.bind fun x613 =>
    (f13 [(WaterfallFund.mk 0 str_m 10 false), (WaterfallFund.mk 1 str_a 5 false), (WaterfallFund.mk 1 str_b 5 true), (WaterfallFund.mk 1 str_c 20 false)] 0).bind fun x615 =>
    f32r1.bind fun x621 =>
    (f26r1 [(WaterfallFund.mk 0 str_m 10 false), (WaterfallFund.mk 1 str_a 5 false), (WaterfallFund.mk 1 str_b 5 true), (WaterfallFund.mk 1 str_c 20 false)] [(WaterfallShare.mk 0 str_a 1)]).bind fun x623 =>
    f32r1.bind fun x777 =>
    (f33r3 11 0).bind fun x779 =>
    (f26r1 [(WaterfallFund.mk 0 str_m 10 false), (WaterfallFund.mk 1 str_a 5 false), (WaterfallFund.mk 1 str_b 5 true), (WaterfallFund.mk 1 str_c 20 false)] x779).bind fun x781 =>
    f32r1.bind fun x930 =>
    (f33r3 11 0).bind fun x932 =>
    req (fit (x932.length + 1) 32) <|
    (f26r1 [(WaterfallFund.mk 0 str_m 10 false), (WaterfallFund.mk 1 str_a 5 false), (WaterfallFund.mk 1 str_b 5 true), (WaterfallFund.mk 1 str_c 20 false)] (x932 ++ [(WaterfallShare.mk 1 str_z 1)])).bind fun x935 =>
    f32r1.bind fun x1074 =>
    (f26r1 [(WaterfallFund.mk 0 str_m 10 false), (WaterfallFund.mk 1 str_a 5 false), (WaterfallFund.mk 1 str_b 5 true), (WaterfallFund.mk 1 str_c 20 false)] [(WaterfallShare.mk 0 str_m 0)]).bind fun x1076 =>
    f32r1.bind fun x1213 =>
    (f33r4 10 1 2 0).bind fun x1215 =>
    (f26r1 [(WaterfallFund.mk 0 str_m 10 false), (WaterfallFund.mk 1 str_a 5 false), (WaterfallFund.mk 1 str_b 5 true), (WaterfallFund.mk 1 str_c 20 false)] x1215).bind fun x1217 =>
    f32r1.bind fun x1348 =>
    (f33r4 10 1 2 0).bind fun x1350 =>
    (f29 [(WaterfallFund.mk 0 str_m 10 false), (WaterfallFund.mk 1 str_a 5 false), (WaterfallFund.mk 1 str_b 5 true), (WaterfallFund.mk 1 str_c 20 false)] x1350).bind fun x1352 =>
    (f33r5 1 0).bind fun x1475 =>
    (f16r2 (-1) x1475).bind fun x1477 =>
    (f33r5 1 0).bind fun x1483 =>
    (f16r2 5 x1483).bind fun x1485 =>
    f32r1.bind fun x1600 =>
    (f21 [(WaterfallFund.mk 0 str_m 10 false), (WaterfallFund.mk 1 str_a 5 false), (WaterfallFund.mk 1 str_b 5 true), (WaterfallFund.mk 1 str_c 20 false)]).bind fun x1602 =>
    f32r1.bind fun x1606 =>
    (f21 [(WaterfallFund.mk 0 str_m 1125899906842594 false), (WaterfallFund.mk 1 str_a 5 false), (WaterfallFund.mk 1 str_b 5 true), (WaterfallFund.mk 1 str_c 20 false)]).bind fun x1713 =>
    (f9n9 x445 x453 x615 x623 x781 x935 x1076 x1217 x1352 x1477 x1485 x1602 x1713).bind fun o1752 => match o1752 with
    | .norm v1754 => (f9n10 x1477 x1485 x1602 x1713 v1754 x1217).bind fun o1789 => match o1789 with
      | .norm v1791 => bif v1754 then
          bif v1791 then
            f11.bind fun x1810 =>
            bif x1810 then
              (at? x1217.2 0).bind fun x1813 =>
              bif (decide (x1813.Size = 0)) then
                (at? x1217.2 1).bind fun x1816 =>
                bif (decide (x1816.Size = 4)) then
                  (at? x1217.2 2).bind fun x1819 =>
                  bif (decide (x1819.Size = 3)) then
                    (at? x1217.2 3).bind fun x1822 =>
                    some (.ret (decide (x1822.Size = 20)))
                  else
                    some (.ret false)
                else
                  some (.ret false)
              else
                some (.ret false)
            else
              some (.ret false)
          else
            some (.ret false)
        else
          some (.ret false)
  | .ret => some (.ret false)
theorem f9n0_ok {o : f9n0O} (h : f9n0 = some o) : T Try.prog Try.f9.ntmps 0 c9 f9n0S (fun r => r = f9n0E o) := by
  unfold f9n0 at h
  refine rN cfg_ok 1 [j3] [] [] [] [] f9n1S an ?_
  obtain ⟨o437, h438, h⟩ := bind_cases h
  cases o437 with
  | norm =>
    refine T.oneN (by kernel_rfl) (f9n1_ok h438) (st2 := (f9n1E .norm).2) rfl ?_
    obtain ⟨x443, h444, h⟩ := bind_cases h
    obtain ⟨x445, h446, h⟩ := bind_cases h
    obtain ⟨x451, h452, h⟩ := bind_cases h
    obtain ⟨x453, h454, h⟩ := bind_cases h
    refine rN cfg_ok 2 [([], [(0, .call (.own 0) [some (.row false 4 ([(WaterfallFund.mk 0 str_m 10 false), (WaterfallFund.mk 1 str_a 5 false), (WaterfallFund.mk 1 str_b 5 true), (WaterfallFund.mk 1 str_c 20 false)].map WaterfallFund.cells))]), jH 1 (.tup [(jL 3 WaterfallShare.cells x445.1), (jI x445.2.1), (jI x445.2.2)])], []), ([], [(0, .call (.own 1) [none, some (.row false 4 ([(WaterfallFund.mk 0 str_m 10 false), (WaterfallFund.mk 1 str_a 5 false), (WaterfallFund.mk 1 str_b 5 true), (WaterfallFund.mk 1 str_c 20 false)].map WaterfallFund.cells))]), jH 1 (.tup [(jL 3 WaterfallShare.cells x453.1), (jI x453.2.1), (jI x453.2.2)])], [])] [] [] [] [8, 11] (mkS [(8, (jI x445.2.2)), (11, (jI x453.2.2))], []) (ap (f32r1_ok h444) (ap (f13_ok [(WaterfallFund.mk 0 str_m 10 false), (WaterfallFund.mk 1 str_a 5 false), (WaterfallFund.mk 1 str_b 5 true), (WaterfallFund.mk 1 str_c 20 false)] (-1) h446) (ap (CallS.rn 1 [] (f32r1_ok h452)) (ap (f13_ok [(WaterfallFund.mk 0 str_m 10 false), (WaterfallFund.mk 1 str_a 5 false), (WaterfallFund.mk 1 str_b 5 true), (WaterfallFund.mk 1 str_c 20 false)] 1125899906842625 h454) an)))) ?_
    obtain ⟨x613, h614, h⟩ := bind_cases h
    obtain ⟨x615, h616, h⟩ := bind_cases h
    obtain ⟨x621, h622, h⟩ := bind_cases h
    obtain ⟨x623, h624, h⟩ := bind_cases h
    refine rN cfg_ok 2 [([], [(0, .call (.own 0) [some (.row false 4 ([(WaterfallFund.mk 0 str_m 10 false), (WaterfallFund.mk 1 str_a 5 false), (WaterfallFund.mk 1 str_b 5 true), (WaterfallFund.mk 1 str_c 20 false)].map WaterfallFund.cells))]), jH 1 (.tup [(jL 3 WaterfallShare.cells x615.1), (jI x615.2.1), (jI x615.2.2)])], []), ([], [(0, .call (.own 1) [none, some (.row false 4 ([(WaterfallFund.mk 0 str_m 10 false), (WaterfallFund.mk 1 str_a 5 false), (WaterfallFund.mk 1 str_b 5 true), (WaterfallFund.mk 1 str_c 20 false)].map WaterfallFund.cells))]), (3, .call (.tup [(.own 3), (jI x623.1)]) [none, some (.row false 4 ([(WaterfallFund.mk 0 str_m 10 false), (WaterfallFund.mk 1 str_a 5 false), (WaterfallFund.mk 1 str_b 5 true), (WaterfallFund.mk 1 str_c 20 false)].map WaterfallFund.cells)), some (.row false 3 ([(WaterfallShare.mk 0 str_a 1)].map WaterfallShare.cells)), jR 4 WaterfallFund.cells x623.2])], [])] [] [] [] [8, 11, 12, 13, 14, 16] (mkS [(8, (jI x445.2.2)), (11, (jI x453.2.2)), (12, (jL 3 WaterfallShare.cells x615.1)), (13, (jI x615.2.1)), (14, (jI x615.2.2)), (16, (jI x623.1))], []) (ap (f32r1_ok h614) (ap (f13_ok [(WaterfallFund.mk 0 str_m 10 false), (WaterfallFund.mk 1 str_a 5 false), (WaterfallFund.mk 1 str_b 5 true), (WaterfallFund.mk 1 str_c 20 false)] 0 h616) (ap (CallS.rn 1 [] (f32r1_ok h622)) (ap (CallS.rn 3 [1, 2] (f26r1_ok [(WaterfallFund.mk 0 str_m 10 false), (WaterfallFund.mk 1 str_a 5 false), (WaterfallFund.mk 1 str_b 5 true), (WaterfallFund.mk 1 str_c 20 false)] [(WaterfallShare.mk 0 str_a 1)] h624)) an)))) ?_
    obtain ⟨x777, h778, h⟩ := bind_cases h
    obtain ⟨x779, h780, h⟩ := bind_cases h
    obtain ⟨x781, h782, h⟩ := bind_cases h
    refine rN cfg_ok 1 [([], [(0, .call (.own 0) [some (.row false 4 ([(WaterfallFund.mk 0 str_m 10 false), (WaterfallFund.mk 1 str_a 5 false), (WaterfallFund.mk 1 str_b 5 true), (WaterfallFund.mk 1 str_c 20 false)].map WaterfallFund.cells))]), (1, .call (.own 1) [none, jR 3 WaterfallShare.cells x779]), (2, .call (.tup [(.own 2), (jI x781.1)]) [some (.row false 4 ([(WaterfallFund.mk 0 str_m 10 false), (WaterfallFund.mk 1 str_a 5 false), (WaterfallFund.mk 1 str_b 5 true), (WaterfallFund.mk 1 str_c 20 false)].map WaterfallFund.cells)), jR 3 WaterfallShare.cells x779, jR 4 WaterfallFund.cells x781.2])], [])] [] [] [] [8, 11, 12, 13, 14, 16, 18] (mkS [(8, (jI x445.2.2)), (11, (jI x453.2.2)), (12, (jL 3 WaterfallShare.cells x615.1)), (13, (jI x615.2.1)), (14, (jI x615.2.2)), (16, (jI x623.1)), (18, (jI x781.1))], []) (ap (f32r1_ok h778) (ap (CallS.rn 1 [] (f33r3_ok 11 0 h780)) (ap (f26r1_ok [(WaterfallFund.mk 0 str_m 10 false), (WaterfallFund.mk 1 str_a 5 false), (WaterfallFund.mk 1 str_b 5 true), (WaterfallFund.mk 1 str_c 20 false)] x779 h782) an))) ?_
    obtain ⟨x930, h931, h⟩ := bind_cases h
    obtain ⟨x932, h933, h⟩ := bind_cases h
    obtain ⟨h934, h⟩ := req_cases h
    obtain ⟨x935, h936, h⟩ := bind_cases h
    refine rN cfg_ok 1 [([], [(0, .call (.own 0) [some (.row false 4 ([(WaterfallFund.mk 0 str_m 10 false), (WaterfallFund.mk 1 str_a 5 false), (WaterfallFund.mk 1 str_b 5 true), (WaterfallFund.mk 1 str_c 20 false)].map WaterfallFund.cells))]), (1, .call (.own 1) [none, jR 3 WaterfallShare.cells x932]), (4, .fits), (5, .call (.tup [(.own 4), (jI x935.1)]) [some (.row false 4 ([(WaterfallFund.mk 0 str_m 10 false), (WaterfallFund.mk 1 str_a 5 false), (WaterfallFund.mk 1 str_b 5 true), (WaterfallFund.mk 1 str_c 20 false)].map WaterfallFund.cells)), none, none, some (.row false 3 ((x932 ++ [(WaterfallShare.mk 1 str_z 1)]).map WaterfallShare.cells)), jR 4 WaterfallFund.cells x935.2])], [(4, .row 3 ((x932 ++ [(WaterfallShare.mk 1 str_z 1)]).map WaterfallShare.cells))])] [] [] [] [8, 11, 12, 13, 14, 16, 18, 20] (mkS [(8, (jI x445.2.2)), (11, (jI x453.2.2)), (12, (jL 3 WaterfallShare.cells x615.1)), (13, (jI x615.2.1)), (14, (jI x615.2.2)), (16, (jI x623.1)), (18, (jI x781.1)), (20, (jI x935.1))], []) (ap (fit_map (te := ti59) (xs := x932) (n := 1) (c := WaterfallShare.cells) h934 rfl) (ap (app_cv (xs := x932) (ys := [(WaterfallShare.mk 1 str_z 1)]) (c := WaterfallShare.cells)) (ap (f32r1_ok h931) (ap (CallS.rn 1 [] (f33r3_ok 11 0 h933)) (ap (CallS.rn 4 [0, 3] (f26r1_ok [(WaterfallFund.mk 0 str_m 10 false), (WaterfallFund.mk 1 str_a 5 false), (WaterfallFund.mk 1 str_b 5 true), (WaterfallFund.mk 1 str_c 20 false)] (x932 ++ [(WaterfallShare.mk 1 str_z 1)]) h936)) an))))) ?_
    obtain ⟨x1074, h1075, h⟩ := bind_cases h
    obtain ⟨x1076, h1077, h⟩ := bind_cases h
    refine rN cfg_ok 1 [([], [(0, .call (.own 0) [some (.row false 4 ([(WaterfallFund.mk 0 str_m 10 false), (WaterfallFund.mk 1 str_a 5 false), (WaterfallFund.mk 1 str_b 5 true), (WaterfallFund.mk 1 str_c 20 false)].map WaterfallFund.cells))]), (3, .call (.tup [(.own 2), (jI x1076.1)]) [some (.row false 4 ([(WaterfallFund.mk 0 str_m 10 false), (WaterfallFund.mk 1 str_a 5 false), (WaterfallFund.mk 1 str_b 5 true), (WaterfallFund.mk 1 str_c 20 false)].map WaterfallFund.cells)), some (.row false 3 ([(WaterfallShare.mk 0 str_m 0)].map WaterfallShare.cells)), jR 4 WaterfallFund.cells x1076.2])], [])] [] [] [] [8, 11, 12, 13, 14, 16, 18, 20, 22] (mkS [(8, (jI x445.2.2)), (11, (jI x453.2.2)), (12, (jL 3 WaterfallShare.cells x615.1)), (13, (jI x615.2.1)), (14, (jI x615.2.2)), (16, (jI x623.1)), (18, (jI x781.1)), (20, (jI x935.1)), (22, (jI x1076.1))], []) (ap (f32r1_ok h1075) (ap (f26r1_ok [(WaterfallFund.mk 0 str_m 10 false), (WaterfallFund.mk 1 str_a 5 false), (WaterfallFund.mk 1 str_b 5 true), (WaterfallFund.mk 1 str_c 20 false)] [(WaterfallShare.mk 0 str_m 0)] h1077) an)) ?_
    obtain ⟨x1213, h1214, h⟩ := bind_cases h
    obtain ⟨x1215, h1216, h⟩ := bind_cases h
    obtain ⟨x1217, h1218, h⟩ := bind_cases h
    refine rN cfg_ok 1 [([], [(0, .call (.own 0) [some (.row false 4 ([(WaterfallFund.mk 0 str_m 10 false), (WaterfallFund.mk 1 str_a 5 false), (WaterfallFund.mk 1 str_b 5 true), (WaterfallFund.mk 1 str_c 20 false)].map WaterfallFund.cells))]), (1, .call (.own 1) [none, jR 3 WaterfallShare.cells x1215]), (2, .call (.tup [(.own 2), (jI x1217.1)]) [some (.row false 4 ([(WaterfallFund.mk 0 str_m 10 false), (WaterfallFund.mk 1 str_a 5 false), (WaterfallFund.mk 1 str_b 5 true), (WaterfallFund.mk 1 str_c 20 false)].map WaterfallFund.cells)), jR 3 WaterfallShare.cells x1215, jR 4 WaterfallFund.cells x1217.2])], [])] [] [] [2] [8, 11, 12, 13, 14, 16, 18, 20, 22, 23, 24] (mkS [(8, (jI x445.2.2)), (11, (jI x453.2.2)), (12, (jL 3 WaterfallShare.cells x615.1)), (13, (jI x615.2.1)), (14, (jI x615.2.2)), (16, (jI x623.1)), (18, (jI x781.1)), (20, (jI x935.1)), (22, (jI x1076.1)), (23, (.own 0)), (24, (jI x1217.1))], [jR 4 WaterfallFund.cells x1217.2]) (ap (f32r1_ok h1214) (ap (CallS.rn 1 [] (f33r4_ok 10 1 2 0 h1216)) (ap (f26r1_ok [(WaterfallFund.mk 0 str_m 10 false), (WaterfallFund.mk 1 str_a 5 false), (WaterfallFund.mk 1 str_b 5 true), (WaterfallFund.mk 1 str_c 20 false)] x1215 h1218) an))) ?_
    obtain ⟨x1348, h1349, h⟩ := bind_cases h
    obtain ⟨x1350, h1351, h⟩ := bind_cases h
    obtain ⟨x1352, h1353, h⟩ := bind_cases h
    refine rN cfg_ok 1 [([], [(0, .call (.own 1) [none, some (.row false 4 ([(WaterfallFund.mk 0 str_m 10 false), (WaterfallFund.mk 1 str_a 5 false), (WaterfallFund.mk 1 str_b 5 true), (WaterfallFund.mk 1 str_c 20 false)].map WaterfallFund.cells))]), (1, .call (.own 2) [none, none, jR 3 WaterfallShare.cells x1350]), jH 2 (.tup [(jI x1352.1), (jI x1352.2)])], [])] [] [] [0] [8, 11, 12, 13, 14, 16, 18, 20, 22, 23, 24, 25, 26] (mkS [(8, (jI x445.2.2)), (11, (jI x453.2.2)), (12, (jL 3 WaterfallShare.cells x615.1)), (13, (jI x615.2.1)), (14, (jI x615.2.2)), (16, (jI x623.1)), (18, (jI x781.1)), (20, (jI x935.1)), (22, (jI x1076.1)), (23, (.own 0)), (24, (jI x1217.1)), (25, (jI x1352.1)), (26, (jI x1352.2))], [jR 4 WaterfallFund.cells x1217.2]) (ap (CallS.rn 1 [] (f32r1_ok h1349)) (ap (CallS.rn 2 [] (f33r4_ok 10 1 2 0 h1351)) (ap (f29_ok [(WaterfallFund.mk 0 str_m 10 false), (WaterfallFund.mk 1 str_a 5 false), (WaterfallFund.mk 1 str_b 5 true), (WaterfallFund.mk 1 str_c 20 false)] x1350 h1353) an))) ?_
    obtain ⟨x1475, h1476, h⟩ := bind_cases h
    obtain ⟨x1477, h1478, h⟩ := bind_cases h
    obtain ⟨x1483, h1484, h⟩ := bind_cases h
    obtain ⟨x1485, h1486, h⟩ := bind_cases h
    refine rN cfg_ok 2 [([], [(0, .call (.own 1) [none, jR 3 WaterfallShare.cells x1475]), (1, .call (.tup [(.own 2), (jI x1477.1), (jI x1477.2.1)]) [none, jR 3 WaterfallShare.cells x1475, jR 3 WaterfallShare.cells x1477.2.2])], []), ([], [(0, .call (.own 3) (jN 3 [jR 3 WaterfallShare.cells x1483])), (1, .call (.tup [(.own 4), (jI x1485.1), (jI x1485.2.1)]) (jN 3 [jR 3 WaterfallShare.cells x1483, jR 3 WaterfallShare.cells x1485.2.2]))], [])] [] [] [0, 4] [8, 11, 12, 13, 14, 16, 18, 20, 22, 23, 24, 25, 26, 29, 30, 31, 32] (mkS [(8, (jI x445.2.2)), (11, (jI x453.2.2)), (12, (jL 3 WaterfallShare.cells x615.1)), (13, (jI x615.2.1)), (14, (jI x615.2.2)), (16, (jI x623.1)), (18, (jI x781.1)), (20, (jI x935.1)), (22, (jI x1076.1)), (23, (.own 0)), (24, (jI x1217.1)), (25, (jI x1352.1)), (26, (jI x1352.2)), (29, (jI x1477.2.1)), (30, (.own 1)), (31, (jI x1485.1)), (32, (jI x1485.2.1))], [jR 4 WaterfallFund.cells x1217.2, jR 3 WaterfallShare.cells x1485.2.2]) (ap (CallS.rn 1 [] (f33r5_ok 1 0 h1476)) (ap (CallS.rn 2 [1] (f16r2_ok (-1) x1475 h1478)) (ap (CallS.rn 3 [] (f33r5_ok 1 0 h1484)) (ap (CallS.rn 4 [3] (f16r2_ok 5 x1483 h1486)) an)))) ?_
    obtain ⟨x1600, h1601, h⟩ := bind_cases h
    obtain ⟨x1602, h1603, h⟩ := bind_cases h
    obtain ⟨x1606, h1607, h⟩ := bind_cases h
    refine rN cfg_ok 2 [([], [(0, .call (.own 2) [none, none, some (.row false 4 ([(WaterfallFund.mk 0 str_m 10 false), (WaterfallFund.mk 1 str_a 5 false), (WaterfallFund.mk 1 str_b 5 true), (WaterfallFund.mk 1 str_c 20 false)].map WaterfallFund.cells))]), jH 1 (.tup [(jI x1602.1), (jI x1602.2)])], []), ([], [(0, .call (.own 3) (jN 3 [some (.row false 4 ([(WaterfallFund.mk 0 str_m 10 false), (WaterfallFund.mk 1 str_a 5 false), (WaterfallFund.mk 1 str_b 5 true), (WaterfallFund.mk 1 str_c 20 false)].map WaterfallFund.cells))]))], [])] [] [] [0, 1, 3] [8, 11, 12, 13, 14, 16, 18, 20, 22, 23, 24, 25, 26, 29, 30, 31, 32, 33, 34, 35] (mkS [(8, (jI x445.2.2)), (11, (jI x453.2.2)), (12, (jL 3 WaterfallShare.cells x615.1)), (13, (jI x615.2.1)), (14, (jI x615.2.2)), (16, (jI x623.1)), (18, (jI x781.1)), (20, (jI x935.1)), (22, (jI x1076.1)), (23, (.own 0)), (24, (jI x1217.1)), (25, (jI x1352.1)), (26, (jI x1352.2)), (29, (jI x1477.2.1)), (30, (.own 1)), (31, (jI x1485.1)), (32, (jI x1485.2.1)), (33, (jI x1602.1)), (34, (jI x1602.2)), (35, (.own 2))], [jR 4 WaterfallFund.cells x1217.2, jR 3 WaterfallShare.cells x1485.2.2, some (.row false 4 ([(WaterfallFund.mk 0 str_m 10 false), (WaterfallFund.mk 1 str_a 5 false), (WaterfallFund.mk 1 str_b 5 true), (WaterfallFund.mk 1 str_c 20 false)].map WaterfallFund.cells))]) (ap (CallS.rn 2 [] (f32r1_ok h1601)) (ap (f21_ok [(WaterfallFund.mk 0 str_m 10 false), (WaterfallFund.mk 1 str_a 5 false), (WaterfallFund.mk 1 str_b 5 true), (WaterfallFund.mk 1 str_c 20 false)] h1603) (ap (CallS.rn 3 [] (f32r1_ok h1607)) an))) ?_
    obtain ⟨x1713, h1714, h⟩ := bind_cases h
    refine rN cfg_ok 2 [j3, ([], [jH 1 (.tup [(jI x1713.1), (jI x1713.2)])], [])] [] [] [0, 1] [8, 11, 12, 13, 14, 16, 18, 20, 22, 23, 24, 25, 26, 29, 30, 31, 32, 33, 34, 36, 37] (f9n9S x445 x453 x615 x623 x781 x935 x1076 x1217 x1352 x1477 x1485 x1602 x1713) (ap (f21_ok [(WaterfallFund.mk 0 str_m 1125899906842594 false), (WaterfallFund.mk 1 str_a 5 false), (WaterfallFund.mk 1 str_b 5 true), (WaterfallFund.mk 1 str_c 20 false)] h1714) an) ?_
    obtain ⟨o1752, h1753, h⟩ := bind_cases h
    cases o1752 with
    | norm v1754 =>
      refine T.oneN (by kernel_rfl) (f9n9_ok x445 x453 x615 x623 x781 x935 x1076 x1217 x1352 x1477 x1485 x1602 x1713 h1753) (st2 := (f9n9E x445 x453 x615 x623 x781 x935 x1076 x1217 x1352 x1477 x1485 x1602 x1713 (.norm v1754)).2) rfl ?_
      refine rN cfg_ok 0 [] [] [] [0, 1] [23, 29, 30, 31, 32, 33, 34, 36, 37, 38] (f9n10S x1477 x1485 x1602 x1713 v1754 x1217) an ?_
      obtain ⟨o1789, h1790, h⟩ := bind_cases h
      cases o1789 with
      | norm v1791 =>
        refine T.oneN (by kernel_rfl) (f9n10_ok x1477 x1485 x1602 x1713 v1754 x1217 h1790) (st2 := (f9n10E x1477 x1485 x1602 x1713 v1754 x1217 (.norm v1791)).2) rfl ?_
        rcases cond_cases h with ⟨h1794, h⟩ | ⟨h1794, h⟩
        · rcases cond_cases h with ⟨h1795, h⟩ | ⟨h1795, h⟩
          · obtain ⟨x1810, h1811, h⟩ := bind_cases h
            rcases cond_cases h with ⟨h1812, h⟩ | ⟨h1812, h⟩
            · obtain ⟨x1813, h1814, h⟩ := bind_cases h
              rcases cond_cases h with ⟨h1815, h⟩ | ⟨h1815, h⟩
              · obtain ⟨x1816, h1817, h⟩ := bind_cases h
                rcases cond_cases h with ⟨h1818, h⟩ | ⟨h1818, h⟩
                · obtain ⟨x1819, h1820, h⟩ := bind_cases h
                  rcases cond_cases h with ⟨h1821, h⟩ | ⟨h1821, h⟩
                  · obtain ⟨x1822, h1823, h⟩ := bind_cases h
                    obtain rfl := some_inj h
                    exact rE cfg_ok [([(3, false), (4, false)], [(5, .bool false)], []), (jT [4, 5, 6, 7, 8, 11, 12, 13, 14, 15, 18, 19, 20, 21, 22, 25, 26, 27, 28, 29], [jH 1 (jB x1810), (5, .at_ (Int.toNat 0)), (7, .idx 0 (WaterfallFund.cells x1813)), (9, .bool true), (12, .at_ (Int.toNat 1)), (14, .idx 0 (WaterfallFund.cells x1816)), (16, .bool true), (19, .at_ (Int.toNat 2)), (21, .idx 0 (WaterfallFund.cells x1819)), (23, .bool true), (26, .at_ (Int.toNat 3)), (28, .idx 0 (WaterfallFund.cells x1822)), (30, .bool true)], [])] [some false] [] [] [0] (.ret, (f9n0E (.ret (decide (x1822.Size = 20)))).2) (ap3 (not_t h1794) (ap (not_t h1795) (ap2 h1812 (ap (at_some h1814).1 (ap (lt_map WaterfallFund.cells (at_some h1814).2) (ap2 h1812 (ap (at_map WaterfallFund.cells (at_some h1814).2) (ap2 h1812 (ap2 h1815 (ap (at_some h1817).1 (ap (lt_map WaterfallFund.cells (at_some h1817).2) (ap2 h1815 (ap (at_map WaterfallFund.cells (at_some h1817).2) (ap2 h1815 (ap2 h1818 (ap (at_some h1820).1 (ap (lt_map WaterfallFund.cells (at_some h1820).2) (ap2 h1818 (ap (at_map WaterfallFund.cells (at_some h1820).2) (ap2 h1818 (ap2 h1821 (ap (at_some h1823).1 (ap (lt_map WaterfallFund.cells (at_some h1823).2) (ap2 h1821 (ap (at_map WaterfallFund.cells (at_some h1823).2) (ap2 h1821 (ap (f11_ok h1811) an))))))))))))))))))))))))))) rfl
                  · obtain rfl := some_inj h
                    exact rE cfg_ok [([(3, false), (4, false)], [(5, .bool false)], []), (jF [25, 26, 27, 28, 29] ++ jT [4, 5, 6, 7, 8, 11, 12, 13, 14, 15, 18, 19, 20, 21, 22], [jH 1 (jB x1810), (5, .at_ (Int.toNat 0)), (7, .idx 0 (WaterfallFund.cells x1813)), (9, .bool true), (12, .at_ (Int.toNat 1)), (14, .idx 0 (WaterfallFund.cells x1816)), (16, .bool true), (19, .at_ (Int.toNat 2)), (21, .idx 0 (WaterfallFund.cells x1819)), (23, .bool true), (30, .bool false)], [])] [some false] [] [] [0] (.ret, (f9n0E (.ret false)).2) (ap3 (not_t h1794) (ap (not_t h1795) (ap2 h1812 (ap (at_some h1814).1 (ap (lt_map WaterfallFund.cells (at_some h1814).2) (ap2 h1812 (ap (at_map WaterfallFund.cells (at_some h1814).2) (ap2 h1812 (ap2 h1815 (ap (at_some h1817).1 (ap (lt_map WaterfallFund.cells (at_some h1817).2) (ap2 h1815 (ap (at_map WaterfallFund.cells (at_some h1817).2) (ap2 h1815 (ap2 h1818 (ap (at_some h1820).1 (ap (lt_map WaterfallFund.cells (at_some h1820).2) (ap2 h1818 (ap (at_map WaterfallFund.cells (at_some h1820).2) (ap2 h1818 (ap2 h1821 (ap4 h1821 (ap (f11_ok h1811) an))))))))))))))))))))))) rfl
                · obtain rfl := some_inj h
                  exact rE cfg_ok [([(3, false), (4, false)], [(5, .bool false)], []), (jF [18, 19, 20, 21, 22] ++ jT [4, 5, 6, 7, 8, 11, 12, 13, 14, 15], [jH 1 (jB x1810), (5, .at_ (Int.toNat 0)), (7, .idx 0 (WaterfallFund.cells x1813)), (9, .bool true), (12, .at_ (Int.toNat 1)), (14, .idx 0 (WaterfallFund.cells x1816)), (16, .bool true), (23, .bool false)], [])] [some false] [] [] [0] (.ret, (f9n0E (.ret false)).2) (ap3 (not_t h1794) (ap (not_t h1795) (ap2 h1812 (ap (at_some h1814).1 (ap (lt_map WaterfallFund.cells (at_some h1814).2) (ap2 h1812 (ap (at_map WaterfallFund.cells (at_some h1814).2) (ap2 h1812 (ap2 h1815 (ap (at_some h1817).1 (ap (lt_map WaterfallFund.cells (at_some h1817).2) (ap2 h1815 (ap (at_map WaterfallFund.cells (at_some h1817).2) (ap2 h1815 (ap2 h1818 (ap4 h1818 (ap (f11_ok h1811) an))))))))))))))))) rfl
              · obtain rfl := some_inj h
                exact rE cfg_ok [([(3, false), (4, false)], [(5, .bool false)], []), (jF [11, 12, 13, 14, 15] ++ jT [4, 5, 6, 7, 8], [jH 1 (jB x1810), (5, .at_ (Int.toNat 0)), (7, .idx 0 (WaterfallFund.cells x1813)), (9, .bool true), (16, .bool false)], [])] [some false] [] [] [0] (.ret, (f9n0E (.ret false)).2) (ap3 (not_t h1794) (ap (not_t h1795) (ap2 h1812 (ap (at_some h1814).1 (ap (lt_map WaterfallFund.cells (at_some h1814).2) (ap2 h1812 (ap (at_map WaterfallFund.cells (at_some h1814).2) (ap2 h1812 (ap2 h1815 (ap4 h1815 (ap (f11_ok h1811) an))))))))))) rfl
            · obtain rfl := some_inj h
              exact rE cfg_ok [([(3, false), (4, false)], [(5, .bool false)], []), (jF [4, 5, 6, 7, 8], [jH 1 (jB x1810), (9, .bool false)], [])] [some false] [] [] [0] (.ret, (f9n0E (.ret false)).2) (ap3 (not_t h1794) (ap (not_t h1795) (ap2 h1812 (ap4 h1812 (ap (f11_ok h1811) an))))) rfl
          · obtain rfl := some_inj h
            exact rK cfg_ok 1 [([(3, false), (4, false)], [(5, .bool false)], []), j3] [some true] [] [] [0] .ret ((f9n0E (.ret false)).2) (ap3 (not_t h1794) (ap (not_f h1795) an)) rfl
        · obtain rfl := some_inj h
          exact rK cfg_ok 1 [([(3, true), (4, true)], [(5, .bool true)], []), j3] [none] [] [] [0] .ret ((f9n0E (.ret false)).2) (ap3 (not_f h1794) an) rfl
  | ret =>
    obtain rfl := some_inj h
    exact T.oneX' (by kernel_rfl) (f9n1_ok h438) (tds := []) (m := []) (keep := [0]) (st2 := (f9n0E (.ret false)).2) (by kernel_rfl) an rfl rfl
noncomputable def f9 : Option Bool := f9n0.bind fun o => match o with
  | .ret v1824 => some v1824
theorem f9_ok {r : Bool} (h : f9 = some r) : CallS Try.prog false 9 [] [] (jB r) [] := by
  unfold f9 at h
  obtain ⟨o, ho, h⟩ := bind_cases h
  cases o with
  | ret v1824 =>
    obtain rfl := some_inj h
    exact CallS.plain cfg_ok (f := Try.f9) (c := c9) (by kernel_rfl) (by kernel_rfl) (by kernel_rfl) (by kernel_rfl) ((f9n0_ok  ho).mono fun r e => by subst e; exact ⟨.inl rfl, (jB v1824), (jB v1824), by kernel_rfl, by kernel_rfl, ((Wk.refl _) : Wk (jB v1824) (jB v1824))⟩)

end Go.Proofs.Ytgbolgaodaokcaa
namespace Go.Proofs.Ytgbolgaodaokcaa
set_option linter.unusedVariables false
set_option linter.unusedSimpArgs false
set_option maxRecDepth 100000
open Go.RowKit

end Go.Proofs.Ytgbolgaodaokcaa
