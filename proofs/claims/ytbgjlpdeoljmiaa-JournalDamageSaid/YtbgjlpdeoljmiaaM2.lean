/- Functions of the program, plainly, and that the machine computes them. No condition. -/
import Derived.Test.YtbgjlpdeoljmiaaM1
namespace Go.Proofs.Ytbgjlpdeoljmiaa
set_option linter.unusedVariables false
set_option linter.unusedSimpArgs false
set_option maxRecDepth 100000
open Go.RowKit
noncomputable def c47 : Code := Try.f47.body.getD .skip
inductive f47r1n2O where
  | exit0 (v48 : Int) (v49 : Int) (v50 : List (Account_ × Int))
  | ret (v51 : Int) (v52 : Int) (v53 : List (Account_ × Int))
def f47r1n2E (ba1 : Journal) : f47r1n2O → Ex × Tr × Hp
  | .exit0 v48 v49 v50 => ((.exit 0), mkS [(4, (.bp 0 0))], [some (.box [(.mp 1), (.pl (.int .i64 v48)), (.pl (.int .i64 v49))]), some (.map (v50.map (mkv (pAgg Account_.cells) (pInt .i64))))])
  | .ret v51 v52 v53 => (.ret, mkS [(2, (.bp 0 0)), (3, (.pl (.bool false)))], [some (.box [(.mp 1), (.pl (.int .i64 v51)), (.pl (.int .i64 v52))]), some (.map (v53.map (mkv (pAgg Account_.cells) (pInt .i64))))])
def f47r1n2S (ba1 : Journal) (v32 : Int) (v33 : Int) (v34 : Int) (v35 : List (Account_ × Int)) : Tr × Hp := (mkS [(4, (.bp 0 0)), (16, (.pl (.sl .any 3 (ba1.Records.map JournalRecord.cells)))), (17, (.pl (.int .i64 (ba1.Records.length : Int)))), (18, (.pl (.int .i64 v32)))], [some (.box [(.mp 1), (.pl (.int .i64 v33)), (.pl (.int .i64 v34))]), some (.map (v35.map (mkv (pAgg Account_.cells) (pInt .i64))))])
noncomputable def f47r1n2 : Nat → Journal → Int → Int → Int → List (Account_ × Int) → Option f47r1n2O
  | 0, _, _, _, _, _ => none
  | f + 1, ba1, v32, v33, v34, v35 =>
    bif (decide (v32 < (ba1.Records.length : Int))) then
      (at? ba1.Records v32).bind fun x43 =>
      (f44r2 x43 v33 v34 v35).bind fun x45 =>
      bif x45.1 then
        (f47r1n2 f ba1 (wr64 (v32 + 1)) x45.2.1 x45.2.2.1 x45.2.2.2)
      else
        some (.ret x45.2.1 x45.2.2.1 x45.2.2.2)
    else
      some (.exit0 v33 v34 v35)
theorem f47r1n2_ok : ∀ (f : Nat) (ba1 : Journal) (v32 : Int) (v33 : Int) (v34 : Int) (v35 : List (Account_ × Int)) {o : f47r1n2O}, (f47r1n2 f ba1 v32 v33 v34 v35) = some o → TL Try.prog Try.f47.ntmps 0 f (cL (cL (dropC 1 (cL (dropC 3 c47))))) (f47r1n2S ba1 v32 v33 v34 v35) (fun r => r = f47r1n2E ba1 o)
  | 0, _, _, _, _, _, o, h => by rw [f47r1n2] at h; cases h
  | f + 1, ba1, v32, v33, v34, v35, o, h => by
    rw [f47r1n2] at h
    refine TL.body (K := fun s => ∃ v32 : Int, ∃ v33 : Int, ∃ v34 : Int, ∃ v35 : List (Account_ × Int), s = (f47r1n2S ba1 v32 v33 v34 v35) ∧ (f47r1n2 f ba1 v32 v33 v34 v35) = some o) ?_ (by rintro _ ⟨v32, v33, v34, v35, rfl, hk⟩; exact f47r1n2_ok f _ _ _ _ _ hk)
    rcases cond_cases h with ⟨h37, h⟩ | ⟨h37, h⟩
    · obtain ⟨x43, h44, h⟩ := bind_cases h
      obtain ⟨x45, h46, h⟩ := bind_cases h
      rcases cond_cases h with ⟨h47, h⟩ | ⟨h47, h⟩
      · exact run_end cfg_ok (rs := [([], [], []), ([], [(0, .idx (Int.toNat v32) (JournalRecord.cells x43))], []), ([], [(2, .call (.pl (.bool x45.1)) [some (.box [(.mp 1), (.pl (.int .i64 x45.2.1)), (.pl (.int .i64 x45.2.2.1))]), some (.map (x45.2.2.2.map (mkv (pAgg Account_.cells) (pInt .i64)))), none])], []), ([], [], [])]) (ps := [some true, some false]) (tds := []) (m := [0, 1]) (keep := [4, 16, 17, 18]) (r := (.norm, (f47r1n2S ba1 (wr64 (v32 + 1)) x45.2.1 x45.2.2.1 x45.2.2.2))) (by kernel_rfl) (ap h37 (ap (at_some h44).1 (ap (at_map JournalRecord.cells (at_some h44).2) (ap (CallS.ren (args' := [(.bp 0 0), (.pl (.agg (JournalRecord.cells x43)))]) (v' := (.pl (.bool x45.1))) (B := [some (.box [(.mp 1), (.pl (.int .i64 v33)), (.pl (.int .i64 v34))]), some (.map (v35.map (mkv (pAgg Account_.cells) (pInt .i64)))), none]) (B' := [some (.box [(.mp 1), (.pl (.int .i64 x45.2.1)), (.pl (.int .i64 x45.2.2.1))]), some (.map (x45.2.2.2.map (mkv (pAgg Account_.cells) (pInt .i64)))), none]) 3 [0, 1] (f44r2_ok x43 v33 v34 v35 h46) (by kernel_rfl) (by kernel_rfl) (by kernel_rfl) (by kernel_rfl) (by kernel_rfl) (by kernel_rfl)) (ap (not_t h47) an))))) (LoopQ.norm ⟨(wr64 (v32 + 1)), x45.2.1, x45.2.2.1, x45.2.2.2, rfl, h⟩)
      · obtain rfl := some_inj h
        exact runK_end cfg_ok (k := 3) (rs := [([], [], []), ([], [(0, .idx (Int.toNat v32) (JournalRecord.cells x43))], []), ([], [(2, .call (.pl (.bool x45.1)) [some (.box [(.mp 1), (.pl (.int .i64 x45.2.1)), (.pl (.int .i64 x45.2.2.1))]), some (.map (x45.2.2.2.map (mkv (pAgg Account_.cells) (pInt .i64)))), none])], []), ([], [], [])]) (ps := [some true, some true]) (tds := []) (m := [0, 1]) (keep := [2, 3]) (ex := .ret) (st' := (f47r1n2E ba1 (.ret x45.2.1 x45.2.2.1 x45.2.2.2)).2) (by kernel_rfl) (ap h37 (ap (at_some h44).1 (ap (at_map JournalRecord.cells (at_some h44).2) (ap (CallS.ren (args' := [(.bp 0 0), (.pl (.agg (JournalRecord.cells x43)))]) (v' := (.pl (.bool x45.1))) (B := [some (.box [(.mp 1), (.pl (.int .i64 v33)), (.pl (.int .i64 v34))]), some (.map (v35.map (mkv (pAgg Account_.cells) (pInt .i64)))), none]) (B' := [some (.box [(.mp 1), (.pl (.int .i64 x45.2.1)), (.pl (.int .i64 x45.2.2.1))]), some (.map (x45.2.2.2.map (mkv (pAgg Account_.cells) (pInt .i64)))), none]) 3 [0, 1] (f44r2_ok x43 v33 v34 v35 h46) (by kernel_rfl) (by kernel_rfl) (by kernel_rfl) (by kernel_rfl) (by kernel_rfl) (by kernel_rfl)) (ap (not_f h47) an))))) (fun h => nomatch h) (LoopQ.out rfl rfl)
    · obtain rfl := some_inj h
      exact runK_end cfg_ok (k := 2) (rs := [([], [], [])]) (ps := [some false]) (tds := []) (m := [0, 1]) (keep := [4]) (ex := (.exit 0)) (st' := (f47r1n2E ba1 (.exit0 v33 v34 v35)).2) (by kernel_rfl) (ap h37 an) (fun h => nomatch h) (LoopQ.out rfl rfl)
noncomputable def f47r1n2L (ba1 : Journal) : List JournalRecord → Int → Int → Int → (List (Account_ × Int)) → Option f47r1n2O
  | [], v32, v33, v34, v35 =>
    some (.exit0 v33 v34 v35)
  | x0 :: rest, v32, v33, v34, v35 =>
    (f44r2 x0 v33 v34 v35).bind fun x45 =>
    bif x45.1 then
      (f47r1n2L ba1 rest (v32 + 1) x45.2.1 x45.2.2.1 x45.2.2.2)
    else
      some (.ret x45.2.1 x45.2.2.1 x45.2.2.2)
theorem f47r1n2L_eq (ba1 : Journal) : ∀ (rest : List JournalRecord) (f k : Nat) (v33 : Int) (v34 : Int) (v35 : List (Account_ × Int)), ba1.Records.drop k = rest → ba1.Records.length ≤ maxLen → rest.length < f → f47r1n2 f ba1 (k : Int) v33 v34 v35 = f47r1n2L ba1 rest (k : Int) v33 v34 v35
  | _, 0, _, _, _, _, _, _, hf => absurd hf (Nat.not_lt_zero _)
  | [], f + 1, k, v33, v34, v35, hd, hm, hf => by
    have hk : ¬ ((k : Int) < (ba1.Records.length : Int)) := by have := drop_nil hd; omega
    rw [f47r1n2, f47r1n2L]
    simp only [decide_eq_false hk, cond_false]
  | x0 :: rest, f + 1, k, v33, v34, v35, hd, hm, hf => by
    obtain ⟨hx, hlt, hd'⟩ := drop_cons hd
    have hk : (k : Int) < (ba1.Records.length : Int) := by omega
    have hw : wr64 ((k : Int) + 1) = (k : Int) + 1 := wr64_of (by omega) (by unfold maxLen at hm; omega)
    have ih : ∀ (v33 : Int) (v34 : Int) (v35 : List (Account_ × Int)), f47r1n2 f ba1 ((k : Int) + 1) v33 v34 v35 = f47r1n2L ba1 rest ((k : Int) + 1) v33 v34 v35 := fun v33 v34 v35 => f47r1n2L_eq ba1 rest f (k + 1) v33 v34 v35 hd' hm (by simpa using hf)
    rw [f47r1n2, f47r1n2L]
    simp only [decide_eq_true hk, cond_true, at_nat, hx, Option.bind_some, hw, ih]
theorem f47r1n2_run (ba1 : Journal) (v33 : Int) (v34 : Int) (v35 : List (Account_ × Int)) (hm : ba1.Records.length ≤ maxLen) : f47r1n2 FUEL ba1 0 v33 v34 v35 = f47r1n2L ba1 ba1.Records 0 v33 v34 v35 := f47r1n2L_eq ba1 ba1.Records FUEL 0 v33 v34 v35 List.drop_zero hm (lt_FUEL hm)
inductive f47r1n1O where
  | norm (v62 : Int) (v63 : Int) (v64 : List (Account_ × Int))
  | ret (v65 : Int) (v66 : Int) (v67 : List (Account_ × Int))
def f47r1n1E (ba1 : Journal) : f47r1n1O → Ex × Tr × Hp
  | .norm v62 v63 v64 => (.norm, mkS [(4, (.bp 0 0))], [some (.box [(.mp 1), (.pl (.int .i64 v62)), (.pl (.int .i64 v63))]), some (.map (v64.map (mkv (pAgg Account_.cells) (pInt .i64))))])
  | .ret v65 v66 v67 => (.ret, mkS [(2, (.bp 0 0)), (3, (.pl (.bool false)))], [some (.box [(.mp 1), (.pl (.int .i64 v65)), (.pl (.int .i64 v66))]), some (.map (v67.map (mkv (pAgg Account_.cells) (pInt .i64))))])
def f47r1n1S (ba1 : Journal) : Tr × Hp := (mkS [(1, (.bp 0 0)), (4, (.bp 1 0))], [some (.box ((Journal.cells ba1).map .pl)), some (.box [(.mp 2), (.pl (.int .i64 0)), (.pl (.int .i64 0))]), some (.map ([].map (mkv (pAgg Account_.cells) (pInt .i64))))])
noncomputable def f47r1n1 (ba1 : Journal) : Option f47r1n1O :=
  (f47r1n2 FUEL ba1 0 0 0 []).bind fun o54 => match o54 with
  | .exit0 v56 v57 v58 => some (.norm v56 v57 v58)
  | .ret v59 v60 v61 => some (.ret v59 v60 v61)
theorem f47r1n1_ok (ba1 : Journal) {o : f47r1n1O} (h : (f47r1n1 ba1) = some o) : T Try.prog Try.f47.ntmps 0 (cL (dropC 3 c47)) (f47r1n1S ba1) (fun r => r = f47r1n1E ba1 o) := by
  unfold f47r1n1 at h
  refine runK_norm cfg_ok (k := 1) (rs := [([], [], [(2, .val (.pl (.int .i64 (ba1.Records.length : Int))))])]) (ps := []) (tds := []) (m := [1, 2]) (keep := [4, 16, 17, 18]) (st' := (f47r1n2S ba1 0 0 0 [])) (by kernel_rfl) (ap (len_cv (xs := ba1.Records) (c := JournalRecord.cells)) an) ?_
  obtain ⟨o54, h55, h⟩ := bind_cases h
  cases o54 with
  | exit0 v56 v57 v58 =>
    obtain rfl := some_inj h
    exact T.last' (T.bl (i := 0) (by kernel_rfl) (by kernel_rfl) (f47r1n2_ok FUEL ba1 0 0 0 [] h55)) (tds := []) (m := [0, 1]) (keep := [4]) (st2 := (f47r1n1E ba1 (.norm v56 v57 v58)).2) (by kernel_rfl) an rfl
  | ret v59 v60 v61 =>
    obtain rfl := some_inj h
    exact T.last' (T.bl (i := 0) (by kernel_rfl) (by kernel_rfl) (f47r1n2_ok FUEL ba1 0 0 0 [] h55)) (tds := []) (m := [0, 1]) (keep := [2, 3]) (st2 := (f47r1n1E ba1 (.ret v59 v60 v61)).2) (by kernel_rfl) an rfl
inductive f47r1n0O where
  | ret (v76 : Bool) (v77 : Int) (v78 : Int) (v79 : List (Account_ × Int))
def f47r1n0E (a1 : Journal) : f47r1n0O → Ex × Tr × Hp
  | .ret v76 v77 v78 v79 => (.ret, mkS [(2, (.bp 0 0)), (3, (.pl (.bool v76)))], [some (.box [(.mp 1), (.pl (.int .i64 v77)), (.pl (.int .i64 v78))]), some (.map (v79.map (mkv (pAgg Account_.cells) (pInt .i64))))])
def f47r1n0S (a1 : Journal) : Tr × Hp := (initS [(.pl (.agg (Journal.cells a1)))] 0 .leaf, [])
noncomputable def f47r1n0 (a1 : Journal) : Option f47r1n0O :=
  bif (decide (200 < (a1.Records.length : Int))) then
    some (.ret false 0 0 [])
  else
    (f47r1n1 a1).bind fun o68 => match o68 with
    | .norm v70 v71 v72 => some (.ret true v70 v71 v72)
    | .ret v73 v74 v75 => some (.ret false v73 v74 v75)
theorem f47r1n0_ok (a1 : Journal) {o : f47r1n0O} (h : (f47r1n0 a1) = some o) : T Try.prog Try.f47.ntmps 0 c47 (f47r1n0S a1) (fun r => r = f47r1n0E a1 o) := by
  unfold f47r1n0 at h
  rcases cond_cases h with ⟨h3, h⟩ | ⟨h3, h⟩
  · obtain rfl := some_inj h
    exact runK_end cfg_ok (k := 3) (rs := [([], [], []), ([], [], []), ([], [], [(2, .val (.pl (.int .i64 (a1.Records.length : Int))))]), ([], [], [])]) (ps := [some true]) (tds := []) (m := [2, 1]) (keep := [2, 3]) (ex := .ret) (st' := (f47r1n0E a1 (.ret false 0 0 [])).2) (by kernel_rfl) (ap (len_cv (xs := a1.Records) (c := JournalRecord.cells)) (ap h3 an)) (fun h => nomatch h) rfl
  · refine runK_norm cfg_ok (k := 3) (rs := [([], [], []), ([], [], []), ([], [], [(2, .val (.pl (.int .i64 (a1.Records.length : Int))))])]) (ps := [some false]) (tds := []) (m := [0, 2, 1]) (keep := [1, 4]) (st' := (f47r1n1S a1)) (by kernel_rfl) (ap (len_cv (xs := a1.Records) (c := JournalRecord.cells)) (ap h3 an)) ?_
    obtain ⟨o68, h69, h⟩ := bind_cases h
    cases o68 with
    | norm v70 v71 v72 =>
      refine T.oneN (by kernel_rfl) (f47r1n1_ok a1 h69) (st2 := (f47r1n1E a1 (.norm v70 v71 v72)).2) rfl ?_
      obtain rfl := some_inj h
      exact run_end cfg_ok (rs := [([], [], [])]) (ps := []) (tds := []) (m := [0, 1]) (keep := [2, 3]) (r := (.ret, (f47r1n0E a1 (.ret true v70 v71 v72)).2)) (by kernel_rfl) an rfl
    | ret v73 v74 v75 =>
      obtain rfl := some_inj h
      exact T.oneX' (by kernel_rfl) (f47r1n1_ok a1 h69) (tds := []) (m := [0, 1]) (keep := [2, 3]) (st2 := (f47r1n0E a1 (.ret false v73 v74 v75)).2) (by kernel_rfl) an rfl rfl
noncomputable def f47r1 (a1 : Journal) : Option (Bool × Int × Int × (List (Account_ × Int))) := (f47r1n0 a1).bind fun o => match o with
  | .ret v76 v77 v78 v79 => some (v76, v77, v78, v79)
theorem f47r1_ok (a1 : Journal) {r : Bool × Int × Int × (List (Account_ × Int))} (h : (f47r1 a1) = some r) : CallS Try.prog true 47 [(.pl (.agg (Journal.cells a1)))] [] (.tup [(.bp 0 0), (.pl (.bool r.1))]) [some (.box [(.mp 1), (.pl (.int .i64 r.2.1)), (.pl (.int .i64 r.2.2.1))]), some (.map (r.2.2.2.map (mkv (pAgg Account_.cells) (pInt .i64))))] := by
  unfold f47r1 at h
  obtain ⟨o, ho, h⟩ := bind_cases h
  cases o with
  | ret v76 v77 v78 v79 =>
    obtain rfl := some_inj h
    exact CallS.shared cfg_ok (f := Try.f47) (c := c47) (by kernel_rfl) (by kernel_rfl) (by kernel_rfl) ((f47r1n0_ok a1 ho).mono fun r e => by subst e; exact ⟨.inl rfl, by kernel_rfl, by kernel_rfl⟩)

inductive f71r2n2O where
  | exit0
  | ret (v43 : Int)
def f71r2n2E (bc1 : List JournalLine) (bf2 : Int) (bf3 : Int) (bg4 : List (Account_ × Int)) : f71r2n2O → Ex × Tr × Hp
  | .exit0 => ((.exit 0), mkS [], [some (.row false 3 (bc1.map JournalLine.cells)), some (.box [(.bp 2 0)]), some (.box [(.mp 3), (.pl (.int .i64 bf2)), (.pl (.int .i64 bf3))]), some (.map (bg4.map (mkv (pAgg Account_.cells) (pInt .i64))))])
  | .ret v43 => (.ret, mkS [(4, (.pl (.int .i64 v43)))], [some (.row false 3 (bc1.map JournalLine.cells)), some (.box [(.bp 2 0)]), some (.box [(.mp 3), (.pl (.int .i64 bf2)), (.pl (.int .i64 bf3))]), some (.map (bg4.map (mkv (pAgg Account_.cells) (pInt .i64))))])
def f71r2n2S (bc1 : List JournalLine) (bf2 : Int) (bf3 : Int) (bg4 : List (Account_ × Int)) (v30 : Int) : Tr × Hp := (mkS [(0, (.own 0)), (1, (.clo 69 [(.bp 1 0)])), (7, (.pl (.int .i64 (bc1.length : Int)))), (8, (.pl (.int .i64 v30)))], [some (.row false 3 (bc1.map JournalLine.cells)), some (.box [(.bp 2 0)]), some (.box [(.mp 3), (.pl (.int .i64 bf2)), (.pl (.int .i64 bf3))]), some (.map (bg4.map (mkv (pAgg Account_.cells) (pInt .i64))))])
noncomputable def f71r2n2 : Nat → List JournalLine → Int → Int → List (Account_ × Int) → Int → Option f71r2n2O
  | 0, _, _, _, _, _ => none
  | f + 1, bc1, bf2, bf3, bg4, v30 =>
    bif (decide (v30 < (bc1.length : Int))) then
      (at? bc1 v30).bind fun x38 =>
      (f69r1 x38 bf2 bf3 bg4).bind fun x40 =>
      bif x40 then
        some (.ret v30)
      else
        (f71r2n2 f bc1 bf2 bf3 bg4 (wr64 (v30 + 1)))
    else
      some .exit0
theorem f71r2n2_ok : ∀ (f : Nat) (bc1 : List JournalLine) (bf2 : Int) (bf3 : Int) (bg4 : List (Account_ × Int)) (v30 : Int) {o : f71r2n2O}, (f71r2n2 f bc1 bf2 bf3 bg4 v30) = some o → TL Try.prog Try.f71.ntmps 4 f (cL (cL (dropC 1 (cL (dropC 1 c71))))) (f71r2n2S bc1 bf2 bf3 bg4 v30) (fun r => r = f71r2n2E bc1 bf2 bf3 bg4 o)
  | 0, _, _, _, _, _, o, h => by rw [f71r2n2] at h; cases h
  | f + 1, bc1, bf2, bf3, bg4, v30, o, h => by
    rw [f71r2n2] at h
    refine TL.body (K := fun s => ∃ v30 : Int, s = (f71r2n2S bc1 bf2 bf3 bg4 v30) ∧ (f71r2n2 f bc1 bf2 bf3 bg4 v30) = some o) ?_ (by rintro _ ⟨v30, rfl, hk⟩; exact f71r2n2_ok f _ _ _ _ _ hk)
    rcases cond_cases h with ⟨h32, h⟩ | ⟨h32, h⟩
    · obtain ⟨x38, h39, h⟩ := bind_cases h
      obtain ⟨x40, h41, h⟩ := bind_cases h
      rcases cond_cases h with ⟨h42, h⟩ | ⟨h42, h⟩
      · obtain rfl := some_inj h
        exact runK_end cfg_ok (k := 3) (rs := [([], [], []), ([], [], []), ([], [(3, .at_ (Int.toNat v30)), (4, .idx 0 (JournalLine.cells x38)), (5, .call (.pl (.bool x40)) [none, some (.box [(.bp 2 0)]), some (.box [(.mp 3), (.pl (.int .i64 bf2)), (.pl (.int .i64 bf3))]), some (.map (bg4.map (mkv (pAgg Account_.cells) (pInt .i64))))])], []), ([], [], [])]) (ps := [some true, some true]) (tds := []) (m := []) (keep := [4]) (ex := .ret) (st' := (f71r2n2E bc1 bf2 bf3 bg4 (.ret v30)).2) (by kernel_rfl) (ap h32 (ap (at_some h39).1 (ap (lt_map JournalLine.cells (at_some h39).2) (ap (at_map JournalLine.cells (at_some h39).2) (ap (CallS.ren (args' := [(.pl (.agg (JournalLine.cells x38))), (.bp 1 0)]) (v' := (.pl (.bool x40))) (B := [none, some (.box [(.bp 2 0)]), some (.box [(.mp 3), (.pl (.int .i64 bf2)), (.pl (.int .i64 bf3))]), some (.map (bg4.map (mkv (pAgg Account_.cells) (pInt .i64))))]) (B' := [none, some (.box [(.bp 2 0)]), some (.box [(.mp 3), (.pl (.int .i64 bf2)), (.pl (.int .i64 bf3))]), some (.map (bg4.map (mkv (pAgg Account_.cells) (pInt .i64))))]) 4 [1, 2, 3] (f69r1_ok x38 bf2 bf3 bg4 h41) (by kernel_rfl) (by kernel_rfl) (by kernel_rfl) (by kernel_rfl) (by kernel_rfl) (by kernel_rfl)) (ap h42 an)))))) (fun h => nomatch h) (LoopQ.out rfl rfl)
      · exact run_end cfg_ok (rs := [([], [], []), ([], [], []), ([], [(3, .at_ (Int.toNat v30)), (4, .idx 0 (JournalLine.cells x38)), (5, .call (.pl (.bool x40)) [none, some (.box [(.bp 2 0)]), some (.box [(.mp 3), (.pl (.int .i64 bf2)), (.pl (.int .i64 bf3))]), some (.map (bg4.map (mkv (pAgg Account_.cells) (pInt .i64))))])], []), ([], [], [])]) (ps := [some true, some false]) (tds := []) (m := []) (keep := [0, 1, 7, 8]) (r := (.norm, (f71r2n2S bc1 bf2 bf3 bg4 (wr64 (v30 + 1))))) (by kernel_rfl) (ap h32 (ap (at_some h39).1 (ap (lt_map JournalLine.cells (at_some h39).2) (ap (at_map JournalLine.cells (at_some h39).2) (ap (CallS.ren (args' := [(.pl (.agg (JournalLine.cells x38))), (.bp 1 0)]) (v' := (.pl (.bool x40))) (B := [none, some (.box [(.bp 2 0)]), some (.box [(.mp 3), (.pl (.int .i64 bf2)), (.pl (.int .i64 bf3))]), some (.map (bg4.map (mkv (pAgg Account_.cells) (pInt .i64))))]) (B' := [none, some (.box [(.bp 2 0)]), some (.box [(.mp 3), (.pl (.int .i64 bf2)), (.pl (.int .i64 bf3))]), some (.map (bg4.map (mkv (pAgg Account_.cells) (pInt .i64))))]) 4 [1, 2, 3] (f69r1_ok x38 bf2 bf3 bg4 h41) (by kernel_rfl) (by kernel_rfl) (by kernel_rfl) (by kernel_rfl) (by kernel_rfl) (by kernel_rfl)) (ap h42 an)))))) (LoopQ.norm ⟨(wr64 (v30 + 1)), rfl, h⟩)
    · obtain rfl := some_inj h
      exact runK_end cfg_ok (k := 2) (rs := [([], [], [])]) (ps := [some false]) (tds := []) (m := []) (keep := []) (ex := (.exit 0)) (st' := (f71r2n2E bc1 bf2 bf3 bg4 .exit0).2) (by kernel_rfl) (ap h32 an) (fun h => nomatch h) (LoopQ.out rfl rfl)
noncomputable def f71r2n2L (bc1 : List JournalLine) (bf2 : Int) (bf3 : Int) (bg4 : List (Account_ × Int)) : List JournalLine → Int → Option f71r2n2O
  | [], v30 =>
    some .exit0
  | x0 :: rest, v30 =>
    (f69r1 x0 bf2 bf3 bg4).bind fun x40 =>
    bif x40 then
      some (.ret v30)
    else
      (f71r2n2L bc1 bf2 bf3 bg4 rest (v30 + 1))
theorem f71r2n2L_eq (bc1 : List JournalLine) (bf2 : Int) (bf3 : Int) (bg4 : List (Account_ × Int)) : ∀ (rest : List JournalLine) (f k : Nat), bc1.drop k = rest → bc1.length ≤ maxLen → rest.length < f → f71r2n2 f bc1 bf2 bf3 bg4 (k : Int) = f71r2n2L bc1 bf2 bf3 bg4 rest (k : Int)
  | _, 0, _, _, _, hf => absurd hf (Nat.not_lt_zero _)
  | [], f + 1, k, hd, hm, hf => by
    have hk : ¬ ((k : Int) < (bc1.length : Int)) := by have := drop_nil hd; omega
    rw [f71r2n2, f71r2n2L]
    simp only [decide_eq_false hk, cond_false]
  | x0 :: rest, f + 1, k, hd, hm, hf => by
    obtain ⟨hx, hlt, hd'⟩ := drop_cons hd
    have hk : (k : Int) < (bc1.length : Int) := by omega
    have hw : wr64 ((k : Int) + 1) = (k : Int) + 1 := wr64_of (by omega) (by unfold maxLen at hm; omega)
    have ih : f71r2n2 f bc1 bf2 bf3 bg4 ((k : Int) + 1) = f71r2n2L bc1 bf2 bf3 bg4 rest ((k : Int) + 1) := f71r2n2L_eq bc1 bf2 bf3 bg4 rest f (k + 1) hd' hm (by simpa using hf)
    rw [f71r2n2, f71r2n2L]
    simp only [decide_eq_true hk, cond_true, at_nat, hx, Option.bind_some, hw, ih]
theorem f71r2n2_run (bc1 : List JournalLine) (bf2 : Int) (bf3 : Int) (bg4 : List (Account_ × Int)) (hm : bc1.length ≤ maxLen) : f71r2n2 FUEL bc1 bf2 bf3 bg4 0 = f71r2n2L bc1 bf2 bf3 bg4 bc1 0 := f71r2n2L_eq bc1 bf2 bf3 bg4 bc1 FUEL 0 List.drop_zero hm (lt_FUEL hm)
inductive f71r2n1O where
  | norm
  | ret (v47 : Int)
def f71r2n1E (bc1 : List JournalLine) (bf2 : Int) (bf3 : Int) (bg4 : List (Account_ × Int)) : f71r2n1O → Ex × Tr × Hp
  | .norm => (.norm, mkS [], [some (.row false 3 (bc1.map JournalLine.cells)), some (.box [(.bp 2 0)]), some (.box [(.mp 3), (.pl (.int .i64 bf2)), (.pl (.int .i64 bf3))]), some (.map (bg4.map (mkv (pAgg Account_.cells) (pInt .i64))))])
  | .ret v47 => (.ret, mkS [(4, (.pl (.int .i64 v47)))], [some (.row false 3 (bc1.map JournalLine.cells)), some (.box [(.bp 2 0)]), some (.box [(.mp 3), (.pl (.int .i64 bf2)), (.pl (.int .i64 bf3))]), some (.map (bg4.map (mkv (pAgg Account_.cells) (pInt .i64))))])
def f71r2n1S (bc1 : List JournalLine) (bf2 : Int) (bf3 : Int) (bg4 : List (Account_ × Int)) : Tr × Hp := (mkS [(0, (.own 0)), (1, (.clo 69 [(.bp 1 0)]))], [some (.row false 3 (bc1.map JournalLine.cells)), some (.box [(.bp 2 0)]), some (.box [(.mp 3), (.pl (.int .i64 bf2)), (.pl (.int .i64 bf3))]), some (.map (bg4.map (mkv (pAgg Account_.cells) (pInt .i64))))])
noncomputable def f71r2n1 (bc1 : List JournalLine) (bf2 : Int) (bf3 : Int) (bg4 : List (Account_ × Int)) : Option f71r2n1O :=
  (f71r2n2 FUEL bc1 bf2 bf3 bg4 0).bind fun o44 => match o44 with
  | .exit0 => some .norm
  | .ret v46 => some (.ret v46)
theorem f71r2n1_ok (bc1 : List JournalLine) (bf2 : Int) (bf3 : Int) (bg4 : List (Account_ × Int)) {o : f71r2n1O} (h : (f71r2n1 bc1 bf2 bf3 bg4) = some o) : T Try.prog Try.f71.ntmps 4 (cL (dropC 1 c71)) (f71r2n1S bc1 bf2 bf3 bg4) (fun r => r = f71r2n1E bc1 bf2 bf3 bg4 o) := by
  unfold f71r2n1 at h
  refine runK_norm cfg_ok (k := 1) (rs := [([], [], [(1, .val (.pl (.int .i64 (bc1.length : Int))))])]) (ps := []) (tds := []) (m := []) (keep := [0, 1, 7, 8]) (st' := (f71r2n2S bc1 bf2 bf3 bg4 0)) (by kernel_rfl) (ap (len_cv (xs := bc1) (c := JournalLine.cells)) an) ?_
  obtain ⟨o44, h45, h⟩ := bind_cases h
  cases o44 with
  | exit0 =>
    obtain rfl := some_inj h
    exact T.last' (T.bl (i := 0) (by kernel_rfl) (by kernel_rfl) (f71r2n2_ok FUEL bc1 bf2 bf3 bg4 0 h45)) (tds := []) (m := []) (keep := []) (st2 := (f71r2n1E bc1 bf2 bf3 bg4 .norm).2) (by kernel_rfl) an rfl
  | ret v46 =>
    obtain rfl := some_inj h
    exact T.last' (T.bl (i := 0) (by kernel_rfl) (by kernel_rfl) (f71r2n2_ok FUEL bc1 bf2 bf3 bg4 0 h45)) (tds := []) (m := []) (keep := [4]) (st2 := (f71r2n1E bc1 bf2 bf3 bg4 (.ret v46)).2) (by kernel_rfl) an rfl
inductive f71r2n0O where
  | ret (v51 : Int)
def f71r2n0E (a1 : List JournalLine) (a2 : Int) (a3 : Int) (a4 : List (Account_ × Int)) : f71r2n0O → Ex × Tr × Hp
  | .ret v51 => (.ret, mkS [(4, (.pl (.int .i64 v51)))], [some (.row false 3 (a1.map JournalLine.cells)), some (.box [(.bp 2 0)]), some (.box [(.mp 3), (.pl (.int .i64 a2)), (.pl (.int .i64 a3))]), some (.map (a4.map (mkv (pAgg Account_.cells) (pInt .i64))))])
def f71r2n0S (a1 : List JournalLine) (a2 : Int) (a3 : Int) (a4 : List (Account_ × Int)) : Tr × Hp := (initS [(.own 0), (.clo 69 [(.bp 1 0)])] 0 .leaf, [some (.row false 3 (a1.map JournalLine.cells)), some (.box [(.bp 2 0)]), some (.box [(.mp 3), (.pl (.int .i64 a2)), (.pl (.int .i64 a3))]), some (.map (a4.map (mkv (pAgg Account_.cells) (pInt .i64))))])
noncomputable def f71r2n0 (a1 : List JournalLine) (a2 : Int) (a3 : Int) (a4 : List (Account_ × Int)) : Option f71r2n0O :=
  (f71r2n1 a1 a2 a3 a4).bind fun o48 => match o48 with
  | .norm => some (.ret (-1))
  | .ret v50 => some (.ret v50)
theorem f71r2n0_ok (a1 : List JournalLine) (a2 : Int) (a3 : Int) (a4 : List (Account_ × Int)) {o : f71r2n0O} (h : (f71r2n0 a1 a2 a3 a4) = some o) : T Try.prog Try.f71.ntmps 4 c71 (f71r2n0S a1 a2 a3 a4) (fun r => r = f71r2n0E a1 a2 a3 a4 o) := by
  unfold f71r2n0 at h
  refine runK_norm cfg_ok (k := 1) (rs := [([], [], [])]) (ps := []) (tds := []) (m := []) (keep := [0, 1]) (st' := (f71r2n1S a1 a2 a3 a4)) (by kernel_rfl) an ?_
  obtain ⟨o48, h49, h⟩ := bind_cases h
  cases o48 with
  | norm =>
    refine T.oneN (by kernel_rfl) (f71r2n1_ok a1 a2 a3 a4 h49) (st2 := (f71r2n1E a1 a2 a3 a4 .norm).2) rfl ?_
    obtain rfl := some_inj h
    exact run_end cfg_ok (rs := [([], [], [])]) (ps := []) (tds := []) (m := []) (keep := [4]) (r := (.ret, (f71r2n0E a1 a2 a3 a4 (.ret (-1))).2)) (by kernel_rfl) an rfl
  | ret v50 =>
    obtain rfl := some_inj h
    exact T.oneX' (by kernel_rfl) (f71r2n1_ok a1 a2 a3 a4 h49) (tds := []) (m := []) (keep := [4]) (st2 := (f71r2n0E a1 a2 a3 a4 (.ret v50)).2) (by kernel_rfl) an rfl rfl
noncomputable def f71r2 (a1 : List JournalLine) (a2 : Int) (a3 : Int) (a4 : List (Account_ × Int)) : Option Int := (f71r2n0 a1 a2 a3 a4).bind fun o => match o with
  | .ret v51 => some v51
theorem f71r2_ok (a1 : List JournalLine) (a2 : Int) (a3 : Int) (a4 : List (Account_ × Int)) {r : Int} (h : (f71r2 a1 a2 a3 a4) = some r) : CallS Try.prog true 71 [(.own 0), (.clo 69 [(.bp 1 0)])] [some (.row false 3 (a1.map JournalLine.cells)), some (.box [(.bp 2 0)]), some (.box [(.mp 3), (.pl (.int .i64 a2)), (.pl (.int .i64 a3))]), some (.map (a4.map (mkv (pAgg Account_.cells) (pInt .i64))))] (.pl (.int .i64 r)) [some (.row false 3 (a1.map JournalLine.cells)), some (.box [(.bp 2 0)]), some (.box [(.mp 3), (.pl (.int .i64 a2)), (.pl (.int .i64 a3))]), some (.map (a4.map (mkv (pAgg Account_.cells) (pInt .i64))))] := by
  unfold f71r2 at h
  obtain ⟨o, ho, h⟩ := bind_cases h
  cases o with
  | ret v51 =>
    obtain rfl := some_inj h
    exact CallS.shared cfg_ok (f := Try.f71) (c := c71) (by kernel_rfl) (by kernel_rfl) (by kernel_rfl) ((f71r2n0_ok a1 a2 a3 a4 ho).mono fun r e => by subst e; exact ⟨.inl rfl, by kernel_rfl, by kernel_rfl⟩)

inductive f66r2n0O where
  | ret (v9 : Bool)
def f66r2n0E (a1 : List JournalLine) (a2 : Int) (a3 : Int) (a4 : List (Account_ × Int)) : f66r2n0O → Ex × Tr × Hp
  | .ret v9 => (.ret, mkS [(4, (.pl (.bool v9)))], [some (.row false 3 (a1.map JournalLine.cells)), some (.box [(.bp 2 0)]), some (.box [(.mp 3), (.pl (.int .i64 a2)), (.pl (.int .i64 a3))]), some (.map (a4.map (mkv (pAgg Account_.cells) (pInt .i64))))])
def f66r2n0S (a1 : List JournalLine) (a2 : Int) (a3 : Int) (a4 : List (Account_ × Int)) : Tr × Hp := (initS [(.own 0), (.clo 69 [(.bp 1 0)])] 0 .leaf, [some (.row false 3 (a1.map JournalLine.cells)), some (.box [(.bp 2 0)]), some (.box [(.mp 3), (.pl (.int .i64 a2)), (.pl (.int .i64 a3))]), some (.map (a4.map (mkv (pAgg Account_.cells) (pInt .i64))))])
noncomputable def f66r2n0 (a1 : List JournalLine) (a2 : Int) (a3 : Int) (a4 : List (Account_ × Int)) : Option f66r2n0O :=
  (f71r2 a1 a2 a3 a4).bind fun x7 =>
  some (.ret (decide (0 ≤ x7)))
theorem f66r2n0_ok (a1 : List JournalLine) (a2 : Int) (a3 : Int) (a4 : List (Account_ × Int)) {o : f66r2n0O} (h : (f66r2n0 a1 a2 a3 a4) = some o) : T Try.prog Try.f66.ntmps 4 c66 (f66r2n0S a1 a2 a3 a4) (fun r => r = f66r2n0E a1 a2 a3 a4 o) := by
  unfold f66r2n0 at h
  obtain ⟨x7, h8, h⟩ := bind_cases h
  obtain rfl := some_inj h
  exact run_end cfg_ok (rs := [([], [], []), ([], [(2, .call (.pl (.int .i64 x7)) [some (.row false 3 (a1.map JournalLine.cells)), some (.box [(.bp 2 0)]), some (.box [(.mp 3), (.pl (.int .i64 a2)), (.pl (.int .i64 a3))]), some (.map (a4.map (mkv (pAgg Account_.cells) (pInt .i64))))])], [])]) (ps := []) (tds := []) (m := []) (keep := [4]) (r := (.ret, (f66r2n0E a1 a2 a3 a4 (.ret (decide (0 ≤ x7)))).2)) (by kernel_rfl) (ap (f71r2_ok a1 a2 a3 a4 h8) an) rfl
noncomputable def f66r2 (a1 : List JournalLine) (a2 : Int) (a3 : Int) (a4 : List (Account_ × Int)) : Option Bool := (f66r2n0 a1 a2 a3 a4).bind fun o => match o with
  | .ret v9 => some v9
theorem f66r2_ok (a1 : List JournalLine) (a2 : Int) (a3 : Int) (a4 : List (Account_ × Int)) {r : Bool} (h : (f66r2 a1 a2 a3 a4) = some r) : CallS Try.prog true 66 [(.own 0), (.clo 69 [(.bp 1 0)])] [some (.row false 3 (a1.map JournalLine.cells)), some (.box [(.bp 2 0)]), some (.box [(.mp 3), (.pl (.int .i64 a2)), (.pl (.int .i64 a3))]), some (.map (a4.map (mkv (pAgg Account_.cells) (pInt .i64))))] (.pl (.bool r)) [some (.row false 3 (a1.map JournalLine.cells)), some (.box [(.bp 2 0)]), some (.box [(.mp 3), (.pl (.int .i64 a2)), (.pl (.int .i64 a3))]), some (.map (a4.map (mkv (pAgg Account_.cells) (pInt .i64))))] := by
  unfold f66r2 at h
  obtain ⟨o, ho, h⟩ := bind_cases h
  cases o with
  | ret v9 =>
    obtain rfl := some_inj h
    exact CallS.shared cfg_ok (f := Try.f66) (c := c66) (by kernel_rfl) (by kernel_rfl) (by kernel_rfl) ((f66r2n0_ok a1 a2 a3 a4 ho).mono fun r e => by subst e; exact ⟨.inl rfl, by kernel_rfl, by kernel_rfl⟩)

inductive f61r2n0O where
  | ret (v10 : Bool)
def f61r2n0E (a1 : Int) (a2 : ByteArray) (a3 : Int) (a4 : List JournalLine) (a5 : List (Account_ × Int)) : f61r2n0O → Ex × Tr × Hp
  | .ret v10 => (.ret, mkS [(4, (.pl (.bool v10)))], [some (.box [(.mp 2), (.pl (.int .i64 a1)), (.pl (.int .i64 a3))]), some (.row false 3 (a4.map JournalLine.cells)), some (.map (a5.map (mkv (pAgg Account_.cells) (pInt .i64))))])
def f61r2n0S (a1 : Int) (a2 : ByteArray) (a3 : Int) (a4 : List JournalLine) (a5 : List (Account_ × Int)) : Tr × Hp := (initS [(.bp 0 0), (.agg [(.pl (.int .i64 a1)), (.pl (.str a2)), (.own 1)])] 0 .leaf, [some (.box [(.mp 2), (.pl (.int .i64 a1)), (.pl (.int .i64 a3))]), some (.row false 3 (a4.map JournalLine.cells)), some (.map (a5.map (mkv (pAgg Account_.cells) (pInt .i64))))])
noncomputable def f61r2n0 (a1 : Int) (a2 : ByteArray) (a3 : Int) (a4 : List JournalLine) (a5 : List (Account_ × Int)) : Option f61r2n0O :=
  (f66r2 a4 a1 a3 a5).bind fun x8 =>
  some (.ret (!x8))
theorem f61r2n0_ok (a1 : Int) (a2 : ByteArray) (a3 : Int) (a4 : List JournalLine) (a5 : List (Account_ × Int)) {o : f61r2n0O} (h : (f61r2n0 a1 a2 a3 a4 a5) = some o) : T Try.prog Try.f61.ntmps 3 c61 (f61r2n0S a1 a2 a3 a4 a5) (fun r => r = f61r2n0E a1 a2 a3 a4 a5 o) := by
  unfold f61r2n0 at h
  obtain ⟨x8, h9, h⟩ := bind_cases h
  obtain rfl := some_inj h
  exact run_end cfg_ok (rs := [([], [], []), ([], [(3, .call (.pl (.bool x8)) [some (.box [(.mp 2), (.pl (.int .i64 a1)), (.pl (.int .i64 a3))]), some (.row false 3 (a4.map JournalLine.cells)), some (.map (a5.map (mkv (pAgg Account_.cells) (pInt .i64)))), some (.box [(.bp 0 0)]), none])], [])]) (ps := []) (tds := []) (m := []) (keep := [4]) (r := (.ret, (f61r2n0E a1 a2 a3 a4 a5 (.ret (!x8))).2)) (by kernel_rfl) (ap (CallS.ren (args' := [(.own 1), (.clo 69 [(.bp 3 0)])]) (v' := (.pl (.bool x8))) (B := [some (.box [(.mp 2), (.pl (.int .i64 a1)), (.pl (.int .i64 a3))]), some (.row false 3 (a4.map JournalLine.cells)), some (.map (a5.map (mkv (pAgg Account_.cells) (pInt .i64)))), some (.box [(.bp 0 0)]), none]) (B' := [some (.box [(.mp 2), (.pl (.int .i64 a1)), (.pl (.int .i64 a3))]), some (.row false 3 (a4.map JournalLine.cells)), some (.map (a5.map (mkv (pAgg Account_.cells) (pInt .i64)))), some (.box [(.bp 0 0)]), none]) 5 [1, 3, 0, 2] (f66r2_ok a4 a1 a3 a5 h9) (by kernel_rfl) (by kernel_rfl) (by kernel_rfl) (by kernel_rfl) (by kernel_rfl) (by kernel_rfl)) an) rfl
noncomputable def f61r2 (a1 : Int) (a2 : ByteArray) (a3 : Int) (a4 : List JournalLine) (a5 : List (Account_ × Int)) : Option Bool := (f61r2n0 a1 a2 a3 a4 a5).bind fun o => match o with
  | .ret v10 => some v10
theorem f61r2_ok (a1 : Int) (a2 : ByteArray) (a3 : Int) (a4 : List JournalLine) (a5 : List (Account_ × Int)) {r : Bool} (h : (f61r2 a1 a2 a3 a4 a5) = some r) : CallS Try.prog true 61 [(.bp 0 0), (.agg [(.pl (.int .i64 a1)), (.pl (.str a2)), (.own 1)])] [some (.box [(.mp 2), (.pl (.int .i64 a1)), (.pl (.int .i64 a3))]), some (.row false 3 (a4.map JournalLine.cells)), some (.map (a5.map (mkv (pAgg Account_.cells) (pInt .i64))))] (.pl (.bool r)) [some (.box [(.mp 2), (.pl (.int .i64 a1)), (.pl (.int .i64 a3))]), some (.row false 3 (a4.map JournalLine.cells)), some (.map (a5.map (mkv (pAgg Account_.cells) (pInt .i64))))] := by
  unfold f61r2 at h
  obtain ⟨o, ho, h⟩ := bind_cases h
  cases o with
  | ret v10 =>
    obtain rfl := some_inj h
    exact CallS.shared cfg_ok (f := Try.f61) (c := c61) (by kernel_rfl) (by kernel_rfl) (by kernel_rfl) ((f61r2n0_ok a1 a2 a3 a4 a5 ho).mono fun r e => by subst e; exact ⟨.inl rfl, by kernel_rfl, by kernel_rfl⟩)

inductive f44r3n2O where
  | exit0 (v45 : List (Account_ × Int))
def f44r3n2E (bc3 : List JournalLine) (bf1 : Int) (bf2 : Int) (bf5 : Int) (bd6 : ByteArray) : f44r3n2O → Ex × Tr × Hp
  | .exit0 v45 => ((.exit 0), mkS [(0, (.bp 0 0)), (3, (.bp 3 0))], [some (.box [(.mp 2), (.pl (.int .i64 bf1)), (.pl (.int .i64 bf2))]), some (.row false 3 (bc3.map JournalLine.cells)), some (.map (v45.map (mkv (pAgg Account_.cells) (pInt .i64)))), some (.box [(.pl (.int .i64 bf5)), (.pl (.str bd6)), (.own 1)])])
def f44r3n2S (bc3 : List JournalLine) (bf1 : Int) (bf2 : Int) (bf5 : Int) (bd6 : ByteArray) (v37 : Int) (v38 : List (Account_ × Int)) : Tr × Hp := (mkS [(0, (.bp 0 0)), (3, (.bp 3 0)), (32, (.own 1)), (33, (.pl (.int .i64 (bc3.length : Int)))), (34, (.pl (.int .i64 v37)))], [some (.box [(.mp 2), (.pl (.int .i64 bf1)), (.pl (.int .i64 bf2))]), some (.row false 3 (bc3.map JournalLine.cells)), some (.map (v38.map (mkv (pAgg Account_.cells) (pInt .i64)))), some (.box [(.pl (.int .i64 bf5)), (.pl (.str bd6)), (.own 1)])])
noncomputable def f44r3n2 : Nat → List JournalLine → Int → Int → Int → ByteArray → Int → List (Account_ × Int) → Option f44r3n2O
  | 0, _, _, _, _, _, _, _ => none
  | f + 1, bc3, bf1, bf2, bf5, bd6, v37, v38 =>
    bif (decide (v37 < (bc3.length : Int))) then
      (at? bc3 v37).bind fun x43 =>
      (f44r3n2 f bc3 bf1 bf2 bf5 bd6 (wr64 (v37 + 1)) (mPut Account_.eqb (Account_.mk x43.Account x43.Ccy) (wr64 ((mGet Account_.eqb 0 (Account_.mk x43.Account x43.Ccy) v38) + x43.Amount)) v38))
    else
      some (.exit0 v38)
theorem f44r3n2_ok : ∀ (f : Nat) (bc3 : List JournalLine) (bf1 : Int) (bf2 : Int) (bf5 : Int) (bd6 : ByteArray) (v37 : Int) (v38 : List (Account_ × Int)) {o : f44r3n2O}, (f44r3n2 f bc3 bf1 bf2 bf5 bd6 v37 v38) = some o → TL Try.prog Try.f44.ntmps 3 f (cL (cL (dropC 1 (cL (dropC 2 c44))))) (f44r3n2S bc3 bf1 bf2 bf5 bd6 v37 v38) (fun r => r = f44r3n2E bc3 bf1 bf2 bf5 bd6 o)
  | 0, _, _, _, _, _, _, _, o, h => by rw [f44r3n2] at h; cases h
  | f + 1, bc3, bf1, bf2, bf5, bd6, v37, v38, o, h => by
    rw [f44r3n2] at h
    refine TL.body (K := fun s => ∃ v37 : Int, ∃ v38 : List (Account_ × Int), s = (f44r3n2S bc3 bf1 bf2 bf5 bd6 v37 v38) ∧ (f44r3n2 f bc3 bf1 bf2 bf5 bd6 v37 v38) = some o) ?_ (by rintro _ ⟨v37, v38, rfl, hk⟩; exact f44r3n2_ok f _ _ _ _ _ _ _ hk)
    rcases cond_cases h with ⟨h40, h⟩ | ⟨h40, h⟩
    · obtain ⟨x43, h44, h⟩ := bind_cases h
      exact run_end cfg_ok (rs := [([], [], []), ([], [(0, .at_ (Int.toNat v37)), (1, .idx 0 (JournalLine.cells x43))], []), ([], [(9, .look ((pInt .i64) (mGet Account_.eqb 0 (Account_.mk x43.Account x43.Ccy) v38)) (mHas Account_.eqb (Account_.mk x43.Account x43.Ccy) v38)), (13, .ment ((pInt .i64) (mGet Account_.eqb 0 (Account_.mk x43.Account x43.Ccy) v38)) (mIdx Account_.eqb (Account_.mk x43.Account x43.Ccy) v38) ((mEns Account_.eqb 0 (Account_.mk x43.Account x43.Ccy) v38).map (mkv (pAgg Account_.cells) (pInt .i64)))), (15, .mst (mIdx Account_.eqb (Account_.mk x43.Account x43.Ccy) v38) ((pAgg Account_.cells) (Account_.mk x43.Account x43.Ccy)) ((pInt .i64) (mGet Account_.eqb 0 (Account_.mk x43.Account x43.Ccy) v38)))], [(15, .map 2 ((mPut Account_.eqb (Account_.mk x43.Account x43.Ccy) (wr64 ((mGet Account_.eqb 0 (Account_.mk x43.Account x43.Ccy) v38) + x43.Amount)) v38).map (mkv (pAgg Account_.cells) (pInt .i64))))]), ([], [], [])]) (ps := [some true]) (tds := []) (m := [3]) (keep := [0, 3, 32, 33, 34]) (r := (.norm, (f44r3n2S bc3 bf1 bf2 bf5 bd6 (wr64 (v37 + 1)) (mPut Account_.eqb (Account_.mk x43.Account x43.Ccy) (wr64 ((mGet Account_.eqb 0 (Account_.mk x43.Account x43.Ccy) v38) + x43.Amount)) v38)))) (by kernel_rfl) (ap h40 (ap (at_some h44).1 (ap (lt_map JournalLine.cells (at_some h44).2) (ap (at_map JournalLine.cells (at_some h44).2) (ap (look_map (vp := (pInt .i64)) (e := 3) key_95 0 (by kernel_rfl) (Account_.mk x43.Account x43.Ccy) v38) (ap (ment_map (vp := (pInt .i64)) (e := 3) key_95 0 (by kernel_rfl) (Account_.mk x43.Account x43.Ccy) v38) (ap (rfl : ((mIdx Account_.eqb (Account_.mk x43.Account x43.Ccy) v38) : Int) = (((mIdx Account_.eqb (Account_.mk x43.Account x43.Ccy) v38) : Nat) : Int)) (ap (mst_at (vp := (pInt .i64)) key_95 0 (Account_.mk x43.Account x43.Ccy) v38) (ap (mst_put (vp := (pInt .i64)) key_95 0 (wr64 ((mGet Account_.eqb 0 (Account_.mk x43.Account x43.Ccy) v38) + x43.Amount)) (Account_.mk x43.Account x43.Ccy) v38) an))))))))) (LoopQ.norm ⟨(wr64 (v37 + 1)), (mPut Account_.eqb (Account_.mk x43.Account x43.Ccy) (wr64 ((mGet Account_.eqb 0 (Account_.mk x43.Account x43.Ccy) v38) + x43.Amount)) v38), rfl, h⟩)
    · obtain rfl := some_inj h
      exact runK_end cfg_ok (k := 2) (rs := [([], [], [])]) (ps := [some false]) (tds := []) (m := [3]) (keep := [0, 3]) (ex := (.exit 0)) (st' := (f44r3n2E bc3 bf1 bf2 bf5 bd6 (.exit0 v38)).2) (by kernel_rfl) (ap h40 an) (fun h => nomatch h) (LoopQ.out rfl rfl)
noncomputable def f44r3n2L (bc3 : List JournalLine) (bf1 : Int) (bf2 : Int) (bf5 : Int) (bd6 : ByteArray) : List JournalLine → Int → (List (Account_ × Int)) → Option f44r3n2O
  | [], v37, v38 =>
    some (.exit0 v38)
  | x0 :: rest, v37, v38 =>
    (f44r3n2L bc3 bf1 bf2 bf5 bd6 rest (v37 + 1) (mPut Account_.eqb (Account_.mk x0.Account x0.Ccy) (wr64 ((mGet Account_.eqb 0 (Account_.mk x0.Account x0.Ccy) v38) + x0.Amount)) v38))
theorem f44r3n2L_eq (bc3 : List JournalLine) (bf1 : Int) (bf2 : Int) (bf5 : Int) (bd6 : ByteArray) : ∀ (rest : List JournalLine) (f k : Nat) (v38 : List (Account_ × Int)), bc3.drop k = rest → bc3.length ≤ maxLen → rest.length < f → f44r3n2 f bc3 bf1 bf2 bf5 bd6 (k : Int) v38 = f44r3n2L bc3 bf1 bf2 bf5 bd6 rest (k : Int) v38
  | _, 0, _, _, _, _, hf => absurd hf (Nat.not_lt_zero _)
  | [], f + 1, k, v38, hd, hm, hf => by
    have hk : ¬ ((k : Int) < (bc3.length : Int)) := by have := drop_nil hd; omega
    rw [f44r3n2, f44r3n2L]
    simp only [decide_eq_false hk, cond_false]
  | x0 :: rest, f + 1, k, v38, hd, hm, hf => by
    obtain ⟨hx, hlt, hd'⟩ := drop_cons hd
    have hk : (k : Int) < (bc3.length : Int) := by omega
    have hw : wr64 ((k : Int) + 1) = (k : Int) + 1 := wr64_of (by omega) (by unfold maxLen at hm; omega)
    have ih : ∀ (v38 : List (Account_ × Int)), f44r3n2 f bc3 bf1 bf2 bf5 bd6 ((k : Int) + 1) v38 = f44r3n2L bc3 bf1 bf2 bf5 bd6 rest ((k : Int) + 1) v38 := fun v38 => f44r3n2L_eq bc3 bf1 bf2 bf5 bd6 rest f (k + 1) v38 hd' hm (by simpa using hf)
    rw [f44r3n2, f44r3n2L]
    simp only [decide_eq_true hk, cond_true, at_nat, hx, Option.bind_some, hw, ih]
theorem f44r3n2_run (bc3 : List JournalLine) (bf1 : Int) (bf2 : Int) (bf5 : Int) (bd6 : ByteArray) (v38 : List (Account_ × Int)) (hm : bc3.length ≤ maxLen) : f44r3n2 FUEL bc3 bf1 bf2 bf5 bd6 0 v38 = f44r3n2L bc3 bf1 bf2 bf5 bd6 bc3 0 v38 := f44r3n2L_eq bc3 bf1 bf2 bf5 bd6 bc3 FUEL 0 v38 List.drop_zero hm (lt_FUEL hm)
inductive f44r3n1O where
  | norm (v49 : List (Account_ × Int))
def f44r3n1E (bf1 : Int) (bf2 : Int) (bc3 : List JournalLine) (bg4 : List (Account_ × Int)) (bf5 : Int) (bd6 : ByteArray) : f44r3n1O → Ex × Tr × Hp
  | .norm v49 => (.norm, mkS [(0, (.bp 0 0)), (3, (.bp 3 0))], [some (.box [(.mp 2), (.pl (.int .i64 bf1)), (.pl (.int .i64 bf2))]), some (.row false 3 (bc3.map JournalLine.cells)), some (.map (v49.map (mkv (pAgg Account_.cells) (pInt .i64)))), some (.box [(.pl (.int .i64 bf5)), (.pl (.str bd6)), (.own 1)])])
def f44r3n1S (bf1 : Int) (bf2 : Int) (bc3 : List JournalLine) (bg4 : List (Account_ × Int)) (bf5 : Int) (bd6 : ByteArray) : Tr × Hp := (mkS [(0, (.bp 0 0)), (3, (.bp 3 0))], [some (.box [(.mp 2), (.pl (.int .i64 bf1)), (.pl (.int .i64 bf2))]), some (.row false 3 (bc3.map JournalLine.cells)), some (.map (bg4.map (mkv (pAgg Account_.cells) (pInt .i64)))), some (.box [(.pl (.int .i64 bf5)), (.pl (.str bd6)), (.own 1)])])
noncomputable def f44r3n1 (bf1 : Int) (bf2 : Int) (bc3 : List JournalLine) (bg4 : List (Account_ × Int)) (bf5 : Int) (bd6 : ByteArray) : Option f44r3n1O :=
  (f44r3n2 FUEL bc3 bf1 bf2 bf5 bd6 0 bg4).bind fun o46 => match o46 with
  | .exit0 v48 => some (.norm v48)
theorem f44r3n1_ok (bf1 : Int) (bf2 : Int) (bc3 : List JournalLine) (bg4 : List (Account_ × Int)) (bf5 : Int) (bd6 : ByteArray) {o : f44r3n1O} (h : (f44r3n1 bf1 bf2 bc3 bg4 bf5 bd6) = some o) : T Try.prog Try.f44.ntmps 3 (cL (dropC 2 c44)) (f44r3n1S bf1 bf2 bc3 bg4 bf5 bd6) (fun r => r = f44r3n1E bf1 bf2 bc3 bg4 bf5 bd6 o) := by
  unfold f44r3n1 at h
  refine runK_norm cfg_ok (k := 1) (rs := [([], [], [(2, .val (.pl (.int .i64 (bc3.length : Int))))])]) (ps := []) (tds := []) (m := [3]) (keep := [0, 3, 32, 33, 34]) (st' := (f44r3n2S bc3 bf1 bf2 bf5 bd6 0 bg4)) (by kernel_rfl) (ap (len_cv (xs := bc3) (c := JournalLine.cells)) an) ?_
  obtain ⟨o46, h47, h⟩ := bind_cases h
  cases o46 with
  | exit0 v48 =>
    obtain rfl := some_inj h
    exact T.last' (T.bl (i := 0) (by kernel_rfl) (by kernel_rfl) (f44r3n2_ok FUEL bc3 bf1 bf2 bf5 bd6 0 bg4 h47)) (tds := []) (m := [3]) (keep := [0, 3]) (st2 := (f44r3n1E bf1 bf2 bc3 bg4 bf5 bd6 (.norm v48)).2) (by kernel_rfl) an rfl
inductive f44r3n0O where
  | ret (v57 : Bool) (v58 : Int) (v59 : Int) (v60 : List (Account_ × Int))
def f44r3n0E (a1 : Int) (a2 : ByteArray) (a3 : Int) (a4 : Int) (a5 : List JournalLine) (a6 : List (Account_ × Int)) : f44r3n0O → Ex × Tr × Hp
  | .ret v57 v58 v59 v60 => (.ret, mkS [(4, (.pl (.bool v57)))], [some (.box [(.mp 2), (.pl (.int .i64 v58)), (.pl (.int .i64 v59))]), some (.row false 3 (a5.map JournalLine.cells)), some (.map (v60.map (mkv (pAgg Account_.cells) (pInt .i64))))])
def f44r3n0S (a1 : Int) (a2 : ByteArray) (a3 : Int) (a4 : Int) (a5 : List JournalLine) (a6 : List (Account_ × Int)) : Tr × Hp := (initS [(.bp 0 0), (.agg [(.pl (.int .i64 a1)), (.pl (.str a2)), (.own 1)])] 0 .leaf, [some (.box [(.mp 2), (.pl (.int .i64 a3)), (.pl (.int .i64 a4))]), some (.row false 3 (a5.map JournalLine.cells)), some (.map (a6.map (mkv (pAgg Account_.cells) (pInt .i64))))])
noncomputable def f44r3n0 (a1 : Int) (a2 : ByteArray) (a3 : Int) (a4 : Int) (a5 : List JournalLine) (a6 : List (Account_ × Int)) : Option f44r3n0O :=
  bif (decide (a4 = 200)) then
    some (.ret false a3 a4 a6)
  else
    (f49 (JournalRecord.mk a1 a2 a5)).bind fun x16 =>
    bif x16 then
      (f50 (JournalRecord.mk a1 a2 a5)).bind fun x19 =>
      bif x19 then
        bif (decide (a1 < a3)) then
          some (.ret false a3 a4 a6)
        else
          (f44r3n1 a3 a4 a5 a6 a1 a2).bind fun o50 => match o50 with
          | .norm v52 => (f61r2 a1 a2 (wr64 (a4 + 1)) a5 v52).bind fun x55 =>
            some (.ret x55 a1 (wr64 (a4 + 1)) v52)
      else
        some (.ret false a3 a4 a6)
    else
      some (.ret false a3 a4 a6)
theorem f44r3n0_ok (a1 : Int) (a2 : ByteArray) (a3 : Int) (a4 : Int) (a5 : List JournalLine) (a6 : List (Account_ × Int)) {o : f44r3n0O} (h : (f44r3n0 a1 a2 a3 a4 a5 a6) = some o) : T Try.prog Try.f44.ntmps 3 c44 (f44r3n0S a1 a2 a3 a4 a5 a6) (fun r => r = f44r3n0E a1 a2 a3 a4 a5 a6 o) := by
  unfold f44r3n0 at h
  rcases cond_cases h with ⟨h15, h⟩ | ⟨h15, h⟩
  · obtain rfl := some_inj h
    exact runK_end cfg_ok (k := 2) (rs := [([], [], []), ([(6, true), (7, true), (8, true)], [(9, .bool true)], []), ([], [], [])]) (ps := [none]) (tds := []) (m := []) (keep := [4]) (ex := .ret) (st' := (f44r3n0E a1 a2 a3 a4 a5 a6 (.ret false a3 a4 a6)).2) (by kernel_rfl) (ap h15 (ap h15 (ap h15 (ap h15 an)))) (fun h => nomatch h) rfl
  · obtain ⟨x16, h17, h⟩ := bind_cases h
    rcases cond_cases h with ⟨h18, h⟩ | ⟨h18, h⟩
    · obtain ⟨x19, h20, h⟩ := bind_cases h
      rcases cond_cases h with ⟨h21, h⟩ | ⟨h21, h⟩
      · rcases cond_cases h with ⟨h22, h⟩ | ⟨h22, h⟩
        · obtain rfl := some_inj h
          exact runK_end cfg_ok (k := 2) (rs := [([], [], []), ([(6, false), (7, false), (8, false), (11, false), (12, false), (13, false), (16, false), (17, false), (18, false), (19, false), (20, false), (21, false), (22, false)], [(7, .call (.pl (.bool x16)) []), (9, .bool false), (12, .call (.pl (.bool x19)) []), (14, .bool false), (23, .bool false)], []), ([], [], [])]) (ps := [some true]) (tds := []) (m := []) (keep := [4]) (ex := .ret) (st' := (f44r3n0E a1 a2 a3 a4 a5 a6 (.ret false a3 a4 a6)).2) (by kernel_rfl) (ap h15 (ap h15 (ap h15 (ap h15 (ap (not_t h18) (ap (not_t h18) (ap (not_t h18) (ap (not_t h18) (ap (not_t h21) (ap (not_t h21) (ap (not_t h21) (ap (not_t h21) (ap (not_t h21) (ap (not_t h21) (ap (not_t h21) (ap (not_t h21) (ap (f49_ok (JournalRecord.mk a1 a2 a5) h17) (ap (f50_ok (JournalRecord.mk a1 a2 a5) h20) (ap h22 an))))))))))))))))))) (fun h => nomatch h) rfl
        · refine runK_norm cfg_ok (k := 2) (rs := [([], [], []), ([(6, false), (7, false), (8, false), (11, false), (12, false), (13, false), (16, false), (17, false), (18, false), (19, false), (20, false), (21, false), (22, false)], [(7, .call (.pl (.bool x16)) []), (9, .bool false), (12, .call (.pl (.bool x19)) []), (14, .bool false), (23, .bool false)], [])]) (ps := [some false]) (tds := []) (m := [3]) (keep := [0, 3]) (st' := (f44r3n1S a3 a4 a5 a6 a1 a2)) (by kernel_rfl) (ap h15 (ap h15 (ap h15 (ap h15 (ap (not_t h18) (ap (not_t h18) (ap (not_t h18) (ap (not_t h18) (ap (not_t h21) (ap (not_t h21) (ap (not_t h21) (ap (not_t h21) (ap (not_t h21) (ap (not_t h21) (ap (not_t h21) (ap (not_t h21) (ap (f49_ok (JournalRecord.mk a1 a2 a5) h17) (ap (f50_ok (JournalRecord.mk a1 a2 a5) h20) (ap h22 an))))))))))))))))))) ?_
          obtain ⟨o50, h51, h⟩ := bind_cases h
          cases o50 with
          | norm v52 =>
            refine T.oneN (by kernel_rfl) (f44r3n1_ok a3 a4 a5 a6 a1 a2 h51) (st2 := (f44r3n1E a3 a4 a5 a6 a1 a2 (.norm v52)).2) rfl ?_
            obtain ⟨x55, h56, h⟩ := bind_cases h
            obtain rfl := some_inj h
            exact run_end cfg_ok (rs := [([], [], []), ([], [(2, .call (.pl (.bool x55)) [some (.box [(.mp 2), (.pl (.int .i64 a1)), (.pl (.int .i64 (wr64 (a4 + 1))))]), some (.row false 3 (a5.map JournalLine.cells)), some (.map (v52.map (mkv (pAgg Account_.cells) (pInt .i64)))), none, none])], [])]) (ps := []) (tds := []) (m := []) (keep := [4]) (r := (.ret, (f44r3n0E a1 a2 a3 a4 a5 a6 (.ret x55 a1 (wr64 (a4 + 1)) v52)).2)) (by kernel_rfl) (ap (CallS.ren (args' := [(.bp 0 0), (.agg [(.pl (.int .i64 a1)), (.pl (.str a2)), (.own 1)])]) (v' := (.pl (.bool x55))) (B := [some (.box [(.mp 2), (.pl (.int .i64 a1)), (.pl (.int .i64 (wr64 (a4 + 1))))]), some (.row false 3 (a5.map JournalLine.cells)), some (.map (v52.map (mkv (pAgg Account_.cells) (pInt .i64)))), none, none]) (B' := [some (.box [(.mp 2), (.pl (.int .i64 a1)), (.pl (.int .i64 (wr64 (a4 + 1))))]), some (.row false 3 (a5.map JournalLine.cells)), some (.map (v52.map (mkv (pAgg Account_.cells) (pInt .i64)))), none, none]) 5 [0, 1, 2] (f61r2_ok a1 a2 (wr64 (a4 + 1)) a5 v52 h56) (by kernel_rfl) (by kernel_rfl) (by kernel_rfl) (by kernel_rfl) (by kernel_rfl) (by kernel_rfl)) an) rfl
      · obtain rfl := some_inj h
        exact runK_end cfg_ok (k := 2) (rs := [([], [], []), ([(6, false), (7, false), (8, false), (11, false), (12, false), (13, false), (16, true), (17, true), (18, true), (19, true), (20, true), (21, true), (22, true)], [(7, .call (.pl (.bool x16)) []), (9, .bool false), (12, .call (.pl (.bool x19)) []), (14, .bool false), (23, .bool true)], []), ([], [], [])]) (ps := [none]) (tds := []) (m := []) (keep := [4]) (ex := .ret) (st' := (f44r3n0E a1 a2 a3 a4 a5 a6 (.ret false a3 a4 a6)).2) (by kernel_rfl) (ap h15 (ap h15 (ap h15 (ap h15 (ap (not_t h18) (ap (not_t h18) (ap (not_t h18) (ap (not_t h18) (ap (not_f h21) (ap (not_f h21) (ap (not_f h21) (ap (not_f h21) (ap (not_f h21) (ap (not_f h21) (ap (not_f h21) (ap (not_f h21) (ap (f49_ok (JournalRecord.mk a1 a2 a5) h17) (ap (f50_ok (JournalRecord.mk a1 a2 a5) h20) an)))))))))))))))))) (fun h => nomatch h) rfl
    · obtain rfl := some_inj h
      exact runK_end cfg_ok (k := 2) (rs := [([], [], []), ([(6, false), (7, false), (8, false), (11, true), (12, true), (13, true)], [(7, .call (.pl (.bool x16)) []), (9, .bool false), (14, .bool true)], []), ([], [], [])]) (ps := [none]) (tds := []) (m := []) (keep := [4]) (ex := .ret) (st' := (f44r3n0E a1 a2 a3 a4 a5 a6 (.ret false a3 a4 a6)).2) (by kernel_rfl) (ap h15 (ap h15 (ap h15 (ap h15 (ap (not_f h18) (ap (not_f h18) (ap (not_f h18) (ap (not_f h18) (ap (f49_ok (JournalRecord.mk a1 a2 a5) h17) an))))))))) (fun h => nomatch h) rfl
noncomputable def f44r3 (a1 : Int) (a2 : ByteArray) (a3 : Int) (a4 : Int) (a5 : List JournalLine) (a6 : List (Account_ × Int)) : Option (Bool × Int × Int × (List (Account_ × Int))) := (f44r3n0 a1 a2 a3 a4 a5 a6).bind fun o => match o with
  | .ret v57 v58 v59 v60 => some (v57, v58, v59, v60)
theorem f44r3_ok (a1 : Int) (a2 : ByteArray) (a3 : Int) (a4 : Int) (a5 : List JournalLine) (a6 : List (Account_ × Int)) {r : Bool × Int × Int × (List (Account_ × Int))} (h : (f44r3 a1 a2 a3 a4 a5 a6) = some r) : CallS Try.prog true 44 [(.bp 0 0), (.agg [(.pl (.int .i64 a1)), (.pl (.str a2)), (.own 1)])] [some (.box [(.mp 2), (.pl (.int .i64 a3)), (.pl (.int .i64 a4))]), some (.row false 3 (a5.map JournalLine.cells)), some (.map (a6.map (mkv (pAgg Account_.cells) (pInt .i64))))] (.pl (.bool r.1)) [some (.box [(.mp 2), (.pl (.int .i64 r.2.1)), (.pl (.int .i64 r.2.2.1))]), some (.row false 3 (a5.map JournalLine.cells)), some (.map (r.2.2.2.map (mkv (pAgg Account_.cells) (pInt .i64))))] := by
  unfold f44r3 at h
  obtain ⟨o, ho, h⟩ := bind_cases h
  cases o with
  | ret v57 v58 v59 v60 =>
    obtain rfl := some_inj h
    exact CallS.shared cfg_ok (f := Try.f44) (c := c44) (by kernel_rfl) (by kernel_rfl) (by kernel_rfl) ((f44r3n0_ok a1 a2 a3 a4 a5 a6 ho).mono fun r e => by subst e; exact ⟨.inl rfl, by kernel_rfl, by kernel_rfl⟩)

noncomputable def c51 : Code := Try.f51.body.getD .skip
inductive f51r1n2O where
  | exit0 (v40 : List JournalRecord)
def f51r1n2E (bi1 : List JournalRecord) : f51r1n2O → Ex × Tr × Hp
  | .exit0 v40 => ((.exit 0), mkS [(3, (.own 0))], [some (.row false 3 (v40.map JournalRecord.cells))])
def f51r1n2S (bi1 : List JournalRecord) (v26 : Int) (v27 : List JournalRecord) : Tr × Hp := (mkS [(3, (.own 0)), (6, (.pl (.sl .any 3 (bi1.map JournalRecord.cells)))), (7, (.pl (.int .i64 (bi1.length : Int)))), (8, (.pl (.int .i64 v26)))], [some (.row false 3 (v27.map JournalRecord.cells))])
noncomputable def f51r1n2 : Nat → List JournalRecord → Int → List JournalRecord → Option f51r1n2O
  | 0, _, _, _ => none
  | f + 1, bi1, v26, v27 =>
    bif (decide (v26 < (bi1.length : Int))) then
      (at? bi1 v26).bind fun x35 =>
      (f48r1 x35.Lines).bind fun x37 =>
      req (fit (v27.length + 1) 48) <|
      (f51r1n2 f bi1 (wr64 (v26 + 1)) (v27 ++ [(JournalRecord.mk x35.Day x35.Text x37)]))
    else
      some (.exit0 v27)
theorem f51r1n2_ok : ∀ (f : Nat) (bi1 : List JournalRecord) (v26 : Int) (v27 : List JournalRecord) {o : f51r1n2O}, (f51r1n2 f bi1 v26 v27) = some o → TL Try.prog Try.f51.ntmps 0 f (cL (cL (dropC 1 (cL (dropC 2 c51))))) (f51r1n2S bi1 v26 v27) (fun r => r = f51r1n2E bi1 o)
  | 0, _, _, _, o, h => by rw [f51r1n2] at h; cases h
  | f + 1, bi1, v26, v27, o, h => by
    rw [f51r1n2] at h
    refine TL.body (K := fun s => ∃ v26 : Int, ∃ v27 : List JournalRecord, s = (f51r1n2S bi1 v26 v27) ∧ (f51r1n2 f bi1 v26 v27) = some o) ?_ (by rintro _ ⟨v26, v27, rfl, hk⟩; exact f51r1n2_ok f _ _ _ hk)
    rcases cond_cases h with ⟨h29, h⟩ | ⟨h29, h⟩
    · obtain ⟨x35, h36, h⟩ := bind_cases h
      obtain ⟨x37, h38, h⟩ := bind_cases h
      obtain ⟨h39, h⟩ := req_cases h
      exact run_end cfg_ok (rs := [([], [], []), ([], [(0, .idx (Int.toNat v26) (JournalRecord.cells x35))], []), ([], [(2, .call (.own 2) [none, none, some (.row false 3 (x37.map JournalLine.cells))])], []), ([], [(3, .fits)], [(3, .row 4 ((v27 ++ [(JournalRecord.mk x35.Day x35.Text x37)]).map JournalRecord.cells))]), ([], [], [])]) (ps := [some true]) (tds := []) (m := [4]) (keep := [3, 6, 7, 8]) (r := (.norm, (f51r1n2S bi1 (wr64 (v26 + 1)) (v27 ++ [(JournalRecord.mk x35.Day x35.Text x37)])))) (by kernel_rfl) (ap h29 (ap (at_some h36).1 (ap (at_map JournalRecord.cells (at_some h36).2) (ap (CallS.ren (args' := [(.pl (.sl .any 3 (x35.Lines.map JournalLine.cells)))]) (v' := (.own 2)) (B := [none, none]) (B' := [none, none, some (.row false 3 (x37.map JournalLine.cells))]) 2 [] (f48r1_ok x35.Lines h38) (by kernel_rfl) (by kernel_rfl) (by kernel_rfl) (by kernel_rfl) (by kernel_rfl) (by kernel_rfl)) (ap (fit_map (te := ti47) (xs := v27) (n := 1) (c := JournalRecord.cells) h39 rfl) (ap (app_cv (xs := v27) (ys := [(JournalRecord.mk x35.Day x35.Text x37)]) (c := JournalRecord.cells)) an)))))) (LoopQ.norm ⟨(wr64 (v26 + 1)), (v27 ++ [(JournalRecord.mk x35.Day x35.Text x37)]), rfl, h⟩)
    · obtain rfl := some_inj h
      exact runK_end cfg_ok (k := 2) (rs := [([], [], [])]) (ps := [some false]) (tds := []) (m := [0]) (keep := [3]) (ex := (.exit 0)) (st' := (f51r1n2E bi1 (.exit0 v27)).2) (by kernel_rfl) (ap h29 an) (fun h => nomatch h) (LoopQ.out rfl rfl)
noncomputable def f51r1n2L (bi1 : List JournalRecord) : List JournalRecord → Int → (List JournalRecord) → Option f51r1n2O
  | [], v26, v27 =>
    some (.exit0 v27)
  | x0 :: rest, v26, v27 =>
    (f48r1 x0.Lines).bind fun x37 =>
    req (fit (v27.length + 1) 48) <|
    (f51r1n2L bi1 rest (v26 + 1) (v27 ++ [(JournalRecord.mk x0.Day x0.Text x37)]))
theorem f51r1n2L_eq (bi1 : List JournalRecord) : ∀ (rest : List JournalRecord) (f k : Nat) (v27 : List JournalRecord), bi1.drop k = rest → bi1.length ≤ maxLen → rest.length < f → f51r1n2 f bi1 (k : Int) v27 = f51r1n2L bi1 rest (k : Int) v27
  | _, 0, _, _, _, _, hf => absurd hf (Nat.not_lt_zero _)
  | [], f + 1, k, v27, hd, hm, hf => by
    have hk : ¬ ((k : Int) < (bi1.length : Int)) := by have := drop_nil hd; omega
    rw [f51r1n2, f51r1n2L]
    simp only [decide_eq_false hk, cond_false]
  | x0 :: rest, f + 1, k, v27, hd, hm, hf => by
    obtain ⟨hx, hlt, hd'⟩ := drop_cons hd
    have hk : (k : Int) < (bi1.length : Int) := by omega
    have hw : wr64 ((k : Int) + 1) = (k : Int) + 1 := wr64_of (by omega) (by unfold maxLen at hm; omega)
    have ih : ∀ (v27 : List JournalRecord), f51r1n2 f bi1 ((k : Int) + 1) v27 = f51r1n2L bi1 rest ((k : Int) + 1) v27 := fun v27 => f51r1n2L_eq bi1 rest f (k + 1) v27 hd' hm (by simpa using hf)
    rw [f51r1n2, f51r1n2L]
    simp only [decide_eq_true hk, cond_true, at_nat, hx, Option.bind_some, hw, ih]
theorem f51r1n2_run (bi1 : List JournalRecord) (v27 : List JournalRecord) (hm : bi1.length ≤ maxLen) : f51r1n2 FUEL bi1 0 v27 = f51r1n2L bi1 bi1 0 v27 := f51r1n2L_eq bi1 bi1 FUEL 0 v27 List.drop_zero hm (lt_FUEL hm)
inductive f51r1n1O where
  | norm (v44 : List JournalRecord)
def f51r1n1E (bi1 : List JournalRecord) : f51r1n1O → Ex × Tr × Hp
  | .norm v44 => (.norm, mkS [(3, (.own 0))], [some (.row false 3 (v44.map JournalRecord.cells))])
def f51r1n1S (bi1 : List JournalRecord) : Tr × Hp := (mkS [(0, (.pl (.sl .any 3 (bi1.map JournalRecord.cells)))), (3, (.pl (.sl .nil 0 [])))], [])
noncomputable def f51r1n1 (bi1 : List JournalRecord) : Option f51r1n1O :=
  (f51r1n2 FUEL bi1 0 []).bind fun o41 => match o41 with
  | .exit0 v43 => some (.norm v43)
theorem f51r1n1_ok (bi1 : List JournalRecord) {o : f51r1n1O} (h : (f51r1n1 bi1) = some o) : T Try.prog Try.f51.ntmps 0 (cL (dropC 2 c51)) (f51r1n1S bi1) (fun r => r = f51r1n1E bi1 o) := by
  unfold f51r1n1 at h
  refine runK_norm cfg_ok (k := 1) (rs := [([], [], [(1, .val (.pl (.int .i64 (bi1.length : Int))))])]) (ps := []) (tds := [.mat 3 3]) (m := [0]) (keep := [3, 6, 7, 8]) (st' := (f51r1n2S bi1 0 [])) (by kernel_rfl) (ap (len_cv (xs := bi1) (c := JournalRecord.cells)) an) ?_
  obtain ⟨o41, h42, h⟩ := bind_cases h
  cases o41 with
  | exit0 v43 =>
    obtain rfl := some_inj h
    exact T.last' (T.bl (i := 0) (by kernel_rfl) (by kernel_rfl) (f51r1n2_ok FUEL bi1 0 [] h42)) (tds := []) (m := [0]) (keep := [3]) (st2 := (f51r1n1E bi1 (.norm v43)).2) (by kernel_rfl) an rfl
inductive f51r1n0O where
  | ret (v48 : List JournalRecord)
def f51r1n0E (a1 : List JournalRecord) : f51r1n0O → Ex × Tr × Hp
  | .ret v48 => (.ret, mkS [(2, (.own 0))], [some (.row false 3 (v48.map JournalRecord.cells))])
def f51r1n0S (a1 : List JournalRecord) : Tr × Hp := (initS [(.pl (.sl .any 3 (a1.map JournalRecord.cells)))] 0 .leaf, [])
noncomputable def f51r1n0 (a1 : List JournalRecord) : Option f51r1n0O :=
  (f51r1n1 a1).bind fun o45 => match o45 with
  | .norm v47 => some (.ret v47)
theorem f51r1n0_ok (a1 : List JournalRecord) {o : f51r1n0O} (h : (f51r1n0 a1) = some o) : T Try.prog Try.f51.ntmps 0 c51 (f51r1n0S a1) (fun r => r = f51r1n0E a1 o) := by
  unfold f51r1n0 at h
  refine runK_norm cfg_ok (k := 2) (rs := [([], [], []), ([], [], [])]) (ps := []) (tds := []) (m := []) (keep := [0, 3]) (st' := (f51r1n1S a1)) (by kernel_rfl) an ?_
  obtain ⟨o45, h46, h⟩ := bind_cases h
  cases o45 with
  | norm v47 =>
    refine T.oneN (by kernel_rfl) (f51r1n1_ok a1 h46) (st2 := (f51r1n1E a1 (.norm v47)).2) rfl ?_
    obtain rfl := some_inj h
    exact run_end cfg_ok (rs := [([], [], [])]) (ps := []) (tds := []) (m := [0]) (keep := [2]) (r := (.ret, (f51r1n0E a1 (.ret v47)).2)) (by kernel_rfl) an rfl
noncomputable def f51r1 (a1 : List JournalRecord) : Option (List JournalRecord) := (f51r1n0 a1).bind fun o => match o with
  | .ret v48 => some v48
theorem f51r1_ok (a1 : List JournalRecord) {r : List JournalRecord} (h : (f51r1 a1) = some r) : CallS Try.prog true 51 [(.pl (.sl .any 3 (a1.map JournalRecord.cells)))] [] (.own 0) [some (.row false 3 (r.map JournalRecord.cells))] := by
  unfold f51r1 at h
  obtain ⟨o, ho, h⟩ := bind_cases h
  cases o with
  | ret v48 =>
    obtain rfl := some_inj h
    exact CallS.shared cfg_ok (f := Try.f51) (c := c51) (by kernel_rfl) (by kernel_rfl) (by kernel_rfl) ((f51r1n0_ok a1 ho).mono fun r e => by subst e; exact ⟨.inl rfl, by kernel_rfl, by kernel_rfl⟩)

noncomputable def c30 : Code := Try.f30.body.getD .skip
inductive f30n1O where
  | norm (v49 : Int)
def f30n1E (bf1 : Int) (bh2 : Bool × Int × Int × (List (Account_ × Int))) (ba3 : Journal) (bd4 : ByteArray) (bc5 : List JournalLine) : f30n1O → Ex × Tr × Hp
  | .norm v49 => (.norm, mkS [(4, (.bp 0 0)), (8, (.bp 1 0)), (10, (.bp 2 0)), (13, (.pl (.int .i64 v49)))], [some (.box ((Journal.cells ba3).map .pl)), some (.box [(.pl (.sl .nil 0 []))]), some (.box [(.pl (.int .i64 bf1)), (.pl (.str bd4)), (.own 3)]), some (.row false 3 (bc5.map JournalLine.cells))])
def f30n1S (bf1 : Int) (bh2 : Bool × Int × Int × (List (Account_ × Int))) (ba3 : Journal) (bd4 : ByteArray) (bc5 : List JournalLine) : Tr × Hp := (mkS [(1, (.pl (.int .i64 bf1))), (4, (.bp 0 0)), (8, (.bp 1 0)), (10, (.bp 2 0)), (11, (.bp 3 0)), (12, (.pl (.bool bh2.1))), (13, (.pl (.int .i64 0)))], [some (.box ((Journal.cells ba3).map .pl)), some (.box [(.pl (.sl .nil 0 []))]), some (.box [(.pl (.int .i64 bf1)), (.pl (.str bd4)), (.own 4)]), some (.box [(.mp 5), (.pl (.int .i64 bh2.2.1)), (.pl (.int .i64 bh2.2.2.1))]), some (.row false 3 (bc5.map JournalLine.cells)), some (.map (bh2.2.2.2.map (mkv (pAgg Account_.cells) (pInt .i64))))])
noncomputable def f30n1 (bf1 : Int) (bh2 : Bool × Int × Int × (List (Account_ × Int))) (ba3 : Journal) (bd4 : ByteArray) (bc5 : List JournalLine) : Option f30n1O :=
  bif bh2.1 then
    (f49 (JournalRecord.mk bf1 bd4 bc5)).bind fun x38 =>
    bif x38 then
      (f50 (JournalRecord.mk bf1 bd4 bc5)).bind fun x41 =>
      bif x41 then
        bif (decide (bf1 < bh2.2.1)) then
          some (.norm 40)
        else
          bif (decide (bh2.2.2.1 = 200)) then
            some (.norm 22)
          else
            (f44r3 bf1 bd4 bh2.2.1 bh2.2.2.1 bc5 bh2.2.2.2).bind fun x46 =>
            bif x46.1 then
              some (.norm 0)
            else
              some (.norm 14)
      else
        some (.norm 60)
    else
      some (.norm 2)
  else
    some (.norm 8)
theorem f30n1_ok (bf1 : Int) (bh2 : Bool × Int × Int × (List (Account_ × Int))) (ba3 : Journal) (bd4 : ByteArray) (bc5 : List JournalLine) {o : f30n1O} (h : (f30n1 bf1 bh2 ba3 bd4 bc5) = some o) : T Try.prog Try.f30.ntmps 0 (cL (dropC 4 c30)) (f30n1S bf1 bh2 ba3 bd4 bc5) (fun r => r = f30n1E bf1 bh2 ba3 bd4 bc5 o) := by
  unfold f30n1 at h
  rcases cond_cases h with ⟨h37, h⟩ | ⟨h37, h⟩
  · obtain ⟨x38, h39, h⟩ := bind_cases h
    rcases cond_cases h with ⟨h40, h⟩ | ⟨h40, h⟩
    · obtain ⟨x41, h42, h⟩ := bind_cases h
      rcases cond_cases h with ⟨h43, h⟩ | ⟨h43, h⟩
      · rcases cond_cases h with ⟨h44, h⟩ | ⟨h44, h⟩
        · obtain rfl := some_inj h
          exact run_end cfg_ok (rs := [([], [], []), ([], [(1, .call (.pl (.bool x38)) [])], []), ([], [(1, .call (.pl (.bool x41)) [])], []), ([], [], []), ([], [], [])]) (ps := [some false, some false, some false, some true]) (tds := []) (m := [0, 1, 2, 4]) (keep := [4, 8, 10, 13]) (r := (.norm, (f30n1E bf1 bh2 ba3 bd4 bc5 (.norm 40)).2)) (by kernel_rfl) (ap (not_t h37) (ap (f49_ok (JournalRecord.mk bf1 bd4 bc5) h39) (ap (not_t h40) (ap (f50_ok (JournalRecord.mk bf1 bd4 bc5) h42) (ap (not_t h43) (ap h44 an)))))) rfl
        · rcases cond_cases h with ⟨h45, h⟩ | ⟨h45, h⟩
          · obtain rfl := some_inj h
            exact run_end cfg_ok (rs := [([], [], []), ([], [(1, .call (.pl (.bool x38)) [])], []), ([], [(1, .call (.pl (.bool x41)) [])], []), ([], [], []), ([], [], []), ([], [], [])]) (ps := [some false, some false, some false, some false, some true]) (tds := []) (m := [0, 1, 2, 4]) (keep := [4, 8, 10, 13]) (r := (.norm, (f30n1E bf1 bh2 ba3 bd4 bc5 (.norm 22)).2)) (by kernel_rfl) (ap (not_t h37) (ap (f49_ok (JournalRecord.mk bf1 bd4 bc5) h39) (ap (not_t h40) (ap (f50_ok (JournalRecord.mk bf1 bd4 bc5) h42) (ap (not_t h43) (ap h44 (ap h45 an))))))) rfl
          · obtain ⟨x46, h47, h⟩ := bind_cases h
            rcases cond_cases h with ⟨h48, h⟩ | ⟨h48, h⟩
            · obtain rfl := some_inj h
              exact run_end cfg_ok (rs := [([], [], []), ([], [(1, .call (.pl (.bool x38)) [])], []), ([], [(1, .call (.pl (.bool x41)) [])], []), ([], [], []), ([], [], []), ([], [(2, .call (.pl (.bool x46.1)) [none, none, none, some (.box [(.mp 5), (.pl (.int .i64 x46.2.1)), (.pl (.int .i64 x46.2.2.1))]), some (.row false 3 (bc5.map JournalLine.cells)), some (.map (x46.2.2.2.map (mkv (pAgg Account_.cells) (pInt .i64))))])], [])]) (ps := [some false, some false, some false, some false, some false, some false]) (tds := []) (m := [0, 1, 2, 4]) (keep := [4, 8, 10, 13]) (r := (.norm, (f30n1E bf1 bh2 ba3 bd4 bc5 (.norm 0)).2)) (by kernel_rfl) (ap (not_t h37) (ap (f49_ok (JournalRecord.mk bf1 bd4 bc5) h39) (ap (not_t h40) (ap (f50_ok (JournalRecord.mk bf1 bd4 bc5) h42) (ap (not_t h43) (ap h44 (ap h45 (ap (CallS.ren (args' := [(.bp 3 0), (.agg [(.pl (.int .i64 bf1)), (.pl (.str bd4)), (.own 4)])]) (v' := (.pl (.bool x46.1))) (B := [none, none, none, some (.box [(.mp 5), (.pl (.int .i64 bh2.2.1)), (.pl (.int .i64 bh2.2.2.1))]), some (.row false 3 (bc5.map JournalLine.cells)), some (.map (bh2.2.2.2.map (mkv (pAgg Account_.cells) (pInt .i64))))]) (B' := [none, none, none, some (.box [(.mp 5), (.pl (.int .i64 x46.2.1)), (.pl (.int .i64 x46.2.2.1))]), some (.row false 3 (bc5.map JournalLine.cells)), some (.map (x46.2.2.2.map (mkv (pAgg Account_.cells) (pInt .i64))))]) 6 [3, 4, 5] (f44r3_ok bf1 bd4 bh2.2.1 bh2.2.2.1 bc5 bh2.2.2.2 h47) (by kernel_rfl) (by kernel_rfl) (by kernel_rfl) (by kernel_rfl) (by kernel_rfl) (by kernel_rfl)) (ap (not_t h48) an))))))))) rfl
            · obtain rfl := some_inj h
              exact run_end cfg_ok (rs := [([], [], []), ([], [(1, .call (.pl (.bool x38)) [])], []), ([], [(1, .call (.pl (.bool x41)) [])], []), ([], [], []), ([], [], []), ([], [(2, .call (.pl (.bool x46.1)) [none, none, none, some (.box [(.mp 5), (.pl (.int .i64 x46.2.1)), (.pl (.int .i64 x46.2.2.1))]), some (.row false 3 (bc5.map JournalLine.cells)), some (.map (x46.2.2.2.map (mkv (pAgg Account_.cells) (pInt .i64))))])], []), ([], [], [])]) (ps := [some false, some false, some false, some false, some false, some true]) (tds := []) (m := [0, 1, 2, 4]) (keep := [4, 8, 10, 13]) (r := (.norm, (f30n1E bf1 bh2 ba3 bd4 bc5 (.norm 14)).2)) (by kernel_rfl) (ap (not_t h37) (ap (f49_ok (JournalRecord.mk bf1 bd4 bc5) h39) (ap (not_t h40) (ap (f50_ok (JournalRecord.mk bf1 bd4 bc5) h42) (ap (not_t h43) (ap h44 (ap h45 (ap (CallS.ren (args' := [(.bp 3 0), (.agg [(.pl (.int .i64 bf1)), (.pl (.str bd4)), (.own 4)])]) (v' := (.pl (.bool x46.1))) (B := [none, none, none, some (.box [(.mp 5), (.pl (.int .i64 bh2.2.1)), (.pl (.int .i64 bh2.2.2.1))]), some (.row false 3 (bc5.map JournalLine.cells)), some (.map (bh2.2.2.2.map (mkv (pAgg Account_.cells) (pInt .i64))))]) (B' := [none, none, none, some (.box [(.mp 5), (.pl (.int .i64 x46.2.1)), (.pl (.int .i64 x46.2.2.1))]), some (.row false 3 (bc5.map JournalLine.cells)), some (.map (x46.2.2.2.map (mkv (pAgg Account_.cells) (pInt .i64))))]) 6 [3, 4, 5] (f44r3_ok bf1 bd4 bh2.2.1 bh2.2.2.1 bc5 bh2.2.2.2 h47) (by kernel_rfl) (by kernel_rfl) (by kernel_rfl) (by kernel_rfl) (by kernel_rfl) (by kernel_rfl)) (ap (not_f h48) an))))))))) rfl
      · obtain rfl := some_inj h
        exact run_end cfg_ok (rs := [([], [], []), ([], [(1, .call (.pl (.bool x38)) [])], []), ([], [(1, .call (.pl (.bool x41)) [])], []), ([], [], [])]) (ps := [some false, some false, some true]) (tds := []) (m := [0, 1, 2, 4]) (keep := [4, 8, 10, 13]) (r := (.norm, (f30n1E bf1 bh2 ba3 bd4 bc5 (.norm 60)).2)) (by kernel_rfl) (ap (not_t h37) (ap (f49_ok (JournalRecord.mk bf1 bd4 bc5) h39) (ap (not_t h40) (ap (f50_ok (JournalRecord.mk bf1 bd4 bc5) h42) (ap (not_f h43) an))))) rfl
    · obtain rfl := some_inj h
      exact run_end cfg_ok (rs := [([], [], []), ([], [(1, .call (.pl (.bool x38)) [])], []), ([], [], [])]) (ps := [some false, some true]) (tds := []) (m := [0, 1, 2, 4]) (keep := [4, 8, 10, 13]) (r := (.norm, (f30n1E bf1 bh2 ba3 bd4 bc5 (.norm 2)).2)) (by kernel_rfl) (ap (not_t h37) (ap (f49_ok (JournalRecord.mk bf1 bd4 bc5) h39) (ap (not_f h40) an))) rfl
  · obtain rfl := some_inj h
    exact run_end cfg_ok (rs := [([], [], []), ([], [], [])]) (ps := [some true]) (tds := []) (m := [0, 1, 2, 4]) (keep := [4, 8, 10, 13]) (r := (.norm, (f30n1E bf1 bh2 ba3 bd4 bc5 (.norm 8)).2)) (by kernel_rfl) (ap (not_f h37) an) rfl
inductive f30n0O where
  | ret (v61 : Int) (v62 : List JournalRecord)
def f30n0E (a1 : Journal) (a2 : Int) (a3 : ByteArray) (a4 : List JournalLine) : f30n0O → Ex × Tr × Hp
  | .ret v61 v62 => (.ret, mkS [(8, (.bp 0 0)), (9, (.pl (.int .i64 v61)))], [some (.box [(.own 1)]), some (.row false 3 (v62.map JournalRecord.cells))])
def f30n0S (a1 : Journal) (a2 : Int) (a3 : ByteArray) (a4 : List JournalLine) : Tr × Hp := (initS [(.pl (.agg (Journal.cells a1))), (.pl (.int .i64 a2)), (.pl (.str a3)), (.pl (.sl .any 3 (a4.map JournalLine.cells)))] 0 .leaf, [])
noncomputable def f30n0 (a1 : Journal) (a2 : Int) (a3 : ByteArray) (a4 : List JournalLine) : Option f30n0O :=
  (f48r1 a4).bind fun x7 =>
  (f47r1 a1).bind fun x11 =>
  (f30n1 a2 x11 a1 a3 x7).bind fun o50 => match o50 with
  | .norm v52 => bif (decide (v52 = 0)) then
      (f51r1 a1.Records).bind fun x58 =>
      req (fit (x58.length + 1) 48) <|
      some (.ret 0 (x58 ++ [(JournalRecord.mk a2 a3 x7)]))
    else
      some (.ret v52 [])
theorem f30n0_ok (a1 : Journal) (a2 : Int) (a3 : ByteArray) (a4 : List JournalLine) {o : f30n0O} (h : (f30n0 a1 a2 a3 a4) = some o) : T Try.prog Try.f30.ntmps 0 c30 (f30n0S a1 a2 a3 a4) (fun r => r = f30n0E a1 a2 a3 a4 o) := by
  unfold f30n0 at h
  obtain ⟨x7, h8, h⟩ := bind_cases h
  obtain ⟨x11, h12, h⟩ := bind_cases h
  refine runK_norm cfg_ok (k := 4) (rs := [([], [], []), ([], [(3, .call (.own 2) [none, none, some (.row false 3 (x7.map JournalLine.cells))])], []), ([], [(1, .call (.tup [(.bp 4 0), (.pl (.bool x11.1))]) [none, none, none, none, some (.box [(.mp 5), (.pl (.int .i64 x11.2.1)), (.pl (.int .i64 x11.2.2.1))]), some (.map (x11.2.2.2.map (mkv (pAgg Account_.cells) (pInt .i64))))])], []), ([], [], [])]) (ps := []) (tds := []) (m := [0, 1, 3, 4, 2, 5]) (keep := [1, 4, 8, 10, 11, 12, 13]) (st' := (f30n1S a2 x11 a1 a3 x7)) (by kernel_rfl) (ap (CallS.ren (args' := [(.pl (.sl .any 3 (a4.map JournalLine.cells)))]) (v' := (.own 2)) (B := [none, none]) (B' := [none, none, some (.row false 3 (x7.map JournalLine.cells))]) 2 [] (f48r1_ok a4 h8) (by kernel_rfl) (by kernel_rfl) (by kernel_rfl) (by kernel_rfl) (by kernel_rfl) (by kernel_rfl)) (ap (CallS.ren (args' := [(.pl (.agg (Journal.cells a1)))]) (v' := (.tup [(.bp 4 0), (.pl (.bool x11.1))])) (B := [none, none, none, none]) (B' := [none, none, none, none, some (.box [(.mp 5), (.pl (.int .i64 x11.2.1)), (.pl (.int .i64 x11.2.2.1))]), some (.map (x11.2.2.2.map (mkv (pAgg Account_.cells) (pInt .i64))))]) 4 [] (f47r1_ok a1 h12) (by kernel_rfl) (by kernel_rfl) (by kernel_rfl) (by kernel_rfl) (by kernel_rfl) (by kernel_rfl)) an)) ?_
  obtain ⟨o50, h51, h⟩ := bind_cases h
  cases o50 with
  | norm v52 =>
    refine T.oneN (by kernel_rfl) (f30n1_ok a2 x11 a1 a3 x7 h51) (st2 := (f30n1E a2 x11 a1 a3 x7 (.norm v52)).2) rfl ?_
    rcases cond_cases h with ⟨h54, h⟩ | ⟨h54, h⟩
    · obtain ⟨x58, h59, h⟩ := bind_cases h
      obtain ⟨h60, h⟩ := req_cases h
      obtain rfl := some_inj h
      exact run_end cfg_ok (rs := [([], [], []), ([], [(2, .call (.own 7) [none, none, none, none, none, none, none, some (.row false 3 (x58.map JournalRecord.cells))]), (5, .fits)], [(5, .row 5 ((x58 ++ [(JournalRecord.mk a2 a3 x7)]).map JournalRecord.cells))])]) (ps := [some false]) (tds := []) (m := [1, 5]) (keep := [8, 9]) (r := (.ret, (f30n0E a1 a2 a3 a4 (.ret 0 (x58 ++ [(JournalRecord.mk a2 a3 x7)]))).2)) (by kernel_rfl) (ap (not_t h54) (ap (fit_map (te := ti47) (xs := x58) (n := 1) (c := JournalRecord.cells) h60 rfl) (ap (app_cv (xs := x58) (ys := [(JournalRecord.mk a2 a3 x7)]) (c := JournalRecord.cells)) (ap (CallS.ren (args' := [(.pl (.sl .any 3 (a1.Records.map JournalRecord.cells)))]) (v' := (.own 7)) (B := [none, none, none, none, none, none, none]) (B' := [none, none, none, none, none, none, none, some (.row false 3 (x58.map JournalRecord.cells))]) 7 [] (f51r1_ok a1.Records h59) (by kernel_rfl) (by kernel_rfl) (by kernel_rfl) (by kernel_rfl) (by kernel_rfl) (by kernel_rfl)) an)))) rfl
    · obtain rfl := some_inj h
      exact runK_end cfg_ok (k := 1) (rs := [([], [], []), ([], [], [])]) (ps := [some true]) (tds := [.matC 1 0 3]) (m := [1, 4]) (keep := [8, 9]) (ex := .ret) (st' := (f30n0E a1 a2 a3 a4 (.ret v52 [])).2) (by kernel_rfl) (ap (not_f h54) an) (fun h => nomatch h) rfl
noncomputable def f30 (a1 : Journal) (a2 : Int) (a3 : ByteArray) (a4 : List JournalLine) : Option (Journal × Int) := (f30n0 a1 a2 a3 a4).bind fun o => match o with
  | .ret v61 v62 => some ((Journal.mk v62), v61)
theorem f30_ok (a1 : Journal) (a2 : Int) (a3 : ByteArray) (a4 : List JournalLine) {r : Journal × Int} (h : (f30 a1 a2 a3 a4) = some r) : CallS Try.prog false 30 [(.pl (.agg (Journal.cells a1))), (.pl (.int .i64 a2)), (.pl (.str a3)), (.pl (.sl .any 3 (a4.map JournalLine.cells)))] [] (.tup [(.pl (.agg (Journal.cells r.1))), (.pl (.int .i64 r.2))]) [] := by
  unfold f30 at h
  obtain ⟨o, ho, h⟩ := bind_cases h
  cases o with
  | ret v61 v62 =>
    obtain rfl := some_inj h
    exact CallS.plain cfg_ok (f := Try.f30) (c := c30) (by kernel_rfl) (by kernel_rfl) (by kernel_rfl) (by kernel_rfl) ((f30n0_ok a1 a2 a3 a4 ho).mono fun r e => by subst e; exact ⟨.inl rfl, (.tup [(.agg [(.own 1)]), (.pl (.int .i64 v61))]), (.tup [(.pl (.agg (Journal.cells (Journal.mk v62)))), (.pl (.int .i64 v61))]), by kernel_rfl, by kernel_rfl, ((Wk.refl _) : Wk (.tup [(.pl (.agg (Journal.cells (Journal.mk v62)))), (.pl (.int .i64 v61))]) (.tup [(.pl (.agg (Journal.cells (Journal.mk v62)))), (.pl (.int .i64 v61))]))⟩)

noncomputable def c28 : Code := Try.f28.body.getD .skip
inductive f28n0O where
  | ret (v8 : Int)
def f28n0E (a1 : Journal) : f28n0O → Ex × Tr × Hp
  | .ret v8 => (.ret, mkS [(2, (.pl (.int .i64 v8)))], [])
def f28n0S (a1 : Journal) : Tr × Hp := (initS [(.pl (.agg (Journal.cells a1)))] 0 .leaf, [])
noncomputable def f28n0 (a1 : Journal) : Option f28n0O :=
  (f47r1 a1).bind fun x5 =>
  bif x5.1 then
    some (.ret 0)
  else
    some (.ret 8)
theorem f28n0_ok (a1 : Journal) {o : f28n0O} (h : (f28n0 a1) = some o) : T Try.prog Try.f28.ntmps 0 c28 (f28n0S a1) (fun r => r = f28n0E a1 o) := by
  unfold f28n0 at h
  obtain ⟨x5, h6, h⟩ := bind_cases h
  rcases cond_cases h with ⟨h7, h⟩ | ⟨h7, h⟩
  · obtain rfl := some_inj h
    exact run_end cfg_ok (rs := [([], [], []), ([], [(1, .call (.tup [(.bp 1 0), (.pl (.bool x5.1))]) [none, some (.box [(.mp 2), (.pl (.int .i64 x5.2.1)), (.pl (.int .i64 x5.2.2.1))]), some (.map (x5.2.2.2.map (mkv (pAgg Account_.cells) (pInt .i64))))])], []), ([], [], []), ([], [], [])]) (ps := [some false]) (tds := []) (m := []) (keep := [2]) (r := (.ret, (f28n0E a1 (.ret 0)).2)) (by kernel_rfl) (ap (CallS.ren (args' := [(.pl (.agg (Journal.cells a1)))]) (v' := (.tup [(.bp 1 0), (.pl (.bool x5.1))])) (B := [none]) (B' := [none, some (.box [(.mp 2), (.pl (.int .i64 x5.2.1)), (.pl (.int .i64 x5.2.2.1))]), some (.map (x5.2.2.2.map (mkv (pAgg Account_.cells) (pInt .i64))))]) 1 [] (f47r1_ok a1 h6) (by kernel_rfl) (by kernel_rfl) (by kernel_rfl) (by kernel_rfl) (by kernel_rfl) (by kernel_rfl)) (ap (not_t h7) an)) rfl
  · obtain rfl := some_inj h
    exact runK_end cfg_ok (k := 2) (rs := [([], [], []), ([], [(1, .call (.tup [(.bp 1 0), (.pl (.bool x5.1))]) [none, some (.box [(.mp 2), (.pl (.int .i64 x5.2.1)), (.pl (.int .i64 x5.2.2.1))]), some (.map (x5.2.2.2.map (mkv (pAgg Account_.cells) (pInt .i64))))])], []), ([], [], []), ([], [], [])]) (ps := [some true]) (tds := []) (m := []) (keep := [2]) (ex := .ret) (st' := (f28n0E a1 (.ret 8)).2) (by kernel_rfl) (ap (CallS.ren (args' := [(.pl (.agg (Journal.cells a1)))]) (v' := (.tup [(.bp 1 0), (.pl (.bool x5.1))])) (B := [none]) (B' := [none, some (.box [(.mp 2), (.pl (.int .i64 x5.2.1)), (.pl (.int .i64 x5.2.2.1))]), some (.map (x5.2.2.2.map (mkv (pAgg Account_.cells) (pInt .i64))))]) 1 [] (f47r1_ok a1 h6) (by kernel_rfl) (by kernel_rfl) (by kernel_rfl) (by kernel_rfl) (by kernel_rfl) (by kernel_rfl)) (ap (not_f h7) an)) (fun h => nomatch h) rfl
noncomputable def f28 (a1 : Journal) : Option Int := (f28n0 a1).bind fun o => match o with
  | .ret v8 => some v8
theorem f28_ok (a1 : Journal) {r : Int} (h : (f28 a1) = some r) : CallS Try.prog false 28 [(.pl (.agg (Journal.cells a1)))] [] (.pl (.int .i64 r)) [] := by
  unfold f28 at h
  obtain ⟨o, ho, h⟩ := bind_cases h
  cases o with
  | ret v8 =>
    obtain rfl := some_inj h
    exact CallS.plain cfg_ok (f := Try.f28) (c := c28) (by kernel_rfl) (by kernel_rfl) (by kernel_rfl) (by kernel_rfl) ((f28n0_ok a1 ho).mono fun r e => by subst e; exact ⟨.inl rfl, (.pl (.int .i64 v8)), (.pl (.int .i64 v8)), by kernel_rfl, by kernel_rfl, ((Wk.refl _) : Wk (.pl (.int .i64 v8)) (.pl (.int .i64 v8)))⟩)

noncomputable def c40 : Code := Try.f40.body.getD .skip
inductive f40r1n3O where
  | exit2 (v99 : List Int)
def f40r1n3E (bf1 : Int) (x77 : Int) (bj2 : List Int) (bf3 : Int) : f40r1n3O → Ex × Tr × Hp
  | .exit2 v99 => ((.exit 2), mkS [(0, (.own 1)), (1, (.pl (.int .i64 bf1))), (10, (.own 0)), (11, (.pl (.int .i64 (bj2.length : Int)))), (12, (.pl (.int .i64 bf3)))], [some (.row false 1 (bj2.map (cInt .u64))), some (.row false 1 (v99.map (cInt .u8)))])
def f40r1n3S (bf1 : Int) (x77 : Int) (bj2 : List Int) (bf3 : Int) (v91 : Int) (v92 : List Int) : Tr × Hp := (mkS [(0, (.own 1)), (1, (.pl (.int .i64 bf1))), (8, (.pl (.int .u64 x77))), (10, (.own 0)), (11, (.pl (.int .i64 (bj2.length : Int)))), (12, (.pl (.int .i64 bf3))), (16, (.pl (.int .i64 bf1))), (17, (.pl (.int .i64 v91)))], [some (.row false 1 (bj2.map (cInt .u64))), some (.row false 1 (v92.map (cInt .u8)))])
noncomputable def f40r1n3 : Nat → Int → Int → List Int → Int → Int → List Int → Option f40r1n3O
  | 0, _, _, _, _, _, _ => none
  | f + 1, bf1, x77, bj2, bf3, v91, v92 =>
    bif (decide (v91 < bf1)) then
      req (decide (0 ≤ (wr64 (8 * v91)))) <|
      req (fit (v92.length + 1) 1) <|
      (f40r1n3 f bf1 x77 bj2 bf3 (wr64 (v91 + 1)) (v92 ++ [(wru8 (shrK .u64 x77 (wr64 (8 * v91))))]))
    else
      some (.exit2 v92)
theorem f40r1n3_ok : ∀ (f : Nat) (bf1 : Int) (x77 : Int) (bj2 : List Int) (bf3 : Int) (v91 : Int) (v92 : List Int) {o : f40r1n3O}, (f40r1n3 f bf1 x77 bj2 bf3 v91 v92) = some o → TL Try.prog Try.f40.ntmps 1 f (cL (cL (dropC 2 (cL (cL (dropC 2 (cL (cL (dropC 1 (cL (dropC 1 c40))))))))))) (f40r1n3S bf1 x77 bj2 bf3 v91 v92) (fun r => r = f40r1n3E bf1 x77 bj2 bf3 o)
  | 0, _, _, _, _, _, _, o, h => by rw [f40r1n3] at h; cases h
  | f + 1, bf1, x77, bj2, bf3, v91, v92, o, h => by
    rw [f40r1n3] at h
    refine TL.body (K := fun s => ∃ v91 : Int, ∃ v92 : List Int, s = (f40r1n3S bf1 x77 bj2 bf3 v91 v92) ∧ (f40r1n3 f bf1 x77 bj2 bf3 v91 v92) = some o) ?_ (by rintro _ ⟨v91, v92, rfl, hk⟩; exact f40r1n3_ok f _ _ _ _ _ _ hk)
    rcases cond_cases h with ⟨h94, h⟩ | ⟨h94, h⟩
    · obtain ⟨h97, h⟩ := req_cases h
      obtain ⟨h98, h⟩ := req_cases h
      exact run_end cfg_ok (rs := [([], [], []), ([], [], []), ([], [(4, .fits), (7, .fits)], [(7, .row 3 ((v92 ++ [(wru8 (shrK .u64 x77 (wr64 (8 * v91))))]).map (cInt .u8)))]), ([], [], [])]) (ps := [some true]) (tds := []) (m := [3]) (keep := [0, 1, 8, 10, 11, 12, 16, 17]) (r := (.norm, (f40r1n3S bf1 x77 bj2 bf3 (wr64 (v91 + 1)) (v92 ++ [(wru8 (shrK .u64 x77 (wr64 (8 * v91))))])))) (by kernel_rfl) (ap h94 (ap (le_of h97) (ap (fit_map (te := ti5) (xs := v92) (n := 1) (c := (cInt .u8)) h98 rfl) (ap (app_cv (xs := v92) (ys := [(wru8 (shrK .u64 x77 (wr64 (8 * v91))))]) (c := (cInt .u8))) an)))) (LoopQ.norm ⟨(wr64 (v91 + 1)), (v92 ++ [(wru8 (shrK .u64 x77 (wr64 (8 * v91))))]), rfl, h⟩)
    · obtain rfl := some_inj h
      exact runK_end cfg_ok (k := 2) (rs := [([], [], [])]) (ps := [some false]) (tds := []) (m := [1]) (keep := [0, 1, 10, 11, 12]) (ex := (.exit 2)) (st' := (f40r1n3E bf1 x77 bj2 bf3 (.exit2 v92)).2) (by kernel_rfl) (ap h94 an) (fun h => nomatch h) (LoopQ.out rfl rfl)
inductive f40r1n2O where
  | norm (v103 : List Int)
def f40r1n2E (bf1 : Int) (bj2 : List Int) (bf3 : Int) (bj4 : List Int) : f40r1n2O → Ex × Tr × Hp
  | .norm v103 => (.norm, mkS [(0, (.own 1)), (1, (.pl (.int .i64 bf1))), (10, (.own 0)), (11, (.pl (.int .i64 (bj2.length : Int)))), (12, (.pl (.int .i64 bf3)))], [some (.row false 1 (bj2.map (cInt .u64))), some (.row false 1 (v103.map (cInt .u8)))])
def f40r1n2S (bf1 : Int) (bj2 : List Int) (bf3 : Int) (bj4 : List Int) : Tr × Hp := (mkS [(0, (.own 1)), (1, (.pl (.int .i64 bf1))), (10, (.own 0)), (11, (.pl (.int .i64 (bj2.length : Int)))), (12, (.pl (.int .i64 bf3)))], [some (.row false 1 (bj2.map (cInt .u64))), some (.row false 1 (bj4.map (cInt .u8)))])
noncomputable def f40r1n2 (bf1 : Int) (bj2 : List Int) (bf3 : Int) (bj4 : List Int) : Option f40r1n2O :=
  (at? bj2 bf3).bind fun x77 =>
  (f40r1n3 FUEL bf1 x77 bj2 bf3 0 bj4).bind fun o100 => match o100 with
  | .exit2 v102 => some (.norm v102)
theorem f40r1n2_ok (bf1 : Int) (bj2 : List Int) (bf3 : Int) (bj4 : List Int) {o : f40r1n2O} (h : (f40r1n2 bf1 bj2 bf3 bj4) = some o) : T Try.prog Try.f40.ntmps 1 (cL (dropC 2 (cL (cL (dropC 1 (cL (dropC 1 c40))))))) (f40r1n2S bf1 bj2 bf3 bj4) (fun r => r = f40r1n2E bf1 bj2 bf3 bj4 o) := by
  unfold f40r1n2 at h
  refine T.block' (i := 1) (by kernel_rfl) ?_
  obtain ⟨x77, h78, h⟩ := bind_cases h
  refine runK_norm cfg_ok (k := 2) (rs := [([], [(0, .at_ (Int.toNat bf3)), (1, .idx 0 ((cInt .u64) x77))], []), ([], [], [])]) (ps := []) (tds := []) (m := [1]) (keep := [0, 1, 8, 10, 11, 12, 16, 17]) (st' := (f40r1n3S bf1 x77 bj2 bf3 0 bj4)) (by kernel_rfl) (ap (at_some h78).1 (ap (lt_map (cInt .u64) (at_some h78).2) (ap (at_map (cInt .u64) (at_some h78).2) an))) ?_
  obtain ⟨o100, h101, h⟩ := bind_cases h
  cases o100 with
  | exit2 v102 =>
    obtain rfl := some_inj h
    exact T.last' (T.bl (i := 2) (by kernel_rfl) (by kernel_rfl) (f40r1n3_ok FUEL bf1 x77 bj2 bf3 0 bj4 h101)) (tds := []) (m := [1]) (keep := [0, 1, 10, 11, 12]) (st2 := (f40r1n2E bf1 bj2 bf3 bj4 (.norm v102)).2) (by kernel_rfl) an rfl
inductive f40r1n4O where
  | exit0 (v107 : List Int)
def f40r1n4E (bf1 : Int) (bj2 : List Int) : f40r1n4O → Ex × Tr × Hp
  | .exit0 v107 => ((.exit 0), mkS [(0, (.own 1))], [some (.row false 1 (bj2.map (cInt .u64))), some (.row false 1 (v107.map (cInt .u8)))])
def f40r1n4S (bf1 : Int) (bj2 : List Int) (v71 : Int) (v72 : List Int) : Tr × Hp := (mkS [(0, (.own 1)), (1, (.pl (.int .i64 bf1))), (10, (.own 0)), (11, (.pl (.int .i64 (bj2.length : Int)))), (12, (.pl (.int .i64 v71)))], [some (.row false 1 (bj2.map (cInt .u64))), some (.row false 1 (v72.map (cInt .u8)))])
noncomputable def f40r1n4 : Nat → Int → List Int → Int → List Int → Option f40r1n4O
  | 0, _, _, _, _ => none
  | f + 1, bf1, bj2, v71, v72 =>
    bif (decide (v71 < (bj2.length : Int))) then
      (f40r1n2 bf1 bj2 v71 v72).bind fun o104 => match o104 with
      | .norm v106 => (f40r1n4 f bf1 bj2 (wr64 (v71 + 1)) v106)
    else
      some (.exit0 v72)
theorem f40r1n4_ok : ∀ (f : Nat) (bf1 : Int) (bj2 : List Int) (v71 : Int) (v72 : List Int) {o : f40r1n4O}, (f40r1n4 f bf1 bj2 v71 v72) = some o → TL Try.prog Try.f40.ntmps 1 f (cL (cL (dropC 1 (cL (dropC 1 c40))))) (f40r1n4S bf1 bj2 v71 v72) (fun r => r = f40r1n4E bf1 bj2 o)
  | 0, _, _, _, _, o, h => by rw [f40r1n4] at h; cases h
  | f + 1, bf1, bj2, v71, v72, o, h => by
    rw [f40r1n4] at h
    refine TL.body (K := fun s => ∃ v71 : Int, ∃ v72 : List Int, s = (f40r1n4S bf1 bj2 v71 v72) ∧ (f40r1n4 f bf1 bj2 v71 v72) = some o) ?_ (by rintro _ ⟨v71, v72, rfl, hk⟩; exact f40r1n4_ok f _ _ _ _ hk)
    rcases cond_cases h with ⟨h74, h⟩ | ⟨h74, h⟩
    · refine runK_norm cfg_ok (k := 2) (rs := [([], [], [])]) (ps := [some true]) (tds := []) (m := [1]) (keep := [0, 1, 10, 11, 12]) (st' := (f40r1n2S bf1 bj2 v71 v72)) (by kernel_rfl) (ap h74 an) ?_
      obtain ⟨o104, h105, h⟩ := bind_cases h
      cases o104 with
      | norm v106 =>
        refine T.oneN (by kernel_rfl) (f40r1n2_ok bf1 bj2 v71 v72 h105) (st2 := (f40r1n2E bf1 bj2 v71 v72 (.norm v106)).2) rfl ?_
        exact run_end cfg_ok (rs := [([], [], [])]) (ps := []) (tds := []) (m := [1]) (keep := [0, 1, 10, 11, 12]) (r := (.norm, (f40r1n4S bf1 bj2 (wr64 (v71 + 1)) v106))) (by kernel_rfl) an (LoopQ.norm ⟨(wr64 (v71 + 1)), v106, rfl, h⟩)
    · obtain rfl := some_inj h
      exact runK_end cfg_ok (k := 2) (rs := [([], [], [])]) (ps := [some false]) (tds := []) (m := [1]) (keep := [0]) (ex := (.exit 0)) (st' := (f40r1n4E bf1 bj2 (.exit0 v72)).2) (by kernel_rfl) (ap h74 an) (fun h => nomatch h) (LoopQ.out rfl rfl)
inductive f40r1n1O where
  | norm (v111 : List Int)
def f40r1n1E (bf1 : Int) (bj2 : List Int) : f40r1n1O → Ex × Tr × Hp
  | .norm v111 => (.norm, mkS [(0, (.own 1))], [some (.row false 1 (bj2.map (cInt .u64))), some (.row false 1 (v111.map (cInt .u8)))])
def f40r1n1S (bf1 : Int) (bj2 : List Int) : Tr × Hp := (mkS [(0, (.pl (.sl .nil 0 []))), (1, (.pl (.int .i64 bf1))), (2, (.own 0))], [some (.row false 1 (bj2.map (cInt .u64)))])
noncomputable def f40r1n1 (bf1 : Int) (bj2 : List Int) : Option f40r1n1O :=
  (f40r1n4 FUEL bf1 bj2 0 []).bind fun o108 => match o108 with
  | .exit0 v110 => some (.norm v110)
theorem f40r1n1_ok (bf1 : Int) (bj2 : List Int) {o : f40r1n1O} (h : (f40r1n1 bf1 bj2) = some o) : T Try.prog Try.f40.ntmps 1 (cL (dropC 1 c40)) (f40r1n1S bf1 bj2) (fun r => r = f40r1n1E bf1 bj2 o) := by
  unfold f40r1n1 at h
  refine runK_norm cfg_ok (k := 1) (rs := [([], [], [(1, .val (.pl (.int .i64 (bj2.length : Int))))])]) (ps := []) (tds := [.mat 0 1]) (m := [1]) (keep := [0, 1, 10, 11, 12]) (st' := (f40r1n4S bf1 bj2 0 [])) (by kernel_rfl) (ap (len_cv (xs := bj2) (c := (cInt .u64))) an) ?_
  obtain ⟨o108, h109, h⟩ := bind_cases h
  cases o108 with
  | exit0 v110 =>
    obtain rfl := some_inj h
    exact T.last' (T.bl (i := 0) (by kernel_rfl) (by kernel_rfl) (f40r1n4_ok FUEL bf1 bj2 0 [] h109)) (tds := []) (m := [1]) (keep := [0]) (st2 := (f40r1n1E bf1 bj2 (.norm v110)).2) (by kernel_rfl) an rfl
inductive f40r1n0O where
  | ret (v115 : List Int)
def f40r1n0E (a1 : Int) (a2 : List Int) : f40r1n0O → Ex × Tr × Hp
  | .ret v115 => (.ret, mkS [(6, (.own 1))], [some (.row false 1 (a2.map (cInt .u64))), some (.row false 1 (v115.map (cInt .u8)))])
def f40r1n0S (a1 : Int) (a2 : List Int) : Tr × Hp := (initS [(.pl (.sl .nil 0 [])), (.pl (.int .i64 a1)), (.own 0)] 0 .leaf, [some (.row false 1 (a2.map (cInt .u64)))])
noncomputable def f40r1n0 (a1 : Int) (a2 : List Int) : Option f40r1n0O :=
  (f40r1n1 a1 a2).bind fun o112 => match o112 with
  | .norm v114 => some (.ret v114)
theorem f40r1n0_ok (a1 : Int) (a2 : List Int) {o : f40r1n0O} (h : (f40r1n0 a1 a2) = some o) : T Try.prog Try.f40.ntmps 1 c40 (f40r1n0S a1 a2) (fun r => r = f40r1n0E a1 a2 o) := by
  unfold f40r1n0 at h
  refine runK_norm cfg_ok (k := 1) (rs := [([], [], [])]) (ps := []) (tds := []) (m := []) (keep := [0, 1, 2]) (st' := (f40r1n1S a1 a2)) (by kernel_rfl) an ?_
  obtain ⟨o112, h113, h⟩ := bind_cases h
  cases o112 with
  | norm v114 =>
    refine T.oneN (by kernel_rfl) (f40r1n1_ok a1 a2 h113) (st2 := (f40r1n1E a1 a2 (.norm v114)).2) rfl ?_
    obtain rfl := some_inj h
    exact run_end cfg_ok (rs := [([], [], [])]) (ps := []) (tds := []) (m := [1]) (keep := [6]) (r := (.ret, (f40r1n0E a1 a2 (.ret v114)).2)) (by kernel_rfl) an rfl
noncomputable def f40r1 (a1 : Int) (a2 : List Int) : Option (List Int) := (f40r1n0 a1 a2).bind fun o => match o with
  | .ret v115 => some v115
theorem f40r1_ok (a1 : Int) (a2 : List Int) {r : List Int} (h : (f40r1 a1 a2) = some r) : CallS Try.prog true 40 [(.pl (.sl .nil 0 [])), (.pl (.int .i64 a1)), (.own 0)] [some (.row false 1 (a2.map (cInt .u64)))] (.own 1) [some (.row false 1 (a2.map (cInt .u64))), some (.row false 1 (r.map (cInt .u8)))] := by
  unfold f40r1 at h
  obtain ⟨o, ho, h⟩ := bind_cases h
  cases o with
  | ret v115 =>
    obtain rfl := some_inj h
    exact CallS.shared cfg_ok (f := Try.f40) (c := c40) (by kernel_rfl) (by kernel_rfl) (by kernel_rfl) ((f40r1n0_ok a1 a2 ho).mono fun r e => by subst e; exact ⟨.inl rfl, by kernel_rfl, by kernel_rfl⟩)

noncomputable def c56 : Code := Try.f56.body.getD .skip
inductive f56r1n0O where
  | ret (v9 : List Int)
def f56r1n0E (a1 : ByteArray) (a2 : List Int) : f56r1n0O → Ex × Tr × Hp
  | .ret v9 => (.ret, mkS [(4, (.own 1))], [none, some (.row false 1 (v9.map (cInt .u8)))])
def f56r1n0S (a1 : ByteArray) (a2 : List Int) : Tr × Hp := (initS [(.own 0), (.pl (.str a1))] 0 .leaf, [some (.row false 1 (a2.map (cInt .u8)))])
noncomputable def f56r1n0 (a1 : ByteArray) (a2 : List Int) : Option f56r1n0O :=
  req (fit (a2.length + 1) 1) <|
  bif ((ofB a1).isEmpty) then
    some (.ret (a2 ++ [(wru8 (a1.size : Int))]))
  else
    req (fit ((a2 ++ [(wru8 (a1.size : Int))]).length + (ofB a1).length) 1) <|
    some (.ret ((a2 ++ [(wru8 (a1.size : Int))]) ++ (ofB a1)))
theorem f56r1n0_ok (a1 : ByteArray) (a2 : List Int) {o : f56r1n0O} (h : (f56r1n0 a1 a2) = some o) : T Try.prog Try.f56.ntmps 1 c56 (f56r1n0S a1 a2) (fun r => r = f56r1n0E a1 a2 o) := by
  unfold f56r1n0 at h
  obtain ⟨h6, h⟩ := req_cases h
  rcases cond_cases h with ⟨h7, h⟩ | ⟨h7, h⟩
  · obtain rfl := some_inj h
    exact run_end cfg_ok (rs := [([], [], []), ([], [(5, .fits), (7, .app false)], [(5, .row 2 ((a2 ++ [(wru8 (a1.size : Int))]).map (cInt .u8)))])]) (ps := []) (tds := []) (m := [2]) (keep := [4]) (r := (.ret, (f56r1n0E a1 a2 (.ret (a2 ++ [(wru8 (a1.size : Int))]))).2)) (by kernel_rfl) (ap (fit_map (te := ti5) (xs := a2) (n := 1) (c := (cInt .u8)) h6 rfl) (ap (app_cv (xs := a2) (ys := [(wru8 (a1.size : Int))]) (c := (cInt .u8))) (ap (nil_str h7) an))) rfl
  · obtain ⟨h8, h⟩ := req_cases h
    obtain rfl := some_inj h
    exact run_end cfg_ok (rs := [([], [], []), ([], [(5, .fits), (7, .app true)], [(5, .row 2 ((a2 ++ [(wru8 (a1.size : Int))]).map (cInt .u8))), (7, .row 3 (((a2 ++ [(wru8 (a1.size : Int))]) ++ (ofB a1)).map (cInt .u8)))])]) (ps := []) (tds := []) (m := [3]) (keep := [4]) (r := (.ret, (f56r1n0E a1 a2 (.ret ((a2 ++ [(wru8 (a1.size : Int))]) ++ (ofB a1)))).2)) (by kernel_rfl) (ap (fit_map (te := ti5) (xs := a2) (n := 1) (c := (cInt .u8)) h6 rfl) (ap (app_cv (xs := a2) (ys := [(wru8 (a1.size : Int))]) (c := (cInt .u8))) (ap (fit_str2 (te := ti5) (xs := (a2 ++ [(wru8 (a1.size : Int))])) (c := (cInt .u8)) (s := a1) h8 rfl) (ap (ne_str h7) (ap (len_str (s := a1)) (ap (app_str (xs := (a2 ++ [(wru8 (a1.size : Int))])) (s := a1)) an)))))) rfl
noncomputable def f56r1 (a1 : ByteArray) (a2 : List Int) : Option (List Int) := (f56r1n0 a1 a2).bind fun o => match o with
  | .ret v9 => some v9
theorem f56r1_ok (a1 : ByteArray) (a2 : List Int) {r : List Int} (h : (f56r1 a1 a2) = some r) : CallS Try.prog true 56 [(.own 0), (.pl (.str a1))] [some (.row false 1 (a2.map (cInt .u8)))] (.own 1) [none, some (.row false 1 (r.map (cInt .u8)))] := by
  unfold f56r1 at h
  obtain ⟨o, ho, h⟩ := bind_cases h
  cases o with
  | ret v9 =>
    obtain rfl := some_inj h
    exact CallS.shared cfg_ok (f := Try.f56) (c := c56) (by kernel_rfl) (by kernel_rfl) (by kernel_rfl) ((f56r1n0_ok a1 a2 ho).mono fun r e => by subst e; exact ⟨.inl rfl, by kernel_rfl, by kernel_rfl⟩)

inductive f40r2n3O where
  | exit2 (v102 : List Int)
def f40r2n3E (bf1 : Int) (x80 : Int) (bj2 : List Int) (bf3 : Int) : f40r2n3O → Ex × Tr × Hp
  | .exit2 v102 => ((.exit 2), mkS [(0, (.own 2)), (1, (.pl (.int .i64 bf1))), (10, (.own 1)), (11, (.pl (.int .i64 (bj2.length : Int)))), (12, (.pl (.int .i64 bf3)))], [none, some (.row false 1 (bj2.map (cInt .u64))), some (.row false 1 (v102.map (cInt .u8)))])
def f40r2n3S (bf1 : Int) (x80 : Int) (bj2 : List Int) (bf3 : Int) (v94 : Int) (v95 : List Int) : Tr × Hp := (mkS [(0, (.own 2)), (1, (.pl (.int .i64 bf1))), (8, (.pl (.int .u64 x80))), (10, (.own 1)), (11, (.pl (.int .i64 (bj2.length : Int)))), (12, (.pl (.int .i64 bf3))), (16, (.pl (.int .i64 bf1))), (17, (.pl (.int .i64 v94)))], [none, some (.row false 1 (bj2.map (cInt .u64))), some (.row false 1 (v95.map (cInt .u8)))])
noncomputable def f40r2n3 : Nat → Int → Int → List Int → Int → Int → List Int → Option f40r2n3O
  | 0, _, _, _, _, _, _ => none
  | f + 1, bf1, x80, bj2, bf3, v94, v95 =>
    bif (decide (v94 < bf1)) then
      req (decide (0 ≤ (wr64 (8 * v94)))) <|
      req (fit (v95.length + 1) 1) <|
      (f40r2n3 f bf1 x80 bj2 bf3 (wr64 (v94 + 1)) (v95 ++ [(wru8 (shrK .u64 x80 (wr64 (8 * v94))))]))
    else
      some (.exit2 v95)
theorem f40r2n3_ok : ∀ (f : Nat) (bf1 : Int) (x80 : Int) (bj2 : List Int) (bf3 : Int) (v94 : Int) (v95 : List Int) {o : f40r2n3O}, (f40r2n3 f bf1 x80 bj2 bf3 v94 v95) = some o → TL Try.prog Try.f40.ntmps 2 f (cL (cL (dropC 2 (cL (cL (dropC 2 (cL (cL (dropC 1 (cL (dropC 1 c40))))))))))) (f40r2n3S bf1 x80 bj2 bf3 v94 v95) (fun r => r = f40r2n3E bf1 x80 bj2 bf3 o)
  | 0, _, _, _, _, _, _, o, h => by rw [f40r2n3] at h; cases h
  | f + 1, bf1, x80, bj2, bf3, v94, v95, o, h => by
    rw [f40r2n3] at h
    refine TL.body (K := fun s => ∃ v94 : Int, ∃ v95 : List Int, s = (f40r2n3S bf1 x80 bj2 bf3 v94 v95) ∧ (f40r2n3 f bf1 x80 bj2 bf3 v94 v95) = some o) ?_ (by rintro _ ⟨v94, v95, rfl, hk⟩; exact f40r2n3_ok f _ _ _ _ _ _ hk)
    rcases cond_cases h with ⟨h97, h⟩ | ⟨h97, h⟩
    · obtain ⟨h100, h⟩ := req_cases h
      obtain ⟨h101, h⟩ := req_cases h
      exact run_end cfg_ok (rs := [([], [], []), ([], [], []), ([], [(4, .fits), (7, .fits)], [(7, .row 4 ((v95 ++ [(wru8 (shrK .u64 x80 (wr64 (8 * v94))))]).map (cInt .u8)))]), ([], [], [])]) (ps := [some true]) (tds := []) (m := [4]) (keep := [0, 1, 8, 10, 11, 12, 16, 17]) (r := (.norm, (f40r2n3S bf1 x80 bj2 bf3 (wr64 (v94 + 1)) (v95 ++ [(wru8 (shrK .u64 x80 (wr64 (8 * v94))))])))) (by kernel_rfl) (ap h97 (ap (le_of h100) (ap (fit_map (te := ti5) (xs := v95) (n := 1) (c := (cInt .u8)) h101 rfl) (ap (app_cv (xs := v95) (ys := [(wru8 (shrK .u64 x80 (wr64 (8 * v94))))]) (c := (cInt .u8))) an)))) (LoopQ.norm ⟨(wr64 (v94 + 1)), (v95 ++ [(wru8 (shrK .u64 x80 (wr64 (8 * v94))))]), rfl, h⟩)
    · obtain rfl := some_inj h
      exact runK_end cfg_ok (k := 2) (rs := [([], [], [])]) (ps := [some false]) (tds := []) (m := [2]) (keep := [0, 1, 10, 11, 12]) (ex := (.exit 2)) (st' := (f40r2n3E bf1 x80 bj2 bf3 (.exit2 v95)).2) (by kernel_rfl) (ap h97 an) (fun h => nomatch h) (LoopQ.out rfl rfl)
inductive f40r2n2O where
  | norm (v106 : List Int)
def f40r2n2E (bf1 : Int) (bj2 : List Int) (bf3 : Int) (bj4 : List Int) : f40r2n2O → Ex × Tr × Hp
  | .norm v106 => (.norm, mkS [(0, (.own 2)), (1, (.pl (.int .i64 bf1))), (10, (.own 1)), (11, (.pl (.int .i64 (bj2.length : Int)))), (12, (.pl (.int .i64 bf3)))], [none, some (.row false 1 (bj2.map (cInt .u64))), some (.row false 1 (v106.map (cInt .u8)))])
def f40r2n2S (bf1 : Int) (bj2 : List Int) (bf3 : Int) (bj4 : List Int) : Tr × Hp := (mkS [(0, (.own 2)), (1, (.pl (.int .i64 bf1))), (10, (.own 1)), (11, (.pl (.int .i64 (bj2.length : Int)))), (12, (.pl (.int .i64 bf3)))], [none, some (.row false 1 (bj2.map (cInt .u64))), some (.row false 1 (bj4.map (cInt .u8)))])
noncomputable def f40r2n2 (bf1 : Int) (bj2 : List Int) (bf3 : Int) (bj4 : List Int) : Option f40r2n2O :=
  (at? bj2 bf3).bind fun x80 =>
  (f40r2n3 FUEL bf1 x80 bj2 bf3 0 bj4).bind fun o103 => match o103 with
  | .exit2 v105 => some (.norm v105)
theorem f40r2n2_ok (bf1 : Int) (bj2 : List Int) (bf3 : Int) (bj4 : List Int) {o : f40r2n2O} (h : (f40r2n2 bf1 bj2 bf3 bj4) = some o) : T Try.prog Try.f40.ntmps 2 (cL (dropC 2 (cL (cL (dropC 1 (cL (dropC 1 c40))))))) (f40r2n2S bf1 bj2 bf3 bj4) (fun r => r = f40r2n2E bf1 bj2 bf3 bj4 o) := by
  unfold f40r2n2 at h
  refine T.block' (i := 1) (by kernel_rfl) ?_
  obtain ⟨x80, h81, h⟩ := bind_cases h
  refine runK_norm cfg_ok (k := 2) (rs := [([], [(0, .at_ (Int.toNat bf3)), (1, .idx 0 ((cInt .u64) x80))], []), ([], [], [])]) (ps := []) (tds := []) (m := [2]) (keep := [0, 1, 8, 10, 11, 12, 16, 17]) (st' := (f40r2n3S bf1 x80 bj2 bf3 0 bj4)) (by kernel_rfl) (ap (at_some h81).1 (ap (lt_map (cInt .u64) (at_some h81).2) (ap (at_map (cInt .u64) (at_some h81).2) an))) ?_
  obtain ⟨o103, h104, h⟩ := bind_cases h
  cases o103 with
  | exit2 v105 =>
    obtain rfl := some_inj h
    exact T.last' (T.bl (i := 2) (by kernel_rfl) (by kernel_rfl) (f40r2n3_ok FUEL bf1 x80 bj2 bf3 0 bj4 h104)) (tds := []) (m := [2]) (keep := [0, 1, 10, 11, 12]) (st2 := (f40r2n2E bf1 bj2 bf3 bj4 (.norm v105)).2) (by kernel_rfl) an rfl
inductive f40r2n4O where
  | exit0 (v110 : List Int)
def f40r2n4E (bf1 : Int) (bj3 : List Int) : f40r2n4O → Ex × Tr × Hp
  | .exit0 v110 => ((.exit 0), mkS [(0, (.own 2))], [none, some (.row false 1 (bj3.map (cInt .u64))), some (.row false 1 (v110.map (cInt .u8)))])
def f40r2n4S (bf1 : Int) (bj3 : List Int) (v74 : Int) (v75 : List Int) : Tr × Hp := (mkS [(0, (.own 2)), (1, (.pl (.int .i64 bf1))), (10, (.own 1)), (11, (.pl (.int .i64 (bj3.length : Int)))), (12, (.pl (.int .i64 v74)))], [none, some (.row false 1 (bj3.map (cInt .u64))), some (.row false 1 (v75.map (cInt .u8)))])
noncomputable def f40r2n4 : Nat → Int → List Int → Int → List Int → Option f40r2n4O
  | 0, _, _, _, _ => none
  | f + 1, bf1, bj3, v74, v75 =>
    bif (decide (v74 < (bj3.length : Int))) then
      (f40r2n2 bf1 bj3 v74 v75).bind fun o107 => match o107 with
      | .norm v109 => (f40r2n4 f bf1 bj3 (wr64 (v74 + 1)) v109)
    else
      some (.exit0 v75)
theorem f40r2n4_ok : ∀ (f : Nat) (bf1 : Int) (bj3 : List Int) (v74 : Int) (v75 : List Int) {o : f40r2n4O}, (f40r2n4 f bf1 bj3 v74 v75) = some o → TL Try.prog Try.f40.ntmps 2 f (cL (cL (dropC 1 (cL (dropC 1 c40))))) (f40r2n4S bf1 bj3 v74 v75) (fun r => r = f40r2n4E bf1 bj3 o)
  | 0, _, _, _, _, o, h => by rw [f40r2n4] at h; cases h
  | f + 1, bf1, bj3, v74, v75, o, h => by
    rw [f40r2n4] at h
    refine TL.body (K := fun s => ∃ v74 : Int, ∃ v75 : List Int, s = (f40r2n4S bf1 bj3 v74 v75) ∧ (f40r2n4 f bf1 bj3 v74 v75) = some o) ?_ (by rintro _ ⟨v74, v75, rfl, hk⟩; exact f40r2n4_ok f _ _ _ _ hk)
    rcases cond_cases h with ⟨h77, h⟩ | ⟨h77, h⟩
    · refine runK_norm cfg_ok (k := 2) (rs := [([], [], [])]) (ps := [some true]) (tds := []) (m := [2]) (keep := [0, 1, 10, 11, 12]) (st' := (f40r2n2S bf1 bj3 v74 v75)) (by kernel_rfl) (ap h77 an) ?_
      obtain ⟨o107, h108, h⟩ := bind_cases h
      cases o107 with
      | norm v109 =>
        refine T.oneN (by kernel_rfl) (f40r2n2_ok bf1 bj3 v74 v75 h108) (st2 := (f40r2n2E bf1 bj3 v74 v75 (.norm v109)).2) rfl ?_
        exact run_end cfg_ok (rs := [([], [], [])]) (ps := []) (tds := []) (m := [2]) (keep := [0, 1, 10, 11, 12]) (r := (.norm, (f40r2n4S bf1 bj3 (wr64 (v74 + 1)) v109))) (by kernel_rfl) an (LoopQ.norm ⟨(wr64 (v74 + 1)), v109, rfl, h⟩)
    · obtain rfl := some_inj h
      exact runK_end cfg_ok (k := 2) (rs := [([], [], [])]) (ps := [some false]) (tds := []) (m := [2]) (keep := [0]) (ex := (.exit 0)) (st' := (f40r2n4E bf1 bj3 (.exit0 v75)).2) (by kernel_rfl) (ap h77 an) (fun h => nomatch h) (LoopQ.out rfl rfl)
inductive f40r2n1O where
  | norm (v114 : List Int)
def f40r2n1E (bf1 : Int) (bj2 : List Int) (bj3 : List Int) : f40r2n1O → Ex × Tr × Hp
  | .norm v114 => (.norm, mkS [(0, (.own 2))], [none, some (.row false 1 (bj3.map (cInt .u64))), some (.row false 1 (v114.map (cInt .u8)))])
def f40r2n1S (bf1 : Int) (bj2 : List Int) (bj3 : List Int) : Tr × Hp := (mkS [(0, (.own 0)), (1, (.pl (.int .i64 bf1))), (2, (.own 1))], [some (.row false 1 (bj2.map (cInt .u8))), some (.row false 1 (bj3.map (cInt .u64)))])
noncomputable def f40r2n1 (bf1 : Int) (bj2 : List Int) (bj3 : List Int) : Option f40r2n1O :=
  (f40r2n4 FUEL bf1 bj3 0 bj2).bind fun o111 => match o111 with
  | .exit0 v113 => some (.norm v113)
theorem f40r2n1_ok (bf1 : Int) (bj2 : List Int) (bj3 : List Int) {o : f40r2n1O} (h : (f40r2n1 bf1 bj2 bj3) = some o) : T Try.prog Try.f40.ntmps 2 (cL (dropC 1 c40)) (f40r2n1S bf1 bj2 bj3) (fun r => r = f40r2n1E bf1 bj2 bj3 o) := by
  unfold f40r2n1 at h
  refine runK_norm cfg_ok (k := 1) (rs := [([], [], [(1, .val (.pl (.int .i64 (bj3.length : Int))))])]) (ps := []) (tds := [.mov 0]) (m := [2]) (keep := [0, 1, 10, 11, 12]) (st' := (f40r2n4S bf1 bj3 0 bj2)) (by kernel_rfl) (ap (len_cv (xs := bj3) (c := (cInt .u64))) an) ?_
  obtain ⟨o111, h112, h⟩ := bind_cases h
  cases o111 with
  | exit0 v113 =>
    obtain rfl := some_inj h
    exact T.last' (T.bl (i := 0) (by kernel_rfl) (by kernel_rfl) (f40r2n4_ok FUEL bf1 bj3 0 bj2 h112)) (tds := []) (m := [2]) (keep := [0]) (st2 := (f40r2n1E bf1 bj2 bj3 (.norm v113)).2) (by kernel_rfl) an rfl
inductive f40r2n0O where
  | ret (v118 : List Int)
def f40r2n0E (a1 : Int) (a2 : List Int) (a3 : List Int) : f40r2n0O → Ex × Tr × Hp
  | .ret v118 => (.ret, mkS [(6, (.own 2))], [none, some (.row false 1 (a3.map (cInt .u64))), some (.row false 1 (v118.map (cInt .u8)))])
def f40r2n0S (a1 : Int) (a2 : List Int) (a3 : List Int) : Tr × Hp := (initS [(.own 0), (.pl (.int .i64 a1)), (.own 1)] 0 .leaf, [some (.row false 1 (a2.map (cInt .u8))), some (.row false 1 (a3.map (cInt .u64)))])
noncomputable def f40r2n0 (a1 : Int) (a2 : List Int) (a3 : List Int) : Option f40r2n0O :=
  (f40r2n1 a1 a2 a3).bind fun o115 => match o115 with
  | .norm v117 => some (.ret v117)
theorem f40r2n0_ok (a1 : Int) (a2 : List Int) (a3 : List Int) {o : f40r2n0O} (h : (f40r2n0 a1 a2 a3) = some o) : T Try.prog Try.f40.ntmps 2 c40 (f40r2n0S a1 a2 a3) (fun r => r = f40r2n0E a1 a2 a3 o) := by
  unfold f40r2n0 at h
  refine runK_norm cfg_ok (k := 1) (rs := [([], [], [])]) (ps := []) (tds := []) (m := []) (keep := [0, 1, 2]) (st' := (f40r2n1S a1 a2 a3)) (by kernel_rfl) an ?_
  obtain ⟨o115, h116, h⟩ := bind_cases h
  cases o115 with
  | norm v117 =>
    refine T.oneN (by kernel_rfl) (f40r2n1_ok a1 a2 a3 h116) (st2 := (f40r2n1E a1 a2 a3 (.norm v117)).2) rfl ?_
    obtain rfl := some_inj h
    exact run_end cfg_ok (rs := [([], [], [])]) (ps := []) (tds := []) (m := [2]) (keep := [6]) (r := (.ret, (f40r2n0E a1 a2 a3 (.ret v117)).2)) (by kernel_rfl) an rfl
noncomputable def f40r2 (a1 : Int) (a2 : List Int) (a3 : List Int) : Option (List Int) := (f40r2n0 a1 a2 a3).bind fun o => match o with
  | .ret v118 => some v118
theorem f40r2_ok (a1 : Int) (a2 : List Int) (a3 : List Int) {r : List Int} (h : (f40r2 a1 a2 a3) = some r) : CallS Try.prog true 40 [(.own 0), (.pl (.int .i64 a1)), (.own 1)] [some (.row false 1 (a2.map (cInt .u8))), some (.row false 1 (a3.map (cInt .u64)))] (.own 2) [none, some (.row false 1 (a3.map (cInt .u64))), some (.row false 1 (r.map (cInt .u8)))] := by
  unfold f40r2 at h
  obtain ⟨o, ho, h⟩ := bind_cases h
  cases o with
  | ret v118 =>
    obtain rfl := some_inj h
    exact CallS.shared cfg_ok (f := Try.f40) (c := c40) (by kernel_rfl) (by kernel_rfl) (by kernel_rfl) ((f40r2n0_ok a1 a2 a3 ho).mono fun r e => by subst e; exact ⟨.inl rfl, by kernel_rfl, by kernel_rfl⟩)

noncomputable def c39 : Code := Try.f39.body.getD .skip
inductive f39r1n2O where
  | exit0 (v71 : List Int)
def f39r1n2E (bb1 : JournalRecord) : f39r1n2O → Ex × Tr × Hp
  | .exit0 v71 => ((.exit 0), mkS [(5, (.own 0))], [some (.row false 1 (v71.map (cInt .u8)))])
def f39r1n2S (bb1 : JournalRecord) (v51 : Int) (v52 : List Int) : Tr × Hp := (mkS [(5, (.own 0)), (26, (.pl (.sl .any 3 (bb1.Lines.map JournalLine.cells)))), (27, (.pl (.int .i64 (bb1.Lines.length : Int)))), (28, (.pl (.int .i64 v51)))], [some (.row false 1 (v52.map (cInt .u8)))])
noncomputable def f39r1n2 : Nat → JournalRecord → Int → List Int → Option f39r1n2O
  | 0, _, _, _ => none
  | f + 1, bb1, v51, v52 =>
    bif (decide (v51 < (bb1.Lines.length : Int))) then
      (at? bb1.Lines v51).bind fun x63 =>
      (f56r1 x63.Account v52).bind fun x65 =>
      (f56r1 x63.Ccy x65).bind fun x67 =>
      (f40r2 8 x67 [(wru64 x63.Amount)]).bind fun x69 =>
      (f39r1n2 f bb1 (wr64 (v51 + 1)) x69)
    else
      some (.exit0 v52)
theorem f39r1n2_ok : ∀ (f : Nat) (bb1 : JournalRecord) (v51 : Int) (v52 : List Int) {o : f39r1n2O}, (f39r1n2 f bb1 v51 v52) = some o → TL Try.prog Try.f39.ntmps 0 f (cL (cL (dropC 1 (cL (dropC 3 c39))))) (f39r1n2S bb1 v51 v52) (fun r => r = f39r1n2E bb1 o)
  | 0, _, _, _, o, h => by rw [f39r1n2] at h; cases h
  | f + 1, bb1, v51, v52, o, h => by
    rw [f39r1n2] at h
    refine TL.body (K := fun s => ∃ v51 : Int, ∃ v52 : List Int, s = (f39r1n2S bb1 v51 v52) ∧ (f39r1n2 f bb1 v51 v52) = some o) ?_ (by rintro _ ⟨v51, v52, rfl, hk⟩; exact f39r1n2_ok f _ _ _ hk)
    rcases cond_cases h with ⟨h54, h⟩ | ⟨h54, h⟩
    · obtain ⟨x63, h64, h⟩ := bind_cases h
      obtain ⟨x65, h66, h⟩ := bind_cases h
      obtain ⟨x67, h68, h⟩ := bind_cases h
      obtain ⟨x69, h70, h⟩ := bind_cases h
      exact run_end cfg_ok (rs := [([], [], []), ([], [(0, .idx (Int.toNat v51) (JournalLine.cells x63))], []), ([], [(3, .call (.own 4) [none, none, none, none, some (.row false 1 (x65.map (cInt .u8)))]), (6, .call (.own 5) [none, none, none, none, none, some (.row false 1 (x67.map (cInt .u8)))]), (11, .call (.own 6) [none, none, some (.row false 1 ([(wru64 x63.Amount)].map (cInt .u64))), none, none, none, some (.row false 1 (x69.map (cInt .u8)))])], []), ([], [], [])]) (ps := [some true]) (tds := []) (m := [6]) (keep := [5, 26, 27, 28]) (r := (.norm, (f39r1n2S bb1 (wr64 (v51 + 1)) x69))) (by kernel_rfl) (ap h54 (ap (at_some h64).1 (ap (at_map JournalLine.cells (at_some h64).2) (ap (same_refs (e := ⟨true, 56, [(.own 0), (.pl (.str x63.Account))], [some (.row false 1 (v52.map (cInt .u8))), none, none, none], (.own 4), [none, none, none, none, some (.row false 1 (x65.map (cInt .u8)))]⟩) (f := ⟨true, 56, [(.own 4), (.pl (.str x63.Ccy))], [none, none, none, none, some (.row false 1 (x65.map (cInt .u8)))], (.own 5), [none, none, none, none, none, some (.row false 1 (x67.map (cInt .u8)))]⟩) (by kernel_rfl)) (ap (CallS.ren (args' := [(.own 0), (.pl (.str x63.Account))]) (v' := (.own 4)) (B := [some (.row false 1 (v52.map (cInt .u8))), none, none, none]) (B' := [none, none, none, none, some (.row false 1 (x65.map (cInt .u8)))]) 4 [0] (f56r1_ok x63.Account v52 h66) (by kernel_rfl) (by kernel_rfl) (by kernel_rfl) (by kernel_rfl) (by kernel_rfl) (by kernel_rfl)) (ap (CallS.ren (args' := [(.own 4), (.pl (.str x63.Ccy))]) (v' := (.own 5)) (B := [none, none, none, none, some (.row false 1 (x65.map (cInt .u8)))]) (B' := [none, none, none, none, none, some (.row false 1 (x67.map (cInt .u8)))]) 5 [4] (f56r1_ok x63.Ccy x65 h68) (by kernel_rfl) (by kernel_rfl) (by kernel_rfl) (by kernel_rfl) (by kernel_rfl) (by kernel_rfl)) (ap (CallS.ren (args' := [(.own 5), (.pl (.int .i64 8)), (.own 2)]) (v' := (.own 6)) (B := [none, none, some (.row false 1 ([(wru64 x63.Amount)].map (cInt .u64))), none, none, some (.row false 1 (x67.map (cInt .u8)))]) (B' := [none, none, some (.row false 1 ([(wru64 x63.Amount)].map (cInt .u64))), none, none, none, some (.row false 1 (x69.map (cInt .u8)))]) 6 [5, 2] (f40r2_ok 8 x67 [(wru64 x63.Amount)] h70) (by kernel_rfl) (by kernel_rfl) (by kernel_rfl) (by kernel_rfl) (by kernel_rfl) (by kernel_rfl)) an))))))) (LoopQ.norm ⟨(wr64 (v51 + 1)), x69, rfl, h⟩)
    · obtain rfl := some_inj h
      exact runK_end cfg_ok (k := 2) (rs := [([], [], [])]) (ps := [some false]) (tds := []) (m := [0]) (keep := [5]) (ex := (.exit 0)) (st' := (f39r1n2E bb1 (.exit0 v52)).2) (by kernel_rfl) (ap h54 an) (fun h => nomatch h) (LoopQ.out rfl rfl)
noncomputable def f39r1n2L (bb1 : JournalRecord) : List JournalLine → Int → (List Int) → Option f39r1n2O
  | [], v51, v52 =>
    some (.exit0 v52)
  | x0 :: rest, v51, v52 =>
    (f56r1 x0.Account v52).bind fun x65 =>
    (f56r1 x0.Ccy x65).bind fun x67 =>
    (f40r2 8 x67 [(wru64 x0.Amount)]).bind fun x69 =>
    (f39r1n2L bb1 rest (v51 + 1) x69)
theorem f39r1n2L_eq (bb1 : JournalRecord) : ∀ (rest : List JournalLine) (f k : Nat) (v52 : List Int), bb1.Lines.drop k = rest → bb1.Lines.length ≤ maxLen → rest.length < f → f39r1n2 f bb1 (k : Int) v52 = f39r1n2L bb1 rest (k : Int) v52
  | _, 0, _, _, _, _, hf => absurd hf (Nat.not_lt_zero _)
  | [], f + 1, k, v52, hd, hm, hf => by
    have hk : ¬ ((k : Int) < (bb1.Lines.length : Int)) := by have := drop_nil hd; omega
    rw [f39r1n2, f39r1n2L]
    simp only [decide_eq_false hk, cond_false]
  | x0 :: rest, f + 1, k, v52, hd, hm, hf => by
    obtain ⟨hx, hlt, hd'⟩ := drop_cons hd
    have hk : (k : Int) < (bb1.Lines.length : Int) := by omega
    have hw : wr64 ((k : Int) + 1) = (k : Int) + 1 := wr64_of (by omega) (by unfold maxLen at hm; omega)
    have ih : ∀ (v52 : List Int), f39r1n2 f bb1 ((k : Int) + 1) v52 = f39r1n2L bb1 rest ((k : Int) + 1) v52 := fun v52 => f39r1n2L_eq bb1 rest f (k + 1) v52 hd' hm (by simpa using hf)
    rw [f39r1n2, f39r1n2L]
    simp only [decide_eq_true hk, cond_true, at_nat, hx, Option.bind_some, hw, ih]
theorem f39r1n2_run (bb1 : JournalRecord) (v52 : List Int) (hm : bb1.Lines.length ≤ maxLen) : f39r1n2 FUEL bb1 0 v52 = f39r1n2L bb1 bb1.Lines 0 v52 := f39r1n2L_eq bb1 bb1.Lines FUEL 0 v52 List.drop_zero hm (lt_FUEL hm)
inductive f39r1n1O where
  | norm (v75 : List Int)
def f39r1n1E (bb1 : JournalRecord) (bj2 : List Int) : f39r1n1O → Ex × Tr × Hp
  | .norm v75 => (.norm, mkS [(5, (.own 0))], [some (.row false 1 (v75.map (cInt .u8)))])
def f39r1n1S (bb1 : JournalRecord) (bj2 : List Int) : Tr × Hp := (mkS [(3, (.bp 0 0)), (5, (.own 1))], [some (.box ((JournalRecord.cells bb1).map .pl)), some (.row false 1 ((bj2 ++ [(wru8 (bb1.Lines.length : Int))]).map (cInt .u8)))])
noncomputable def f39r1n1 (bb1 : JournalRecord) (bj2 : List Int) : Option f39r1n1O :=
  (f39r1n2 FUEL bb1 0 (bj2 ++ [(wru8 (bb1.Lines.length : Int))])).bind fun o72 => match o72 with
  | .exit0 v74 => some (.norm v74)
theorem f39r1n1_ok (bb1 : JournalRecord) (bj2 : List Int) {o : f39r1n1O} (h : (f39r1n1 bb1 bj2) = some o) : T Try.prog Try.f39.ntmps 0 (cL (dropC 3 c39)) (f39r1n1S bb1 bj2) (fun r => r = f39r1n1E bb1 bj2 o) := by
  unfold f39r1n1 at h
  refine runK_norm cfg_ok (k := 1) (rs := [([], [], [(2, .val (.pl (.int .i64 (bb1.Lines.length : Int))))])]) (ps := []) (tds := []) (m := [1]) (keep := [5, 26, 27, 28]) (st' := (f39r1n2S bb1 0 (bj2 ++ [(wru8 (bb1.Lines.length : Int))]))) (by kernel_rfl) (ap (len_cv (xs := bb1.Lines) (c := JournalLine.cells)) an) ?_
  obtain ⟨o72, h73, h⟩ := bind_cases h
  cases o72 with
  | exit0 v74 =>
    obtain rfl := some_inj h
    exact T.last' (T.bl (i := 0) (by kernel_rfl) (by kernel_rfl) (f39r1n2_ok FUEL bb1 0 (bj2 ++ [(wru8 (bb1.Lines.length : Int))]) h73)) (tds := []) (m := [0]) (keep := [5]) (st2 := (f39r1n1E bb1 bj2 (.norm v74)).2) (by kernel_rfl) an rfl
inductive f39r1n0O where
  | ret (v79 : List Int)
def f39r1n0E (a1 : Int) (a2 : JournalRecord) : f39r1n0O → Ex × Tr × Hp
  | .ret v79 => (.ret, mkS [(4, (.own 0))], [some (.row false 1 (v79.map (cInt .u8)))])
def f39r1n0S (a1 : Int) (a2 : JournalRecord) : Tr × Hp := (initS [(.pl (.int .i64 a1)), (.pl (.agg (JournalRecord.cells a2)))] 0 .leaf, [])
noncomputable def f39r1n0 (a1 : Int) (a2 : JournalRecord) : Option f39r1n0O :=
  (f40r1 4 [(wru64 a1), (wru64 a2.Day)]).bind fun x7 =>
  (f56r1 a2.Text x7).bind fun x9 =>
  req (fit (x9.length + 1) 1) <|
  (f39r1n1 a2 x9).bind fun o76 => match o76 with
  | .norm v78 => some (.ret v78)
theorem f39r1n0_ok (a1 : Int) (a2 : JournalRecord) {o : f39r1n0O} (h : (f39r1n0 a1 a2) = some o) : T Try.prog Try.f39.ntmps 0 c39 (f39r1n0S a1 a2) (fun r => r = f39r1n0E a1 a2 o) := by
  unfold f39r1n0 at h
  obtain ⟨x7, h8, h⟩ := bind_cases h
  obtain ⟨x9, h10, h⟩ := bind_cases h
  obtain ⟨h12, h⟩ := req_cases h
  refine runK_norm cfg_ok (k := 3) (rs := [([], [], []), ([], [(6, .call (.own 3) [none, some (.row false 1 ([(wru64 a1), (wru64 a2.Day)].map (cInt .u64))), none, some (.row false 1 (x7.map (cInt .u8)))]), (9, .call (.own 4) [none, none, none, none, some (.row false 1 (x9.map (cInt .u8)))])], []), ([], [(6, .fits)], [(3, .val (.pl (.int .i64 (a2.Lines.length : Int)))), (6, .row 6 ((x9 ++ [(wru8 (a2.Lines.length : Int))]).map (cInt .u8)))])]) (ps := []) (tds := []) (m := [0, 6]) (keep := [3, 5]) (st' := (f39r1n1S a2 x9)) (by kernel_rfl) (ap (CallS.ren (args' := [(.pl (.sl .nil 0 [])), (.pl (.int .i64 4)), (.own 1)]) (v' := (.own 3)) (B := [none, some (.row false 1 ([(wru64 a1), (wru64 a2.Day)].map (cInt .u64))), none]) (B' := [none, some (.row false 1 ([(wru64 a1), (wru64 a2.Day)].map (cInt .u64))), none, some (.row false 1 (x7.map (cInt .u8)))]) 3 [1] (f40r1_ok 4 [(wru64 a1), (wru64 a2.Day)] h8) (by kernel_rfl) (by kernel_rfl) (by kernel_rfl) (by kernel_rfl) (by kernel_rfl) (by kernel_rfl)) (ap (CallS.ren (args' := [(.own 3), (.pl (.str a2.Text))]) (v' := (.own 4)) (B := [none, none, none, some (.row false 1 (x7.map (cInt .u8)))]) (B' := [none, none, none, none, some (.row false 1 (x9.map (cInt .u8)))]) 4 [3] (f56r1_ok a2.Text x7 h10) (by kernel_rfl) (by kernel_rfl) (by kernel_rfl) (by kernel_rfl) (by kernel_rfl) (by kernel_rfl)) (ap (len_cv (xs := a2.Lines) (c := JournalLine.cells)) (ap (fit_map (te := ti5) (xs := x9) (n := 1) (c := (cInt .u8)) h12 rfl) (ap (app_cv (xs := x9) (ys := [(wru8 (a2.Lines.length : Int))]) (c := (cInt .u8))) an))))) ?_
  obtain ⟨o76, h77, h⟩ := bind_cases h
  cases o76 with
  | norm v78 =>
    refine T.oneN (by kernel_rfl) (f39r1n1_ok a2 x9 h77) (st2 := (f39r1n1E a2 x9 (.norm v78)).2) rfl ?_
    obtain rfl := some_inj h
    exact run_end cfg_ok (rs := [([], [], [])]) (ps := []) (tds := []) (m := [0]) (keep := [4]) (r := (.ret, (f39r1n0E a1 a2 (.ret v78)).2)) (by kernel_rfl) an rfl
noncomputable def f39r1 (a1 : Int) (a2 : JournalRecord) : Option (List Int) := (f39r1n0 a1 a2).bind fun o => match o with
  | .ret v79 => some v79
theorem f39r1_ok (a1 : Int) (a2 : JournalRecord) {r : List Int} (h : (f39r1 a1 a2) = some r) : CallS Try.prog true 39 [(.pl (.int .i64 a1)), (.pl (.agg (JournalRecord.cells a2)))] [] (.own 0) [some (.row false 1 (r.map (cInt .u8)))] := by
  unfold f39r1 at h
  obtain ⟨o, ho, h⟩ := bind_cases h
  cases o with
  | ret v79 =>
    obtain rfl := some_inj h
    exact CallS.shared cfg_ok (f := Try.f39) (c := c39) (by kernel_rfl) (by kernel_rfl) (by kernel_rfl) ((f39r1n0_ok a1 a2 ho).mono fun r e => by subst e; exact ⟨.inl rfl, by kernel_rfl, by kernel_rfl⟩)
end Go.Proofs.Ytbgjlpdeoljmiaa
