/- Functions of the program, plainly, and that the machine computes them. No condition. -/
import Derived.Test.YtbgjlpdeoljmiaaX1
namespace Go.Proofs.Ytbgjlpdeoljmiaa
set_option linter.unusedVariables false
set_option linter.unusedSimpArgs false
set_option maxRecDepth 100000
open Go.RowKit
/-! ### (*novation/journal.book).fits$1 -/
noncomputable def c69 : Code := Try.f69.body.getD .skip
inductive f69r1n0O where
  | ret (v9 : Bool)
def f69r1n0E (a1 : JournalLine) (a2 : Int) (a3 : Int) (a4 : List (Account_ × Int)) : f69r1n0O → Ex × Tr × Hp
  | .ret v9 => (.ret, mkS [(3, (.pl (.bool v9)))], [some (.box [(.bp 1 0)]), some (.box [(.mp 2), (.pl (.int .i64 a2)), (.pl (.int .i64 a3))]), some (.map (a4.map (mkv (pAgg Account_.cells) (pInt .i64))))])
def f69r1n0S (a1 : JournalLine) (a2 : Int) (a3 : Int) (a4 : List (Account_ × Int)) : Tr × Hp := (initS [(.pl (.agg (JournalLine.cells a1))), (.bp 0 0)] 0 .leaf, [some (.box [(.bp 1 0)]), some (.box [(.mp 2), (.pl (.int .i64 a2)), (.pl (.int .i64 a3))]), some (.map (a4.map (mkv (pAgg Account_.cells) (pInt .i64))))])
noncomputable def f69r1n0 (a1 : JournalLine) (a2 : Int) (a3 : Int) (a4 : List (Account_ × Int)) : Option f69r1n0O :=
  (f65 (mGet Account_.eqb 0 (Account_.mk a1.Account a1.Ccy) a4)).bind fun x7 =>
  some (.ret (!x7))
theorem f69r1n0_ok (a1 : JournalLine) (a2 : Int) (a3 : Int) (a4 : List (Account_ × Int)) {o : f69r1n0O} (h : (f69r1n0 a1 a2 a3 a4) = some o) : T Try.prog Try.f69.ntmps 3 c69 (f69r1n0S a1 a2 a3 a4) (fun r => r = f69r1n0E a1 a2 a3 a4 o) := by
  unfold f69r1n0 at h
  obtain ⟨x7, h8, h⟩ := bind_cases h
  obtain rfl := some_inj h
  exact run_end cfg_ok (rs := [([], [], []), ([], [(9, .look ((pInt .i64) (mGet Account_.eqb 0 (Account_.mk a1.Account a1.Ccy) a4)) (mHas Account_.eqb (Account_.mk a1.Account a1.Ccy) a4)), (10, .call (.pl (.bool x7)) [])], [])]) (ps := []) (tds := []) (m := []) (keep := [3]) (r := (.ret, (f69r1n0E a1 a2 a3 a4 (.ret (!x7))).2)) (by kernel_rfl) (ap (look_map (vp := (pInt .i64)) (e := 3) key_95 0 (by kernel_rfl) (Account_.mk a1.Account a1.Ccy) a4) (ap (f65_ok (mGet Account_.eqb 0 (Account_.mk a1.Account a1.Ccy) a4) h8) an)) rfl
noncomputable def f69r1 (a1 : JournalLine) (a2 : Int) (a3 : Int) (a4 : List (Account_ × Int)) : Option Bool := (f69r1n0 a1 a2 a3 a4).bind fun o => match o with
  | .ret v9 => some v9
theorem f69r1_ok (a1 : JournalLine) (a2 : Int) (a3 : Int) (a4 : List (Account_ × Int)) {r : Bool} (h : (f69r1 a1 a2 a3 a4) = some r) : CallS Try.prog true 69 [(.pl (.agg (JournalLine.cells a1))), (.bp 0 0)] [some (.box [(.bp 1 0)]), some (.box [(.mp 2), (.pl (.int .i64 a2)), (.pl (.int .i64 a3))]), some (.map (a4.map (mkv (pAgg Account_.cells) (pInt .i64))))] (.pl (.bool r)) [some (.box [(.bp 1 0)]), some (.box [(.mp 2), (.pl (.int .i64 a2)), (.pl (.int .i64 a3))]), some (.map (a4.map (mkv (pAgg Account_.cells) (pInt .i64))))] := by
  unfold f69r1 at h
  obtain ⟨o, ho, h⟩ := bind_cases h
  cases o with
  | ret v9 =>
    obtain rfl := some_inj h
    exact CallS.shared cfg_ok (f := Try.f69) (c := c69) (by kernel_rfl) (by kernel_rfl) (by kernel_rfl) ((f69r1n0_ok a1 a2 a3 a4 ho).mono fun r e => by subst e; exact ⟨.inl rfl, by kernel_rfl, by kernel_rfl⟩)
/-! ### slices.IndexFunc[[]novation/api.JournalLine,novation/api.JournalLine] -/
inductive f71r1n2O where
  | exit0
  | ret (v43 : Int)
def f71r1n2E (bc1 : List JournalLine) (bf2 : Int) (bf3 : Int) (bg4 : List (Account_ × Int)) : f71r1n2O → Ex × Tr × Hp
  | .exit0 => ((.exit 0), mkS [], [some (.box [(.bp 1 0)]), some (.box [(.mp 2), (.pl (.int .i64 bf2)), (.pl (.int .i64 bf3))]), some (.map (bg4.map (mkv (pAgg Account_.cells) (pInt .i64))))])
  | .ret v43 => (.ret, mkS [(4, (.pl (.int .i64 v43)))], [some (.box [(.bp 1 0)]), some (.box [(.mp 2), (.pl (.int .i64 bf2)), (.pl (.int .i64 bf3))]), some (.map (bg4.map (mkv (pAgg Account_.cells) (pInt .i64))))])
def f71r1n2S (bc1 : List JournalLine) (bf2 : Int) (bf3 : Int) (bg4 : List (Account_ × Int)) (v30 : Int) : Tr × Hp := (mkS [(0, (.pl (.sl .any 3 (bc1.map JournalLine.cells)))), (1, (.clo 69 [(.bp 0 0)])), (7, (.pl (.int .i64 (bc1.length : Int)))), (8, (.pl (.int .i64 v30)))], [some (.box [(.bp 1 0)]), some (.box [(.mp 2), (.pl (.int .i64 bf2)), (.pl (.int .i64 bf3))]), some (.map (bg4.map (mkv (pAgg Account_.cells) (pInt .i64))))])
noncomputable def f71r1n2 : Nat → List JournalLine → Int → Int → List (Account_ × Int) → Int → Option f71r1n2O
  | 0, _, _, _, _, _ => none
  | f + 1, bc1, bf2, bf3, bg4, v30 =>
    bif (decide (v30 < (bc1.length : Int))) then
      (at? bc1 v30).bind fun x38 =>
      (f69r1 x38 bf2 bf3 bg4).bind fun x40 =>
      bif x40 then
        some (.ret v30)
      else
        (f71r1n2 f bc1 bf2 bf3 bg4 (wr64 (v30 + 1)))
    else
      some .exit0
theorem f71r1n2_ok : ∀ (f : Nat) (bc1 : List JournalLine) (bf2 : Int) (bf3 : Int) (bg4 : List (Account_ × Int)) (v30 : Int) {o : f71r1n2O}, (f71r1n2 f bc1 bf2 bf3 bg4 v30) = some o → TL Try.prog Try.f71.ntmps 3 f (cL (cL (dropC 1 (cL (dropC 1 c71))))) (f71r1n2S bc1 bf2 bf3 bg4 v30) (fun r => r = f71r1n2E bc1 bf2 bf3 bg4 o)
  | 0, _, _, _, _, _, o, h => by rw [f71r1n2] at h; cases h
  | f + 1, bc1, bf2, bf3, bg4, v30, o, h => by
    rw [f71r1n2] at h
    refine TL.body (K := fun s => ∃ v30 : Int, s = (f71r1n2S bc1 bf2 bf3 bg4 v30) ∧ (f71r1n2 f bc1 bf2 bf3 bg4 v30) = some o) ?_ (by rintro _ ⟨v30, rfl, hk⟩; exact f71r1n2_ok f _ _ _ _ _ hk)
    rcases cond_cases h with ⟨h32, h⟩ | ⟨h32, h⟩
    · obtain ⟨x38, h39, h⟩ := bind_cases h
      obtain ⟨x40, h41, h⟩ := bind_cases h
      rcases cond_cases h with ⟨h42, h⟩ | ⟨h42, h⟩
      · obtain rfl := some_inj h
        exact runK_end cfg_ok (k := 3) (rs := [([], [], []), ([], [], []), ([], [(3, .idx (Int.toNat v30) (JournalLine.cells x38)), (5, .call (.pl (.bool x40)) [some (.box [(.bp 1 0)]), some (.box [(.mp 2), (.pl (.int .i64 bf2)), (.pl (.int .i64 bf3))]), some (.map (bg4.map (mkv (pAgg Account_.cells) (pInt .i64))))])], []), ([], [], [])]) (ps := [some true, some true]) (tds := []) (m := []) (keep := [4]) (ex := .ret) (st' := (f71r1n2E bc1 bf2 bf3 bg4 (.ret v30)).2) (by kernel_rfl) (ap h32 (ap (at_some h39).1 (ap (at_map JournalLine.cells (at_some h39).2) (ap (f69r1_ok x38 bf2 bf3 bg4 h41) (ap h42 an))))) (fun h => nomatch h) (LoopQ.out rfl rfl)
      · exact run_end cfg_ok (rs := [([], [], []), ([], [], []), ([], [(3, .idx (Int.toNat v30) (JournalLine.cells x38)), (5, .call (.pl (.bool x40)) [some (.box [(.bp 1 0)]), some (.box [(.mp 2), (.pl (.int .i64 bf2)), (.pl (.int .i64 bf3))]), some (.map (bg4.map (mkv (pAgg Account_.cells) (pInt .i64))))])], []), ([], [], [])]) (ps := [some true, some false]) (tds := []) (m := []) (keep := [0, 1, 7, 8]) (r := (.norm, (f71r1n2S bc1 bf2 bf3 bg4 (wr64 (v30 + 1))))) (by kernel_rfl) (ap h32 (ap (at_some h39).1 (ap (at_map JournalLine.cells (at_some h39).2) (ap (f69r1_ok x38 bf2 bf3 bg4 h41) (ap h42 an))))) (LoopQ.norm ⟨(wr64 (v30 + 1)), rfl, h⟩)
    · obtain rfl := some_inj h
      exact runK_end cfg_ok (k := 2) (rs := [([], [], [])]) (ps := [some false]) (tds := []) (m := []) (keep := []) (ex := (.exit 0)) (st' := (f71r1n2E bc1 bf2 bf3 bg4 .exit0).2) (by kernel_rfl) (ap h32 an) (fun h => nomatch h) (LoopQ.out rfl rfl)
noncomputable def f71r1n2L (bc1 : List JournalLine) (bf2 : Int) (bf3 : Int) (bg4 : List (Account_ × Int)) : List JournalLine → Int → Option f71r1n2O
  | [], v30 =>
    some .exit0
  | x0 :: rest, v30 =>
    (f69r1 x0 bf2 bf3 bg4).bind fun x40 =>
    bif x40 then
      some (.ret v30)
    else
      (f71r1n2L bc1 bf2 bf3 bg4 rest (v30 + 1))
theorem f71r1n2L_eq (bc1 : List JournalLine) (bf2 : Int) (bf3 : Int) (bg4 : List (Account_ × Int)) : ∀ (rest : List JournalLine) (f k : Nat), bc1.drop k = rest → bc1.length ≤ maxLen → rest.length < f → f71r1n2 f bc1 bf2 bf3 bg4 (k : Int) = f71r1n2L bc1 bf2 bf3 bg4 rest (k : Int)
  | _, 0, _, _, _, hf => absurd hf (Nat.not_lt_zero _)
  | [], f + 1, k, hd, hm, hf => by
    have hk : ¬ ((k : Int) < (bc1.length : Int)) := by have := drop_nil hd; omega
    rw [f71r1n2, f71r1n2L]
    simp only [decide_eq_false hk, cond_false]
  | x0 :: rest, f + 1, k, hd, hm, hf => by
    obtain ⟨hx, hlt, hd'⟩ := drop_cons hd
    have hk : (k : Int) < (bc1.length : Int) := by omega
    have hw : wr64 ((k : Int) + 1) = (k : Int) + 1 := wr64_of (by omega) (by unfold maxLen at hm; omega)
    have ih : f71r1n2 f bc1 bf2 bf3 bg4 ((k : Int) + 1) = f71r1n2L bc1 bf2 bf3 bg4 rest ((k : Int) + 1) := f71r1n2L_eq bc1 bf2 bf3 bg4 rest f (k + 1) hd' hm (by simpa using hf)
    rw [f71r1n2, f71r1n2L]
    simp only [decide_eq_true hk, cond_true, at_nat, hx, Option.bind_some, hw, ih]
theorem f71r1n2_run (bc1 : List JournalLine) (bf2 : Int) (bf3 : Int) (bg4 : List (Account_ × Int)) (hm : bc1.length ≤ maxLen) : f71r1n2 FUEL bc1 bf2 bf3 bg4 0 = f71r1n2L bc1 bf2 bf3 bg4 bc1 0 := f71r1n2L_eq bc1 bf2 bf3 bg4 bc1 FUEL 0 List.drop_zero hm (lt_FUEL hm)
inductive f71r1n1O where
  | norm
  | ret (v47 : Int)
def f71r1n1E (bc1 : List JournalLine) (bf2 : Int) (bf3 : Int) (bg4 : List (Account_ × Int)) : f71r1n1O → Ex × Tr × Hp
  | .norm => (.norm, mkS [], [some (.box [(.bp 1 0)]), some (.box [(.mp 2), (.pl (.int .i64 bf2)), (.pl (.int .i64 bf3))]), some (.map (bg4.map (mkv (pAgg Account_.cells) (pInt .i64))))])
  | .ret v47 => (.ret, mkS [(4, (.pl (.int .i64 v47)))], [some (.box [(.bp 1 0)]), some (.box [(.mp 2), (.pl (.int .i64 bf2)), (.pl (.int .i64 bf3))]), some (.map (bg4.map (mkv (pAgg Account_.cells) (pInt .i64))))])
def f71r1n1S (bc1 : List JournalLine) (bf2 : Int) (bf3 : Int) (bg4 : List (Account_ × Int)) : Tr × Hp := (mkS [(0, (.pl (.sl .any 3 (bc1.map JournalLine.cells)))), (1, (.clo 69 [(.bp 0 0)]))], [some (.box [(.bp 1 0)]), some (.box [(.mp 2), (.pl (.int .i64 bf2)), (.pl (.int .i64 bf3))]), some (.map (bg4.map (mkv (pAgg Account_.cells) (pInt .i64))))])
noncomputable def f71r1n1 (bc1 : List JournalLine) (bf2 : Int) (bf3 : Int) (bg4 : List (Account_ × Int)) : Option f71r1n1O :=
  (f71r1n2 FUEL bc1 bf2 bf3 bg4 0).bind fun o44 => match o44 with
  | .exit0 => some .norm
  | .ret v46 => some (.ret v46)
theorem f71r1n1_ok (bc1 : List JournalLine) (bf2 : Int) (bf3 : Int) (bg4 : List (Account_ × Int)) {o : f71r1n1O} (h : (f71r1n1 bc1 bf2 bf3 bg4) = some o) : T Try.prog Try.f71.ntmps 3 (cL (dropC 1 c71)) (f71r1n1S bc1 bf2 bf3 bg4) (fun r => r = f71r1n1E bc1 bf2 bf3 bg4 o) := by
  unfold f71r1n1 at h
  refine runK_norm cfg_ok (k := 1) (rs := [([], [], [(1, .val (.pl (.int .i64 (bc1.length : Int))))])]) (ps := []) (tds := []) (m := []) (keep := [0, 1, 7, 8]) (st' := (f71r1n2S bc1 bf2 bf3 bg4 0)) (by kernel_rfl) (ap (len_cv (xs := bc1) (c := JournalLine.cells)) an) ?_
  obtain ⟨o44, h45, h⟩ := bind_cases h
  cases o44 with
  | exit0 =>
    obtain rfl := some_inj h
    exact T.last' (T.bl (i := 0) (by kernel_rfl) (by kernel_rfl) (f71r1n2_ok FUEL bc1 bf2 bf3 bg4 0 h45)) (tds := []) (m := []) (keep := []) (st2 := (f71r1n1E bc1 bf2 bf3 bg4 .norm).2) (by kernel_rfl) an rfl
  | ret v46 =>
    obtain rfl := some_inj h
    exact T.last' (T.bl (i := 0) (by kernel_rfl) (by kernel_rfl) (f71r1n2_ok FUEL bc1 bf2 bf3 bg4 0 h45)) (tds := []) (m := []) (keep := [4]) (st2 := (f71r1n1E bc1 bf2 bf3 bg4 (.ret v46)).2) (by kernel_rfl) an rfl
inductive f71r1n0O where
  | ret (v51 : Int)
def f71r1n0E (a1 : List JournalLine) (a2 : Int) (a3 : Int) (a4 : List (Account_ × Int)) : f71r1n0O → Ex × Tr × Hp
  | .ret v51 => (.ret, mkS [(4, (.pl (.int .i64 v51)))], [some (.box [(.bp 1 0)]), some (.box [(.mp 2), (.pl (.int .i64 a2)), (.pl (.int .i64 a3))]), some (.map (a4.map (mkv (pAgg Account_.cells) (pInt .i64))))])
def f71r1n0S (a1 : List JournalLine) (a2 : Int) (a3 : Int) (a4 : List (Account_ × Int)) : Tr × Hp := (initS [(.pl (.sl .any 3 (a1.map JournalLine.cells))), (.clo 69 [(.bp 0 0)])] 0 .leaf, [some (.box [(.bp 1 0)]), some (.box [(.mp 2), (.pl (.int .i64 a2)), (.pl (.int .i64 a3))]), some (.map (a4.map (mkv (pAgg Account_.cells) (pInt .i64))))])
noncomputable def f71r1n0 (a1 : List JournalLine) (a2 : Int) (a3 : Int) (a4 : List (Account_ × Int)) : Option f71r1n0O :=
  (f71r1n1 a1 a2 a3 a4).bind fun o48 => match o48 with
  | .norm => some (.ret (-1))
  | .ret v50 => some (.ret v50)
theorem f71r1n0_ok (a1 : List JournalLine) (a2 : Int) (a3 : Int) (a4 : List (Account_ × Int)) {o : f71r1n0O} (h : (f71r1n0 a1 a2 a3 a4) = some o) : T Try.prog Try.f71.ntmps 3 c71 (f71r1n0S a1 a2 a3 a4) (fun r => r = f71r1n0E a1 a2 a3 a4 o) := by
  unfold f71r1n0 at h
  refine runK_norm cfg_ok (k := 1) (rs := [([], [], [])]) (ps := []) (tds := []) (m := []) (keep := [0, 1]) (st' := (f71r1n1S a1 a2 a3 a4)) (by kernel_rfl) an ?_
  obtain ⟨o48, h49, h⟩ := bind_cases h
  cases o48 with
  | norm =>
    refine T.oneN (by kernel_rfl) (f71r1n1_ok a1 a2 a3 a4 h49) (st2 := (f71r1n1E a1 a2 a3 a4 .norm).2) rfl ?_
    obtain rfl := some_inj h
    exact run_end cfg_ok (rs := [([], [], [])]) (ps := []) (tds := []) (m := []) (keep := [4]) (r := (.ret, (f71r1n0E a1 a2 a3 a4 (.ret (-1))).2)) (by kernel_rfl) an rfl
  | ret v50 =>
    obtain rfl := some_inj h
    exact T.oneX' (by kernel_rfl) (f71r1n1_ok a1 a2 a3 a4 h49) (tds := []) (m := []) (keep := [4]) (st2 := (f71r1n0E a1 a2 a3 a4 (.ret v50)).2) (by kernel_rfl) an rfl rfl
noncomputable def f71r1 (a1 : List JournalLine) (a2 : Int) (a3 : Int) (a4 : List (Account_ × Int)) : Option Int := (f71r1n0 a1 a2 a3 a4).bind fun o => match o with
  | .ret v51 => some v51
theorem f71r1_ok (a1 : List JournalLine) (a2 : Int) (a3 : Int) (a4 : List (Account_ × Int)) {r : Int} (h : (f71r1 a1 a2 a3 a4) = some r) : CallS Try.prog true 71 [(.pl (.sl .any 3 (a1.map JournalLine.cells))), (.clo 69 [(.bp 0 0)])] [some (.box [(.bp 1 0)]), some (.box [(.mp 2), (.pl (.int .i64 a2)), (.pl (.int .i64 a3))]), some (.map (a4.map (mkv (pAgg Account_.cells) (pInt .i64))))] (.pl (.int .i64 r)) [some (.box [(.bp 1 0)]), some (.box [(.mp 2), (.pl (.int .i64 a2)), (.pl (.int .i64 a3))]), some (.map (a4.map (mkv (pAgg Account_.cells) (pInt .i64))))] := by
  unfold f71r1 at h
  obtain ⟨o, ho, h⟩ := bind_cases h
  cases o with
  | ret v51 =>
    obtain rfl := some_inj h
    exact CallS.shared cfg_ok (f := Try.f71) (c := c71) (by kernel_rfl) (by kernel_rfl) (by kernel_rfl) ((f71r1n0_ok a1 a2 a3 a4 ho).mono fun r e => by subst e; exact ⟨.inl rfl, by kernel_rfl, by kernel_rfl⟩)
/-! ### slices.ContainsFunc[[]novation/api.JournalLine,novation/api.JournalLine] -/
inductive f66r1n0O where
  | ret (v9 : Bool)
def f66r1n0E (a1 : List JournalLine) (a2 : Int) (a3 : Int) (a4 : List (Account_ × Int)) : f66r1n0O → Ex × Tr × Hp
  | .ret v9 => (.ret, mkS [(4, (.pl (.bool v9)))], [some (.box [(.bp 1 0)]), some (.box [(.mp 2), (.pl (.int .i64 a2)), (.pl (.int .i64 a3))]), some (.map (a4.map (mkv (pAgg Account_.cells) (pInt .i64))))])
def f66r1n0S (a1 : List JournalLine) (a2 : Int) (a3 : Int) (a4 : List (Account_ × Int)) : Tr × Hp := (initS [(.pl (.sl .any 3 (a1.map JournalLine.cells))), (.clo 69 [(.bp 0 0)])] 0 .leaf, [some (.box [(.bp 1 0)]), some (.box [(.mp 2), (.pl (.int .i64 a2)), (.pl (.int .i64 a3))]), some (.map (a4.map (mkv (pAgg Account_.cells) (pInt .i64))))])
noncomputable def f66r1n0 (a1 : List JournalLine) (a2 : Int) (a3 : Int) (a4 : List (Account_ × Int)) : Option f66r1n0O :=
  (f71r1 a1 a2 a3 a4).bind fun x7 =>
  some (.ret (decide (0 ≤ x7)))
theorem f66r1n0_ok (a1 : List JournalLine) (a2 : Int) (a3 : Int) (a4 : List (Account_ × Int)) {o : f66r1n0O} (h : (f66r1n0 a1 a2 a3 a4) = some o) : T Try.prog Try.f66.ntmps 3 c66 (f66r1n0S a1 a2 a3 a4) (fun r => r = f66r1n0E a1 a2 a3 a4 o) := by
  unfold f66r1n0 at h
  obtain ⟨x7, h8, h⟩ := bind_cases h
  obtain rfl := some_inj h
  exact run_end cfg_ok (rs := [([], [], []), ([], [(2, .call (.pl (.int .i64 x7)) [some (.box [(.bp 1 0)]), some (.box [(.mp 2), (.pl (.int .i64 a2)), (.pl (.int .i64 a3))]), some (.map (a4.map (mkv (pAgg Account_.cells) (pInt .i64))))])], [])]) (ps := []) (tds := []) (m := []) (keep := [4]) (r := (.ret, (f66r1n0E a1 a2 a3 a4 (.ret (decide (0 ≤ x7)))).2)) (by kernel_rfl) (ap (f71r1_ok a1 a2 a3 a4 h8) an) rfl
noncomputable def f66r1 (a1 : List JournalLine) (a2 : Int) (a3 : Int) (a4 : List (Account_ × Int)) : Option Bool := (f66r1n0 a1 a2 a3 a4).bind fun o => match o with
  | .ret v9 => some v9
theorem f66r1_ok (a1 : List JournalLine) (a2 : Int) (a3 : Int) (a4 : List (Account_ × Int)) {r : Bool} (h : (f66r1 a1 a2 a3 a4) = some r) : CallS Try.prog true 66 [(.pl (.sl .any 3 (a1.map JournalLine.cells))), (.clo 69 [(.bp 0 0)])] [some (.box [(.bp 1 0)]), some (.box [(.mp 2), (.pl (.int .i64 a2)), (.pl (.int .i64 a3))]), some (.map (a4.map (mkv (pAgg Account_.cells) (pInt .i64))))] (.pl (.bool r)) [some (.box [(.bp 1 0)]), some (.box [(.mp 2), (.pl (.int .i64 a2)), (.pl (.int .i64 a3))]), some (.map (a4.map (mkv (pAgg Account_.cells) (pInt .i64))))] := by
  unfold f66r1 at h
  obtain ⟨o, ho, h⟩ := bind_cases h
  cases o with
  | ret v9 =>
    obtain rfl := some_inj h
    exact CallS.shared cfg_ok (f := Try.f66) (c := c66) (by kernel_rfl) (by kernel_rfl) (by kernel_rfl) ((f66r1n0_ok a1 a2 a3 a4 ho).mono fun r e => by subst e; exact ⟨.inl rfl, by kernel_rfl, by kernel_rfl⟩)
/-! ### (*novation/journal.book).fits -/
noncomputable def c61 : Code := Try.f61.body.getD .skip
inductive f61r1n0O where
  | ret (v9 : Bool)
def f61r1n0E (a1 : JournalRecord) (a2 : Int) (a3 : Int) (a4 : List (Account_ × Int)) : f61r1n0O → Ex × Tr × Hp
  | .ret v9 => (.ret, mkS [(4, (.pl (.bool v9)))], [some (.box [(.mp 1), (.pl (.int .i64 a2)), (.pl (.int .i64 a3))]), some (.map (a4.map (mkv (pAgg Account_.cells) (pInt .i64))))])
def f61r1n0S (a1 : JournalRecord) (a2 : Int) (a3 : Int) (a4 : List (Account_ × Int)) : Tr × Hp := (initS [(.bp 0 0), (.pl (.agg (JournalRecord.cells a1)))] 0 .leaf, [some (.box [(.mp 1), (.pl (.int .i64 a2)), (.pl (.int .i64 a3))]), some (.map (a4.map (mkv (pAgg Account_.cells) (pInt .i64))))])
noncomputable def f61r1n0 (a1 : JournalRecord) (a2 : Int) (a3 : Int) (a4 : List (Account_ × Int)) : Option f61r1n0O :=
  (f66r1 a1.Lines a2 a3 a4).bind fun x7 =>
  some (.ret (!x7))
theorem f61r1n0_ok (a1 : JournalRecord) (a2 : Int) (a3 : Int) (a4 : List (Account_ × Int)) {o : f61r1n0O} (h : (f61r1n0 a1 a2 a3 a4) = some o) : T Try.prog Try.f61.ntmps 2 c61 (f61r1n0S a1 a2 a3 a4) (fun r => r = f61r1n0E a1 a2 a3 a4 o) := by
  unfold f61r1n0 at h
  obtain ⟨x7, h8, h⟩ := bind_cases h
  obtain rfl := some_inj h
  exact run_end cfg_ok (rs := [([], [], []), ([], [(3, .call (.pl (.bool x7)) [some (.box [(.mp 1), (.pl (.int .i64 a2)), (.pl (.int .i64 a3))]), some (.map (a4.map (mkv (pAgg Account_.cells) (pInt .i64)))), some (.box [(.bp 0 0)]), none])], [])]) (ps := []) (tds := []) (m := []) (keep := [4]) (r := (.ret, (f61r1n0E a1 a2 a3 a4 (.ret (!x7))).2)) (by kernel_rfl) (ap (CallS.ren (args' := [(.pl (.sl .any 3 (a1.Lines.map JournalLine.cells))), (.clo 69 [(.bp 2 0)])]) (v' := (.pl (.bool x7))) (B := [some (.box [(.mp 1), (.pl (.int .i64 a2)), (.pl (.int .i64 a3))]), some (.map (a4.map (mkv (pAgg Account_.cells) (pInt .i64)))), some (.box [(.bp 0 0)]), none]) (B' := [some (.box [(.mp 1), (.pl (.int .i64 a2)), (.pl (.int .i64 a3))]), some (.map (a4.map (mkv (pAgg Account_.cells) (pInt .i64)))), some (.box [(.bp 0 0)]), none]) 4 [2, 0, 1] (f66r1_ok a1.Lines a2 a3 a4 h8) (by kernel_rfl) (by kernel_rfl) (by kernel_rfl) (by kernel_rfl) (by kernel_rfl) (by kernel_rfl)) an) rfl
noncomputable def f61r1 (a1 : JournalRecord) (a2 : Int) (a3 : Int) (a4 : List (Account_ × Int)) : Option Bool := (f61r1n0 a1 a2 a3 a4).bind fun o => match o with
  | .ret v9 => some v9
theorem f61r1_ok (a1 : JournalRecord) (a2 : Int) (a3 : Int) (a4 : List (Account_ × Int)) {r : Bool} (h : (f61r1 a1 a2 a3 a4) = some r) : CallS Try.prog true 61 [(.bp 0 0), (.pl (.agg (JournalRecord.cells a1)))] [some (.box [(.mp 1), (.pl (.int .i64 a2)), (.pl (.int .i64 a3))]), some (.map (a4.map (mkv (pAgg Account_.cells) (pInt .i64))))] (.pl (.bool r)) [some (.box [(.mp 1), (.pl (.int .i64 a2)), (.pl (.int .i64 a3))]), some (.map (a4.map (mkv (pAgg Account_.cells) (pInt .i64))))] := by
  unfold f61r1 at h
  obtain ⟨o, ho, h⟩ := bind_cases h
  cases o with
  | ret v9 =>
    obtain rfl := some_inj h
    exact CallS.shared cfg_ok (f := Try.f61) (c := c61) (by kernel_rfl) (by kernel_rfl) (by kernel_rfl) ((f61r1n0_ok a1 a2 a3 a4 ho).mono fun r e => by subst e; exact ⟨.inl rfl, by kernel_rfl, by kernel_rfl⟩)
/-! ### (*novation/journal.book).add -/
noncomputable def c44 : Code := Try.f44.body.getD .skip
inductive f44r1n2O where
  | exit0 (v41 : List (Account_ × Int))
def f44r1n2E (bb2 : JournalRecord) (bf1 : Int) : f44r1n2O → Ex × Tr × Hp
  | .exit0 v41 => ((.exit 0), mkS [(0, (.bp 0 0)), (3, (.bp 2 0))], [some (.box [(.mp 1), (.pl (.int .i64 bf1)), (.pl (.int .i64 bf1))]), some (.map (v41.map (mkv (pAgg Account_.cells) (pInt .i64)))), some (.box ((JournalRecord.cells bb2).map .pl))])
def f44r1n2S (bb2 : JournalRecord) (bf1 : Int) (v33 : Int) (v34 : List (Account_ × Int)) : Tr × Hp := (mkS [(0, (.bp 0 0)), (3, (.bp 2 0)), (32, (.pl (.sl .any 3 (bb2.Lines.map JournalLine.cells)))), (33, (.pl (.int .i64 (bb2.Lines.length : Int)))), (34, (.pl (.int .i64 v33)))], [some (.box [(.mp 1), (.pl (.int .i64 bf1)), (.pl (.int .i64 bf1))]), some (.map (v34.map (mkv (pAgg Account_.cells) (pInt .i64)))), some (.box ((JournalRecord.cells bb2).map .pl))])
noncomputable def f44r1n2 : Nat → JournalRecord → Int → Int → List (Account_ × Int) → Option f44r1n2O
  | 0, _, _, _, _ => none
  | f + 1, bb2, bf1, v33, v34 =>
    bif (decide (v33 < (bb2.Lines.length : Int))) then
      (at? bb2.Lines v33).bind fun x39 =>
      (f44r1n2 f bb2 bf1 (wr64 (v33 + 1)) (mPut Account_.eqb (Account_.mk x39.Account x39.Ccy) (wr64 ((mGet Account_.eqb 0 (Account_.mk x39.Account x39.Ccy) v34) + x39.Amount)) v34))
    else
      some (.exit0 v34)
theorem f44r1n2_ok : ∀ (f : Nat) (bb2 : JournalRecord) (bf1 : Int) (v33 : Int) (v34 : List (Account_ × Int)) {o : f44r1n2O}, (f44r1n2 f bb2 bf1 v33 v34) = some o → TL Try.prog Try.f44.ntmps 2 f (cL (cL (dropC 1 (cL (dropC 2 c44))))) (f44r1n2S bb2 bf1 v33 v34) (fun r => r = f44r1n2E bb2 bf1 o)
  | 0, _, _, _, _, o, h => by rw [f44r1n2] at h; cases h
  | f + 1, bb2, bf1, v33, v34, o, h => by
    rw [f44r1n2] at h
    refine TL.body (K := fun s => ∃ v33 : Int, ∃ v34 : List (Account_ × Int), s = (f44r1n2S bb2 bf1 v33 v34) ∧ (f44r1n2 f bb2 bf1 v33 v34) = some o) ?_ (by rintro _ ⟨v33, v34, rfl, hk⟩; exact f44r1n2_ok f _ _ _ _ hk)
    rcases cond_cases h with ⟨h36, h⟩ | ⟨h36, h⟩
    · obtain ⟨x39, h40, h⟩ := bind_cases h
      exact run_end cfg_ok (rs := [([], [], []), ([], [(0, .idx (Int.toNat v33) (JournalLine.cells x39))], []), ([], [(9, .look ((pInt .i64) (mGet Account_.eqb 0 (Account_.mk x39.Account x39.Ccy) v34)) (mHas Account_.eqb (Account_.mk x39.Account x39.Ccy) v34)), (13, .ment ((pInt .i64) (mGet Account_.eqb 0 (Account_.mk x39.Account x39.Ccy) v34)) (mIdx Account_.eqb (Account_.mk x39.Account x39.Ccy) v34) ((mEns Account_.eqb 0 (Account_.mk x39.Account x39.Ccy) v34).map (mkv (pAgg Account_.cells) (pInt .i64)))), (15, .mst (mIdx Account_.eqb (Account_.mk x39.Account x39.Ccy) v34) ((pAgg Account_.cells) (Account_.mk x39.Account x39.Ccy)) ((pInt .i64) (mGet Account_.eqb 0 (Account_.mk x39.Account x39.Ccy) v34)))], [(15, .map 1 ((mPut Account_.eqb (Account_.mk x39.Account x39.Ccy) (wr64 ((mGet Account_.eqb 0 (Account_.mk x39.Account x39.Ccy) v34) + x39.Amount)) v34).map (mkv (pAgg Account_.cells) (pInt .i64))))]), ([], [], [])]) (ps := [some true]) (tds := []) (m := [2]) (keep := [0, 3, 32, 33, 34]) (r := (.norm, (f44r1n2S bb2 bf1 (wr64 (v33 + 1)) (mPut Account_.eqb (Account_.mk x39.Account x39.Ccy) (wr64 ((mGet Account_.eqb 0 (Account_.mk x39.Account x39.Ccy) v34) + x39.Amount)) v34)))) (by kernel_rfl) (ap h36 (ap (at_some h40).1 (ap (at_map JournalLine.cells (at_some h40).2) (ap (look_map (vp := (pInt .i64)) (e := 3) key_95 0 (by kernel_rfl) (Account_.mk x39.Account x39.Ccy) v34) (ap (ment_map (vp := (pInt .i64)) (e := 3) key_95 0 (by kernel_rfl) (Account_.mk x39.Account x39.Ccy) v34) (ap (rfl : ((mIdx Account_.eqb (Account_.mk x39.Account x39.Ccy) v34) : Int) = (((mIdx Account_.eqb (Account_.mk x39.Account x39.Ccy) v34) : Nat) : Int)) (ap (mst_at (vp := (pInt .i64)) key_95 0 (Account_.mk x39.Account x39.Ccy) v34) (ap (mst_put (vp := (pInt .i64)) key_95 0 (wr64 ((mGet Account_.eqb 0 (Account_.mk x39.Account x39.Ccy) v34) + x39.Amount)) (Account_.mk x39.Account x39.Ccy) v34) an)))))))) (LoopQ.norm ⟨(wr64 (v33 + 1)), (mPut Account_.eqb (Account_.mk x39.Account x39.Ccy) (wr64 ((mGet Account_.eqb 0 (Account_.mk x39.Account x39.Ccy) v34) + x39.Amount)) v34), rfl, h⟩)
    · obtain rfl := some_inj h
      exact runK_end cfg_ok (k := 2) (rs := [([], [], [])]) (ps := [some false]) (tds := []) (m := [2]) (keep := [0, 3]) (ex := (.exit 0)) (st' := (f44r1n2E bb2 bf1 (.exit0 v34)).2) (by kernel_rfl) (ap h36 an) (fun h => nomatch h) (LoopQ.out rfl rfl)
noncomputable def f44r1n2L (bb2 : JournalRecord) (bf1 : Int) : List JournalLine → Int → (List (Account_ × Int)) → Option f44r1n2O
  | [], v33, v34 =>
    some (.exit0 v34)
  | x0 :: rest, v33, v34 =>
    (f44r1n2L bb2 bf1 rest (v33 + 1) (mPut Account_.eqb (Account_.mk x0.Account x0.Ccy) (wr64 ((mGet Account_.eqb 0 (Account_.mk x0.Account x0.Ccy) v34) + x0.Amount)) v34))
theorem f44r1n2L_eq (bb2 : JournalRecord) (bf1 : Int) : ∀ (rest : List JournalLine) (f k : Nat) (v34 : List (Account_ × Int)), bb2.Lines.drop k = rest → bb2.Lines.length ≤ maxLen → rest.length < f → f44r1n2 f bb2 bf1 (k : Int) v34 = f44r1n2L bb2 bf1 rest (k : Int) v34
  | _, 0, _, _, _, _, hf => absurd hf (Nat.not_lt_zero _)
  | [], f + 1, k, v34, hd, hm, hf => by
    have hk : ¬ ((k : Int) < (bb2.Lines.length : Int)) := by have := drop_nil hd; omega
    rw [f44r1n2, f44r1n2L]
    simp only [decide_eq_false hk, cond_false]
  | x0 :: rest, f + 1, k, v34, hd, hm, hf => by
    obtain ⟨hx, hlt, hd'⟩ := drop_cons hd
    have hk : (k : Int) < (bb2.Lines.length : Int) := by omega
    have hw : wr64 ((k : Int) + 1) = (k : Int) + 1 := wr64_of (by omega) (by unfold maxLen at hm; omega)
    have ih : ∀ (v34 : List (Account_ × Int)), f44r1n2 f bb2 bf1 ((k : Int) + 1) v34 = f44r1n2L bb2 bf1 rest ((k : Int) + 1) v34 := fun v34 => f44r1n2L_eq bb2 bf1 rest f (k + 1) v34 hd' hm (by simpa using hf)
    rw [f44r1n2, f44r1n2L]
    simp only [decide_eq_true hk, cond_true, at_nat, hx, Option.bind_some, hw, ih]
theorem f44r1n2_run (bb2 : JournalRecord) (bf1 : Int) (v34 : List (Account_ × Int)) (hm : bb2.Lines.length ≤ maxLen) : f44r1n2 FUEL bb2 bf1 0 v34 = f44r1n2L bb2 bf1 bb2.Lines 0 v34 := f44r1n2L_eq bb2 bf1 bb2.Lines FUEL 0 v34 List.drop_zero hm (lt_FUEL hm)
inductive f44r1n1O where
  | norm (v45 : List (Account_ × Int))
def f44r1n1E (bf1 : Int) (bb2 : JournalRecord) : f44r1n1O → Ex × Tr × Hp
  | .norm v45 => (.norm, mkS [(0, (.bp 0 0)), (3, (.bp 2 0))], [some (.box [(.mp 1), (.pl (.int .i64 bf1)), (.pl (.int .i64 bf1))]), some (.map (v45.map (mkv (pAgg Account_.cells) (pInt .i64)))), some (.box ((JournalRecord.cells bb2).map .pl))])
def f44r1n1S (bf1 : Int) (bb2 : JournalRecord) : Tr × Hp := (mkS [(0, (.bp 0 0)), (3, (.bp 2 0))], [some (.box [(.mp 1), (.pl (.int .i64 bf1)), (.pl (.int .i64 bf1))]), some (.map ([].map (mkv (pAgg Account_.cells) (pInt .i64)))), some (.box ((JournalRecord.cells bb2).map .pl))])
noncomputable def f44r1n1 (bf1 : Int) (bb2 : JournalRecord) : Option f44r1n1O :=
  (f44r1n2 FUEL bb2 bf1 0 []).bind fun o42 => match o42 with
  | .exit0 v44 => some (.norm v44)
theorem f44r1n1_ok (bf1 : Int) (bb2 : JournalRecord) {o : f44r1n1O} (h : (f44r1n1 bf1 bb2) = some o) : T Try.prog Try.f44.ntmps 2 (cL (dropC 2 c44)) (f44r1n1S bf1 bb2) (fun r => r = f44r1n1E bf1 bb2 o) := by
  unfold f44r1n1 at h
  refine runK_norm cfg_ok (k := 1) (rs := [([], [], [(2, .val (.pl (.int .i64 (bb2.Lines.length : Int))))])]) (ps := []) (tds := []) (m := [2]) (keep := [0, 3, 32, 33, 34]) (st' := (f44r1n2S bb2 bf1 0 [])) (by kernel_rfl) (ap (len_cv (xs := bb2.Lines) (c := JournalLine.cells)) an) ?_
  obtain ⟨o42, h43, h⟩ := bind_cases h
  cases o42 with
  | exit0 v44 =>
    obtain rfl := some_inj h
    exact T.last' (T.bl (i := 0) (by kernel_rfl) (by kernel_rfl) (f44r1n2_ok FUEL bb2 bf1 0 [] h43)) (tds := []) (m := [2]) (keep := [0, 3]) (st2 := (f44r1n1E bf1 bb2 (.norm v44)).2) (by kernel_rfl) an rfl
inductive f44r1n0O where
  | ret (v53 : Bool) (v54 : Int) (v55 : Int) (v56 : List (Account_ × Int))
def f44r1n0E (a1 : JournalRecord) (a2 : Int) : f44r1n0O → Ex × Tr × Hp
  | .ret v53 v54 v55 v56 => (.ret, mkS [(4, (.pl (.bool v53)))], [some (.box [(.mp 1), (.pl (.int .i64 v54)), (.pl (.int .i64 v55))]), some (.map (v56.map (mkv (pAgg Account_.cells) (pInt .i64))))])
def f44r1n0S (a1 : JournalRecord) (a2 : Int) : Tr × Hp := (initS [(.bp 0 0), (.pl (.agg (JournalRecord.cells a1)))] 0 .leaf, [some (.box [(.mp 1), (.pl (.int .i64 a2)), (.pl (.int .i64 a2))]), some (.map ([].map (mkv (pAgg Account_.cells) (pInt .i64))))])
noncomputable def f44r1n0 (a1 : JournalRecord) (a2 : Int) : Option f44r1n0O :=
  bif (decide (a2 = 200)) then
    some (.ret false a2 a2 [])
  else
    (f49 a1).bind fun x12 =>
    bif x12 then
      (f50 a1).bind fun x15 =>
      bif x15 then
        bif (decide (a1.Day < a2)) then
          some (.ret false a2 a2 [])
        else
          (f44r1n1 a2 a1).bind fun o46 => match o46 with
          | .norm v48 => (f61r1 a1 a1.Day (wr64 (a2 + 1)) v48).bind fun x51 =>
            some (.ret x51 a1.Day (wr64 (a2 + 1)) v48)
      else
        some (.ret false a2 a2 [])
    else
      some (.ret false a2 a2 [])
theorem f44r1n0_ok (a1 : JournalRecord) (a2 : Int) {o : f44r1n0O} (h : (f44r1n0 a1 a2) = some o) : T Try.prog Try.f44.ntmps 2 c44 (f44r1n0S a1 a2) (fun r => r = f44r1n0E a1 a2 o) := by
  unfold f44r1n0 at h
  rcases cond_cases h with ⟨h11, h⟩ | ⟨h11, h⟩
  · obtain rfl := some_inj h
    exact runK_end cfg_ok (k := 2) (rs := [([], [], []), ([(6, true), (7, true), (8, true)], [(9, .bool true)], []), ([], [], [])]) (ps := [none]) (tds := []) (m := []) (keep := [4]) (ex := .ret) (st' := (f44r1n0E a1 a2 (.ret false a2 a2 [])).2) (by kernel_rfl) (ap h11 (ap h11 (ap h11 (ap h11 an)))) (fun h => nomatch h) rfl
  · obtain ⟨x12, h13, h⟩ := bind_cases h
    rcases cond_cases h with ⟨h14, h⟩ | ⟨h14, h⟩
    · obtain ⟨x15, h16, h⟩ := bind_cases h
      rcases cond_cases h with ⟨h17, h⟩ | ⟨h17, h⟩
      · rcases cond_cases h with ⟨h18, h⟩ | ⟨h18, h⟩
        · obtain rfl := some_inj h
          exact runK_end cfg_ok (k := 2) (rs := [([], [], []), ([(6, false), (7, false), (8, false), (11, false), (12, false), (13, false), (16, false), (17, false), (18, false), (19, false), (20, false), (21, false), (22, false)], [(7, .call (.pl (.bool x12)) []), (9, .bool false), (12, .call (.pl (.bool x15)) []), (14, .bool false), (23, .bool false)], []), ([], [], [])]) (ps := [some true]) (tds := []) (m := []) (keep := [4]) (ex := .ret) (st' := (f44r1n0E a1 a2 (.ret false a2 a2 [])).2) (by kernel_rfl) (ap h11 (ap h11 (ap h11 (ap h11 (ap (not_t h14) (ap (not_t h14) (ap (not_t h14) (ap (not_t h14) (ap (not_t h17) (ap (not_t h17) (ap (not_t h17) (ap (not_t h17) (ap (not_t h17) (ap (not_t h17) (ap (not_t h17) (ap (not_t h17) (ap (f49_ok a1 h13) (ap (f50_ok a1 h16) (ap h18 an))))))))))))))))))) (fun h => nomatch h) rfl
        · refine runK_norm cfg_ok (k := 2) (rs := [([], [], []), ([(6, false), (7, false), (8, false), (11, false), (12, false), (13, false), (16, false), (17, false), (18, false), (19, false), (20, false), (21, false), (22, false)], [(7, .call (.pl (.bool x12)) []), (9, .bool false), (12, .call (.pl (.bool x15)) []), (14, .bool false), (23, .bool false)], [])]) (ps := [some false]) (tds := []) (m := [2]) (keep := [0, 3]) (st' := (f44r1n1S a2 a1)) (by kernel_rfl) (ap h11 (ap h11 (ap h11 (ap h11 (ap (not_t h14) (ap (not_t h14) (ap (not_t h14) (ap (not_t h14) (ap (not_t h17) (ap (not_t h17) (ap (not_t h17) (ap (not_t h17) (ap (not_t h17) (ap (not_t h17) (ap (not_t h17) (ap (not_t h17) (ap (f49_ok a1 h13) (ap (f50_ok a1 h16) (ap h18 an))))))))))))))))))) ?_
          obtain ⟨o46, h47, h⟩ := bind_cases h
          cases o46 with
          | norm v48 =>
            refine T.oneN (by kernel_rfl) (f44r1n1_ok a2 a1 h47) (st2 := (f44r1n1E a2 a1 (.norm v48)).2) rfl ?_
            obtain ⟨x51, h52, h⟩ := bind_cases h
            obtain rfl := some_inj h
            exact run_end cfg_ok (rs := [([], [], []), ([], [(2, .call (.pl (.bool x51)) [some (.box [(.mp 1), (.pl (.int .i64 a1.Day)), (.pl (.int .i64 (wr64 (a2 + 1))))]), some (.map (v48.map (mkv (pAgg Account_.cells) (pInt .i64)))), none, none])], [])]) (ps := []) (tds := []) (m := []) (keep := [4]) (r := (.ret, (f44r1n0E a1 a2 (.ret x51 a1.Day (wr64 (a2 + 1)) v48)).2)) (by kernel_rfl) (ap (CallS.ren (args' := [(.bp 0 0), (.pl (.agg (JournalRecord.cells a1)))]) (v' := (.pl (.bool x51))) (B := [some (.box [(.mp 1), (.pl (.int .i64 a1.Day)), (.pl (.int .i64 (wr64 (a2 + 1))))]), some (.map (v48.map (mkv (pAgg Account_.cells) (pInt .i64)))), none, none]) (B' := [some (.box [(.mp 1), (.pl (.int .i64 a1.Day)), (.pl (.int .i64 (wr64 (a2 + 1))))]), some (.map (v48.map (mkv (pAgg Account_.cells) (pInt .i64)))), none, none]) 4 [0, 1] (f61r1_ok a1 a1.Day (wr64 (a2 + 1)) v48 h52) (by kernel_rfl) (by kernel_rfl) (by kernel_rfl) (by kernel_rfl) (by kernel_rfl) (by kernel_rfl)) an) rfl
      · obtain rfl := some_inj h
        exact runK_end cfg_ok (k := 2) (rs := [([], [], []), ([(6, false), (7, false), (8, false), (11, false), (12, false), (13, false), (16, true), (17, true), (18, true), (19, true), (20, true), (21, true), (22, true)], [(7, .call (.pl (.bool x12)) []), (9, .bool false), (12, .call (.pl (.bool x15)) []), (14, .bool false), (23, .bool true)], []), ([], [], [])]) (ps := [none]) (tds := []) (m := []) (keep := [4]) (ex := .ret) (st' := (f44r1n0E a1 a2 (.ret false a2 a2 [])).2) (by kernel_rfl) (ap h11 (ap h11 (ap h11 (ap h11 (ap (not_t h14) (ap (not_t h14) (ap (not_t h14) (ap (not_t h14) (ap (not_f h17) (ap (not_f h17) (ap (not_f h17) (ap (not_f h17) (ap (not_f h17) (ap (not_f h17) (ap (not_f h17) (ap (not_f h17) (ap (f49_ok a1 h13) (ap (f50_ok a1 h16) an)))))))))))))))))) (fun h => nomatch h) rfl
    · obtain rfl := some_inj h
      exact runK_end cfg_ok (k := 2) (rs := [([], [], []), ([(6, false), (7, false), (8, false), (11, true), (12, true), (13, true)], [(7, .call (.pl (.bool x12)) []), (9, .bool false), (14, .bool true)], []), ([], [], [])]) (ps := [none]) (tds := []) (m := []) (keep := [4]) (ex := .ret) (st' := (f44r1n0E a1 a2 (.ret false a2 a2 [])).2) (by kernel_rfl) (ap h11 (ap h11 (ap h11 (ap h11 (ap (not_f h14) (ap (not_f h14) (ap (not_f h14) (ap (not_f h14) (ap (f49_ok a1 h13) an))))))))) (fun h => nomatch h) rfl
noncomputable def f44r1 (a1 : JournalRecord) (a2 : Int) : Option (Bool × Int × Int × (List (Account_ × Int))) := (f44r1n0 a1 a2).bind fun o => match o with
  | .ret v53 v54 v55 v56 => some (v53, v54, v55, v56)
theorem f44r1_ok (a1 : JournalRecord) (a2 : Int) {r : Bool × Int × Int × (List (Account_ × Int))} (h : (f44r1 a1 a2) = some r) : CallS Try.prog true 44 [(.bp 0 0), (.pl (.agg (JournalRecord.cells a1)))] [some (.box [(.mp 1), (.pl (.int .i64 a2)), (.pl (.int .i64 a2))]), some (.map ([].map (mkv (pAgg Account_.cells) (pInt .i64))))] (.pl (.bool r.1)) [some (.box [(.mp 1), (.pl (.int .i64 r.2.1)), (.pl (.int .i64 r.2.2.1))]), some (.map (r.2.2.2.map (mkv (pAgg Account_.cells) (pInt .i64))))] := by
  unfold f44r1 at h
  obtain ⟨o, ho, h⟩ := bind_cases h
  cases o with
  | ret v53 v54 v55 v56 =>
    obtain rfl := some_inj h
    exact CallS.shared cfg_ok (f := Try.f44) (c := c44) (by kernel_rfl) (by kernel_rfl) (by kernel_rfl) ((f44r1n0_ok a1 a2 ho).mono fun r e => by subst e; exact ⟨.inl rfl, by kernel_rfl, by kernel_rfl⟩)
/-! ### (*novation/journal.book).add -/
inductive f44r2n2O where
  | exit0 (v43 : List (Account_ × Int))
def f44r2n2E (bb4 : JournalRecord) (bf1 : Int) (bf2 : Int) : f44r2n2O → Ex × Tr × Hp
  | .exit0 v43 => ((.exit 0), mkS [(0, (.bp 0 0)), (3, (.bp 2 0))], [some (.box [(.mp 1), (.pl (.int .i64 bf1)), (.pl (.int .i64 bf2))]), some (.map (v43.map (mkv (pAgg Account_.cells) (pInt .i64)))), some (.box ((JournalRecord.cells bb4).map .pl))])
def f44r2n2S (bb4 : JournalRecord) (bf1 : Int) (bf2 : Int) (v35 : Int) (v36 : List (Account_ × Int)) : Tr × Hp := (mkS [(0, (.bp 0 0)), (3, (.bp 2 0)), (32, (.pl (.sl .any 3 (bb4.Lines.map JournalLine.cells)))), (33, (.pl (.int .i64 (bb4.Lines.length : Int)))), (34, (.pl (.int .i64 v35)))], [some (.box [(.mp 1), (.pl (.int .i64 bf1)), (.pl (.int .i64 bf2))]), some (.map (v36.map (mkv (pAgg Account_.cells) (pInt .i64)))), some (.box ((JournalRecord.cells bb4).map .pl))])
noncomputable def f44r2n2 : Nat → JournalRecord → Int → Int → Int → List (Account_ × Int) → Option f44r2n2O
  | 0, _, _, _, _, _ => none
  | f + 1, bb4, bf1, bf2, v35, v36 =>
    bif (decide (v35 < (bb4.Lines.length : Int))) then
      (at? bb4.Lines v35).bind fun x41 =>
      (f44r2n2 f bb4 bf1 bf2 (wr64 (v35 + 1)) (mPut Account_.eqb (Account_.mk x41.Account x41.Ccy) (wr64 ((mGet Account_.eqb 0 (Account_.mk x41.Account x41.Ccy) v36) + x41.Amount)) v36))
    else
      some (.exit0 v36)
theorem f44r2n2_ok : ∀ (f : Nat) (bb4 : JournalRecord) (bf1 : Int) (bf2 : Int) (v35 : Int) (v36 : List (Account_ × Int)) {o : f44r2n2O}, (f44r2n2 f bb4 bf1 bf2 v35 v36) = some o → TL Try.prog Try.f44.ntmps 2 f (cL (cL (dropC 1 (cL (dropC 2 c44))))) (f44r2n2S bb4 bf1 bf2 v35 v36) (fun r => r = f44r2n2E bb4 bf1 bf2 o)
  | 0, _, _, _, _, _, o, h => by rw [f44r2n2] at h; cases h
  | f + 1, bb4, bf1, bf2, v35, v36, o, h => by
    rw [f44r2n2] at h
    refine TL.body (K := fun s => ∃ v35 : Int, ∃ v36 : List (Account_ × Int), s = (f44r2n2S bb4 bf1 bf2 v35 v36) ∧ (f44r2n2 f bb4 bf1 bf2 v35 v36) = some o) ?_ (by rintro _ ⟨v35, v36, rfl, hk⟩; exact f44r2n2_ok f _ _ _ _ _ hk)
    rcases cond_cases h with ⟨h38, h⟩ | ⟨h38, h⟩
    · obtain ⟨x41, h42, h⟩ := bind_cases h
      exact run_end cfg_ok (rs := [([], [], []), ([], [(0, .idx (Int.toNat v35) (JournalLine.cells x41))], []), ([], [(9, .look ((pInt .i64) (mGet Account_.eqb 0 (Account_.mk x41.Account x41.Ccy) v36)) (mHas Account_.eqb (Account_.mk x41.Account x41.Ccy) v36)), (13, .ment ((pInt .i64) (mGet Account_.eqb 0 (Account_.mk x41.Account x41.Ccy) v36)) (mIdx Account_.eqb (Account_.mk x41.Account x41.Ccy) v36) ((mEns Account_.eqb 0 (Account_.mk x41.Account x41.Ccy) v36).map (mkv (pAgg Account_.cells) (pInt .i64)))), (15, .mst (mIdx Account_.eqb (Account_.mk x41.Account x41.Ccy) v36) ((pAgg Account_.cells) (Account_.mk x41.Account x41.Ccy)) ((pInt .i64) (mGet Account_.eqb 0 (Account_.mk x41.Account x41.Ccy) v36)))], [(15, .map 1 ((mPut Account_.eqb (Account_.mk x41.Account x41.Ccy) (wr64 ((mGet Account_.eqb 0 (Account_.mk x41.Account x41.Ccy) v36) + x41.Amount)) v36).map (mkv (pAgg Account_.cells) (pInt .i64))))]), ([], [], [])]) (ps := [some true]) (tds := []) (m := [2]) (keep := [0, 3, 32, 33, 34]) (r := (.norm, (f44r2n2S bb4 bf1 bf2 (wr64 (v35 + 1)) (mPut Account_.eqb (Account_.mk x41.Account x41.Ccy) (wr64 ((mGet Account_.eqb 0 (Account_.mk x41.Account x41.Ccy) v36) + x41.Amount)) v36)))) (by kernel_rfl) (ap h38 (ap (at_some h42).1 (ap (at_map JournalLine.cells (at_some h42).2) (ap (look_map (vp := (pInt .i64)) (e := 3) key_95 0 (by kernel_rfl) (Account_.mk x41.Account x41.Ccy) v36) (ap (ment_map (vp := (pInt .i64)) (e := 3) key_95 0 (by kernel_rfl) (Account_.mk x41.Account x41.Ccy) v36) (ap (rfl : ((mIdx Account_.eqb (Account_.mk x41.Account x41.Ccy) v36) : Int) = (((mIdx Account_.eqb (Account_.mk x41.Account x41.Ccy) v36) : Nat) : Int)) (ap (mst_at (vp := (pInt .i64)) key_95 0 (Account_.mk x41.Account x41.Ccy) v36) (ap (mst_put (vp := (pInt .i64)) key_95 0 (wr64 ((mGet Account_.eqb 0 (Account_.mk x41.Account x41.Ccy) v36) + x41.Amount)) (Account_.mk x41.Account x41.Ccy) v36) an)))))))) (LoopQ.norm ⟨(wr64 (v35 + 1)), (mPut Account_.eqb (Account_.mk x41.Account x41.Ccy) (wr64 ((mGet Account_.eqb 0 (Account_.mk x41.Account x41.Ccy) v36) + x41.Amount)) v36), rfl, h⟩)
    · obtain rfl := some_inj h
      exact runK_end cfg_ok (k := 2) (rs := [([], [], [])]) (ps := [some false]) (tds := []) (m := [2]) (keep := [0, 3]) (ex := (.exit 0)) (st' := (f44r2n2E bb4 bf1 bf2 (.exit0 v36)).2) (by kernel_rfl) (ap h38 an) (fun h => nomatch h) (LoopQ.out rfl rfl)
noncomputable def f44r2n2L (bb4 : JournalRecord) (bf1 : Int) (bf2 : Int) : List JournalLine → Int → (List (Account_ × Int)) → Option f44r2n2O
  | [], v35, v36 =>
    some (.exit0 v36)
  | x0 :: rest, v35, v36 =>
    (f44r2n2L bb4 bf1 bf2 rest (v35 + 1) (mPut Account_.eqb (Account_.mk x0.Account x0.Ccy) (wr64 ((mGet Account_.eqb 0 (Account_.mk x0.Account x0.Ccy) v36) + x0.Amount)) v36))
theorem f44r2n2L_eq (bb4 : JournalRecord) (bf1 : Int) (bf2 : Int) : ∀ (rest : List JournalLine) (f k : Nat) (v36 : List (Account_ × Int)), bb4.Lines.drop k = rest → bb4.Lines.length ≤ maxLen → rest.length < f → f44r2n2 f bb4 bf1 bf2 (k : Int) v36 = f44r2n2L bb4 bf1 bf2 rest (k : Int) v36
  | _, 0, _, _, _, _, hf => absurd hf (Nat.not_lt_zero _)
  | [], f + 1, k, v36, hd, hm, hf => by
    have hk : ¬ ((k : Int) < (bb4.Lines.length : Int)) := by have := drop_nil hd; omega
    rw [f44r2n2, f44r2n2L]
    simp only [decide_eq_false hk, cond_false]
  | x0 :: rest, f + 1, k, v36, hd, hm, hf => by
    obtain ⟨hx, hlt, hd'⟩ := drop_cons hd
    have hk : (k : Int) < (bb4.Lines.length : Int) := by omega
    have hw : wr64 ((k : Int) + 1) = (k : Int) + 1 := wr64_of (by omega) (by unfold maxLen at hm; omega)
    have ih : ∀ (v36 : List (Account_ × Int)), f44r2n2 f bb4 bf1 bf2 ((k : Int) + 1) v36 = f44r2n2L bb4 bf1 bf2 rest ((k : Int) + 1) v36 := fun v36 => f44r2n2L_eq bb4 bf1 bf2 rest f (k + 1) v36 hd' hm (by simpa using hf)
    rw [f44r2n2, f44r2n2L]
    simp only [decide_eq_true hk, cond_true, at_nat, hx, Option.bind_some, hw, ih]
theorem f44r2n2_run (bb4 : JournalRecord) (bf1 : Int) (bf2 : Int) (v36 : List (Account_ × Int)) (hm : bb4.Lines.length ≤ maxLen) : f44r2n2 FUEL bb4 bf1 bf2 0 v36 = f44r2n2L bb4 bf1 bf2 bb4.Lines 0 v36 := f44r2n2L_eq bb4 bf1 bf2 bb4.Lines FUEL 0 v36 List.drop_zero hm (lt_FUEL hm)
inductive f44r2n1O where
  | norm (v47 : List (Account_ × Int))
def f44r2n1E (bf1 : Int) (bf2 : Int) (bg3 : List (Account_ × Int)) (bb4 : JournalRecord) : f44r2n1O → Ex × Tr × Hp
  | .norm v47 => (.norm, mkS [(0, (.bp 0 0)), (3, (.bp 2 0))], [some (.box [(.mp 1), (.pl (.int .i64 bf1)), (.pl (.int .i64 bf2))]), some (.map (v47.map (mkv (pAgg Account_.cells) (pInt .i64)))), some (.box ((JournalRecord.cells bb4).map .pl))])
def f44r2n1S (bf1 : Int) (bf2 : Int) (bg3 : List (Account_ × Int)) (bb4 : JournalRecord) : Tr × Hp := (mkS [(0, (.bp 0 0)), (3, (.bp 2 0))], [some (.box [(.mp 1), (.pl (.int .i64 bf1)), (.pl (.int .i64 bf2))]), some (.map (bg3.map (mkv (pAgg Account_.cells) (pInt .i64)))), some (.box ((JournalRecord.cells bb4).map .pl))])
noncomputable def f44r2n1 (bf1 : Int) (bf2 : Int) (bg3 : List (Account_ × Int)) (bb4 : JournalRecord) : Option f44r2n1O :=
  (f44r2n2 FUEL bb4 bf1 bf2 0 bg3).bind fun o44 => match o44 with
  | .exit0 v46 => some (.norm v46)
theorem f44r2n1_ok (bf1 : Int) (bf2 : Int) (bg3 : List (Account_ × Int)) (bb4 : JournalRecord) {o : f44r2n1O} (h : (f44r2n1 bf1 bf2 bg3 bb4) = some o) : T Try.prog Try.f44.ntmps 2 (cL (dropC 2 c44)) (f44r2n1S bf1 bf2 bg3 bb4) (fun r => r = f44r2n1E bf1 bf2 bg3 bb4 o) := by
  unfold f44r2n1 at h
  refine runK_norm cfg_ok (k := 1) (rs := [([], [], [(2, .val (.pl (.int .i64 (bb4.Lines.length : Int))))])]) (ps := []) (tds := []) (m := [2]) (keep := [0, 3, 32, 33, 34]) (st' := (f44r2n2S bb4 bf1 bf2 0 bg3)) (by kernel_rfl) (ap (len_cv (xs := bb4.Lines) (c := JournalLine.cells)) an) ?_
  obtain ⟨o44, h45, h⟩ := bind_cases h
  cases o44 with
  | exit0 v46 =>
    obtain rfl := some_inj h
    exact T.last' (T.bl (i := 0) (by kernel_rfl) (by kernel_rfl) (f44r2n2_ok FUEL bb4 bf1 bf2 0 bg3 h45)) (tds := []) (m := [2]) (keep := [0, 3]) (st2 := (f44r2n1E bf1 bf2 bg3 bb4 (.norm v46)).2) (by kernel_rfl) an rfl
inductive f44r2n0O where
  | ret (v55 : Bool) (v56 : Int) (v57 : Int) (v58 : List (Account_ × Int))
def f44r2n0E (a1 : JournalRecord) (a2 : Int) (a3 : Int) (a4 : List (Account_ × Int)) : f44r2n0O → Ex × Tr × Hp
  | .ret v55 v56 v57 v58 => (.ret, mkS [(4, (.pl (.bool v55)))], [some (.box [(.mp 1), (.pl (.int .i64 v56)), (.pl (.int .i64 v57))]), some (.map (v58.map (mkv (pAgg Account_.cells) (pInt .i64))))])
def f44r2n0S (a1 : JournalRecord) (a2 : Int) (a3 : Int) (a4 : List (Account_ × Int)) : Tr × Hp := (initS [(.bp 0 0), (.pl (.agg (JournalRecord.cells a1)))] 0 .leaf, [some (.box [(.mp 1), (.pl (.int .i64 a2)), (.pl (.int .i64 a3))]), some (.map (a4.map (mkv (pAgg Account_.cells) (pInt .i64))))])
noncomputable def f44r2n0 (a1 : JournalRecord) (a2 : Int) (a3 : Int) (a4 : List (Account_ × Int)) : Option f44r2n0O :=
  bif (decide (a3 = 200)) then
    some (.ret false a2 a3 a4)
  else
    (f49 a1).bind fun x14 =>
    bif x14 then
      (f50 a1).bind fun x17 =>
      bif x17 then
        bif (decide (a1.Day < a2)) then
          some (.ret false a2 a3 a4)
        else
          (f44r2n1 a2 a3 a4 a1).bind fun o48 => match o48 with
          | .norm v50 => (f61r1 a1 a1.Day (wr64 (a3 + 1)) v50).bind fun x53 =>
            some (.ret x53 a1.Day (wr64 (a3 + 1)) v50)
      else
        some (.ret false a2 a3 a4)
    else
      some (.ret false a2 a3 a4)
theorem f44r2n0_ok (a1 : JournalRecord) (a2 : Int) (a3 : Int) (a4 : List (Account_ × Int)) {o : f44r2n0O} (h : (f44r2n0 a1 a2 a3 a4) = some o) : T Try.prog Try.f44.ntmps 2 c44 (f44r2n0S a1 a2 a3 a4) (fun r => r = f44r2n0E a1 a2 a3 a4 o) := by
  unfold f44r2n0 at h
  rcases cond_cases h with ⟨h13, h⟩ | ⟨h13, h⟩
  · obtain rfl := some_inj h
    exact runK_end cfg_ok (k := 2) (rs := [([], [], []), ([(6, true), (7, true), (8, true)], [(9, .bool true)], []), ([], [], [])]) (ps := [none]) (tds := []) (m := []) (keep := [4]) (ex := .ret) (st' := (f44r2n0E a1 a2 a3 a4 (.ret false a2 a3 a4)).2) (by kernel_rfl) (ap h13 (ap h13 (ap h13 (ap h13 an)))) (fun h => nomatch h) rfl
  · obtain ⟨x14, h15, h⟩ := bind_cases h
    rcases cond_cases h with ⟨h16, h⟩ | ⟨h16, h⟩
    · obtain ⟨x17, h18, h⟩ := bind_cases h
      rcases cond_cases h with ⟨h19, h⟩ | ⟨h19, h⟩
      · rcases cond_cases h with ⟨h20, h⟩ | ⟨h20, h⟩
        · obtain rfl := some_inj h
          exact runK_end cfg_ok (k := 2) (rs := [([], [], []), ([(6, false), (7, false), (8, false), (11, false), (12, false), (13, false), (16, false), (17, false), (18, false), (19, false), (20, false), (21, false), (22, false)], [(7, .call (.pl (.bool x14)) []), (9, .bool false), (12, .call (.pl (.bool x17)) []), (14, .bool false), (23, .bool false)], []), ([], [], [])]) (ps := [some true]) (tds := []) (m := []) (keep := [4]) (ex := .ret) (st' := (f44r2n0E a1 a2 a3 a4 (.ret false a2 a3 a4)).2) (by kernel_rfl) (ap h13 (ap h13 (ap h13 (ap h13 (ap (not_t h16) (ap (not_t h16) (ap (not_t h16) (ap (not_t h16) (ap (not_t h19) (ap (not_t h19) (ap (not_t h19) (ap (not_t h19) (ap (not_t h19) (ap (not_t h19) (ap (not_t h19) (ap (not_t h19) (ap (f49_ok a1 h15) (ap (f50_ok a1 h18) (ap h20 an))))))))))))))))))) (fun h => nomatch h) rfl
        · refine runK_norm cfg_ok (k := 2) (rs := [([], [], []), ([(6, false), (7, false), (8, false), (11, false), (12, false), (13, false), (16, false), (17, false), (18, false), (19, false), (20, false), (21, false), (22, false)], [(7, .call (.pl (.bool x14)) []), (9, .bool false), (12, .call (.pl (.bool x17)) []), (14, .bool false), (23, .bool false)], [])]) (ps := [some false]) (tds := []) (m := [2]) (keep := [0, 3]) (st' := (f44r2n1S a2 a3 a4 a1)) (by kernel_rfl) (ap h13 (ap h13 (ap h13 (ap h13 (ap (not_t h16) (ap (not_t h16) (ap (not_t h16) (ap (not_t h16) (ap (not_t h19) (ap (not_t h19) (ap (not_t h19) (ap (not_t h19) (ap (not_t h19) (ap (not_t h19) (ap (not_t h19) (ap (not_t h19) (ap (f49_ok a1 h15) (ap (f50_ok a1 h18) (ap h20 an))))))))))))))))))) ?_
          obtain ⟨o48, h49, h⟩ := bind_cases h
          cases o48 with
          | norm v50 =>
            refine T.oneN (by kernel_rfl) (f44r2n1_ok a2 a3 a4 a1 h49) (st2 := (f44r2n1E a2 a3 a4 a1 (.norm v50)).2) rfl ?_
            obtain ⟨x53, h54, h⟩ := bind_cases h
            obtain rfl := some_inj h
            exact run_end cfg_ok (rs := [([], [], []), ([], [(2, .call (.pl (.bool x53)) [some (.box [(.mp 1), (.pl (.int .i64 a1.Day)), (.pl (.int .i64 (wr64 (a3 + 1))))]), some (.map (v50.map (mkv (pAgg Account_.cells) (pInt .i64)))), none, none])], [])]) (ps := []) (tds := []) (m := []) (keep := [4]) (r := (.ret, (f44r2n0E a1 a2 a3 a4 (.ret x53 a1.Day (wr64 (a3 + 1)) v50)).2)) (by kernel_rfl) (ap (CallS.ren (args' := [(.bp 0 0), (.pl (.agg (JournalRecord.cells a1)))]) (v' := (.pl (.bool x53))) (B := [some (.box [(.mp 1), (.pl (.int .i64 a1.Day)), (.pl (.int .i64 (wr64 (a3 + 1))))]), some (.map (v50.map (mkv (pAgg Account_.cells) (pInt .i64)))), none, none]) (B' := [some (.box [(.mp 1), (.pl (.int .i64 a1.Day)), (.pl (.int .i64 (wr64 (a3 + 1))))]), some (.map (v50.map (mkv (pAgg Account_.cells) (pInt .i64)))), none, none]) 4 [0, 1] (f61r1_ok a1 a1.Day (wr64 (a3 + 1)) v50 h54) (by kernel_rfl) (by kernel_rfl) (by kernel_rfl) (by kernel_rfl) (by kernel_rfl) (by kernel_rfl)) an) rfl
      · obtain rfl := some_inj h
        exact runK_end cfg_ok (k := 2) (rs := [([], [], []), ([(6, false), (7, false), (8, false), (11, false), (12, false), (13, false), (16, true), (17, true), (18, true), (19, true), (20, true), (21, true), (22, true)], [(7, .call (.pl (.bool x14)) []), (9, .bool false), (12, .call (.pl (.bool x17)) []), (14, .bool false), (23, .bool true)], []), ([], [], [])]) (ps := [none]) (tds := []) (m := []) (keep := [4]) (ex := .ret) (st' := (f44r2n0E a1 a2 a3 a4 (.ret false a2 a3 a4)).2) (by kernel_rfl) (ap h13 (ap h13 (ap h13 (ap h13 (ap (not_t h16) (ap (not_t h16) (ap (not_t h16) (ap (not_t h16) (ap (not_f h19) (ap (not_f h19) (ap (not_f h19) (ap (not_f h19) (ap (not_f h19) (ap (not_f h19) (ap (not_f h19) (ap (not_f h19) (ap (f49_ok a1 h15) (ap (f50_ok a1 h18) an)))))))))))))))))) (fun h => nomatch h) rfl
    · obtain rfl := some_inj h
      exact runK_end cfg_ok (k := 2) (rs := [([], [], []), ([(6, false), (7, false), (8, false), (11, true), (12, true), (13, true)], [(7, .call (.pl (.bool x14)) []), (9, .bool false), (14, .bool true)], []), ([], [], [])]) (ps := [none]) (tds := []) (m := []) (keep := [4]) (ex := .ret) (st' := (f44r2n0E a1 a2 a3 a4 (.ret false a2 a3 a4)).2) (by kernel_rfl) (ap h13 (ap h13 (ap h13 (ap h13 (ap (not_f h16) (ap (not_f h16) (ap (not_f h16) (ap (not_f h16) (ap (f49_ok a1 h15) an))))))))) (fun h => nomatch h) rfl
noncomputable def f44r2 (a1 : JournalRecord) (a2 : Int) (a3 : Int) (a4 : List (Account_ × Int)) : Option (Bool × Int × Int × (List (Account_ × Int))) := (f44r2n0 a1 a2 a3 a4).bind fun o => match o with
  | .ret v55 v56 v57 v58 => some (v55, v56, v57, v58)
theorem f44r2_ok (a1 : JournalRecord) (a2 : Int) (a3 : Int) (a4 : List (Account_ × Int)) {r : Bool × Int × Int × (List (Account_ × Int))} (h : (f44r2 a1 a2 a3 a4) = some r) : CallS Try.prog true 44 [(.bp 0 0), (.pl (.agg (JournalRecord.cells a1)))] [some (.box [(.mp 1), (.pl (.int .i64 a2)), (.pl (.int .i64 a3))]), some (.map (a4.map (mkv (pAgg Account_.cells) (pInt .i64))))] (.pl (.bool r.1)) [some (.box [(.mp 1), (.pl (.int .i64 r.2.1)), (.pl (.int .i64 r.2.2.1))]), some (.map (r.2.2.2.map (mkv (pAgg Account_.cells) (pInt .i64))))] := by
  unfold f44r2 at h
  obtain ⟨o, ho, h⟩ := bind_cases h
  cases o with
  | ret v55 v56 v57 v58 =>
    obtain rfl := some_inj h
    exact CallS.shared cfg_ok (f := Try.f44) (c := c44) (by kernel_rfl) (by kernel_rfl) (by kernel_rfl) ((f44r2n0_ok a1 a2 a3 a4 ho).mono fun r e => by subst e; exact ⟨.inl rfl, by kernel_rfl, by kernel_rfl⟩)
/-! ### novation/journal.open -/
noncomputable def c47 : Code := Try.f47.body.getD .skip
inductive f47r1n2O where
  | exit0 (v48 : Int) (v49 : Int) (v50 : List (Account_ × Int))
  | ret (v51 : Int) (v52 : Int) (v53 : List (Account_ × Int))
def f47r1n2E (ba1 : Journal) : f47r1n2O → Ex × Tr × Hp
  | .exit0 v48 v49 v50 => ((.exit 0), mkS [(4, (.bp 0 0))], [some (.box [(.mp 1), (.pl (.int .i64 v48)), (.pl (.int .i64 v49))]), some (.map (v50.map (mkv (pAgg Account_.cells) (pInt .i64))))])
  | .ret v51 v52 v53 => (.ret, mkS [(2, (.bp 0 0)), (3, (.pl (.bool false)))], [some (.box [(.mp 1), (.pl (.int .i64 v51)), (.pl (.int .i64 v52))]), some (.map (v53.map (mkv (pAgg Account_.cells) (pInt .i64))))])
def f47r1n2S (ba1 : Journal) (v32 : Int) (v33 : Int) (v34 : Int) (v35 : List (Account_ × Int)) : Tr × Hp := (mkS [(4, (.bp 0 0)), (16, (.pl (.sl .any 3 (ba1.Records.map JournalRecord.cells)))), (17, (.pl (.int .i64 (ba1.Records.length : Int)))), (18, (.pl (.int .i64 v32)))], [some (.box [(.mp 1), (.pl (.int .i64 v33)), (.pl (.int .i64 v34))]), some (.map (v35.map (mkv (pAgg Account_.cells) (pInt .i64))))])
noncomputable def f47r1n2 : Nat → Journal → Int → Int → Int → List (Account_ × Int) → Option f47r1n2O
  | 0, _, _, _, _, _ => none
  | f + 1, ba1, v32, v33, v34, v35 =>
    bif (decide (v32 < (ba1.Records.length : Int))) then
      (at? ba1.Records v32).bind fun x43 =>
      (f44r2 x43 v33 v34 v35).bind fun x45 =>
      bif x45.1 then
        (f47r1n2 f ba1 (wr64 (v32 + 1)) x45.2.1 x45.2.2.1 x45.2.2.2)
      else
        some (.ret x45.2.1 x45.2.2.1 x45.2.2.2)
    else
      some (.exit0 v33 v34 v35)
theorem f47r1n2_ok : ∀ (f : Nat) (ba1 : Journal) (v32 : Int) (v33 : Int) (v34 : Int) (v35 : List (Account_ × Int)) {o : f47r1n2O}, (f47r1n2 f ba1 v32 v33 v34 v35) = some o → TL Try.prog Try.f47.ntmps 0 f (cL (cL (dropC 1 (cL (dropC 3 c47))))) (f47r1n2S ba1 v32 v33 v34 v35) (fun r => r = f47r1n2E ba1 o)
  | 0, _, _, _, _, _, o, h => by rw [f47r1n2] at h; cases h
  | f + 1, ba1, v32, v33, v34, v35, o, h => by
    rw [f47r1n2] at h
    refine TL.body (K := fun s => ∃ v32 : Int, ∃ v33 : Int, ∃ v34 : Int, ∃ v35 : List (Account_ × Int), s = (f47r1n2S ba1 v32 v33 v34 v35) ∧ (f47r1n2 f ba1 v32 v33 v34 v35) = some o) ?_ (by rintro _ ⟨v32, v33, v34, v35, rfl, hk⟩; exact f47r1n2_ok f _ _ _ _ _ hk)
    rcases cond_cases h with ⟨h37, h⟩ | ⟨h37, h⟩
    · obtain ⟨x43, h44, h⟩ := bind_cases h
      obtain ⟨x45, h46, h⟩ := bind_cases h
      rcases cond_cases h with ⟨h47, h⟩ | ⟨h47, h⟩
      · exact run_end cfg_ok (rs := [([], [], []), ([], [(0, .idx (Int.toNat v32) (JournalRecord.cells x43))], []), ([], [(2, .call (.pl (.bool x45.1)) [some (.box [(.mp 1), (.pl (.int .i64 x45.2.1)), (.pl (.int .i64 x45.2.2.1))]), some (.map (x45.2.2.2.map (mkv (pAgg Account_.cells) (pInt .i64)))), none])], []), ([], [], [])]) (ps := [some true, some false]) (tds := []) (m := [0, 1]) (keep := [4, 16, 17, 18]) (r := (.norm, (f47r1n2S ba1 (wr64 (v32 + 1)) x45.2.1 x45.2.2.1 x45.2.2.2))) (by kernel_rfl) (ap h37 (ap (at_some h44).1 (ap (at_map JournalRecord.cells (at_some h44).2) (ap (CallS.ren (args' := [(.bp 0 0), (.pl (.agg (JournalRecord.cells x43)))]) (v' := (.pl (.bool x45.1))) (B := [some (.box [(.mp 1), (.pl (.int .i64 v33)), (.pl (.int .i64 v34))]), some (.map (v35.map (mkv (pAgg Account_.cells) (pInt .i64)))), none]) (B' := [some (.box [(.mp 1), (.pl (.int .i64 x45.2.1)), (.pl (.int .i64 x45.2.2.1))]), some (.map (x45.2.2.2.map (mkv (pAgg Account_.cells) (pInt .i64)))), none]) 3 [0, 1] (f44r2_ok x43 v33 v34 v35 h46) (by kernel_rfl) (by kernel_rfl) (by kernel_rfl) (by kernel_rfl) (by kernel_rfl) (by kernel_rfl)) (ap (not_t h47) an))))) (LoopQ.norm ⟨(wr64 (v32 + 1)), x45.2.1, x45.2.2.1, x45.2.2.2, rfl, h⟩)
      · obtain rfl := some_inj h
        exact runK_end cfg_ok (k := 3) (rs := [([], [], []), ([], [(0, .idx (Int.toNat v32) (JournalRecord.cells x43))], []), ([], [(2, .call (.pl (.bool x45.1)) [some (.box [(.mp 1), (.pl (.int .i64 x45.2.1)), (.pl (.int .i64 x45.2.2.1))]), some (.map (x45.2.2.2.map (mkv (pAgg Account_.cells) (pInt .i64)))), none])], []), ([], [], [])]) (ps := [some true, some true]) (tds := []) (m := [0, 1]) (keep := [2, 3]) (ex := .ret) (st' := (f47r1n2E ba1 (.ret x45.2.1 x45.2.2.1 x45.2.2.2)).2) (by kernel_rfl) (ap h37 (ap (at_some h44).1 (ap (at_map JournalRecord.cells (at_some h44).2) (ap (CallS.ren (args' := [(.bp 0 0), (.pl (.agg (JournalRecord.cells x43)))]) (v' := (.pl (.bool x45.1))) (B := [some (.box [(.mp 1), (.pl (.int .i64 v33)), (.pl (.int .i64 v34))]), some (.map (v35.map (mkv (pAgg Account_.cells) (pInt .i64)))), none]) (B' := [some (.box [(.mp 1), (.pl (.int .i64 x45.2.1)), (.pl (.int .i64 x45.2.2.1))]), some (.map (x45.2.2.2.map (mkv (pAgg Account_.cells) (pInt .i64)))), none]) 3 [0, 1] (f44r2_ok x43 v33 v34 v35 h46) (by kernel_rfl) (by kernel_rfl) (by kernel_rfl) (by kernel_rfl) (by kernel_rfl) (by kernel_rfl)) (ap (not_f h47) an))))) (fun h => nomatch h) (LoopQ.out rfl rfl)
    · obtain rfl := some_inj h
      exact runK_end cfg_ok (k := 2) (rs := [([], [], [])]) (ps := [some false]) (tds := []) (m := [0, 1]) (keep := [4]) (ex := (.exit 0)) (st' := (f47r1n2E ba1 (.exit0 v33 v34 v35)).2) (by kernel_rfl) (ap h37 an) (fun h => nomatch h) (LoopQ.out rfl rfl)
noncomputable def f47r1n2L (ba1 : Journal) : List JournalRecord → Int → Int → Int → (List (Account_ × Int)) → Option f47r1n2O
  | [], v32, v33, v34, v35 =>
    some (.exit0 v33 v34 v35)
  | x0 :: rest, v32, v33, v34, v35 =>
    (f44r2 x0 v33 v34 v35).bind fun x45 =>
    bif x45.1 then
      (f47r1n2L ba1 rest (v32 + 1) x45.2.1 x45.2.2.1 x45.2.2.2)
    else
      some (.ret x45.2.1 x45.2.2.1 x45.2.2.2)
theorem f47r1n2L_eq (ba1 : Journal) : ∀ (rest : List JournalRecord) (f k : Nat) (v33 : Int) (v34 : Int) (v35 : List (Account_ × Int)), ba1.Records.drop k = rest → ba1.Records.length ≤ maxLen → rest.length < f → f47r1n2 f ba1 (k : Int) v33 v34 v35 = f47r1n2L ba1 rest (k : Int) v33 v34 v35
  | _, 0, _, _, _, _, _, _, hf => absurd hf (Nat.not_lt_zero _)
  | [], f + 1, k, v33, v34, v35, hd, hm, hf => by
    have hk : ¬ ((k : Int) < (ba1.Records.length : Int)) := by have := drop_nil hd; omega
    rw [f47r1n2, f47r1n2L]
    simp only [decide_eq_false hk, cond_false]
  | x0 :: rest, f + 1, k, v33, v34, v35, hd, hm, hf => by
    obtain ⟨hx, hlt, hd'⟩ := drop_cons hd
    have hk : (k : Int) < (ba1.Records.length : Int) := by omega
    have hw : wr64 ((k : Int) + 1) = (k : Int) + 1 := wr64_of (by omega) (by unfold maxLen at hm; omega)
    have ih : ∀ (v33 : Int) (v34 : Int) (v35 : List (Account_ × Int)), f47r1n2 f ba1 ((k : Int) + 1) v33 v34 v35 = f47r1n2L ba1 rest ((k : Int) + 1) v33 v34 v35 := fun v33 v34 v35 => f47r1n2L_eq ba1 rest f (k + 1) v33 v34 v35 hd' hm (by simpa using hf)
    rw [f47r1n2, f47r1n2L]
    simp only [decide_eq_true hk, cond_true, at_nat, hx, Option.bind_some, hw, ih]
theorem f47r1n2_run (ba1 : Journal) (v33 : Int) (v34 : Int) (v35 : List (Account_ × Int)) (hm : ba1.Records.length ≤ maxLen) : f47r1n2 FUEL ba1 0 v33 v34 v35 = f47r1n2L ba1 ba1.Records 0 v33 v34 v35 := f47r1n2L_eq ba1 ba1.Records FUEL 0 v33 v34 v35 List.drop_zero hm (lt_FUEL hm)
inductive f47r1n1O where
  | norm (v62 : Int) (v63 : Int) (v64 : List (Account_ × Int))
  | ret (v65 : Int) (v66 : Int) (v67 : List (Account_ × Int))
def f47r1n1E (ba1 : Journal) : f47r1n1O → Ex × Tr × Hp
  | .norm v62 v63 v64 => (.norm, mkS [(4, (.bp 0 0))], [some (.box [(.mp 1), (.pl (.int .i64 v62)), (.pl (.int .i64 v63))]), some (.map (v64.map (mkv (pAgg Account_.cells) (pInt .i64))))])
  | .ret v65 v66 v67 => (.ret, mkS [(2, (.bp 0 0)), (3, (.pl (.bool false)))], [some (.box [(.mp 1), (.pl (.int .i64 v65)), (.pl (.int .i64 v66))]), some (.map (v67.map (mkv (pAgg Account_.cells) (pInt .i64))))])
def f47r1n1S (ba1 : Journal) : Tr × Hp := (mkS [(1, (.bp 0 0)), (4, (.bp 1 0))], [some (.box ((Journal.cells ba1).map .pl)), some (.box [(.mp 2), (.pl (.int .i64 0)), (.pl (.int .i64 0))]), some (.map ([].map (mkv (pAgg Account_.cells) (pInt .i64))))])
noncomputable def f47r1n1 (ba1 : Journal) : Option f47r1n1O :=
  (f47r1n2 FUEL ba1 0 0 0 []).bind fun o54 => match o54 with
  | .exit0 v56 v57 v58 => some (.norm v56 v57 v58)
  | .ret v59 v60 v61 => some (.ret v59 v60 v61)
theorem f47r1n1_ok (ba1 : Journal) {o : f47r1n1O} (h : (f47r1n1 ba1) = some o) : T Try.prog Try.f47.ntmps 0 (cL (dropC 3 c47)) (f47r1n1S ba1) (fun r => r = f47r1n1E ba1 o) := by
  unfold f47r1n1 at h
  refine runK_norm cfg_ok (k := 1) (rs := [([], [], [(2, .val (.pl (.int .i64 (ba1.Records.length : Int))))])]) (ps := []) (tds := []) (m := [1, 2]) (keep := [4, 16, 17, 18]) (st' := (f47r1n2S ba1 0 0 0 [])) (by kernel_rfl) (ap (len_cv (xs := ba1.Records) (c := JournalRecord.cells)) an) ?_
  obtain ⟨o54, h55, h⟩ := bind_cases h
  cases o54 with
  | exit0 v56 v57 v58 =>
    obtain rfl := some_inj h
    exact T.last' (T.bl (i := 0) (by kernel_rfl) (by kernel_rfl) (f47r1n2_ok FUEL ba1 0 0 0 [] h55)) (tds := []) (m := [0, 1]) (keep := [4]) (st2 := (f47r1n1E ba1 (.norm v56 v57 v58)).2) (by kernel_rfl) an rfl
  | ret v59 v60 v61 =>
    obtain rfl := some_inj h
    exact T.last' (T.bl (i := 0) (by kernel_rfl) (by kernel_rfl) (f47r1n2_ok FUEL ba1 0 0 0 [] h55)) (tds := []) (m := [0, 1]) (keep := [2, 3]) (st2 := (f47r1n1E ba1 (.ret v59 v60 v61)).2) (by kernel_rfl) an rfl
inductive f47r1n0O where
  | ret (v76 : Bool) (v77 : Int) (v78 : Int) (v79 : List (Account_ × Int))
def f47r1n0E (a1 : Journal) : f47r1n0O → Ex × Tr × Hp
  | .ret v76 v77 v78 v79 => (.ret, mkS [(2, (.bp 0 0)), (3, (.pl (.bool v76)))], [some (.box [(.mp 1), (.pl (.int .i64 v77)), (.pl (.int .i64 v78))]), some (.map (v79.map (mkv (pAgg Account_.cells) (pInt .i64))))])
def f47r1n0S (a1 : Journal) : Tr × Hp := (initS [(.pl (.agg (Journal.cells a1)))] 0 .leaf, [])
noncomputable def f47r1n0 (a1 : Journal) : Option f47r1n0O :=
  bif (decide (200 < (a1.Records.length : Int))) then
    some (.ret false 0 0 [])
  else
    (f47r1n1 a1).bind fun o68 => match o68 with
    | .norm v70 v71 v72 => some (.ret true v70 v71 v72)
    | .ret v73 v74 v75 => some (.ret false v73 v74 v75)
theorem f47r1n0_ok (a1 : Journal) {o : f47r1n0O} (h : (f47r1n0 a1) = some o) : T Try.prog Try.f47.ntmps 0 c47 (f47r1n0S a1) (fun r => r = f47r1n0E a1 o) := by
  unfold f47r1n0 at h
  rcases cond_cases h with ⟨h3, h⟩ | ⟨h3, h⟩
  · obtain rfl := some_inj h
    exact runK_end cfg_ok (k := 3) (rs := [([], [], []), ([], [], []), ([], [], [(2, .val (.pl (.int .i64 (a1.Records.length : Int))))]), ([], [], [])]) (ps := [some true]) (tds := []) (m := [2, 1]) (keep := [2, 3]) (ex := .ret) (st' := (f47r1n0E a1 (.ret false 0 0 [])).2) (by kernel_rfl) (ap (len_cv (xs := a1.Records) (c := JournalRecord.cells)) (ap h3 an)) (fun h => nomatch h) rfl
  · refine runK_norm cfg_ok (k := 3) (rs := [([], [], []), ([], [], []), ([], [], [(2, .val (.pl (.int .i64 (a1.Records.length : Int))))])]) (ps := [some false]) (tds := []) (m := [0, 2, 1]) (keep := [1, 4]) (st' := (f47r1n1S a1)) (by kernel_rfl) (ap (len_cv (xs := a1.Records) (c := JournalRecord.cells)) (ap h3 an)) ?_
    obtain ⟨o68, h69, h⟩ := bind_cases h
    cases o68 with
    | norm v70 v71 v72 =>
      refine T.oneN (by kernel_rfl) (f47r1n1_ok a1 h69) (st2 := (f47r1n1E a1 (.norm v70 v71 v72)).2) rfl ?_
      obtain rfl := some_inj h
      exact run_end cfg_ok (rs := [([], [], [])]) (ps := []) (tds := []) (m := [0, 1]) (keep := [2, 3]) (r := (.ret, (f47r1n0E a1 (.ret true v70 v71 v72)).2)) (by kernel_rfl) an rfl
    | ret v73 v74 v75 =>
      obtain rfl := some_inj h
      exact T.oneX' (by kernel_rfl) (f47r1n1_ok a1 h69) (tds := []) (m := [0, 1]) (keep := [2, 3]) (st2 := (f47r1n0E a1 (.ret false v73 v74 v75)).2) (by kernel_rfl) an rfl rfl
noncomputable def f47r1 (a1 : Journal) : Option (Bool × Int × Int × (List (Account_ × Int))) := (f47r1n0 a1).bind fun o => match o with
  | .ret v76 v77 v78 v79 => some (v76, v77, v78, v79)
theorem f47r1_ok (a1 : Journal) {r : Bool × Int × Int × (List (Account_ × Int))} (h : (f47r1 a1) = some r) : CallS Try.prog true 47 [(.pl (.agg (Journal.cells a1)))] [] (.tup [(.bp 0 0), (.pl (.bool r.1))]) [some (.box [(.mp 1), (.pl (.int .i64 r.2.1)), (.pl (.int .i64 r.2.2.1))]), some (.map (r.2.2.2.map (mkv (pAgg Account_.cells) (pInt .i64))))] := by
  unfold f47r1 at h
  obtain ⟨o, ho, h⟩ := bind_cases h
  cases o with
  | ret v76 v77 v78 v79 =>
    obtain rfl := some_inj h
    exact CallS.shared cfg_ok (f := Try.f47) (c := c47) (by kernel_rfl) (by kernel_rfl) (by kernel_rfl) ((f47r1n0_ok a1 ho).mono fun r e => by subst e; exact ⟨.inl rfl, by kernel_rfl, by kernel_rfl⟩)
end Go.Proofs.Ytbgjlpdeoljmiaa
