/- Functions of the program, plainly, and that the machine computes them. No condition. -/
import Derived.Test.YtbgjlpdeoljmiaaX2
namespace Go.Proofs.Ytbgjlpdeoljmiaa
set_option linter.unusedVariables false
set_option linter.unusedSimpArgs false
set_option maxRecDepth 100000
open Go.RowKit
/-! ### slices.IndexFunc[[]novation/api.JournalLine,novation/api.JournalLine] -/
inductive f71r2n2O where
  | exit0
  | ret (v43 : Int)
def f71r2n2E (bc1 : List JournalLine) (bf2 : Int) (bf3 : Int) (bg4 : List (Account_ × Int)) : f71r2n2O → Ex × Tr × Hp
  | .exit0 => ((.exit 0), mkS [], [some (.row true 3 (bc1.map JournalLine.cells)), some (.box [(.bp 2 0)]), some (.box [(.mp 3), (.pl (.int .i64 bf2)), (.pl (.int .i64 bf3))]), some (.map (bg4.map (mkv (pAgg Account_.cells) (pInt .i64))))])
  | .ret v43 => (.ret, mkS [(4, (.pl (.int .i64 v43)))], [some (.row true 3 (bc1.map JournalLine.cells)), some (.box [(.bp 2 0)]), some (.box [(.mp 3), (.pl (.int .i64 bf2)), (.pl (.int .i64 bf3))]), some (.map (bg4.map (mkv (pAgg Account_.cells) (pInt .i64))))])
def f71r2n2S (bc1 : List JournalLine) (bf2 : Int) (bf3 : Int) (bg4 : List (Account_ × Int)) (v30 : Int) : Tr × Hp := (mkS [(0, (.own 0)), (1, (.clo 69 [(.bp 1 0)])), (7, (.pl (.int .i64 (bc1.length : Int)))), (8, (.pl (.int .i64 v30)))], [some (.row true 3 (bc1.map JournalLine.cells)), some (.box [(.bp 2 0)]), some (.box [(.mp 3), (.pl (.int .i64 bf2)), (.pl (.int .i64 bf3))]), some (.map (bg4.map (mkv (pAgg Account_.cells) (pInt .i64))))])
noncomputable def f71r2n2 : Nat → List JournalLine → Int → Int → List (Account_ × Int) → Int → Option f71r2n2O
  | 0, _, _, _, _, _ => none
  | f + 1, bc1, bf2, bf3, bg4, v30 =>
    bif (decide (v30 < (bc1.length : Int))) then
      (at? bc1 v30).bind fun x38 =>
      (f69r1 x38 bf2 bf3 bg4).bind fun x40 =>
      bif x40 then
        some (.ret v30)
      else
        (f71r2n2 f bc1 bf2 bf3 bg4 (wr64 (v30 + 1)))
    else
      some .exit0
theorem f71r2n2_ok : ∀ (f : Nat) (bc1 : List JournalLine) (bf2 : Int) (bf3 : Int) (bg4 : List (Account_ × Int)) (v30 : Int) {o : f71r2n2O}, (f71r2n2 f bc1 bf2 bf3 bg4 v30) = some o → TL Try.prog Try.f71.ntmps 4 f (cL (cL (dropC 1 (cL (dropC 1 c71))))) (f71r2n2S bc1 bf2 bf3 bg4 v30) (fun r => r = f71r2n2E bc1 bf2 bf3 bg4 o)
  | 0, _, _, _, _, _, o, h => by rw [f71r2n2] at h; cases h
  | f + 1, bc1, bf2, bf3, bg4, v30, o, h => by
    rw [f71r2n2] at h
    refine TL.body (K := fun s => ∃ v30 : Int, s = (f71r2n2S bc1 bf2 bf3 bg4 v30) ∧ (f71r2n2 f bc1 bf2 bf3 bg4 v30) = some o) ?_ (by rintro _ ⟨v30, rfl, hk⟩; exact f71r2n2_ok f _ _ _ _ _ hk)
    rcases cond_cases h with ⟨h32, h⟩ | ⟨h32, h⟩
    · obtain ⟨x38, h39, h⟩ := bind_cases h
      obtain ⟨x40, h41, h⟩ := bind_cases h
      rcases cond_cases h with ⟨h42, h⟩ | ⟨h42, h⟩
      · obtain rfl := some_inj h
        exact runK_end cfg_ok (k := 3) (rs := [([], [], []), ([], [], []), ([], [(3, .at_ (Int.toNat v30)), (4, .idx 0 (JournalLine.cells x38)), (5, .call (.pl (.bool x40)) [none, some (.box [(.bp 2 0)]), some (.box [(.mp 3), (.pl (.int .i64 bf2)), (.pl (.int .i64 bf3))]), some (.map (bg4.map (mkv (pAgg Account_.cells) (pInt .i64))))])], []), ([], [], [])]) (ps := [some true, some true]) (tds := []) (m := []) (keep := [4]) (ex := .ret) (st' := (f71r2n2E bc1 bf2 bf3 bg4 (.ret v30)).2) (by kernel_rfl) (ap h32 (ap (at_some h39).1 (ap (lt_map JournalLine.cells (at_some h39).2) (ap (at_map JournalLine.cells (at_some h39).2) (ap (CallS.ren (args' := [(.pl (.agg (JournalLine.cells x38))), (.bp 1 0)]) (v' := (.pl (.bool x40))) (B := [none, some (.box [(.bp 2 0)]), some (.box [(.mp 3), (.pl (.int .i64 bf2)), (.pl (.int .i64 bf3))]), some (.map (bg4.map (mkv (pAgg Account_.cells) (pInt .i64))))]) (B' := [none, some (.box [(.bp 2 0)]), some (.box [(.mp 3), (.pl (.int .i64 bf2)), (.pl (.int .i64 bf3))]), some (.map (bg4.map (mkv (pAgg Account_.cells) (pInt .i64))))]) 4 [1, 2, 3] (f69r1_ok x38 bf2 bf3 bg4 h41) (by kernel_rfl) (by kernel_rfl) (by kernel_rfl) (by kernel_rfl) (by kernel_rfl) (by kernel_rfl)) (ap h42 an)))))) (fun h => nomatch h) (LoopQ.out rfl rfl)
      · exact run_end cfg_ok (rs := [([], [], []), ([], [], []), ([], [(3, .at_ (Int.toNat v30)), (4, .idx 0 (JournalLine.cells x38)), (5, .call (.pl (.bool x40)) [none, some (.box [(.bp 2 0)]), some (.box [(.mp 3), (.pl (.int .i64 bf2)), (.pl (.int .i64 bf3))]), some (.map (bg4.map (mkv (pAgg Account_.cells) (pInt .i64))))])], []), ([], [], [])]) (ps := [some true, some false]) (tds := []) (m := []) (keep := [0, 1, 7, 8]) (r := (.norm, (f71r2n2S bc1 bf2 bf3 bg4 (wr64 (v30 + 1))))) (by kernel_rfl) (ap h32 (ap (at_some h39).1 (ap (lt_map JournalLine.cells (at_some h39).2) (ap (at_map JournalLine.cells (at_some h39).2) (ap (CallS.ren (args' := [(.pl (.agg (JournalLine.cells x38))), (.bp 1 0)]) (v' := (.pl (.bool x40))) (B := [none, some (.box [(.bp 2 0)]), some (.box [(.mp 3), (.pl (.int .i64 bf2)), (.pl (.int .i64 bf3))]), some (.map (bg4.map (mkv (pAgg Account_.cells) (pInt .i64))))]) (B' := [none, some (.box [(.bp 2 0)]), some (.box [(.mp 3), (.pl (.int .i64 bf2)), (.pl (.int .i64 bf3))]), some (.map (bg4.map (mkv (pAgg Account_.cells) (pInt .i64))))]) 4 [1, 2, 3] (f69r1_ok x38 bf2 bf3 bg4 h41) (by kernel_rfl) (by kernel_rfl) (by kernel_rfl) (by kernel_rfl) (by kernel_rfl) (by kernel_rfl)) (ap h42 an)))))) (LoopQ.norm ⟨(wr64 (v30 + 1)), rfl, h⟩)
    · obtain rfl := some_inj h
      exact runK_end cfg_ok (k := 2) (rs := [([], [], [])]) (ps := [some false]) (tds := []) (m := []) (keep := []) (ex := (.exit 0)) (st' := (f71r2n2E bc1 bf2 bf3 bg4 .exit0).2) (by kernel_rfl) (ap h32 an) (fun h => nomatch h) (LoopQ.out rfl rfl)
noncomputable def f71r2n2L (bc1 : List JournalLine) (bf2 : Int) (bf3 : Int) (bg4 : List (Account_ × Int)) : List JournalLine → Int → Option f71r2n2O
  | [], v30 =>
    some .exit0
  | x0 :: rest, v30 =>
    (f69r1 x0 bf2 bf3 bg4).bind fun x40 =>
    bif x40 then
      some (.ret v30)
    else
      (f71r2n2L bc1 bf2 bf3 bg4 rest (v30 + 1))
theorem f71r2n2L_eq (bc1 : List JournalLine) (bf2 : Int) (bf3 : Int) (bg4 : List (Account_ × Int)) : ∀ (rest : List JournalLine) (f k : Nat), bc1.drop k = rest → bc1.length ≤ maxLen → rest.length < f → f71r2n2 f bc1 bf2 bf3 bg4 (k : Int) = f71r2n2L bc1 bf2 bf3 bg4 rest (k : Int)
  | _, 0, _, _, _, hf => absurd hf (Nat.not_lt_zero _)
  | [], f + 1, k, hd, hm, hf => by
    have hk : ¬ ((k : Int) < (bc1.length : Int)) := by have := drop_nil hd; omega
    rw [f71r2n2, f71r2n2L]
    simp only [decide_eq_false hk, cond_false]
  | x0 :: rest, f + 1, k, hd, hm, hf => by
    obtain ⟨hx, hlt, hd'⟩ := drop_cons hd
    have hk : (k : Int) < (bc1.length : Int) := by omega
    have hw : wr64 ((k : Int) + 1) = (k : Int) + 1 := wr64_of (by omega) (by unfold maxLen at hm; omega)
    have ih : f71r2n2 f bc1 bf2 bf3 bg4 ((k : Int) + 1) = f71r2n2L bc1 bf2 bf3 bg4 rest ((k : Int) + 1) := f71r2n2L_eq bc1 bf2 bf3 bg4 rest f (k + 1) hd' hm (by simpa using hf)
    rw [f71r2n2, f71r2n2L]
    simp only [decide_eq_true hk, cond_true, at_nat, hx, Option.bind_some, hw, ih]
theorem f71r2n2_run (bc1 : List JournalLine) (bf2 : Int) (bf3 : Int) (bg4 : List (Account_ × Int)) (hm : bc1.length ≤ maxLen) : f71r2n2 FUEL bc1 bf2 bf3 bg4 0 = f71r2n2L bc1 bf2 bf3 bg4 bc1 0 := f71r2n2L_eq bc1 bf2 bf3 bg4 bc1 FUEL 0 List.drop_zero hm (lt_FUEL hm)
inductive f71r2n1O where
  | norm
  | ret (v47 : Int)
def f71r2n1E (bc1 : List JournalLine) (bf2 : Int) (bf3 : Int) (bg4 : List (Account_ × Int)) : f71r2n1O → Ex × Tr × Hp
  | .norm => (.norm, mkS [], [some (.row true 3 (bc1.map JournalLine.cells)), some (.box [(.bp 2 0)]), some (.box [(.mp 3), (.pl (.int .i64 bf2)), (.pl (.int .i64 bf3))]), some (.map (bg4.map (mkv (pAgg Account_.cells) (pInt .i64))))])
  | .ret v47 => (.ret, mkS [(4, (.pl (.int .i64 v47)))], [some (.row true 3 (bc1.map JournalLine.cells)), some (.box [(.bp 2 0)]), some (.box [(.mp 3), (.pl (.int .i64 bf2)), (.pl (.int .i64 bf3))]), some (.map (bg4.map (mkv (pAgg Account_.cells) (pInt .i64))))])
def f71r2n1S (bc1 : List JournalLine) (bf2 : Int) (bf3 : Int) (bg4 : List (Account_ × Int)) : Tr × Hp := (mkS [(0, (.own 0)), (1, (.clo 69 [(.bp 1 0)]))], [some (.row true 3 (bc1.map JournalLine.cells)), some (.box [(.bp 2 0)]), some (.box [(.mp 3), (.pl (.int .i64 bf2)), (.pl (.int .i64 bf3))]), some (.map (bg4.map (mkv (pAgg Account_.cells) (pInt .i64))))])
noncomputable def f71r2n1 (bc1 : List JournalLine) (bf2 : Int) (bf3 : Int) (bg4 : List (Account_ × Int)) : Option f71r2n1O :=
  (f71r2n2 FUEL bc1 bf2 bf3 bg4 0).bind fun o44 => match o44 with
  | .exit0 => some .norm
  | .ret v46 => some (.ret v46)
theorem f71r2n1_ok (bc1 : List JournalLine) (bf2 : Int) (bf3 : Int) (bg4 : List (Account_ × Int)) {o : f71r2n1O} (h : (f71r2n1 bc1 bf2 bf3 bg4) = some o) : T Try.prog Try.f71.ntmps 4 (cL (dropC 1 c71)) (f71r2n1S bc1 bf2 bf3 bg4) (fun r => r = f71r2n1E bc1 bf2 bf3 bg4 o) := by
  unfold f71r2n1 at h
  refine runK_norm cfg_ok (k := 1) (rs := [([], [], [(1, .val (.pl (.int .i64 (bc1.length : Int))))])]) (ps := []) (tds := []) (m := []) (keep := [0, 1, 7, 8]) (st' := (f71r2n2S bc1 bf2 bf3 bg4 0)) (by kernel_rfl) (ap (len_cv (xs := bc1) (c := JournalLine.cells)) an) ?_
  obtain ⟨o44, h45, h⟩ := bind_cases h
  cases o44 with
  | exit0 =>
    obtain rfl := some_inj h
    exact T.last' (T.bl (i := 0) (by kernel_rfl) (by kernel_rfl) (f71r2n2_ok FUEL bc1 bf2 bf3 bg4 0 h45)) (tds := []) (m := []) (keep := []) (st2 := (f71r2n1E bc1 bf2 bf3 bg4 .norm).2) (by kernel_rfl) an rfl
  | ret v46 =>
    obtain rfl := some_inj h
    exact T.last' (T.bl (i := 0) (by kernel_rfl) (by kernel_rfl) (f71r2n2_ok FUEL bc1 bf2 bf3 bg4 0 h45)) (tds := []) (m := []) (keep := [4]) (st2 := (f71r2n1E bc1 bf2 bf3 bg4 (.ret v46)).2) (by kernel_rfl) an rfl
inductive f71r2n0O where
  | ret (v51 : Int)
def f71r2n0E (a1 : List JournalLine) (a2 : Int) (a3 : Int) (a4 : List (Account_ × Int)) : f71r2n0O → Ex × Tr × Hp
  | .ret v51 => (.ret, mkS [(4, (.pl (.int .i64 v51)))], [some (.row true 3 (a1.map JournalLine.cells)), some (.box [(.bp 2 0)]), some (.box [(.mp 3), (.pl (.int .i64 a2)), (.pl (.int .i64 a3))]), some (.map (a4.map (mkv (pAgg Account_.cells) (pInt .i64))))])
def f71r2n0S (a1 : List JournalLine) (a2 : Int) (a3 : Int) (a4 : List (Account_ × Int)) : Tr × Hp := (initS [(.own 0), (.clo 69 [(.bp 1 0)])] 0 .leaf, [some (.row true 3 (a1.map JournalLine.cells)), some (.box [(.bp 2 0)]), some (.box [(.mp 3), (.pl (.int .i64 a2)), (.pl (.int .i64 a3))]), some (.map (a4.map (mkv (pAgg Account_.cells) (pInt .i64))))])
noncomputable def f71r2n0 (a1 : List JournalLine) (a2 : Int) (a3 : Int) (a4 : List (Account_ × Int)) : Option f71r2n0O :=
  (f71r2n1 a1 a2 a3 a4).bind fun o48 => match o48 with
  | .norm => some (.ret (-1))
  | .ret v50 => some (.ret v50)
theorem f71r2n0_ok (a1 : List JournalLine) (a2 : Int) (a3 : Int) (a4 : List (Account_ × Int)) {o : f71r2n0O} (h : (f71r2n0 a1 a2 a3 a4) = some o) : T Try.prog Try.f71.ntmps 4 c71 (f71r2n0S a1 a2 a3 a4) (fun r => r = f71r2n0E a1 a2 a3 a4 o) := by
  unfold f71r2n0 at h
  refine runK_norm cfg_ok (k := 1) (rs := [([], [], [])]) (ps := []) (tds := []) (m := []) (keep := [0, 1]) (st' := (f71r2n1S a1 a2 a3 a4)) (by kernel_rfl) an ?_
  obtain ⟨o48, h49, h⟩ := bind_cases h
  cases o48 with
  | norm =>
    refine T.oneN (by kernel_rfl) (f71r2n1_ok a1 a2 a3 a4 h49) (st2 := (f71r2n1E a1 a2 a3 a4 .norm).2) rfl ?_
    obtain rfl := some_inj h
    exact run_end cfg_ok (rs := [([], [], [])]) (ps := []) (tds := []) (m := []) (keep := [4]) (r := (.ret, (f71r2n0E a1 a2 a3 a4 (.ret (-1))).2)) (by kernel_rfl) an rfl
  | ret v50 =>
    obtain rfl := some_inj h
    exact T.oneX' (by kernel_rfl) (f71r2n1_ok a1 a2 a3 a4 h49) (tds := []) (m := []) (keep := [4]) (st2 := (f71r2n0E a1 a2 a3 a4 (.ret v50)).2) (by kernel_rfl) an rfl rfl
noncomputable def f71r2 (a1 : List JournalLine) (a2 : Int) (a3 : Int) (a4 : List (Account_ × Int)) : Option Int := (f71r2n0 a1 a2 a3 a4).bind fun o => match o with
  | .ret v51 => some v51
theorem f71r2_ok (a1 : List JournalLine) (a2 : Int) (a3 : Int) (a4 : List (Account_ × Int)) {r : Int} (h : (f71r2 a1 a2 a3 a4) = some r) : CallS Try.prog true 71 [(.own 0), (.clo 69 [(.bp 1 0)])] [some (.row true 3 (a1.map JournalLine.cells)), some (.box [(.bp 2 0)]), some (.box [(.mp 3), (.pl (.int .i64 a2)), (.pl (.int .i64 a3))]), some (.map (a4.map (mkv (pAgg Account_.cells) (pInt .i64))))] (.pl (.int .i64 r)) [some (.row true 3 (a1.map JournalLine.cells)), some (.box [(.bp 2 0)]), some (.box [(.mp 3), (.pl (.int .i64 a2)), (.pl (.int .i64 a3))]), some (.map (a4.map (mkv (pAgg Account_.cells) (pInt .i64))))] := by
  unfold f71r2 at h
  obtain ⟨o, ho, h⟩ := bind_cases h
  cases o with
  | ret v51 =>
    obtain rfl := some_inj h
    exact CallS.shared cfg_ok (f := Try.f71) (c := c71) (by kernel_rfl) (by kernel_rfl) (by kernel_rfl) ((f71r2n0_ok a1 a2 a3 a4 ho).mono fun r e => by subst e; exact ⟨.inl rfl, by kernel_rfl, by kernel_rfl⟩)
/-! ### slices.ContainsFunc[[]novation/api.JournalLine,novation/api.JournalLine] -/
inductive f66r2n0O where
  | ret (v9 : Bool)
def f66r2n0E (a1 : List JournalLine) (a2 : Int) (a3 : Int) (a4 : List (Account_ × Int)) : f66r2n0O → Ex × Tr × Hp
  | .ret v9 => (.ret, mkS [(4, (.pl (.bool v9)))], [some (.row true 3 (a1.map JournalLine.cells)), some (.box [(.bp 2 0)]), some (.box [(.mp 3), (.pl (.int .i64 a2)), (.pl (.int .i64 a3))]), some (.map (a4.map (mkv (pAgg Account_.cells) (pInt .i64))))])
def f66r2n0S (a1 : List JournalLine) (a2 : Int) (a3 : Int) (a4 : List (Account_ × Int)) : Tr × Hp := (initS [(.own 0), (.clo 69 [(.bp 1 0)])] 0 .leaf, [some (.row true 3 (a1.map JournalLine.cells)), some (.box [(.bp 2 0)]), some (.box [(.mp 3), (.pl (.int .i64 a2)), (.pl (.int .i64 a3))]), some (.map (a4.map (mkv (pAgg Account_.cells) (pInt .i64))))])
noncomputable def f66r2n0 (a1 : List JournalLine) (a2 : Int) (a3 : Int) (a4 : List (Account_ × Int)) : Option f66r2n0O :=
  (f71r2 a1 a2 a3 a4).bind fun x7 =>
  some (.ret (decide (0 ≤ x7)))
theorem f66r2n0_ok (a1 : List JournalLine) (a2 : Int) (a3 : Int) (a4 : List (Account_ × Int)) {o : f66r2n0O} (h : (f66r2n0 a1 a2 a3 a4) = some o) : T Try.prog Try.f66.ntmps 4 c66 (f66r2n0S a1 a2 a3 a4) (fun r => r = f66r2n0E a1 a2 a3 a4 o) := by
  unfold f66r2n0 at h
  obtain ⟨x7, h8, h⟩ := bind_cases h
  obtain rfl := some_inj h
  exact run_end cfg_ok (rs := [([], [], []), ([], [(2, .call (.pl (.int .i64 x7)) [some (.row true 3 (a1.map JournalLine.cells)), some (.box [(.bp 2 0)]), some (.box [(.mp 3), (.pl (.int .i64 a2)), (.pl (.int .i64 a3))]), some (.map (a4.map (mkv (pAgg Account_.cells) (pInt .i64))))])], [])]) (ps := []) (tds := []) (m := []) (keep := [4]) (r := (.ret, (f66r2n0E a1 a2 a3 a4 (.ret (decide (0 ≤ x7)))).2)) (by kernel_rfl) (ap (f71r2_ok a1 a2 a3 a4 h8) an) rfl
noncomputable def f66r2 (a1 : List JournalLine) (a2 : Int) (a3 : Int) (a4 : List (Account_ × Int)) : Option Bool := (f66r2n0 a1 a2 a3 a4).bind fun o => match o with
  | .ret v9 => some v9
theorem f66r2_ok (a1 : List JournalLine) (a2 : Int) (a3 : Int) (a4 : List (Account_ × Int)) {r : Bool} (h : (f66r2 a1 a2 a3 a4) = some r) : CallS Try.prog true 66 [(.own 0), (.clo 69 [(.bp 1 0)])] [some (.row true 3 (a1.map JournalLine.cells)), some (.box [(.bp 2 0)]), some (.box [(.mp 3), (.pl (.int .i64 a2)), (.pl (.int .i64 a3))]), some (.map (a4.map (mkv (pAgg Account_.cells) (pInt .i64))))] (.pl (.bool r)) [some (.row true 3 (a1.map JournalLine.cells)), some (.box [(.bp 2 0)]), some (.box [(.mp 3), (.pl (.int .i64 a2)), (.pl (.int .i64 a3))]), some (.map (a4.map (mkv (pAgg Account_.cells) (pInt .i64))))] := by
  unfold f66r2 at h
  obtain ⟨o, ho, h⟩ := bind_cases h
  cases o with
  | ret v9 =>
    obtain rfl := some_inj h
    exact CallS.shared cfg_ok (f := Try.f66) (c := c66) (by kernel_rfl) (by kernel_rfl) (by kernel_rfl) ((f66r2n0_ok a1 a2 a3 a4 ho).mono fun r e => by subst e; exact ⟨.inl rfl, by kernel_rfl, by kernel_rfl⟩)
/-! ### (*novation/journal.book).fits -/
inductive f61r2n0O where
  | ret (v10 : Bool)
def f61r2n0E (a1 : Int) (a2 : ByteArray) (a3 : Int) (a4 : List JournalLine) (a5 : List (Account_ × Int)) : f61r2n0O → Ex × Tr × Hp
  | .ret v10 => (.ret, mkS [(4, (.pl (.bool v10)))], [some (.box [(.mp 2), (.pl (.int .i64 a1)), (.pl (.int .i64 a3))]), some (.row true 3 (a4.map JournalLine.cells)), some (.map (a5.map (mkv (pAgg Account_.cells) (pInt .i64))))])
def f61r2n0S (a1 : Int) (a2 : ByteArray) (a3 : Int) (a4 : List JournalLine) (a5 : List (Account_ × Int)) : Tr × Hp := (initS [(.bp 0 0), (.agg [(.pl (.int .i64 a1)), (.pl (.str a2)), (.own 1)])] 0 .leaf, [some (.box [(.mp 2), (.pl (.int .i64 a1)), (.pl (.int .i64 a3))]), some (.row true 3 (a4.map JournalLine.cells)), some (.map (a5.map (mkv (pAgg Account_.cells) (pInt .i64))))])
noncomputable def f61r2n0 (a1 : Int) (a2 : ByteArray) (a3 : Int) (a4 : List JournalLine) (a5 : List (Account_ × Int)) : Option f61r2n0O :=
  (f66r2 a4 a1 a3 a5).bind fun x8 =>
  some (.ret (!x8))
theorem f61r2n0_ok (a1 : Int) (a2 : ByteArray) (a3 : Int) (a4 : List JournalLine) (a5 : List (Account_ × Int)) {o : f61r2n0O} (h : (f61r2n0 a1 a2 a3 a4 a5) = some o) : T Try.prog Try.f61.ntmps 3 c61 (f61r2n0S a1 a2 a3 a4 a5) (fun r => r = f61r2n0E a1 a2 a3 a4 a5 o) := by
  unfold f61r2n0 at h
  obtain ⟨x8, h9, h⟩ := bind_cases h
  obtain rfl := some_inj h
  exact run_end cfg_ok (rs := [([], [], []), ([], [(3, .call (.pl (.bool x8)) [some (.box [(.mp 2), (.pl (.int .i64 a1)), (.pl (.int .i64 a3))]), some (.row true 3 (a4.map JournalLine.cells)), some (.map (a5.map (mkv (pAgg Account_.cells) (pInt .i64)))), some (.box [(.bp 0 0)]), none])], [])]) (ps := []) (tds := []) (m := []) (keep := [4]) (r := (.ret, (f61r2n0E a1 a2 a3 a4 a5 (.ret (!x8))).2)) (by kernel_rfl) (ap (CallS.ren (args' := [(.own 1), (.clo 69 [(.bp 3 0)])]) (v' := (.pl (.bool x8))) (B := [some (.box [(.mp 2), (.pl (.int .i64 a1)), (.pl (.int .i64 a3))]), some (.row true 3 (a4.map JournalLine.cells)), some (.map (a5.map (mkv (pAgg Account_.cells) (pInt .i64)))), some (.box [(.bp 0 0)]), none]) (B' := [some (.box [(.mp 2), (.pl (.int .i64 a1)), (.pl (.int .i64 a3))]), some (.row true 3 (a4.map JournalLine.cells)), some (.map (a5.map (mkv (pAgg Account_.cells) (pInt .i64)))), some (.box [(.bp 0 0)]), none]) 5 [1, 3, 0, 2] (f66r2_ok a4 a1 a3 a5 h9) (by kernel_rfl) (by kernel_rfl) (by kernel_rfl) (by kernel_rfl) (by kernel_rfl) (by kernel_rfl)) an) rfl
noncomputable def f61r2 (a1 : Int) (a2 : ByteArray) (a3 : Int) (a4 : List JournalLine) (a5 : List (Account_ × Int)) : Option Bool := (f61r2n0 a1 a2 a3 a4 a5).bind fun o => match o with
  | .ret v10 => some v10
theorem f61r2_ok (a1 : Int) (a2 : ByteArray) (a3 : Int) (a4 : List JournalLine) (a5 : List (Account_ × Int)) {r : Bool} (h : (f61r2 a1 a2 a3 a4 a5) = some r) : CallS Try.prog true 61 [(.bp 0 0), (.agg [(.pl (.int .i64 a1)), (.pl (.str a2)), (.own 1)])] [some (.box [(.mp 2), (.pl (.int .i64 a1)), (.pl (.int .i64 a3))]), some (.row true 3 (a4.map JournalLine.cells)), some (.map (a5.map (mkv (pAgg Account_.cells) (pInt .i64))))] (.pl (.bool r)) [some (.box [(.mp 2), (.pl (.int .i64 a1)), (.pl (.int .i64 a3))]), some (.row true 3 (a4.map JournalLine.cells)), some (.map (a5.map (mkv (pAgg Account_.cells) (pInt .i64))))] := by
  unfold f61r2 at h
  obtain ⟨o, ho, h⟩ := bind_cases h
  cases o with
  | ret v10 =>
    obtain rfl := some_inj h
    exact CallS.shared cfg_ok (f := Try.f61) (c := c61) (by kernel_rfl) (by kernel_rfl) (by kernel_rfl) ((f61r2n0_ok a1 a2 a3 a4 a5 ho).mono fun r e => by subst e; exact ⟨.inl rfl, by kernel_rfl, by kernel_rfl⟩)
/-! ### (*novation/journal.book).add -/
inductive f44r3n2O where
  | exit0 (v45 : List (Account_ × Int))
def f44r3n2E (bc3 : List JournalLine) (bf1 : Int) (bf2 : Int) (bf5 : Int) (bd6 : ByteArray) : f44r3n2O → Ex × Tr × Hp
  | .exit0 v45 => ((.exit 0), mkS [(0, (.bp 0 0)), (3, (.bp 3 0))], [some (.box [(.mp 2), (.pl (.int .i64 bf1)), (.pl (.int .i64 bf2))]), some (.row true 3 (bc3.map JournalLine.cells)), some (.map (v45.map (mkv (pAgg Account_.cells) (pInt .i64)))), some (.box [(.pl (.int .i64 bf5)), (.pl (.str bd6)), (.own 1)])])
def f44r3n2S (bc3 : List JournalLine) (bf1 : Int) (bf2 : Int) (bf5 : Int) (bd6 : ByteArray) (v37 : Int) (v38 : List (Account_ × Int)) : Tr × Hp := (mkS [(0, (.bp 0 0)), (3, (.bp 3 0)), (32, (.own 1)), (33, (.pl (.int .i64 (bc3.length : Int)))), (34, (.pl (.int .i64 v37)))], [some (.box [(.mp 2), (.pl (.int .i64 bf1)), (.pl (.int .i64 bf2))]), some (.row true 3 (bc3.map JournalLine.cells)), some (.map (v38.map (mkv (pAgg Account_.cells) (pInt .i64)))), some (.box [(.pl (.int .i64 bf5)), (.pl (.str bd6)), (.own 1)])])
noncomputable def f44r3n2 : Nat → List JournalLine → Int → Int → Int → ByteArray → Int → List (Account_ × Int) → Option f44r3n2O
  | 0, _, _, _, _, _, _, _ => none
  | f + 1, bc3, bf1, bf2, bf5, bd6, v37, v38 =>
    bif (decide (v37 < (bc3.length : Int))) then
      (at? bc3 v37).bind fun x43 =>
      (f44r3n2 f bc3 bf1 bf2 bf5 bd6 (wr64 (v37 + 1)) (mPut Account_.eqb (Account_.mk x43.Account x43.Ccy) (wr64 ((mGet Account_.eqb 0 (Account_.mk x43.Account x43.Ccy) v38) + x43.Amount)) v38))
    else
      some (.exit0 v38)
theorem f44r3n2_ok : ∀ (f : Nat) (bc3 : List JournalLine) (bf1 : Int) (bf2 : Int) (bf5 : Int) (bd6 : ByteArray) (v37 : Int) (v38 : List (Account_ × Int)) {o : f44r3n2O}, (f44r3n2 f bc3 bf1 bf2 bf5 bd6 v37 v38) = some o → TL Try.prog Try.f44.ntmps 3 f (cL (cL (dropC 1 (cL (dropC 2 c44))))) (f44r3n2S bc3 bf1 bf2 bf5 bd6 v37 v38) (fun r => r = f44r3n2E bc3 bf1 bf2 bf5 bd6 o)
  | 0, _, _, _, _, _, _, _, o, h => by rw [f44r3n2] at h; cases h
  | f + 1, bc3, bf1, bf2, bf5, bd6, v37, v38, o, h => by
    rw [f44r3n2] at h
    refine TL.body (K := fun s => ∃ v37 : Int, ∃ v38 : List (Account_ × Int), s = (f44r3n2S bc3 bf1 bf2 bf5 bd6 v37 v38) ∧ (f44r3n2 f bc3 bf1 bf2 bf5 bd6 v37 v38) = some o) ?_ (by rintro _ ⟨v37, v38, rfl, hk⟩; exact f44r3n2_ok f _ _ _ _ _ _ _ hk)
    rcases cond_cases h with ⟨h40, h⟩ | ⟨h40, h⟩
    · obtain ⟨x43, h44, h⟩ := bind_cases h
      exact run_end cfg_ok (rs := [([], [], []), ([], [(0, .at_ (Int.toNat v37)), (1, .idx 0 (JournalLine.cells x43))], []), ([], [(9, .look ((pInt .i64) (mGet Account_.eqb 0 (Account_.mk x43.Account x43.Ccy) v38)) (mHas Account_.eqb (Account_.mk x43.Account x43.Ccy) v38)), (13, .ment ((pInt .i64) (mGet Account_.eqb 0 (Account_.mk x43.Account x43.Ccy) v38)) (mIdx Account_.eqb (Account_.mk x43.Account x43.Ccy) v38) ((mEns Account_.eqb 0 (Account_.mk x43.Account x43.Ccy) v38).map (mkv (pAgg Account_.cells) (pInt .i64)))), (15, .mst (mIdx Account_.eqb (Account_.mk x43.Account x43.Ccy) v38) ((pAgg Account_.cells) (Account_.mk x43.Account x43.Ccy)) ((pInt .i64) (mGet Account_.eqb 0 (Account_.mk x43.Account x43.Ccy) v38)))], [(15, .map 2 ((mPut Account_.eqb (Account_.mk x43.Account x43.Ccy) (wr64 ((mGet Account_.eqb 0 (Account_.mk x43.Account x43.Ccy) v38) + x43.Amount)) v38).map (mkv (pAgg Account_.cells) (pInt .i64))))]), ([], [], [])]) (ps := [some true]) (tds := []) (m := [3]) (keep := [0, 3, 32, 33, 34]) (r := (.norm, (f44r3n2S bc3 bf1 bf2 bf5 bd6 (wr64 (v37 + 1)) (mPut Account_.eqb (Account_.mk x43.Account x43.Ccy) (wr64 ((mGet Account_.eqb 0 (Account_.mk x43.Account x43.Ccy) v38) + x43.Amount)) v38)))) (by kernel_rfl) (ap h40 (ap (at_some h44).1 (ap (lt_map JournalLine.cells (at_some h44).2) (ap (at_map JournalLine.cells (at_some h44).2) (ap (look_map (vp := (pInt .i64)) (e := 3) key_95 0 (by kernel_rfl) (Account_.mk x43.Account x43.Ccy) v38) (ap (ment_map (vp := (pInt .i64)) (e := 3) key_95 0 (by kernel_rfl) (Account_.mk x43.Account x43.Ccy) v38) (ap (rfl : ((mIdx Account_.eqb (Account_.mk x43.Account x43.Ccy) v38) : Int) = (((mIdx Account_.eqb (Account_.mk x43.Account x43.Ccy) v38) : Nat) : Int)) (ap (mst_at (vp := (pInt .i64)) key_95 0 (Account_.mk x43.Account x43.Ccy) v38) (ap (mst_put (vp := (pInt .i64)) key_95 0 (wr64 ((mGet Account_.eqb 0 (Account_.mk x43.Account x43.Ccy) v38) + x43.Amount)) (Account_.mk x43.Account x43.Ccy) v38) an))))))))) (LoopQ.norm ⟨(wr64 (v37 + 1)), (mPut Account_.eqb (Account_.mk x43.Account x43.Ccy) (wr64 ((mGet Account_.eqb 0 (Account_.mk x43.Account x43.Ccy) v38) + x43.Amount)) v38), rfl, h⟩)
    · obtain rfl := some_inj h
      exact runK_end cfg_ok (k := 2) (rs := [([], [], [])]) (ps := [some false]) (tds := []) (m := [3]) (keep := [0, 3]) (ex := (.exit 0)) (st' := (f44r3n2E bc3 bf1 bf2 bf5 bd6 (.exit0 v38)).2) (by kernel_rfl) (ap h40 an) (fun h => nomatch h) (LoopQ.out rfl rfl)
noncomputable def f44r3n2L (bc3 : List JournalLine) (bf1 : Int) (bf2 : Int) (bf5 : Int) (bd6 : ByteArray) : List JournalLine → Int → (List (Account_ × Int)) → Option f44r3n2O
  | [], v37, v38 =>
    some (.exit0 v38)
  | x0 :: rest, v37, v38 =>
    (f44r3n2L bc3 bf1 bf2 bf5 bd6 rest (v37 + 1) (mPut Account_.eqb (Account_.mk x0.Account x0.Ccy) (wr64 ((mGet Account_.eqb 0 (Account_.mk x0.Account x0.Ccy) v38) + x0.Amount)) v38))
theorem f44r3n2L_eq (bc3 : List JournalLine) (bf1 : Int) (bf2 : Int) (bf5 : Int) (bd6 : ByteArray) : ∀ (rest : List JournalLine) (f k : Nat) (v38 : List (Account_ × Int)), bc3.drop k = rest → bc3.length ≤ maxLen → rest.length < f → f44r3n2 f bc3 bf1 bf2 bf5 bd6 (k : Int) v38 = f44r3n2L bc3 bf1 bf2 bf5 bd6 rest (k : Int) v38
  | _, 0, _, _, _, _, hf => absurd hf (Nat.not_lt_zero _)
  | [], f + 1, k, v38, hd, hm, hf => by
    have hk : ¬ ((k : Int) < (bc3.length : Int)) := by have := drop_nil hd; omega
    rw [f44r3n2, f44r3n2L]
    simp only [decide_eq_false hk, cond_false]
  | x0 :: rest, f + 1, k, v38, hd, hm, hf => by
    obtain ⟨hx, hlt, hd'⟩ := drop_cons hd
    have hk : (k : Int) < (bc3.length : Int) := by omega
    have hw : wr64 ((k : Int) + 1) = (k : Int) + 1 := wr64_of (by omega) (by unfold maxLen at hm; omega)
    have ih : ∀ (v38 : List (Account_ × Int)), f44r3n2 f bc3 bf1 bf2 bf5 bd6 ((k : Int) + 1) v38 = f44r3n2L bc3 bf1 bf2 bf5 bd6 rest ((k : Int) + 1) v38 := fun v38 => f44r3n2L_eq bc3 bf1 bf2 bf5 bd6 rest f (k + 1) v38 hd' hm (by simpa using hf)
    rw [f44r3n2, f44r3n2L]
    simp only [decide_eq_true hk, cond_true, at_nat, hx, Option.bind_some, hw, ih]
theorem f44r3n2_run (bc3 : List JournalLine) (bf1 : Int) (bf2 : Int) (bf5 : Int) (bd6 : ByteArray) (v38 : List (Account_ × Int)) (hm : bc3.length ≤ maxLen) : f44r3n2 FUEL bc3 bf1 bf2 bf5 bd6 0 v38 = f44r3n2L bc3 bf1 bf2 bf5 bd6 bc3 0 v38 := f44r3n2L_eq bc3 bf1 bf2 bf5 bd6 bc3 FUEL 0 v38 List.drop_zero hm (lt_FUEL hm)
inductive f44r3n1O where
  | norm (v49 : List (Account_ × Int))
def f44r3n1E (bf1 : Int) (bf2 : Int) (bc3 : List JournalLine) (bg4 : List (Account_ × Int)) (bf5 : Int) (bd6 : ByteArray) : f44r3n1O → Ex × Tr × Hp
  | .norm v49 => (.norm, mkS [(0, (.bp 0 0)), (3, (.bp 3 0))], [some (.box [(.mp 2), (.pl (.int .i64 bf1)), (.pl (.int .i64 bf2))]), some (.row true 3 (bc3.map JournalLine.cells)), some (.map (v49.map (mkv (pAgg Account_.cells) (pInt .i64)))), some (.box [(.pl (.int .i64 bf5)), (.pl (.str bd6)), (.own 1)])])
def f44r3n1S (bf1 : Int) (bf2 : Int) (bc3 : List JournalLine) (bg4 : List (Account_ × Int)) (bf5 : Int) (bd6 : ByteArray) : Tr × Hp := (mkS [(0, (.bp 0 0)), (3, (.bp 3 0))], [some (.box [(.mp 2), (.pl (.int .i64 bf1)), (.pl (.int .i64 bf2))]), some (.row true 3 (bc3.map JournalLine.cells)), some (.map (bg4.map (mkv (pAgg Account_.cells) (pInt .i64)))), some (.box [(.pl (.int .i64 bf5)), (.pl (.str bd6)), (.own 1)])])
noncomputable def f44r3n1 (bf1 : Int) (bf2 : Int) (bc3 : List JournalLine) (bg4 : List (Account_ × Int)) (bf5 : Int) (bd6 : ByteArray) : Option f44r3n1O :=
  (f44r3n2 FUEL bc3 bf1 bf2 bf5 bd6 0 bg4).bind fun o46 => match o46 with
  | .exit0 v48 => some (.norm v48)
theorem f44r3n1_ok (bf1 : Int) (bf2 : Int) (bc3 : List JournalLine) (bg4 : List (Account_ × Int)) (bf5 : Int) (bd6 : ByteArray) {o : f44r3n1O} (h : (f44r3n1 bf1 bf2 bc3 bg4 bf5 bd6) = some o) : T Try.prog Try.f44.ntmps 3 (cL (dropC 2 c44)) (f44r3n1S bf1 bf2 bc3 bg4 bf5 bd6) (fun r => r = f44r3n1E bf1 bf2 bc3 bg4 bf5 bd6 o) := by
  unfold f44r3n1 at h
  refine runK_norm cfg_ok (k := 1) (rs := [([], [], [(2, .val (.pl (.int .i64 (bc3.length : Int))))])]) (ps := []) (tds := []) (m := [3]) (keep := [0, 3, 32, 33, 34]) (st' := (f44r3n2S bc3 bf1 bf2 bf5 bd6 0 bg4)) (by kernel_rfl) (ap (len_cv (xs := bc3) (c := JournalLine.cells)) an) ?_
  obtain ⟨o46, h47, h⟩ := bind_cases h
  cases o46 with
  | exit0 v48 =>
    obtain rfl := some_inj h
    exact T.last' (T.bl (i := 0) (by kernel_rfl) (by kernel_rfl) (f44r3n2_ok FUEL bc3 bf1 bf2 bf5 bd6 0 bg4 h47)) (tds := []) (m := [3]) (keep := [0, 3]) (st2 := (f44r3n1E bf1 bf2 bc3 bg4 bf5 bd6 (.norm v48)).2) (by kernel_rfl) an rfl
inductive f44r3n0O where
  | ret (v57 : Bool) (v58 : Int) (v59 : Int) (v60 : List (Account_ × Int))
def f44r3n0E (a1 : Int) (a2 : ByteArray) (a3 : Int) (a4 : Int) (a5 : List JournalLine) (a6 : List (Account_ × Int)) : f44r3n0O → Ex × Tr × Hp
  | .ret v57 v58 v59 v60 => (.ret, mkS [(4, (.pl (.bool v57)))], [some (.box [(.mp 2), (.pl (.int .i64 v58)), (.pl (.int .i64 v59))]), some (.row true 3 (a5.map JournalLine.cells)), some (.map (v60.map (mkv (pAgg Account_.cells) (pInt .i64))))])
def f44r3n0S (a1 : Int) (a2 : ByteArray) (a3 : Int) (a4 : Int) (a5 : List JournalLine) (a6 : List (Account_ × Int)) : Tr × Hp := (initS [(.bp 0 0), (.agg [(.pl (.int .i64 a1)), (.pl (.str a2)), (.own 1)])] 0 .leaf, [some (.box [(.mp 2), (.pl (.int .i64 a3)), (.pl (.int .i64 a4))]), some (.row true 3 (a5.map JournalLine.cells)), some (.map (a6.map (mkv (pAgg Account_.cells) (pInt .i64))))])
noncomputable def f44r3n0 (a1 : Int) (a2 : ByteArray) (a3 : Int) (a4 : Int) (a5 : List JournalLine) (a6 : List (Account_ × Int)) : Option f44r3n0O :=
  bif (decide (a4 = 200)) then
    some (.ret false a3 a4 a6)
  else
    (f49 (JournalRecord.mk a1 a2 a5)).bind fun x16 =>
    bif x16 then
      (f50 (JournalRecord.mk a1 a2 a5)).bind fun x19 =>
      bif x19 then
        bif (decide (a1 < a3)) then
          some (.ret false a3 a4 a6)
        else
          (f44r3n1 a3 a4 a5 a6 a1 a2).bind fun o50 => match o50 with
          | .norm v52 => (f61r2 a1 a2 (wr64 (a4 + 1)) a5 v52).bind fun x55 =>
            some (.ret x55 a1 (wr64 (a4 + 1)) v52)
      else
        some (.ret false a3 a4 a6)
    else
      some (.ret false a3 a4 a6)
theorem f44r3n0_ok (a1 : Int) (a2 : ByteArray) (a3 : Int) (a4 : Int) (a5 : List JournalLine) (a6 : List (Account_ × Int)) {o : f44r3n0O} (h : (f44r3n0 a1 a2 a3 a4 a5 a6) = some o) : T Try.prog Try.f44.ntmps 3 c44 (f44r3n0S a1 a2 a3 a4 a5 a6) (fun r => r = f44r3n0E a1 a2 a3 a4 a5 a6 o) := by
  unfold f44r3n0 at h
  rcases cond_cases h with ⟨h15, h⟩ | ⟨h15, h⟩
  · obtain rfl := some_inj h
    exact runK_end cfg_ok (k := 2) (rs := [([], [], []), ([(6, true), (7, true), (8, true)], [(9, .bool true)], []), ([], [], [])]) (ps := [none]) (tds := []) (m := []) (keep := [4]) (ex := .ret) (st' := (f44r3n0E a1 a2 a3 a4 a5 a6 (.ret false a3 a4 a6)).2) (by kernel_rfl) (ap h15 (ap h15 (ap h15 (ap h15 an)))) (fun h => nomatch h) rfl
  · obtain ⟨x16, h17, h⟩ := bind_cases h
    rcases cond_cases h with ⟨h18, h⟩ | ⟨h18, h⟩
    · obtain ⟨x19, h20, h⟩ := bind_cases h
      rcases cond_cases h with ⟨h21, h⟩ | ⟨h21, h⟩
      · rcases cond_cases h with ⟨h22, h⟩ | ⟨h22, h⟩
        · obtain rfl := some_inj h
          exact runK_end cfg_ok (k := 2) (rs := [([], [], []), ([(6, false), (7, false), (8, false), (11, false), (12, false), (13, false), (16, false), (17, false), (18, false), (19, false), (20, false), (21, false), (22, false)], [(7, .call (.pl (.bool x16)) []), (9, .bool false), (12, .call (.pl (.bool x19)) []), (14, .bool false), (23, .bool false)], []), ([], [], [])]) (ps := [some true]) (tds := []) (m := []) (keep := [4]) (ex := .ret) (st' := (f44r3n0E a1 a2 a3 a4 a5 a6 (.ret false a3 a4 a6)).2) (by kernel_rfl) (ap h15 (ap h15 (ap h15 (ap h15 (ap (not_t h18) (ap (not_t h18) (ap (not_t h18) (ap (not_t h18) (ap (not_t h21) (ap (not_t h21) (ap (not_t h21) (ap (not_t h21) (ap (not_t h21) (ap (not_t h21) (ap (not_t h21) (ap (not_t h21) (ap (f49_ok (JournalRecord.mk a1 a2 a5) h17) (ap (f50_ok (JournalRecord.mk a1 a2 a5) h20) (ap h22 an))))))))))))))))))) (fun h => nomatch h) rfl
        · refine runK_norm cfg_ok (k := 2) (rs := [([], [], []), ([(6, false), (7, false), (8, false), (11, false), (12, false), (13, false), (16, false), (17, false), (18, false), (19, false), (20, false), (21, false), (22, false)], [(7, .call (.pl (.bool x16)) []), (9, .bool false), (12, .call (.pl (.bool x19)) []), (14, .bool false), (23, .bool false)], [])]) (ps := [some false]) (tds := []) (m := [3]) (keep := [0, 3]) (st' := (f44r3n1S a3 a4 a5 a6 a1 a2)) (by kernel_rfl) (ap h15 (ap h15 (ap h15 (ap h15 (ap (not_t h18) (ap (not_t h18) (ap (not_t h18) (ap (not_t h18) (ap (not_t h21) (ap (not_t h21) (ap (not_t h21) (ap (not_t h21) (ap (not_t h21) (ap (not_t h21) (ap (not_t h21) (ap (not_t h21) (ap (f49_ok (JournalRecord.mk a1 a2 a5) h17) (ap (f50_ok (JournalRecord.mk a1 a2 a5) h20) (ap h22 an))))))))))))))))))) ?_
          obtain ⟨o50, h51, h⟩ := bind_cases h
          cases o50 with
          | norm v52 =>
            refine T.oneN (by kernel_rfl) (f44r3n1_ok a3 a4 a5 a6 a1 a2 h51) (st2 := (f44r3n1E a3 a4 a5 a6 a1 a2 (.norm v52)).2) rfl ?_
            obtain ⟨x55, h56, h⟩ := bind_cases h
            obtain rfl := some_inj h
            exact run_end cfg_ok (rs := [([], [], []), ([], [(2, .call (.pl (.bool x55)) [some (.box [(.mp 2), (.pl (.int .i64 a1)), (.pl (.int .i64 (wr64 (a4 + 1))))]), some (.row true 3 (a5.map JournalLine.cells)), some (.map (v52.map (mkv (pAgg Account_.cells) (pInt .i64)))), none, none])], [])]) (ps := []) (tds := []) (m := []) (keep := [4]) (r := (.ret, (f44r3n0E a1 a2 a3 a4 a5 a6 (.ret x55 a1 (wr64 (a4 + 1)) v52)).2)) (by kernel_rfl) (ap (CallS.ren (args' := [(.bp 0 0), (.agg [(.pl (.int .i64 a1)), (.pl (.str a2)), (.own 1)])]) (v' := (.pl (.bool x55))) (B := [some (.box [(.mp 2), (.pl (.int .i64 a1)), (.pl (.int .i64 (wr64 (a4 + 1))))]), some (.row true 3 (a5.map JournalLine.cells)), some (.map (v52.map (mkv (pAgg Account_.cells) (pInt .i64)))), none, none]) (B' := [some (.box [(.mp 2), (.pl (.int .i64 a1)), (.pl (.int .i64 (wr64 (a4 + 1))))]), some (.row true 3 (a5.map JournalLine.cells)), some (.map (v52.map (mkv (pAgg Account_.cells) (pInt .i64)))), none, none]) 5 [0, 1, 2] (f61r2_ok a1 a2 (wr64 (a4 + 1)) a5 v52 h56) (by kernel_rfl) (by kernel_rfl) (by kernel_rfl) (by kernel_rfl) (by kernel_rfl) (by kernel_rfl)) an) rfl
      · obtain rfl := some_inj h
        exact runK_end cfg_ok (k := 2) (rs := [([], [], []), ([(6, false), (7, false), (8, false), (11, false), (12, false), (13, false), (16, true), (17, true), (18, true), (19, true), (20, true), (21, true), (22, true)], [(7, .call (.pl (.bool x16)) []), (9, .bool false), (12, .call (.pl (.bool x19)) []), (14, .bool false), (23, .bool true)], []), ([], [], [])]) (ps := [none]) (tds := []) (m := []) (keep := [4]) (ex := .ret) (st' := (f44r3n0E a1 a2 a3 a4 a5 a6 (.ret false a3 a4 a6)).2) (by kernel_rfl) (ap h15 (ap h15 (ap h15 (ap h15 (ap (not_t h18) (ap (not_t h18) (ap (not_t h18) (ap (not_t h18) (ap (not_f h21) (ap (not_f h21) (ap (not_f h21) (ap (not_f h21) (ap (not_f h21) (ap (not_f h21) (ap (not_f h21) (ap (not_f h21) (ap (f49_ok (JournalRecord.mk a1 a2 a5) h17) (ap (f50_ok (JournalRecord.mk a1 a2 a5) h20) an)))))))))))))))))) (fun h => nomatch h) rfl
    · obtain rfl := some_inj h
      exact runK_end cfg_ok (k := 2) (rs := [([], [], []), ([(6, false), (7, false), (8, false), (11, true), (12, true), (13, true)], [(7, .call (.pl (.bool x16)) []), (9, .bool false), (14, .bool true)], []), ([], [], [])]) (ps := [none]) (tds := []) (m := []) (keep := [4]) (ex := .ret) (st' := (f44r3n0E a1 a2 a3 a4 a5 a6 (.ret false a3 a4 a6)).2) (by kernel_rfl) (ap h15 (ap h15 (ap h15 (ap h15 (ap (not_f h18) (ap (not_f h18) (ap (not_f h18) (ap (not_f h18) (ap (f49_ok (JournalRecord.mk a1 a2 a5) h17) an))))))))) (fun h => nomatch h) rfl
noncomputable def f44r3 (a1 : Int) (a2 : ByteArray) (a3 : Int) (a4 : Int) (a5 : List JournalLine) (a6 : List (Account_ × Int)) : Option (Bool × Int × Int × (List (Account_ × Int))) := (f44r3n0 a1 a2 a3 a4 a5 a6).bind fun o => match o with
  | .ret v57 v58 v59 v60 => some (v57, v58, v59, v60)
theorem f44r3_ok (a1 : Int) (a2 : ByteArray) (a3 : Int) (a4 : Int) (a5 : List JournalLine) (a6 : List (Account_ × Int)) {r : Bool × Int × Int × (List (Account_ × Int))} (h : (f44r3 a1 a2 a3 a4 a5 a6) = some r) : CallS Try.prog true 44 [(.bp 0 0), (.agg [(.pl (.int .i64 a1)), (.pl (.str a2)), (.own 1)])] [some (.box [(.mp 2), (.pl (.int .i64 a3)), (.pl (.int .i64 a4))]), some (.row true 3 (a5.map JournalLine.cells)), some (.map (a6.map (mkv (pAgg Account_.cells) (pInt .i64))))] (.pl (.bool r.1)) [some (.box [(.mp 2), (.pl (.int .i64 r.2.1)), (.pl (.int .i64 r.2.2.1))]), some (.row true 3 (a5.map JournalLine.cells)), some (.map (r.2.2.2.map (mkv (pAgg Account_.cells) (pInt .i64))))] := by
  unfold f44r3 at h
  obtain ⟨o, ho, h⟩ := bind_cases h
  cases o with
  | ret v57 v58 v59 v60 =>
    obtain rfl := some_inj h
    exact CallS.shared cfg_ok (f := Try.f44) (c := c44) (by kernel_rfl) (by kernel_rfl) (by kernel_rfl) ((f44r3n0_ok a1 a2 a3 a4 a5 a6 ho).mono fun r e => by subst e; exact ⟨.inl rfl, by kernel_rfl, by kernel_rfl⟩)
/-! ### novation/journal.twin -/
noncomputable def c51 : Code := Try.f51.body.getD .skip
inductive f51r1n2O where
  | exit0 (v40 : List JournalRecord)
def f51r1n2E (bi1 : List JournalRecord) : f51r1n2O → Ex × Tr × Hp
  | .exit0 v40 => ((.exit 0), mkS [(3, (.own 0))], [some (.row false 3 (v40.map JournalRecord.cells))])
def f51r1n2S (bi1 : List JournalRecord) (v26 : Int) (v27 : List JournalRecord) : Tr × Hp := (mkS [(3, (.own 0)), (6, (.pl (.sl .any 3 (bi1.map JournalRecord.cells)))), (7, (.pl (.int .i64 (bi1.length : Int)))), (8, (.pl (.int .i64 v26)))], [some (.row false 3 (v27.map JournalRecord.cells))])
noncomputable def f51r1n2 : Nat → List JournalRecord → Int → List JournalRecord → Option f51r1n2O
  | 0, _, _, _ => none
  | f + 1, bi1, v26, v27 =>
    bif (decide (v26 < (bi1.length : Int))) then
      (at? bi1 v26).bind fun x35 =>
      (f48r1 x35.Lines).bind fun x37 =>
      req (fit (v27.length + 1) 48) <|
      (f51r1n2 f bi1 (wr64 (v26 + 1)) (v27 ++ [(JournalRecord.mk x35.Day x35.Text x37)]))
    else
      some (.exit0 v27)
theorem f51r1n2_ok : ∀ (f : Nat) (bi1 : List JournalRecord) (v26 : Int) (v27 : List JournalRecord) {o : f51r1n2O}, (f51r1n2 f bi1 v26 v27) = some o → TL Try.prog Try.f51.ntmps 0 f (cL (cL (dropC 1 (cL (dropC 2 c51))))) (f51r1n2S bi1 v26 v27) (fun r => r = f51r1n2E bi1 o)
  | 0, _, _, _, o, h => by rw [f51r1n2] at h; cases h
  | f + 1, bi1, v26, v27, o, h => by
    rw [f51r1n2] at h
    refine TL.body (K := fun s => ∃ v26 : Int, ∃ v27 : List JournalRecord, s = (f51r1n2S bi1 v26 v27) ∧ (f51r1n2 f bi1 v26 v27) = some o) ?_ (by rintro _ ⟨v26, v27, rfl, hk⟩; exact f51r1n2_ok f _ _ _ hk)
    rcases cond_cases h with ⟨h29, h⟩ | ⟨h29, h⟩
    · obtain ⟨x35, h36, h⟩ := bind_cases h
      obtain ⟨x37, h38, h⟩ := bind_cases h
      obtain ⟨h39, h⟩ := req_cases h
      exact run_end cfg_ok (rs := [([], [], []), ([], [(0, .idx (Int.toNat v26) (JournalRecord.cells x35))], []), ([], [(2, .call (.own 2) [none, none, some (.row false 3 (x37.map JournalLine.cells))])], []), ([], [(3, .fits)], [(3, .row 4 ((v27 ++ [(JournalRecord.mk x35.Day x35.Text x37)]).map JournalRecord.cells))]), ([], [], [])]) (ps := [some true]) (tds := []) (m := [4]) (keep := [3, 6, 7, 8]) (r := (.norm, (f51r1n2S bi1 (wr64 (v26 + 1)) (v27 ++ [(JournalRecord.mk x35.Day x35.Text x37)])))) (by kernel_rfl) (ap h29 (ap (at_some h36).1 (ap (at_map JournalRecord.cells (at_some h36).2) (ap (CallS.ren (args' := [(.pl (.sl .any 3 (x35.Lines.map JournalLine.cells)))]) (v' := (.own 2)) (B := [none, none]) (B' := [none, none, some (.row false 3 (x37.map JournalLine.cells))]) 2 [] (f48r1_ok x35.Lines h38) (by kernel_rfl) (by kernel_rfl) (by kernel_rfl) (by kernel_rfl) (by kernel_rfl) (by kernel_rfl)) (ap (fit_map (te := ti47) (xs := v27) (n := 1) (c := JournalRecord.cells) h39 rfl) (ap (app_cv (xs := v27) (ys := [(JournalRecord.mk x35.Day x35.Text x37)]) (c := JournalRecord.cells)) an)))))) (LoopQ.norm ⟨(wr64 (v26 + 1)), (v27 ++ [(JournalRecord.mk x35.Day x35.Text x37)]), rfl, h⟩)
    · obtain rfl := some_inj h
      exact runK_end cfg_ok (k := 2) (rs := [([], [], [])]) (ps := [some false]) (tds := []) (m := [0]) (keep := [3]) (ex := (.exit 0)) (st' := (f51r1n2E bi1 (.exit0 v27)).2) (by kernel_rfl) (ap h29 an) (fun h => nomatch h) (LoopQ.out rfl rfl)
noncomputable def f51r1n2L (bi1 : List JournalRecord) : List JournalRecord → Int → (List JournalRecord) → Option f51r1n2O
  | [], v26, v27 =>
    some (.exit0 v27)
  | x0 :: rest, v26, v27 =>
    (f48r1 x0.Lines).bind fun x37 =>
    req (fit (v27.length + 1) 48) <|
    (f51r1n2L bi1 rest (v26 + 1) (v27 ++ [(JournalRecord.mk x0.Day x0.Text x37)]))
theorem f51r1n2L_eq (bi1 : List JournalRecord) : ∀ (rest : List JournalRecord) (f k : Nat) (v27 : List JournalRecord), bi1.drop k = rest → bi1.length ≤ maxLen → rest.length < f → f51r1n2 f bi1 (k : Int) v27 = f51r1n2L bi1 rest (k : Int) v27
  | _, 0, _, _, _, _, hf => absurd hf (Nat.not_lt_zero _)
  | [], f + 1, k, v27, hd, hm, hf => by
    have hk : ¬ ((k : Int) < (bi1.length : Int)) := by have := drop_nil hd; omega
    rw [f51r1n2, f51r1n2L]
    simp only [decide_eq_false hk, cond_false]
  | x0 :: rest, f + 1, k, v27, hd, hm, hf => by
    obtain ⟨hx, hlt, hd'⟩ := drop_cons hd
    have hk : (k : Int) < (bi1.length : Int) := by omega
    have hw : wr64 ((k : Int) + 1) = (k : Int) + 1 := wr64_of (by omega) (by unfold maxLen at hm; omega)
    have ih : ∀ (v27 : List JournalRecord), f51r1n2 f bi1 ((k : Int) + 1) v27 = f51r1n2L bi1 rest ((k : Int) + 1) v27 := fun v27 => f51r1n2L_eq bi1 rest f (k + 1) v27 hd' hm (by simpa using hf)
    rw [f51r1n2, f51r1n2L]
    simp only [decide_eq_true hk, cond_true, at_nat, hx, Option.bind_some, hw, ih]
theorem f51r1n2_run (bi1 : List JournalRecord) (v27 : List JournalRecord) (hm : bi1.length ≤ maxLen) : f51r1n2 FUEL bi1 0 v27 = f51r1n2L bi1 bi1 0 v27 := f51r1n2L_eq bi1 bi1 FUEL 0 v27 List.drop_zero hm (lt_FUEL hm)
inductive f51r1n1O where
  | norm (v44 : List JournalRecord)
def f51r1n1E (bi1 : List JournalRecord) : f51r1n1O → Ex × Tr × Hp
  | .norm v44 => (.norm, mkS [(3, (.own 0))], [some (.row false 3 (v44.map JournalRecord.cells))])
def f51r1n1S (bi1 : List JournalRecord) : Tr × Hp := (mkS [(0, (.pl (.sl .any 3 (bi1.map JournalRecord.cells)))), (3, (.pl (.sl .nil 0 [])))], [])
noncomputable def f51r1n1 (bi1 : List JournalRecord) : Option f51r1n1O :=
  (f51r1n2 FUEL bi1 0 []).bind fun o41 => match o41 with
  | .exit0 v43 => some (.norm v43)
theorem f51r1n1_ok (bi1 : List JournalRecord) {o : f51r1n1O} (h : (f51r1n1 bi1) = some o) : T Try.prog Try.f51.ntmps 0 (cL (dropC 2 c51)) (f51r1n1S bi1) (fun r => r = f51r1n1E bi1 o) := by
  unfold f51r1n1 at h
  refine runK_norm cfg_ok (k := 1) (rs := [([], [], [(1, .val (.pl (.int .i64 (bi1.length : Int))))])]) (ps := []) (tds := [.mat 3 3]) (m := [0]) (keep := [3, 6, 7, 8]) (st' := (f51r1n2S bi1 0 [])) (by kernel_rfl) (ap (len_cv (xs := bi1) (c := JournalRecord.cells)) an) ?_
  obtain ⟨o41, h42, h⟩ := bind_cases h
  cases o41 with
  | exit0 v43 =>
    obtain rfl := some_inj h
    exact T.last' (T.bl (i := 0) (by kernel_rfl) (by kernel_rfl) (f51r1n2_ok FUEL bi1 0 [] h42)) (tds := []) (m := [0]) (keep := [3]) (st2 := (f51r1n1E bi1 (.norm v43)).2) (by kernel_rfl) an rfl
inductive f51r1n0O where
  | ret (v48 : List JournalRecord)
def f51r1n0E (a1 : List JournalRecord) : f51r1n0O → Ex × Tr × Hp
  | .ret v48 => (.ret, mkS [(2, (.own 0))], [some (.row false 3 (v48.map JournalRecord.cells))])
def f51r1n0S (a1 : List JournalRecord) : Tr × Hp := (initS [(.pl (.sl .any 3 (a1.map JournalRecord.cells)))] 0 .leaf, [])
noncomputable def f51r1n0 (a1 : List JournalRecord) : Option f51r1n0O :=
  (f51r1n1 a1).bind fun o45 => match o45 with
  | .norm v47 => some (.ret v47)
theorem f51r1n0_ok (a1 : List JournalRecord) {o : f51r1n0O} (h : (f51r1n0 a1) = some o) : T Try.prog Try.f51.ntmps 0 c51 (f51r1n0S a1) (fun r => r = f51r1n0E a1 o) := by
  unfold f51r1n0 at h
  refine runK_norm cfg_ok (k := 2) (rs := [([], [], []), ([], [], [])]) (ps := []) (tds := []) (m := []) (keep := [0, 3]) (st' := (f51r1n1S a1)) (by kernel_rfl) an ?_
  obtain ⟨o45, h46, h⟩ := bind_cases h
  cases o45 with
  | norm v47 =>
    refine T.oneN (by kernel_rfl) (f51r1n1_ok a1 h46) (st2 := (f51r1n1E a1 (.norm v47)).2) rfl ?_
    obtain rfl := some_inj h
    exact run_end cfg_ok (rs := [([], [], [])]) (ps := []) (tds := []) (m := [0]) (keep := [2]) (r := (.ret, (f51r1n0E a1 (.ret v47)).2)) (by kernel_rfl) an rfl
noncomputable def f51r1 (a1 : List JournalRecord) : Option (List JournalRecord) := (f51r1n0 a1).bind fun o => match o with
  | .ret v48 => some v48
theorem f51r1_ok (a1 : List JournalRecord) {r : List JournalRecord} (h : (f51r1 a1) = some r) : CallS Try.prog true 51 [(.pl (.sl .any 3 (a1.map JournalRecord.cells)))] [] (.own 0) [some (.row false 3 (r.map JournalRecord.cells))] := by
  unfold f51r1 at h
  obtain ⟨o, ho, h⟩ := bind_cases h
  cases o with
  | ret v48 =>
    obtain rfl := some_inj h
    exact CallS.shared cfg_ok (f := Try.f51) (c := c51) (by kernel_rfl) (by kernel_rfl) (by kernel_rfl) ((f51r1n0_ok a1 ho).mono fun r e => by subst e; exact ⟨.inl rfl, by kernel_rfl, by kernel_rfl⟩)
/-! ### novation/journal.Add -/
noncomputable def c30 : Code := Try.f30.body.getD .skip
inductive f30n1O where
  | norm (v49 : Int)
def f30n1E (bf1 : Int) (bh2 : Bool × Int × Int × (List (Account_ × Int))) (ba3 : Journal) (bd4 : ByteArray) (bc5 : List JournalLine) : f30n1O → Ex × Tr × Hp
  | .norm v49 => (.norm, mkS [(4, (.bp 0 0)), (8, (.bp 1 0)), (10, (.bp 2 0)), (13, (.pl (.int .i64 v49)))], [some (.box ((Journal.cells ba3).map .pl)), some (.box [(.pl (.sl .nil 0 []))]), some (.box [(.pl (.int .i64 bf1)), (.pl (.str bd4)), (.own 3)]), some (.row true 3 (bc5.map JournalLine.cells))])
def f30n1S (bf1 : Int) (bh2 : Bool × Int × Int × (List (Account_ × Int))) (ba3 : Journal) (bd4 : ByteArray) (bc5 : List JournalLine) : Tr × Hp := (mkS [(1, (.pl (.int .i64 bf1))), (4, (.bp 0 0)), (8, (.bp 1 0)), (10, (.bp 2 0)), (11, (.bp 3 0)), (12, (.pl (.bool bh2.1))), (13, (.pl (.int .i64 0)))], [some (.box ((Journal.cells ba3).map .pl)), some (.box [(.pl (.sl .nil 0 []))]), some (.box [(.pl (.int .i64 bf1)), (.pl (.str bd4)), (.own 4)]), some (.box [(.mp 5), (.pl (.int .i64 bh2.2.1)), (.pl (.int .i64 bh2.2.2.1))]), some (.row false 3 (bc5.map JournalLine.cells)), some (.map (bh2.2.2.2.map (mkv (pAgg Account_.cells) (pInt .i64))))])
noncomputable def f30n1 (bf1 : Int) (bh2 : Bool × Int × Int × (List (Account_ × Int))) (ba3 : Journal) (bd4 : ByteArray) (bc5 : List JournalLine) : Option f30n1O :=
  bif bh2.1 then
    (f49 (JournalRecord.mk bf1 bd4 bc5)).bind fun x38 =>
    bif x38 then
      (f50 (JournalRecord.mk bf1 bd4 bc5)).bind fun x41 =>
      bif x41 then
        bif (decide (bf1 < bh2.2.1)) then
          some (.norm 40)
        else
          bif (decide (bh2.2.2.1 = 200)) then
            some (.norm 22)
          else
            (f44r3 bf1 bd4 bh2.2.1 bh2.2.2.1 bc5 bh2.2.2.2).bind fun x46 =>
            bif x46.1 then
              some (.norm 0)
            else
              some (.norm 14)
      else
        some (.norm 60)
    else
      some (.norm 2)
  else
    some (.norm 8)
theorem f30n1_ok (bf1 : Int) (bh2 : Bool × Int × Int × (List (Account_ × Int))) (ba3 : Journal) (bd4 : ByteArray) (bc5 : List JournalLine) {o : f30n1O} (h : (f30n1 bf1 bh2 ba3 bd4 bc5) = some o) : T Try.prog Try.f30.ntmps 0 (cL (dropC 4 c30)) (f30n1S bf1 bh2 ba3 bd4 bc5) (fun r => r = f30n1E bf1 bh2 ba3 bd4 bc5 o) := by
  unfold f30n1 at h
  rcases cond_cases h with ⟨h37, h⟩ | ⟨h37, h⟩
  · obtain ⟨x38, h39, h⟩ := bind_cases h
    rcases cond_cases h with ⟨h40, h⟩ | ⟨h40, h⟩
    · obtain ⟨x41, h42, h⟩ := bind_cases h
      rcases cond_cases h with ⟨h43, h⟩ | ⟨h43, h⟩
      · rcases cond_cases h with ⟨h44, h⟩ | ⟨h44, h⟩
        · obtain rfl := some_inj h
          exact run_end cfg_ok (rs := [([], [], []), ([], [(1, .call (.pl (.bool x38)) [])], []), ([], [(1, .call (.pl (.bool x41)) [])], []), ([], [], []), ([], [], [])]) (ps := [some false, some false, some false, some true]) (tds := []) (m := [0, 1, 2, 4]) (keep := [4, 8, 10, 13]) (r := (.norm, (f30n1E bf1 bh2 ba3 bd4 bc5 (.norm 40)).2)) (by kernel_rfl) (ap (not_t h37) (ap (f49_ok (JournalRecord.mk bf1 bd4 bc5) h39) (ap (not_t h40) (ap (f50_ok (JournalRecord.mk bf1 bd4 bc5) h42) (ap (not_t h43) (ap h44 an)))))) rfl
        · rcases cond_cases h with ⟨h45, h⟩ | ⟨h45, h⟩
          · obtain rfl := some_inj h
            exact run_end cfg_ok (rs := [([], [], []), ([], [(1, .call (.pl (.bool x38)) [])], []), ([], [(1, .call (.pl (.bool x41)) [])], []), ([], [], []), ([], [], []), ([], [], [])]) (ps := [some false, some false, some false, some false, some true]) (tds := []) (m := [0, 1, 2, 4]) (keep := [4, 8, 10, 13]) (r := (.norm, (f30n1E bf1 bh2 ba3 bd4 bc5 (.norm 22)).2)) (by kernel_rfl) (ap (not_t h37) (ap (f49_ok (JournalRecord.mk bf1 bd4 bc5) h39) (ap (not_t h40) (ap (f50_ok (JournalRecord.mk bf1 bd4 bc5) h42) (ap (not_t h43) (ap h44 (ap h45 an))))))) rfl
          · obtain ⟨x46, h47, h⟩ := bind_cases h
            rcases cond_cases h with ⟨h48, h⟩ | ⟨h48, h⟩
            · obtain rfl := some_inj h
              exact run_end cfg_ok (rs := [([], [], []), ([], [(1, .call (.pl (.bool x38)) [])], []), ([], [(1, .call (.pl (.bool x41)) [])], []), ([], [], []), ([], [], []), ([], [(2, .call (.pl (.bool x46.1)) [none, none, none, some (.box [(.mp 5), (.pl (.int .i64 x46.2.1)), (.pl (.int .i64 x46.2.2.1))]), some (.row true 3 (bc5.map JournalLine.cells)), some (.map (x46.2.2.2.map (mkv (pAgg Account_.cells) (pInt .i64))))])], [])]) (ps := [some false, some false, some false, some false, some false, some false]) (tds := []) (m := [0, 1, 2, 4]) (keep := [4, 8, 10, 13]) (r := (.norm, (f30n1E bf1 bh2 ba3 bd4 bc5 (.norm 0)).2)) (by kernel_rfl) (ap (not_t h37) (ap (f49_ok (JournalRecord.mk bf1 bd4 bc5) h39) (ap (not_t h40) (ap (f50_ok (JournalRecord.mk bf1 bd4 bc5) h42) (ap (not_t h43) (ap h44 (ap h45 (ap (CallS.ren (args' := [(.bp 3 0), (.agg [(.pl (.int .i64 bf1)), (.pl (.str bd4)), (.own 4)])]) (v' := (.pl (.bool x46.1))) (B := [none, none, none, some (.box [(.mp 5), (.pl (.int .i64 bh2.2.1)), (.pl (.int .i64 bh2.2.2.1))]), some (.row true 3 (bc5.map JournalLine.cells)), some (.map (bh2.2.2.2.map (mkv (pAgg Account_.cells) (pInt .i64))))]) (B' := [none, none, none, some (.box [(.mp 5), (.pl (.int .i64 x46.2.1)), (.pl (.int .i64 x46.2.2.1))]), some (.row true 3 (bc5.map JournalLine.cells)), some (.map (x46.2.2.2.map (mkv (pAgg Account_.cells) (pInt .i64))))]) 6 [3, 4, 5] (f44r3_ok bf1 bd4 bh2.2.1 bh2.2.2.1 bc5 bh2.2.2.2 h47) (by kernel_rfl) (by kernel_rfl) (by kernel_rfl) (by kernel_rfl) (by kernel_rfl) (by kernel_rfl)) (ap (not_t h48) an))))))))) rfl
            · obtain rfl := some_inj h
              exact run_end cfg_ok (rs := [([], [], []), ([], [(1, .call (.pl (.bool x38)) [])], []), ([], [(1, .call (.pl (.bool x41)) [])], []), ([], [], []), ([], [], []), ([], [(2, .call (.pl (.bool x46.1)) [none, none, none, some (.box [(.mp 5), (.pl (.int .i64 x46.2.1)), (.pl (.int .i64 x46.2.2.1))]), some (.row true 3 (bc5.map JournalLine.cells)), some (.map (x46.2.2.2.map (mkv (pAgg Account_.cells) (pInt .i64))))])], []), ([], [], [])]) (ps := [some false, some false, some false, some false, some false, some true]) (tds := []) (m := [0, 1, 2, 4]) (keep := [4, 8, 10, 13]) (r := (.norm, (f30n1E bf1 bh2 ba3 bd4 bc5 (.norm 14)).2)) (by kernel_rfl) (ap (not_t h37) (ap (f49_ok (JournalRecord.mk bf1 bd4 bc5) h39) (ap (not_t h40) (ap (f50_ok (JournalRecord.mk bf1 bd4 bc5) h42) (ap (not_t h43) (ap h44 (ap h45 (ap (CallS.ren (args' := [(.bp 3 0), (.agg [(.pl (.int .i64 bf1)), (.pl (.str bd4)), (.own 4)])]) (v' := (.pl (.bool x46.1))) (B := [none, none, none, some (.box [(.mp 5), (.pl (.int .i64 bh2.2.1)), (.pl (.int .i64 bh2.2.2.1))]), some (.row true 3 (bc5.map JournalLine.cells)), some (.map (bh2.2.2.2.map (mkv (pAgg Account_.cells) (pInt .i64))))]) (B' := [none, none, none, some (.box [(.mp 5), (.pl (.int .i64 x46.2.1)), (.pl (.int .i64 x46.2.2.1))]), some (.row true 3 (bc5.map JournalLine.cells)), some (.map (x46.2.2.2.map (mkv (pAgg Account_.cells) (pInt .i64))))]) 6 [3, 4, 5] (f44r3_ok bf1 bd4 bh2.2.1 bh2.2.2.1 bc5 bh2.2.2.2 h47) (by kernel_rfl) (by kernel_rfl) (by kernel_rfl) (by kernel_rfl) (by kernel_rfl) (by kernel_rfl)) (ap (not_f h48) an))))))))) rfl
      · obtain rfl := some_inj h
        exact run_end cfg_ok (rs := [([], [], []), ([], [(1, .call (.pl (.bool x38)) [])], []), ([], [(1, .call (.pl (.bool x41)) [])], []), ([], [], [])]) (ps := [some false, some false, some true]) (tds := []) (m := [0, 1, 2, 4]) (keep := [4, 8, 10, 13]) (r := (.norm, (f30n1E bf1 bh2 ba3 bd4 bc5 (.norm 60)).2)) (by kernel_rfl) (ap (not_t h37) (ap (f49_ok (JournalRecord.mk bf1 bd4 bc5) h39) (ap (not_t h40) (ap (f50_ok (JournalRecord.mk bf1 bd4 bc5) h42) (ap (not_f h43) an))))) rfl
    · obtain rfl := some_inj h
      exact run_end cfg_ok (rs := [([], [], []), ([], [(1, .call (.pl (.bool x38)) [])], []), ([], [], [])]) (ps := [some false, some true]) (tds := []) (m := [0, 1, 2, 4]) (keep := [4, 8, 10, 13]) (r := (.norm, (f30n1E bf1 bh2 ba3 bd4 bc5 (.norm 2)).2)) (by kernel_rfl) (ap (not_t h37) (ap (f49_ok (JournalRecord.mk bf1 bd4 bc5) h39) (ap (not_f h40) an))) rfl
  · obtain rfl := some_inj h
    exact run_end cfg_ok (rs := [([], [], []), ([], [], [])]) (ps := [some true]) (tds := [.frzO 4]) (m := [0, 1, 2, 4]) (keep := [4, 8, 10, 13]) (r := (.norm, (f30n1E bf1 bh2 ba3 bd4 bc5 (.norm 8)).2)) (by kernel_rfl) (ap (not_f h37) an) rfl
inductive f30n0O where
  | ret (v61 : Int) (v62 : List JournalRecord)
def f30n0E (a1 : Journal) (a2 : Int) (a3 : ByteArray) (a4 : List JournalLine) : f30n0O → Ex × Tr × Hp
  | .ret v61 v62 => (.ret, mkS [(8, (.bp 0 0)), (9, (.pl (.int .i64 v61)))], [some (.box [(.own 1)]), some (.row false 3 (v62.map JournalRecord.cells))])
def f30n0S (a1 : Journal) (a2 : Int) (a3 : ByteArray) (a4 : List JournalLine) : Tr × Hp := (initS [(.pl (.agg (Journal.cells a1))), (.pl (.int .i64 a2)), (.pl (.str a3)), (.pl (.sl .any 3 (a4.map JournalLine.cells)))] 0 .leaf, [])
noncomputable def f30n0 (a1 : Journal) (a2 : Int) (a3 : ByteArray) (a4 : List JournalLine) : Option f30n0O :=
  (f48r1 a4).bind fun x7 =>
  (f47r1 a1).bind fun x11 =>
  (f30n1 a2 x11 a1 a3 x7).bind fun o50 => match o50 with
  | .norm v52 => bif (decide (v52 = 0)) then
      (f51r1 a1.Records).bind fun x58 =>
      req (fit (x58.length + 1) 48) <|
      some (.ret 0 (x58 ++ [(JournalRecord.mk a2 a3 x7)]))
    else
      some (.ret v52 [])
theorem f30n0_ok (a1 : Journal) (a2 : Int) (a3 : ByteArray) (a4 : List JournalLine) {o : f30n0O} (h : (f30n0 a1 a2 a3 a4) = some o) : T Try.prog Try.f30.ntmps 0 c30 (f30n0S a1 a2 a3 a4) (fun r => r = f30n0E a1 a2 a3 a4 o) := by
  unfold f30n0 at h
  obtain ⟨x7, h8, h⟩ := bind_cases h
  obtain ⟨x11, h12, h⟩ := bind_cases h
  refine runK_norm cfg_ok (k := 4) (rs := [([], [], []), ([], [(3, .call (.own 2) [none, none, some (.row false 3 (x7.map JournalLine.cells))])], []), ([], [(1, .call (.tup [(.bp 4 0), (.pl (.bool x11.1))]) [none, none, none, none, some (.box [(.mp 5), (.pl (.int .i64 x11.2.1)), (.pl (.int .i64 x11.2.2.1))]), some (.map (x11.2.2.2.map (mkv (pAgg Account_.cells) (pInt .i64))))])], []), ([], [], [])]) (ps := []) (tds := []) (m := [0, 1, 3, 4, 2, 5]) (keep := [1, 4, 8, 10, 11, 12, 13]) (st' := (f30n1S a2 x11 a1 a3 x7)) (by kernel_rfl) (ap (CallS.ren (args' := [(.pl (.sl .any 3 (a4.map JournalLine.cells)))]) (v' := (.own 2)) (B := [none, none]) (B' := [none, none, some (.row false 3 (x7.map JournalLine.cells))]) 2 [] (f48r1_ok a4 h8) (by kernel_rfl) (by kernel_rfl) (by kernel_rfl) (by kernel_rfl) (by kernel_rfl) (by kernel_rfl)) (ap (CallS.ren (args' := [(.pl (.agg (Journal.cells a1)))]) (v' := (.tup [(.bp 4 0), (.pl (.bool x11.1))])) (B := [none, none, none, none]) (B' := [none, none, none, none, some (.box [(.mp 5), (.pl (.int .i64 x11.2.1)), (.pl (.int .i64 x11.2.2.1))]), some (.map (x11.2.2.2.map (mkv (pAgg Account_.cells) (pInt .i64))))]) 4 [] (f47r1_ok a1 h12) (by kernel_rfl) (by kernel_rfl) (by kernel_rfl) (by kernel_rfl) (by kernel_rfl) (by kernel_rfl)) an)) ?_
  obtain ⟨o50, h51, h⟩ := bind_cases h
  cases o50 with
  | norm v52 =>
    refine T.oneN (by kernel_rfl) (f30n1_ok a2 x11 a1 a3 x7 h51) (st2 := (f30n1E a2 x11 a1 a3 x7 (.norm v52)).2) rfl ?_
    rcases cond_cases h with ⟨h54, h⟩ | ⟨h54, h⟩
    · obtain ⟨x58, h59, h⟩ := bind_cases h
      obtain ⟨h60, h⟩ := req_cases h
      obtain rfl := some_inj h
      exact run_end cfg_ok (rs := [([], [], []), ([], [(2, .call (.own 7) [none, none, none, none, none, none, none, some (.row false 3 (x58.map JournalRecord.cells))]), (5, .fits)], [(5, .row 5 ((x58 ++ [(JournalRecord.mk a2 a3 x7)]).map JournalRecord.cells))])]) (ps := [some false]) (tds := []) (m := [1, 5]) (keep := [8, 9]) (r := (.ret, (f30n0E a1 a2 a3 a4 (.ret 0 (x58 ++ [(JournalRecord.mk a2 a3 x7)]))).2)) (by kernel_rfl) (ap (not_t h54) (ap (fit_map (te := ti47) (xs := x58) (n := 1) (c := JournalRecord.cells) h60 rfl) (ap (app_cv (xs := x58) (ys := [(JournalRecord.mk a2 a3 x7)]) (c := JournalRecord.cells)) (ap (CallS.ren (args' := [(.pl (.sl .any 3 (a1.Records.map JournalRecord.cells)))]) (v' := (.own 7)) (B := [none, none, none, none, none, none, none]) (B' := [none, none, none, none, none, none, none, some (.row false 3 (x58.map JournalRecord.cells))]) 7 [] (f51r1_ok a1.Records h59) (by kernel_rfl) (by kernel_rfl) (by kernel_rfl) (by kernel_rfl) (by kernel_rfl) (by kernel_rfl)) an)))) rfl
    · obtain rfl := some_inj h
      exact runK_end cfg_ok (k := 1) (rs := [([], [], []), ([], [], [])]) (ps := [some true]) (tds := [.matC 1 0 3]) (m := [1, 4]) (keep := [8, 9]) (ex := .ret) (st' := (f30n0E a1 a2 a3 a4 (.ret v52 [])).2) (by kernel_rfl) (ap (not_f h54) an) (fun h => nomatch h) rfl
noncomputable def f30 (a1 : Journal) (a2 : Int) (a3 : ByteArray) (a4 : List JournalLine) : Option (Journal × Int) := (f30n0 a1 a2 a3 a4).bind fun o => match o with
  | .ret v61 v62 => some ((Journal.mk v62), v61)
theorem f30_ok (a1 : Journal) (a2 : Int) (a3 : ByteArray) (a4 : List JournalLine) {r : Journal × Int} (h : (f30 a1 a2 a3 a4) = some r) : CallS Try.prog false 30 [(.pl (.agg (Journal.cells a1))), (.pl (.int .i64 a2)), (.pl (.str a3)), (.pl (.sl .any 3 (a4.map JournalLine.cells)))] [] (.tup [(.pl (.agg (Journal.cells r.1))), (.pl (.int .i64 r.2))]) [] := by
  unfold f30 at h
  obtain ⟨o, ho, h⟩ := bind_cases h
  cases o with
  | ret v61 v62 =>
    obtain rfl := some_inj h
    exact CallS.plain cfg_ok (f := Try.f30) (c := c30) (by kernel_rfl) (by kernel_rfl) (by kernel_rfl) (by kernel_rfl) ((f30n0_ok a1 a2 a3 a4 ho).mono fun r e => by subst e; exact ⟨.inl rfl, (.tup [(.agg [(.own 1)]), (.pl (.int .i64 v61))]), (.tup [(.pl (.agg (Journal.cells (Journal.mk v62)))), (.pl (.int .i64 v61))]), by kernel_rfl, by kernel_rfl, ((Wk.refl _) : Wk (.tup [(.pl (.agg (Journal.cells (Journal.mk v62)))), (.pl (.int .i64 v61))]) (.tup [(.pl (.agg (Journal.cells (Journal.mk v62)))), (.pl (.int .i64 v61))]))⟩)
/-! ### novation/journal.Check -/
noncomputable def c28 : Code := Try.f28.body.getD .skip
inductive f28n0O where
  | ret (v8 : Int)
def f28n0E (a1 : Journal) : f28n0O → Ex × Tr × Hp
  | .ret v8 => (.ret, mkS [(2, (.pl (.int .i64 v8)))], [])
def f28n0S (a1 : Journal) : Tr × Hp := (initS [(.pl (.agg (Journal.cells a1)))] 0 .leaf, [])
noncomputable def f28n0 (a1 : Journal) : Option f28n0O :=
  (f47r1 a1).bind fun x5 =>
  bif x5.1 then
    some (.ret 0)
  else
    some (.ret 8)
theorem f28n0_ok (a1 : Journal) {o : f28n0O} (h : (f28n0 a1) = some o) : T Try.prog Try.f28.ntmps 0 c28 (f28n0S a1) (fun r => r = f28n0E a1 o) := by
  unfold f28n0 at h
  obtain ⟨x5, h6, h⟩ := bind_cases h
  rcases cond_cases h with ⟨h7, h⟩ | ⟨h7, h⟩
  · obtain rfl := some_inj h
    exact run_end cfg_ok (rs := [([], [], []), ([], [(1, .call (.tup [(.bp 1 0), (.pl (.bool x5.1))]) [none, some (.box [(.mp 2), (.pl (.int .i64 x5.2.1)), (.pl (.int .i64 x5.2.2.1))]), some (.map (x5.2.2.2.map (mkv (pAgg Account_.cells) (pInt .i64))))])], []), ([], [], []), ([], [], [])]) (ps := [some false]) (tds := []) (m := []) (keep := [2]) (r := (.ret, (f28n0E a1 (.ret 0)).2)) (by kernel_rfl) (ap (CallS.ren (args' := [(.pl (.agg (Journal.cells a1)))]) (v' := (.tup [(.bp 1 0), (.pl (.bool x5.1))])) (B := [none]) (B' := [none, some (.box [(.mp 2), (.pl (.int .i64 x5.2.1)), (.pl (.int .i64 x5.2.2.1))]), some (.map (x5.2.2.2.map (mkv (pAgg Account_.cells) (pInt .i64))))]) 1 [] (f47r1_ok a1 h6) (by kernel_rfl) (by kernel_rfl) (by kernel_rfl) (by kernel_rfl) (by kernel_rfl) (by kernel_rfl)) (ap (not_t h7) an)) rfl
  · obtain rfl := some_inj h
    exact runK_end cfg_ok (k := 2) (rs := [([], [], []), ([], [(1, .call (.tup [(.bp 1 0), (.pl (.bool x5.1))]) [none, some (.box [(.mp 2), (.pl (.int .i64 x5.2.1)), (.pl (.int .i64 x5.2.2.1))]), some (.map (x5.2.2.2.map (mkv (pAgg Account_.cells) (pInt .i64))))])], []), ([], [], []), ([], [], [])]) (ps := [some true]) (tds := []) (m := []) (keep := [2]) (ex := .ret) (st' := (f28n0E a1 (.ret 8)).2) (by kernel_rfl) (ap (CallS.ren (args' := [(.pl (.agg (Journal.cells a1)))]) (v' := (.tup [(.bp 1 0), (.pl (.bool x5.1))])) (B := [none]) (B' := [none, some (.box [(.mp 2), (.pl (.int .i64 x5.2.1)), (.pl (.int .i64 x5.2.2.1))]), some (.map (x5.2.2.2.map (mkv (pAgg Account_.cells) (pInt .i64))))]) 1 [] (f47r1_ok a1 h6) (by kernel_rfl) (by kernel_rfl) (by kernel_rfl) (by kernel_rfl) (by kernel_rfl) (by kernel_rfl)) (ap (not_f h7) an)) (fun h => nomatch h) rfl
noncomputable def f28 (a1 : Journal) : Option Int := (f28n0 a1).bind fun o => match o with
  | .ret v8 => some v8
theorem f28_ok (a1 : Journal) {r : Int} (h : (f28 a1) = some r) : CallS Try.prog false 28 [(.pl (.agg (Journal.cells a1)))] [] (.pl (.int .i64 r)) [] := by
  unfold f28 at h
  obtain ⟨o, ho, h⟩ := bind_cases h
  cases o with
  | ret v8 =>
    obtain rfl := some_inj h
    exact CallS.plain cfg_ok (f := Try.f28) (c := c28) (by kernel_rfl) (by kernel_rfl) (by kernel_rfl) (by kernel_rfl) ((f28n0_ok a1 ho).mono fun r e => by subst e; exact ⟨.inl rfl, (.pl (.int .i64 v8)), (.pl (.int .i64 v8)), by kernel_rfl, by kernel_rfl, ((Wk.refl _) : Wk (.pl (.int .i64 v8)) (.pl (.int .i64 v8)))⟩)
end Go.Proofs.Ytbgjlpdeoljmiaa
