/- Functions of the program, plainly, and that the machine computes them. No condition. -/
import Derived.Test.YtbgjlpdeoljmiaaX6
namespace Go.Proofs.Ytbgjlpdeoljmiaa
set_option linter.unusedVariables false
set_option linter.unusedSimpArgs false
set_option maxRecDepth 100000
open Go.RowKit
/-! ### novation/novationref38.Same -/
noncomputable def c19 : Code := Try.f19.body.getD .skip
inductive f19n2O where
  | exit0
  | ret
def f19n2E (ba1 : Journal) (ba2 : Journal) : f19n2O → Ex × Tr × Hp
  | .exit0 => ((.exit 0), mkS [], [])
  | .ret => (.ret, mkS [(4, (.pl (.bool false)))], [])
def f19n2S (ba1 : Journal) (ba2 : Journal) (v38 : Int) : Tr × Hp := (mkS [(2, (.bp 0 0)), (3, (.bp 1 0)), (5, (.pl (.int .i64 v38)))], [some (.box ((Journal.cells ba1).map .pl)), some (.box ((Journal.cells ba2).map .pl))])
noncomputable def f19n2 : Nat → Journal → Journal → Int → Option f19n2O
  | 0, _, _, _ => none
  | f + 1, ba1, ba2, v38 =>
    bif (decide (v38 < (ba1.Records.length : Int))) then
      (at? ba1.Records v38).bind fun x48 =>
      (at? ba2.Records v38).bind fun x50 =>
      (f27 x48 x50).bind fun x52 =>
      bif x52 then
        (f19n2 f ba1 ba2 (wr64 (v38 + 1)))
      else
        some .ret
    else
      some .exit0
theorem f19n2_ok : ∀ (f : Nat) (ba1 : Journal) (ba2 : Journal) (v38 : Int) {o : f19n2O}, (f19n2 f ba1 ba2 v38) = some o → TL Try.prog Try.f19.ntmps 0 f (cL (cL (dropC 1 (cL (dropC 2 c19))))) (f19n2S ba1 ba2 v38) (fun r => r = f19n2E ba1 ba2 o)
  | 0, _, _, _, o, h => by rw [f19n2] at h; cases h
  | f + 1, ba1, ba2, v38, o, h => by
    rw [f19n2] at h
    refine TL.body (K := fun s => ∃ v38 : Int, s = (f19n2S ba1 ba2 v38) ∧ (f19n2 f ba1 ba2 v38) = some o) ?_ (by rintro _ ⟨v38, rfl, hk⟩; exact f19n2_ok f _ _ _ hk)
    rcases cond_cases h with ⟨h40, h⟩ | ⟨h40, h⟩
    · obtain ⟨x48, h49, h⟩ := bind_cases h
      obtain ⟨x50, h51, h⟩ := bind_cases h
      obtain ⟨x52, h53, h⟩ := bind_cases h
      rcases cond_cases h with ⟨h54, h⟩ | ⟨h54, h⟩
      · exact run_end cfg_ok (rs := [([], [], [(3, .val (.pl (.int .i64 (ba1.Records.length : Int))))]), ([], [(3, .idx (Int.toNat v38) (JournalRecord.cells x48)), (8, .idx (Int.toNat v38) (JournalRecord.cells x50)), (10, .call (.pl (.bool x52)) [])], []), ([], [], [])]) (ps := [some true, some false]) (tds := []) (m := [0, 1]) (keep := [2, 3, 5]) (r := (.norm, (f19n2S ba1 ba2 (wr64 (v38 + 1))))) (by kernel_rfl) (ap (len_cv (xs := ba1.Records) (c := JournalRecord.cells)) (ap h40 (ap (at_some h49).1 (ap (at_map JournalRecord.cells (at_some h49).2) (ap (at_some h51).1 (ap (at_map JournalRecord.cells (at_some h51).2) (ap (f27_ok x48 x50 h53) (ap (not_t h54) an)))))))) (LoopQ.norm ⟨(wr64 (v38 + 1)), rfl, h⟩)
      · obtain rfl := some_inj h
        exact runK_end cfg_ok (k := 2) (rs := [([], [], [(3, .val (.pl (.int .i64 (ba1.Records.length : Int))))]), ([], [(3, .idx (Int.toNat v38) (JournalRecord.cells x48)), (8, .idx (Int.toNat v38) (JournalRecord.cells x50)), (10, .call (.pl (.bool x52)) [])], []), ([], [], [])]) (ps := [some true, some true]) (tds := []) (m := []) (keep := [4]) (ex := .ret) (st' := (f19n2E ba1 ba2 .ret).2) (by kernel_rfl) (ap (len_cv (xs := ba1.Records) (c := JournalRecord.cells)) (ap h40 (ap (at_some h49).1 (ap (at_map JournalRecord.cells (at_some h49).2) (ap (at_some h51).1 (ap (at_map JournalRecord.cells (at_some h51).2) (ap (f27_ok x48 x50 h53) (ap (not_f h54) an)))))))) (fun h => nomatch h) (LoopQ.out rfl rfl)
    · obtain rfl := some_inj h
      exact runK_end cfg_ok (k := 1) (rs := [([], [], [(3, .val (.pl (.int .i64 (ba1.Records.length : Int))))])]) (ps := [some false]) (tds := []) (m := []) (keep := []) (ex := (.exit 0)) (st' := (f19n2E ba1 ba2 .exit0).2) (by kernel_rfl) (ap (len_cv (xs := ba1.Records) (c := JournalRecord.cells)) (ap h40 an)) (fun h => nomatch h) (LoopQ.out rfl rfl)
noncomputable def f19n2L (ba1 : Journal) (ba2 : Journal) : List JournalRecord → Int → Option f19n2O
  | [], v38 =>
    some .exit0
  | x0 :: rest, v38 =>
    (at? ba2.Records v38).bind fun x50 =>
    (f27 x0 x50).bind fun x52 =>
    bif x52 then
      (f19n2L ba1 ba2 rest (v38 + 1))
    else
      some .ret
theorem f19n2L_eq (ba1 : Journal) (ba2 : Journal) : ∀ (rest : List JournalRecord) (f k : Nat), ba1.Records.drop k = rest → ba1.Records.length ≤ maxLen → rest.length < f → f19n2 f ba1 ba2 (k : Int) = f19n2L ba1 ba2 rest (k : Int)
  | _, 0, _, _, _, hf => absurd hf (Nat.not_lt_zero _)
  | [], f + 1, k, hd, hm, hf => by
    have hk : ¬ ((k : Int) < (ba1.Records.length : Int)) := by have := drop_nil hd; omega
    rw [f19n2, f19n2L]
    simp only [decide_eq_false hk, cond_false]
  | x0 :: rest, f + 1, k, hd, hm, hf => by
    obtain ⟨hx, hlt, hd'⟩ := drop_cons hd
    have hk : (k : Int) < (ba1.Records.length : Int) := by omega
    have hw : wr64 ((k : Int) + 1) = (k : Int) + 1 := wr64_of (by omega) (by unfold maxLen at hm; omega)
    have ih : f19n2 f ba1 ba2 ((k : Int) + 1) = f19n2L ba1 ba2 rest ((k : Int) + 1) := f19n2L_eq ba1 ba2 rest f (k + 1) hd' hm (by simpa using hf)
    rw [f19n2, f19n2L]
    simp only [decide_eq_true hk, cond_true, at_nat, hx, Option.bind_some, hw, ih]
theorem f19n2_run (ba1 : Journal) (ba2 : Journal) (hm : ba1.Records.length ≤ maxLen) : f19n2 FUEL ba1 ba2 0 = f19n2L ba1 ba2 ba1.Records 0 := f19n2L_eq ba1 ba2 ba1.Records FUEL 0 List.drop_zero hm (lt_FUEL hm)
inductive f19n1O where
  | norm
  | ret
def f19n1E (ba1 : Journal) (ba2 : Journal) : f19n1O → Ex × Tr × Hp
  | .norm => (.norm, mkS [], [])
  | .ret => (.ret, mkS [(4, (.pl (.bool false)))], [])
def f19n1S (ba1 : Journal) (ba2 : Journal) : Tr × Hp := (mkS [(2, (.bp 0 0)), (3, (.bp 1 0))], [some (.box ((Journal.cells ba1).map .pl)), some (.box ((Journal.cells ba2).map .pl))])
noncomputable def f19n1 (ba1 : Journal) (ba2 : Journal) : Option f19n1O :=
  (f19n2 FUEL ba1 ba2 0).bind fun o55 => match o55 with
  | .exit0 => some .norm
  | .ret => some .ret
theorem f19n1_ok (ba1 : Journal) (ba2 : Journal) {o : f19n1O} (h : (f19n1 ba1 ba2) = some o) : T Try.prog Try.f19.ntmps 0 (cL (dropC 2 c19)) (f19n1S ba1 ba2) (fun r => r = f19n1E ba1 ba2 o) := by
  unfold f19n1 at h
  refine runK_norm cfg_ok (k := 1) (rs := [([], [], [])]) (ps := []) (tds := []) (m := [0, 1]) (keep := [2, 3, 5]) (st' := (f19n2S ba1 ba2 0)) (by kernel_rfl) an ?_
  obtain ⟨o55, h56, h⟩ := bind_cases h
  cases o55 with
  | exit0 =>
    obtain rfl := some_inj h
    exact T.last' (T.bl (i := 0) (by kernel_rfl) (by kernel_rfl) (f19n2_ok FUEL ba1 ba2 0 h56)) (tds := []) (m := []) (keep := []) (st2 := (f19n1E ba1 ba2 .norm).2) (by kernel_rfl) an rfl
  | ret =>
    obtain rfl := some_inj h
    exact T.last' (T.bl (i := 0) (by kernel_rfl) (by kernel_rfl) (f19n2_ok FUEL ba1 ba2 0 h56)) (tds := []) (m := []) (keep := [4]) (st2 := (f19n1E ba1 ba2 .ret).2) (by kernel_rfl) an rfl
inductive f19n0O where
  | ret (v59 : Bool)
def f19n0E (a1 : Journal) (a2 : Journal) : f19n0O → Ex × Tr × Hp
  | .ret v59 => (.ret, mkS [(4, (.pl (.bool v59)))], [])
def f19n0S (a1 : Journal) (a2 : Journal) : Tr × Hp := (initS [(.pl (.agg (Journal.cells a1))), (.pl (.agg (Journal.cells a2)))] 0 .leaf, [])
noncomputable def f19n0 (a1 : Journal) (a2 : Journal) : Option f19n0O :=
  bif (decide ((a1.Records.length : Int) = (a2.Records.length : Int))) then
    (f19n1 a1 a2).bind fun o57 => match o57 with
    | .norm => some (.ret true)
    | .ret => some (.ret false)
  else
    some (.ret false)
theorem f19n0_ok (a1 : Journal) (a2 : Journal) {o : f19n0O} (h : (f19n0 a1 a2) = some o) : T Try.prog Try.f19.ntmps 0 c19 (f19n0S a1 a2) (fun r => r = f19n0E a1 a2 o) := by
  unfold f19n0 at h
  rcases cond_cases h with ⟨h4, h⟩ | ⟨h4, h⟩
  · refine runK_norm cfg_ok (k := 2) (rs := [([], [], []), ([], [], [(2, .val (.pl (.int .i64 (a1.Records.length : Int)))), (5, .val (.pl (.int .i64 (a2.Records.length : Int))))])]) (ps := [some false]) (tds := []) (m := [0, 1]) (keep := [2, 3]) (st' := (f19n1S a1 a2)) (by kernel_rfl) (ap (len_cv (xs := a1.Records) (c := JournalRecord.cells)) (ap (len_cv (xs := a2.Records) (c := JournalRecord.cells)) (ap (not_t h4) an))) ?_
    obtain ⟨o57, h58, h⟩ := bind_cases h
    cases o57 with
    | norm =>
      refine T.oneN (by kernel_rfl) (f19n1_ok a1 a2 h58) (st2 := (f19n1E a1 a2 .norm).2) rfl ?_
      obtain rfl := some_inj h
      exact run_end cfg_ok (rs := [([], [], [])]) (ps := []) (tds := []) (m := []) (keep := [4]) (r := (.ret, (f19n0E a1 a2 (.ret true)).2)) (by kernel_rfl) an rfl
    | ret =>
      obtain rfl := some_inj h
      exact T.oneX' (by kernel_rfl) (f19n1_ok a1 a2 h58) (tds := []) (m := []) (keep := [4]) (st2 := (f19n0E a1 a2 (.ret false)).2) (by kernel_rfl) an rfl rfl
  · obtain rfl := some_inj h
    exact runK_end cfg_ok (k := 2) (rs := [([], [], []), ([], [], [(2, .val (.pl (.int .i64 (a1.Records.length : Int)))), (5, .val (.pl (.int .i64 (a2.Records.length : Int))))]), ([], [], [])]) (ps := [some true]) (tds := []) (m := []) (keep := [4]) (ex := .ret) (st' := (f19n0E a1 a2 (.ret false)).2) (by kernel_rfl) (ap (len_cv (xs := a1.Records) (c := JournalRecord.cells)) (ap (len_cv (xs := a2.Records) (c := JournalRecord.cells)) (ap (not_f h4) an))) (fun h => nomatch h) rfl
noncomputable def f19 (a1 : Journal) (a2 : Journal) : Option Bool := (f19n0 a1 a2).bind fun o => match o with
  | .ret v59 => some v59
theorem f19_ok (a1 : Journal) (a2 : Journal) {r : Bool} (h : (f19 a1 a2) = some r) : CallS Try.prog false 19 [(.pl (.agg (Journal.cells a1))), (.pl (.agg (Journal.cells a2)))] [] (.pl (.bool r)) [] := by
  unfold f19 at h
  obtain ⟨o, ho, h⟩ := bind_cases h
  cases o with
  | ret v59 =>
    obtain rfl := some_inj h
    exact CallS.plain cfg_ok (f := Try.f19) (c := c19) (by kernel_rfl) (by kernel_rfl) (by kernel_rfl) (by kernel_rfl) ((f19n0_ok a1 a2 ho).mono fun r e => by subst e; exact ⟨.inl rfl, (.pl (.bool v59)), (.pl (.bool v59)), by kernel_rfl, by kernel_rfl, ((Wk.refl _) : Wk (.pl (.bool v59)) (.pl (.bool v59)))⟩)
/-! ### novation/novationlaw38.alive -/
noncomputable def c11 : Code := Try.f11.body.getD .skip
inductive f11n2O where
  | exit0 (v51 : Int)
def f11n2E (bk1 : (List Int) × Int) (bl2 : Journal × Int) : f11n2O → Ex × Tr × Hp
  | .exit0 v51 => ((.exit 0), mkS [(1, (.bp 0 0)), (3, (.pl (.sl .any 1 (bk1.1.map (cInt .u8))))), (5, (.pl (.int .u64 v51)))], [some (.box ((Journal.cells bl2.1).map .pl))])
def f11n2S (bk1 : (List Int) × Int) (bl2 : Journal × Int) (v47 : Int) (v48 : Int) : Tr × Hp := (mkS [(1, (.bp 0 0)), (3, (.pl (.sl .any 1 (bk1.1.map (cInt .u8))))), (5, (.pl (.int .u64 v47))), (6, (.pl (.int .i64 v48)))], [some (.box ((Journal.cells bl2.1).map .pl))])
noncomputable def f11n2 : Nat → (List Int) × Int → Journal × Int → Int → Int → Option f11n2O
  | 0, _, _, _, _ => none
  | f + 1, bk1, bl2, v47, v48 =>
    bif (decide (v48 < 8)) then
      (f11n2 f bk1 bl2 (wru64 (v47 * 1099511628211)) (wr64 (v48 + 1)))
    else
      some (.exit0 v47)
theorem f11n2_ok : ∀ (f : Nat) (bk1 : (List Int) × Int) (bl2 : Journal × Int) (v47 : Int) (v48 : Int) {o : f11n2O}, (f11n2 f bk1 bl2 v47 v48) = some o → TL Try.prog Try.f11.ntmps 0 f (cL (cL (dropC 1 (cL (dropC 5 c11))))) (f11n2S bk1 bl2 v47 v48) (fun r => r = f11n2E bk1 bl2 o)
  | 0, _, _, _, _, o, h => by rw [f11n2] at h; cases h
  | f + 1, bk1, bl2, v47, v48, o, h => by
    rw [f11n2] at h
    refine TL.body (K := fun s => ∃ v47 : Int, ∃ v48 : Int, s = (f11n2S bk1 bl2 v47 v48) ∧ (f11n2 f bk1 bl2 v47 v48) = some o) ?_ (by rintro _ ⟨v47, v48, rfl, hk⟩; exact f11n2_ok f _ _ _ _ hk)
    rcases cond_cases h with ⟨h50, h⟩ | ⟨h50, h⟩
    · exact run_end cfg_ok (rs := [([], [], []), ([], [], []), ([], [], [])]) (ps := [some true]) (tds := []) (m := [0]) (keep := [1, 3, 5, 6]) (r := (.norm, (f11n2S bk1 bl2 (wru64 (v47 * 1099511628211)) (wr64 (v48 + 1))))) (by kernel_rfl) (ap h50 an) (LoopQ.norm ⟨(wru64 (v47 * 1099511628211)), (wr64 (v48 + 1)), rfl, h⟩)
    · obtain rfl := some_inj h
      exact runK_end cfg_ok (k := 1) (rs := [([], [], [])]) (ps := [some false]) (tds := []) (m := [0]) (keep := [1, 3, 5]) (ex := (.exit 0)) (st' := (f11n2E bk1 bl2 (.exit0 v47)).2) (by kernel_rfl) (ap h50 an) (fun h => nomatch h) (LoopQ.out rfl rfl)
inductive f11n1O where
  | norm (v55 : Int)
def f11n1E (bk1 : (List Int) × Int) (bl2 : Journal × Int) : f11n1O → Ex × Tr × Hp
  | .norm v55 => (.norm, mkS [(1, (.bp 0 0)), (3, (.pl (.sl .any 1 (bk1.1.map (cInt .u8))))), (5, (.pl (.int .u64 v55)))], [some (.box ((Journal.cells bl2.1).map .pl))])
def f11n1S (bk1 : (List Int) × Int) (bl2 : Journal × Int) : Tr × Hp := (mkS [(1, (.bp 0 0)), (3, (.pl (.sl .any 1 (bk1.1.map (cInt .u8))))), (5, (.pl (.int .u64 14695981039346656037)))], [some (.box ((Journal.cells bl2.1).map .pl))])
noncomputable def f11n1 (bk1 : (List Int) × Int) (bl2 : Journal × Int) : Option f11n1O :=
  (f11n2 FUEL bk1 bl2 14695981039346656037 0).bind fun o52 => match o52 with
  | .exit0 v54 => some (.norm v54)
theorem f11n1_ok (bk1 : (List Int) × Int) (bl2 : Journal × Int) {o : f11n1O} (h : (f11n1 bk1 bl2) = some o) : T Try.prog Try.f11.ntmps 0 (cL (dropC 5 c11)) (f11n1S bk1 bl2) (fun r => r = f11n1E bk1 bl2 o) := by
  unfold f11n1 at h
  refine runK_norm cfg_ok (k := 1) (rs := [([], [], [])]) (ps := []) (tds := []) (m := [0]) (keep := [1, 3, 5, 6]) (st' := (f11n2S bk1 bl2 14695981039346656037 0)) (by kernel_rfl) an ?_
  obtain ⟨o52, h53, h⟩ := bind_cases h
  cases o52 with
  | exit0 v54 =>
    obtain rfl := some_inj h
    exact T.last' (T.bl (i := 0) (by kernel_rfl) (by kernel_rfl) (f11n2_ok FUEL bk1 bl2 14695981039346656037 0 h53)) (tds := []) (m := [0]) (keep := [1, 3, 5]) (st2 := (f11n1E bk1 bl2 (.norm v54)).2) (by kernel_rfl) an rfl
inductive f11n0O where
  | ret (v83 : Bool)
def f11n0E : f11n0O → Ex × Tr × Hp
  | .ret v83 => (.ret, mkS [(0, (.pl (.bool v83)))], [])
def f11n0S : Tr × Hp := (initS [] 0 .leaf, [])
noncomputable def f11n0 : Option f11n0O :=
  f36.bind fun x7 =>
  (f37r1 5).bind fun x9 =>
  (f30 x7 1 str_x78 [(JournalLine.mk str_a str_EUR 5), (JournalLine.mk str_b str_EUR (wr64 (0 - 5)))]).bind fun x11 =>
  (f13 x11.1).bind fun x15 =>
  bif (decide (x11.2 = 0)) then
    bif (decide (x15.2 = 0)) then
      bif (decide ((x15.1.length : Int) = 51)) then
        req (cutB 0 4 x15.1.length) <|
        (f18 ((x15.1.take (Int.toNat 4)).drop 0) [39, 0, 0, 0]).bind fun x34 =>
        bif x34 then
          req (cutB 4 43 x15.1.length) <|
          f38r1.bind fun x38 =>
          (f18 ((x15.1.take (Int.toNat 43)).drop (Int.toNat 4)) [1, 0, 0, 0, 1, 0, 0, 0, 1, 120, 2, 1, 97, 3, 69, 85, 82, 5, 0, 0, 0, 0, 0, 0, 0, 1, 98, 3, 69, 85, 82, 251, 255, 255, 255, 255, 255, 255, 255]).bind fun x40 =>
          bif x40 then
            (f11n1 x15 x11).bind fun o56 => match o56 with
            | .norm v58 => (f16 x15.1).bind fun x61 =>
              (f25 x11.1 str_b str_EUR).bind fun x65 =>
              (f20 0 []).bind fun x75 =>
              bif (decide (x75 = v58)) then
                (f19 x11.1 x61.1).bind fun x78 =>
                bif x78 then
                  bif (decide (x61.2 = 51)) then
                    bif (decide (x65.2 = 0)) then
                      some (.ret (decide (x65.1 = (-5))))
                    else
                      some (.ret false)
                  else
                    some (.ret false)
                else
                  some (.ret false)
              else
                some (.ret false)
          else
            some (.ret false)
        else
          some (.ret false)
      else
        some (.ret false)
    else
      some (.ret false)
  else
    some (.ret false)
theorem f11n0_ok {o : f11n0O} (h : f11n0 = some o) : T Try.prog Try.f11.ntmps 0 c11 f11n0S (fun r => r = f11n0E o) := by
  unfold f11n0 at h
  obtain ⟨x7, h8, h⟩ := bind_cases h
  obtain ⟨x9, h10, h⟩ := bind_cases h
  obtain ⟨x11, h12, h⟩ := bind_cases h
  obtain ⟨x15, h16, h⟩ := bind_cases h
  rcases cond_cases h with ⟨h30, h⟩ | ⟨h30, h⟩
  · rcases cond_cases h with ⟨h31, h⟩ | ⟨h31, h⟩
    · rcases cond_cases h with ⟨h32, h⟩ | ⟨h32, h⟩
      · obtain ⟨h33, h⟩ := req_cases h
        obtain ⟨x34, h35, h⟩ := bind_cases h
        rcases cond_cases h with ⟨h36, h⟩ | ⟨h36, h⟩
        · obtain ⟨h37, h⟩ := req_cases h
          obtain ⟨x38, h39, h⟩ := bind_cases h
          obtain ⟨x40, h41, h⟩ := bind_cases h
          rcases cond_cases h with ⟨h42, h⟩ | ⟨h42, h⟩
          · refine runK_norm cfg_ok (k := 5) (rs := [([], [], []), ([], [(0, .call (.pl (.agg (Journal.cells x7))) []), (1, .call (.own 0) [some (.row false 3 ([(JournalLine.mk str_a str_EUR 5), (JournalLine.mk str_b str_EUR (wr64 (0 - 5)))].map JournalLine.cells))]), (2, .call (.tup [(.pl (.agg (Journal.cells x11.1))), (.pl (.int .i64 x11.2))]) [])], []), ([], [(1, .call (.tup [(.pl (.sl .any 1 (x15.1.map (cInt .u8)))), (.pl (.int .i64 x15.2))]) [])], []), ([(3, false), (4, false), (7, false), (8, false), (9, false), (12, false), (13, false), (14, false), (15, false), (16, false), (19, false), (20, false), (21, false), (22, false), (23, false)], [(5, .bool false), (10, .bool false), (13, .cut 0 (Int.toNat 4)), (15, .call (.pl (.bool x34)) []), (17, .bool false), (20, .cut (Int.toNat 4) (Int.toNat 43)), (21, .call (.own 4) [none, none, none, none, some (.row false 1 ([1, 0, 0, 0, 1, 0, 0, 0, 1, 120, 2, 1, 97, 3, 69, 85, 82, 5, 0, 0, 0, 0, 0, 0, 0, 1, 98, 3, 69, 85, 82, 251, 255, 255, 255, 255, 255, 255, 255].map (cInt .u8)))]), (22, .call (.pl (.bool x40)) []), (24, .bool false)], [(8, .val (.pl (.int .i64 (x15.1.length : Int)))), (13, .val (.pl (.sl .any 1 (((x15.1.take (Int.toNat 4)).drop 0).map (cInt .u8))))), (20, .val (.pl (.sl .any 1 (((x15.1.take (Int.toNat 43)).drop (Int.toNat 4)).map (cInt .u8)))))]), ([], [], [])]) (ps := [some false]) (tds := []) (m := [1]) (keep := [1, 3, 5]) (st' := (f11n1S x15 x11)) (by kernel_rfl) (ap (f36_ok h8) (ap (f37r1_ok 5 h10) (ap (f30_ok x7 1 str_x78 [(JournalLine.mk str_a str_EUR 5), (JournalLine.mk str_b str_EUR (wr64 (0 - 5)))] h12) (ap (f13_ok x11.1 h16) (ap (not_t h30) (ap (not_t h30) (ap (not_t h30) (ap (not_t h31) (ap (not_t h31) (ap (len_cv (xs := x15.1) (c := (cInt .u8))) (ap (not_t h31) (ap (not_t h31) (ap (not_t h32) (ap (not_t h32) (ap (cut_hn_1_map (c := (cInt .u8)) h33) (ap (cut_hn_2 h33) (ap (cut_hn_3 h33) (ap (cut_hn_4_map (c := (cInt .u8)) h33) (ap (congrArg (fun l => AV.pl (.sl .any 1 l)) (cut_cv (xs := x15.1) (c := (cInt .u8)) (n := (Int.toNat 4)) (m := 0))) (ap (not_t h32) (ap (not_t h32) (ap (not_t h32) (ap (not_t h32) (ap (not_t h36) (ap (not_t h36) (ap (cut_hl_1_map (c := (cInt .u8)) h37) (ap (cut_hl_2 h37) (ap (cut_hl_3 h37) (ap (cut_hl_4_map (c := (cInt .u8)) h37) (ap (congrArg (fun l => AV.pl (.sl .any 1 l)) (cut_cv (xs := x15.1) (c := (cInt .u8)) (n := (Int.toNat 43)) (m := (Int.toNat 4)))) (ap (not_t h36) (ap (not_t h36) (ap (not_t h36) (ap (not_t h36) (ap (same_len (e := ⟨false, 18, [(.pl (.sl .any 1 (((x15.1.take (Int.toNat 4)).drop 0).map (cInt .u8)))), (.pl (.sl .any 1 ([39, 0, 0, 0].map (cInt .u8))))], [], (.pl (.bool x34)), []⟩) (f := ⟨false, 18, [(.pl (.sl .any 1 (((x15.1.take (Int.toNat 43)).drop (Int.toNat 4)).map (cInt .u8)))), (.pl (.sl .any 1 ([1, 0, 0, 0, 1, 0, 0, 0, 1, 120, 2, 1, 97, 3, 69, 85, 82, 5, 0, 0, 0, 0, 0, 0, 0, 1, 98, 3, 69, 85, 82, 251, 255, 255, 255, 255, 255, 255, 255].map (cInt .u8))))], [], (.pl (.bool x40)), []⟩) 1 (by kernel_rfl)) (ap (f18_ok ((x15.1.take (Int.toNat 4)).drop 0) [39, 0, 0, 0] h35) (ap (CallS.ren (args' := []) (v' := (.own 4)) (B := [none, none, none, none]) (B' := [none, none, none, none, some (.row false 1 ([1, 0, 0, 0, 1, 0, 0, 0, 1, 120, 2, 1, 97, 3, 69, 85, 82, 5, 0, 0, 0, 0, 0, 0, 0, 1, 98, 3, 69, 85, 82, 251, 255, 255, 255, 255, 255, 255, 255].map (cInt .u8)))]) 4 [] (f38r1_ok h39) (by kernel_rfl) (by kernel_rfl) (by kernel_rfl) (by kernel_rfl) (by kernel_rfl) (by kernel_rfl)) (ap (f18_ok ((x15.1.take (Int.toNat 43)).drop (Int.toNat 4)) [1, 0, 0, 0, 1, 0, 0, 0, 1, 120, 2, 1, 97, 3, 69, 85, 82, 5, 0, 0, 0, 0, 0, 0, 0, 1, 98, 3, 69, 85, 82, 251, 255, 255, 255, 255, 255, 255, 255] h41) (ap (not_t h42) an))))))))))))))))))))))))))))))))))))))) ?_
            obtain ⟨o56, h57, h⟩ := bind_cases h
            cases o56 with
            | norm v58 =>
              refine T.oneN (by kernel_rfl) (f11n1_ok x15 x11 h57) (st2 := (f11n1E x15 x11 (.norm v58)).2) rfl ?_
              obtain ⟨x61, h62, h⟩ := bind_cases h
              obtain ⟨x65, h66, h⟩ := bind_cases h
              obtain ⟨x75, h76, h⟩ := bind_cases h
              rcases cond_cases h with ⟨h77, h⟩ | ⟨h77, h⟩
              · obtain ⟨x78, h79, h⟩ := bind_cases h
                rcases cond_cases h with ⟨h80, h⟩ | ⟨h80, h⟩
                · rcases cond_cases h with ⟨h81, h⟩ | ⟨h81, h⟩
                  · rcases cond_cases h with ⟨h82, h⟩ | ⟨h82, h⟩
                    · obtain rfl := some_inj h
                      exact run_end cfg_ok (rs := [([], [(1, .call (.tup [(.pl (.agg (Journal.cells x61.1))), (.pl (.int .i64 x61.2))]) [])], []), ([], [(1, .call (.tup [(.pl (.int .i64 x65.1)), (.pl (.int .i64 x65.2))]) [])], []), ([(4, true), (5, true), (6, true), (9, true), (10, true), (13, true), (14, true), (17, true), (18, true)], [(0, .call (.pl (.int .u64 x75)) []), (6, .call (.pl (.bool x78)) []), (7, .bool true), (11, .bool true), (15, .bool true), (19, .bool true)], [])]) (ps := []) (tds := []) (m := []) (keep := [0]) (r := (.ret, (f11n0E (.ret (decide (x65.1 = (-5))))).2)) (by kernel_rfl) (ap (f16_ok x15.1 h62) (ap (f25_ok x11.1 str_b str_EUR h66) (ap h77 (ap h77 (ap h77 (ap h77 (ap h80 (ap h80 (ap h80 (ap h81 (ap h81 (ap h81 (ap h82 (ap h82 (ap h82 (ap (CallS.wk (args' := [(.pl (.int .u64 0)), (.pl (.sl .nil 0 []))]) (f20_ok 0 [] h76) (wlc (Wk.refl _) (wlc (Wk.pl (WkP.nil (f := .nil) (sz := 0) (sz' := 1))) wln)) (Wk.refl _) rfl) (ap (f19_ok x11.1 x61.1 h79) an))))))))))))))))) rfl
                    · obtain rfl := some_inj h
                      exact run_end cfg_ok (rs := [([], [(1, .call (.tup [(.pl (.agg (Journal.cells x61.1))), (.pl (.int .i64 x61.2))]) [])], []), ([], [(1, .call (.tup [(.pl (.int .i64 x65.1)), (.pl (.int .i64 x65.2))]) [])], []), ([(4, true), (5, true), (6, true), (9, true), (10, true), (13, true), (14, true), (17, false), (18, false)], [(0, .call (.pl (.int .u64 x75)) []), (6, .call (.pl (.bool x78)) []), (7, .bool true), (11, .bool true), (15, .bool true), (19, .bool false)], [])]) (ps := []) (tds := []) (m := []) (keep := [0]) (r := (.ret, (f11n0E (.ret false)).2)) (by kernel_rfl) (ap (f16_ok x15.1 h62) (ap (f25_ok x11.1 str_b str_EUR h66) (ap h77 (ap h77 (ap h77 (ap h77 (ap h80 (ap h80 (ap h80 (ap h81 (ap h81 (ap h81 (ap h82 (ap h82 (ap h82 (ap (CallS.wk (args' := [(.pl (.int .u64 0)), (.pl (.sl .nil 0 []))]) (f20_ok 0 [] h76) (wlc (Wk.refl _) (wlc (Wk.pl (WkP.nil (f := .nil) (sz := 0) (sz' := 1))) wln)) (Wk.refl _) rfl) (ap (f19_ok x11.1 x61.1 h79) an))))))))))))))))) rfl
                  · obtain rfl := some_inj h
                    exact run_end cfg_ok (rs := [([], [(1, .call (.tup [(.pl (.agg (Journal.cells x61.1))), (.pl (.int .i64 x61.2))]) [])], []), ([], [(1, .call (.tup [(.pl (.int .i64 x65.1)), (.pl (.int .i64 x65.2))]) [])], []), ([(4, true), (5, true), (6, true), (9, true), (10, true), (13, false), (14, false)], [(0, .call (.pl (.int .u64 x75)) []), (6, .call (.pl (.bool x78)) []), (7, .bool true), (11, .bool true), (15, .bool false)], [])]) (ps := []) (tds := []) (m := []) (keep := [0]) (r := (.ret, (f11n0E (.ret false)).2)) (by kernel_rfl) (ap (f16_ok x15.1 h62) (ap (f25_ok x11.1 str_b str_EUR h66) (ap h77 (ap h77 (ap h77 (ap h77 (ap h80 (ap h80 (ap h80 (ap h81 (ap h81 (ap h81 (ap (CallS.wk (args' := [(.pl (.int .u64 0)), (.pl (.sl .nil 0 []))]) (f20_ok 0 [] h76) (wlc (Wk.refl _) (wlc (Wk.pl (WkP.nil (f := .nil) (sz := 0) (sz' := 1))) wln)) (Wk.refl _) rfl) (ap (f19_ok x11.1 x61.1 h79) an)))))))))))))) rfl
                · obtain rfl := some_inj h
                  exact run_end cfg_ok (rs := [([], [(1, .call (.tup [(.pl (.agg (Journal.cells x61.1))), (.pl (.int .i64 x61.2))]) [])], []), ([], [(1, .call (.tup [(.pl (.int .i64 x65.1)), (.pl (.int .i64 x65.2))]) [])], []), ([(4, true), (5, true), (6, true), (9, false), (10, false)], [(0, .call (.pl (.int .u64 x75)) []), (6, .call (.pl (.bool x78)) []), (7, .bool true), (11, .bool false)], [])]) (ps := []) (tds := []) (m := []) (keep := [0]) (r := (.ret, (f11n0E (.ret false)).2)) (by kernel_rfl) (ap (f16_ok x15.1 h62) (ap (f25_ok x11.1 str_b str_EUR h66) (ap h77 (ap h77 (ap h77 (ap h77 (ap h80 (ap h80 (ap h80 (ap (CallS.wk (args' := [(.pl (.int .u64 0)), (.pl (.sl .nil 0 []))]) (f20_ok 0 [] h76) (wlc (Wk.refl _) (wlc (Wk.pl (WkP.nil (f := .nil) (sz := 0) (sz' := 1))) wln)) (Wk.refl _) rfl) (ap (f19_ok x11.1 x61.1 h79) an))))))))))) rfl
              · obtain rfl := some_inj h
                exact run_end cfg_ok (rs := [([], [(1, .call (.tup [(.pl (.agg (Journal.cells x61.1))), (.pl (.int .i64 x61.2))]) [])], []), ([], [(1, .call (.tup [(.pl (.int .i64 x65.1)), (.pl (.int .i64 x65.2))]) [])], []), ([(4, false), (5, false), (6, false)], [(0, .call (.pl (.int .u64 x75)) []), (7, .bool false)], [])]) (ps := []) (tds := []) (m := []) (keep := [0]) (r := (.ret, (f11n0E (.ret false)).2)) (by kernel_rfl) (ap (f16_ok x15.1 h62) (ap (f25_ok x11.1 str_b str_EUR h66) (ap h77 (ap h77 (ap h77 (ap h77 (ap (CallS.wk (args' := [(.pl (.int .u64 0)), (.pl (.sl .nil 0 []))]) (f20_ok 0 [] h76) (wlc (Wk.refl _) (wlc (Wk.pl (WkP.nil (f := .nil) (sz := 0) (sz' := 1))) wln)) (Wk.refl _) rfl) an))))))) rfl
          · obtain rfl := some_inj h
            exact runK_end cfg_ok (k := 4) (rs := [([], [], []), ([], [(0, .call (.pl (.agg (Journal.cells x7))) []), (1, .call (.own 0) [some (.row false 3 ([(JournalLine.mk str_a str_EUR 5), (JournalLine.mk str_b str_EUR (wr64 (0 - 5)))].map JournalLine.cells))]), (2, .call (.tup [(.pl (.agg (Journal.cells x11.1))), (.pl (.int .i64 x11.2))]) [])], []), ([], [(1, .call (.tup [(.pl (.sl .any 1 (x15.1.map (cInt .u8)))), (.pl (.int .i64 x15.2))]) [])], []), ([(3, false), (4, false), (7, false), (8, false), (9, false), (12, false), (13, false), (14, false), (15, false), (16, false), (19, false), (20, false), (21, false), (22, false), (23, false)], [(5, .bool false), (10, .bool false), (13, .cut 0 (Int.toNat 4)), (15, .call (.pl (.bool x34)) []), (17, .bool false), (20, .cut (Int.toNat 4) (Int.toNat 43)), (21, .call (.own 4) [none, none, none, none, some (.row false 1 ([1, 0, 0, 0, 1, 0, 0, 0, 1, 120, 2, 1, 97, 3, 69, 85, 82, 5, 0, 0, 0, 0, 0, 0, 0, 1, 98, 3, 69, 85, 82, 251, 255, 255, 255, 255, 255, 255, 255].map (cInt .u8)))]), (22, .call (.pl (.bool x40)) []), (24, .bool false)], [(8, .val (.pl (.int .i64 (x15.1.length : Int)))), (13, .val (.pl (.sl .any 1 (((x15.1.take (Int.toNat 4)).drop 0).map (cInt .u8))))), (20, .val (.pl (.sl .any 1 (((x15.1.take (Int.toNat 43)).drop (Int.toNat 4)).map (cInt .u8)))))]), ([], [], [])]) (ps := [some true]) (tds := []) (m := []) (keep := [0]) (ex := .ret) (st' := (f11n0E (.ret false)).2) (by kernel_rfl) (ap (f36_ok h8) (ap (f37r1_ok 5 h10) (ap (f30_ok x7 1 str_x78 [(JournalLine.mk str_a str_EUR 5), (JournalLine.mk str_b str_EUR (wr64 (0 - 5)))] h12) (ap (f13_ok x11.1 h16) (ap (not_t h30) (ap (not_t h30) (ap (not_t h30) (ap (not_t h31) (ap (not_t h31) (ap (len_cv (xs := x15.1) (c := (cInt .u8))) (ap (not_t h31) (ap (not_t h31) (ap (not_t h32) (ap (not_t h32) (ap (cut_hn_1_map (c := (cInt .u8)) h33) (ap (cut_hn_2 h33) (ap (cut_hn_3 h33) (ap (cut_hn_4_map (c := (cInt .u8)) h33) (ap (congrArg (fun l => AV.pl (.sl .any 1 l)) (cut_cv (xs := x15.1) (c := (cInt .u8)) (n := (Int.toNat 4)) (m := 0))) (ap (not_t h32) (ap (not_t h32) (ap (not_t h32) (ap (not_t h32) (ap (not_t h36) (ap (not_t h36) (ap (cut_hl_1_map (c := (cInt .u8)) h37) (ap (cut_hl_2 h37) (ap (cut_hl_3 h37) (ap (cut_hl_4_map (c := (cInt .u8)) h37) (ap (congrArg (fun l => AV.pl (.sl .any 1 l)) (cut_cv (xs := x15.1) (c := (cInt .u8)) (n := (Int.toNat 43)) (m := (Int.toNat 4)))) (ap (not_t h36) (ap (not_t h36) (ap (not_t h36) (ap (not_t h36) (ap (same_len (e := ⟨false, 18, [(.pl (.sl .any 1 (((x15.1.take (Int.toNat 4)).drop 0).map (cInt .u8)))), (.pl (.sl .any 1 ([39, 0, 0, 0].map (cInt .u8))))], [], (.pl (.bool x34)), []⟩) (f := ⟨false, 18, [(.pl (.sl .any 1 (((x15.1.take (Int.toNat 43)).drop (Int.toNat 4)).map (cInt .u8)))), (.pl (.sl .any 1 ([1, 0, 0, 0, 1, 0, 0, 0, 1, 120, 2, 1, 97, 3, 69, 85, 82, 5, 0, 0, 0, 0, 0, 0, 0, 1, 98, 3, 69, 85, 82, 251, 255, 255, 255, 255, 255, 255, 255].map (cInt .u8))))], [], (.pl (.bool x40)), []⟩) 1 (by kernel_rfl)) (ap (f18_ok ((x15.1.take (Int.toNat 4)).drop 0) [39, 0, 0, 0] h35) (ap (CallS.ren (args' := []) (v' := (.own 4)) (B := [none, none, none, none]) (B' := [none, none, none, none, some (.row false 1 ([1, 0, 0, 0, 1, 0, 0, 0, 1, 120, 2, 1, 97, 3, 69, 85, 82, 5, 0, 0, 0, 0, 0, 0, 0, 1, 98, 3, 69, 85, 82, 251, 255, 255, 255, 255, 255, 255, 255].map (cInt .u8)))]) 4 [] (f38r1_ok h39) (by kernel_rfl) (by kernel_rfl) (by kernel_rfl) (by kernel_rfl) (by kernel_rfl) (by kernel_rfl)) (ap (f18_ok ((x15.1.take (Int.toNat 43)).drop (Int.toNat 4)) [1, 0, 0, 0, 1, 0, 0, 0, 1, 120, 2, 1, 97, 3, 69, 85, 82, 5, 0, 0, 0, 0, 0, 0, 0, 1, 98, 3, 69, 85, 82, 251, 255, 255, 255, 255, 255, 255, 255] h41) (ap (not_f h42) an))))))))))))))))))))))))))))))))))))))) (fun h => nomatch h) rfl
        · obtain rfl := some_inj h
          exact runK_end cfg_ok (k := 4) (rs := [([], [], []), ([], [(0, .call (.pl (.agg (Journal.cells x7))) []), (1, .call (.own 0) [some (.row false 3 ([(JournalLine.mk str_a str_EUR 5), (JournalLine.mk str_b str_EUR (wr64 (0 - 5)))].map JournalLine.cells))]), (2, .call (.tup [(.pl (.agg (Journal.cells x11.1))), (.pl (.int .i64 x11.2))]) [])], []), ([], [(1, .call (.tup [(.pl (.sl .any 1 (x15.1.map (cInt .u8)))), (.pl (.int .i64 x15.2))]) [])], []), ([(3, false), (4, false), (7, false), (8, false), (9, false), (12, false), (13, false), (14, false), (15, false), (16, false), (19, true), (20, true), (21, true), (22, true), (23, true)], [(5, .bool false), (10, .bool false), (13, .cut 0 (Int.toNat 4)), (15, .call (.pl (.bool x34)) []), (17, .bool false), (24, .bool true)], [(8, .val (.pl (.int .i64 (x15.1.length : Int)))), (13, .val (.pl (.sl .any 1 (((x15.1.take (Int.toNat 4)).drop 0).map (cInt .u8)))))]), ([], [], [])]) (ps := [none]) (tds := []) (m := []) (keep := [0]) (ex := .ret) (st' := (f11n0E (.ret false)).2) (by kernel_rfl) (ap (f36_ok h8) (ap (f37r1_ok 5 h10) (ap (f30_ok x7 1 str_x78 [(JournalLine.mk str_a str_EUR 5), (JournalLine.mk str_b str_EUR (wr64 (0 - 5)))] h12) (ap (f13_ok x11.1 h16) (ap (not_t h30) (ap (not_t h30) (ap (not_t h30) (ap (not_t h31) (ap (not_t h31) (ap (len_cv (xs := x15.1) (c := (cInt .u8))) (ap (not_t h31) (ap (not_t h31) (ap (not_t h32) (ap (not_t h32) (ap (cut_hn_1_map (c := (cInt .u8)) h33) (ap (cut_hn_2 h33) (ap (cut_hn_3 h33) (ap (cut_hn_4_map (c := (cInt .u8)) h33) (ap (congrArg (fun l => AV.pl (.sl .any 1 l)) (cut_cv (xs := x15.1) (c := (cInt .u8)) (n := (Int.toNat 4)) (m := 0))) (ap (not_t h32) (ap (not_t h32) (ap (not_t h32) (ap (not_t h32) (ap (not_f h36) (ap (not_f h36) (ap (not_f h36) (ap (not_f h36) (ap (not_f h36) (ap (not_f h36) (ap (f18_ok ((x15.1.take (Int.toNat 4)).drop 0) [39, 0, 0, 0] h35) an)))))))))))))))))))))))))))))) (fun h => nomatch h) rfl
      · obtain rfl := some_inj h
        exact runK_end cfg_ok (k := 4) (rs := [([], [], []), ([], [(0, .call (.pl (.agg (Journal.cells x7))) []), (1, .call (.own 0) [some (.row false 3 ([(JournalLine.mk str_a str_EUR 5), (JournalLine.mk str_b str_EUR (wr64 (0 - 5)))].map JournalLine.cells))]), (2, .call (.tup [(.pl (.agg (Journal.cells x11.1))), (.pl (.int .i64 x11.2))]) [])], []), ([], [(1, .call (.tup [(.pl (.sl .any 1 (x15.1.map (cInt .u8)))), (.pl (.int .i64 x15.2))]) [])], []), ([(3, false), (4, false), (7, false), (8, false), (9, false), (12, true), (13, true), (14, true), (15, true), (16, true)], [(5, .bool false), (10, .bool false), (17, .bool true)], [(8, .val (.pl (.int .i64 (x15.1.length : Int))))]), ([], [], [])]) (ps := [none]) (tds := []) (m := []) (keep := [0]) (ex := .ret) (st' := (f11n0E (.ret false)).2) (by kernel_rfl) (ap (f36_ok h8) (ap (f37r1_ok 5 h10) (ap (f30_ok x7 1 str_x78 [(JournalLine.mk str_a str_EUR 5), (JournalLine.mk str_b str_EUR (wr64 (0 - 5)))] h12) (ap (f13_ok x11.1 h16) (ap (not_t h30) (ap (not_t h30) (ap (not_t h30) (ap (not_t h31) (ap (not_t h31) (ap (len_cv (xs := x15.1) (c := (cInt .u8))) (ap (not_t h31) (ap (not_t h31) (ap (not_f h32) (ap (not_f h32) (ap (not_f h32) (ap (not_f h32) (ap (not_f h32) (ap (not_f h32) an)))))))))))))))))) (fun h => nomatch h) rfl
    · obtain rfl := some_inj h
      exact runK_end cfg_ok (k := 4) (rs := [([], [], []), ([], [(0, .call (.pl (.agg (Journal.cells x7))) []), (1, .call (.own 0) [some (.row false 3 ([(JournalLine.mk str_a str_EUR 5), (JournalLine.mk str_b str_EUR (wr64 (0 - 5)))].map JournalLine.cells))]), (2, .call (.tup [(.pl (.agg (Journal.cells x11.1))), (.pl (.int .i64 x11.2))]) [])], []), ([], [(1, .call (.tup [(.pl (.sl .any 1 (x15.1.map (cInt .u8)))), (.pl (.int .i64 x15.2))]) [])], []), ([(3, false), (4, false), (7, true), (8, true), (9, true)], [(5, .bool false), (10, .bool true)], []), ([], [], [])]) (ps := [none]) (tds := []) (m := []) (keep := [0]) (ex := .ret) (st' := (f11n0E (.ret false)).2) (by kernel_rfl) (ap (f36_ok h8) (ap (f37r1_ok 5 h10) (ap (f30_ok x7 1 str_x78 [(JournalLine.mk str_a str_EUR 5), (JournalLine.mk str_b str_EUR (wr64 (0 - 5)))] h12) (ap (f13_ok x11.1 h16) (ap (not_t h30) (ap (not_t h30) (ap (not_t h30) (ap (not_f h31) (ap (not_f h31) (ap (not_f h31) (ap (not_f h31) an))))))))))) (fun h => nomatch h) rfl
  · obtain rfl := some_inj h
    exact runK_end cfg_ok (k := 4) (rs := [([], [], []), ([], [(0, .call (.pl (.agg (Journal.cells x7))) []), (1, .call (.own 0) [some (.row false 3 ([(JournalLine.mk str_a str_EUR 5), (JournalLine.mk str_b str_EUR (wr64 (0 - 5)))].map JournalLine.cells))]), (2, .call (.tup [(.pl (.agg (Journal.cells x11.1))), (.pl (.int .i64 x11.2))]) [])], []), ([], [(1, .call (.tup [(.pl (.sl .any 1 (x15.1.map (cInt .u8)))), (.pl (.int .i64 x15.2))]) [])], []), ([(3, true), (4, true)], [(5, .bool true)], []), ([], [], [])]) (ps := [none]) (tds := []) (m := []) (keep := [0]) (ex := .ret) (st' := (f11n0E (.ret false)).2) (by kernel_rfl) (ap (f36_ok h8) (ap (f37r1_ok 5 h10) (ap (f30_ok x7 1 str_x78 [(JournalLine.mk str_a str_EUR 5), (JournalLine.mk str_b str_EUR (wr64 (0 - 5)))] h12) (ap (f13_ok x11.1 h16) (ap (not_f h30) (ap (not_f h30) (ap (not_f h30) an))))))) (fun h => nomatch h) rfl
noncomputable def f11 : Option Bool := f11n0.bind fun o => match o with
  | .ret v83 => some v83
theorem f11_ok {r : Bool} (h : f11 = some r) : CallS Try.prog false 11 [] [] (.pl (.bool r)) [] := by
  unfold f11 at h
  obtain ⟨o, ho, h⟩ := bind_cases h
  cases o with
  | ret v83 =>
    obtain rfl := some_inj h
    exact CallS.plain cfg_ok (f := Try.f11) (c := c11) (by kernel_rfl) (by kernel_rfl) (by kernel_rfl) (by kernel_rfl) ((f11n0_ok  ho).mono fun r e => by subst e; exact ⟨.inl rfl, (.pl (.bool v83)), (.pl (.bool v83)), by kernel_rfl, by kernel_rfl, ((Wk.refl _) : Wk (.pl (.bool v83)) (.pl (.bool v83)))⟩)
/-! ### novation/novationref38.GreatLines -/
noncomputable def c29 : Code := Try.f29.body.getD .skip
inductive f29n2O where
  | exit0
  | ret
def f29n2E (bc1 : List JournalLine) : f29n2O → Ex × Tr × Hp
  | .exit0 => ((.exit 0), mkS [(0, (.pl (.sl .any 3 (bc1.map JournalLine.cells))))], [])
  | .ret => (.ret, mkS [(2, (.pl (.bool true)))], [])
def f29n2S (bc1 : List JournalLine) (v25 : Int) : Tr × Hp := (mkS [(0, (.pl (.sl .any 3 (bc1.map JournalLine.cells)))), (3, (.pl (.int .i64 v25)))], [])
noncomputable def f29n2 : Nat → List JournalLine → Int → Option f29n2O
  | 0, _, _ => none
  | f + 1, bc1, v25 =>
    bif (decide (v25 < (bc1.length : Int))) then
      bif (decide (v25 ≤ 40)) then
        (at? bc1 v25).bind fun x34 =>
        bif (decide (300 < (x34.Account.size : Int))) then
          some .ret
        else
          bif (decide (300 < (x34.Ccy.size : Int))) then
            some .ret
          else
            (f29n2 f bc1 (wr64 (v25 + 1)))
      else
        some .exit0
    else
      some .exit0
theorem f29n2_ok : ∀ (f : Nat) (bc1 : List JournalLine) (v25 : Int) {o : f29n2O}, (f29n2 f bc1 v25) = some o → TL Try.prog Try.f29.ntmps 0 f (cL (cL (dropC 1 (cL (dropC 1 c29))))) (f29n2S bc1 v25) (fun r => r = f29n2E bc1 o)
  | 0, _, _, o, h => by rw [f29n2] at h; cases h
  | f + 1, bc1, v25, o, h => by
    rw [f29n2] at h
    refine TL.body (K := fun s => ∃ v25 : Int, s = (f29n2S bc1 v25) ∧ (f29n2 f bc1 v25) = some o) ?_ (by rintro _ ⟨v25, rfl, hk⟩; exact f29n2_ok f _ _ hk)
    rcases cond_cases h with ⟨h28, h⟩ | ⟨h28, h⟩
    · rcases cond_cases h with ⟨h29, h⟩ | ⟨h29, h⟩
      · obtain ⟨x34, h35, h⟩ := bind_cases h
        rcases cond_cases h with ⟨h36, h⟩ | ⟨h36, h⟩
        · obtain rfl := some_inj h
          exact runK_end cfg_ok (k := 2) (rs := [([(5, true), (6, true)], [(7, .bool true)], [(2, .val (.pl (.int .i64 (bc1.length : Int))))]), ([(8, true), (9, true), (10, true), (11, true), (12, true), (13, true), (14, true)], [(2, .idx (Int.toNat v25) (JournalLine.cells x34)), (15, .bool true)], []), ([], [], [])]) (ps := [some true, none]) (tds := []) (m := []) (keep := [2]) (ex := .ret) (st' := (f29n2E bc1 .ret).2) (by kernel_rfl) (ap (len_cv (xs := bc1) (c := JournalLine.cells)) (ap h28 (ap h28 (ap h28 (ap h29 (ap (at_some h35).1 (ap (at_map JournalLine.cells (at_some h35).2) (ap h36 (ap h36 (ap h36 (ap h36 (ap h36 (ap h36 (ap h36 (ap h36 an))))))))))))))) (fun h => nomatch h) (LoopQ.out rfl rfl)
        · rcases cond_cases h with ⟨h37, h⟩ | ⟨h37, h⟩
          · obtain rfl := some_inj h
            exact runK_end cfg_ok (k := 2) (rs := [([(5, true), (6, true)], [(7, .bool true)], [(2, .val (.pl (.int .i64 (bc1.length : Int))))]), ([(8, false), (9, false), (10, false), (11, false), (12, false), (13, false), (14, false)], [(2, .idx (Int.toNat v25) (JournalLine.cells x34)), (10, .idx (Int.toNat v25) (JournalLine.cells x34)), (15, .bool false)], []), ([], [], [])]) (ps := [some true, some true]) (tds := []) (m := []) (keep := [2]) (ex := .ret) (st' := (f29n2E bc1 .ret).2) (by kernel_rfl) (ap (len_cv (xs := bc1) (c := JournalLine.cells)) (ap h28 (ap h28 (ap h28 (ap h29 (ap (at_some h35).1 (ap (at_map JournalLine.cells (at_some h35).2) (ap h36 (ap h36 (ap h36 (ap (at_some h35).1 (ap (at_map JournalLine.cells (at_some h35).2) (ap h36 (ap h36 (ap h36 (ap h36 (ap h36 (ap h37 an)))))))))))))))))) (fun h => nomatch h) (LoopQ.out rfl rfl)
          · exact run_end cfg_ok (rs := [([(5, true), (6, true)], [(7, .bool true)], [(2, .val (.pl (.int .i64 (bc1.length : Int))))]), ([(8, false), (9, false), (10, false), (11, false), (12, false), (13, false), (14, false)], [(2, .idx (Int.toNat v25) (JournalLine.cells x34)), (10, .idx (Int.toNat v25) (JournalLine.cells x34)), (15, .bool false)], []), ([], [], [])]) (ps := [some true, some false]) (tds := []) (m := []) (keep := [0, 3]) (r := (.norm, (f29n2S bc1 (wr64 (v25 + 1))))) (by kernel_rfl) (ap (len_cv (xs := bc1) (c := JournalLine.cells)) (ap h28 (ap h28 (ap h28 (ap h29 (ap (at_some h35).1 (ap (at_map JournalLine.cells (at_some h35).2) (ap h36 (ap h36 (ap h36 (ap (at_some h35).1 (ap (at_map JournalLine.cells (at_some h35).2) (ap h36 (ap h36 (ap h36 (ap h36 (ap h36 (ap h37 an)))))))))))))))))) (LoopQ.norm ⟨(wr64 (v25 + 1)), rfl, h⟩)
      · obtain rfl := some_inj h
        exact runK_end cfg_ok (k := 1) (rs := [([(5, true), (6, true)], [(7, .bool true)], [(2, .val (.pl (.int .i64 (bc1.length : Int))))])]) (ps := [some false]) (tds := []) (m := []) (keep := [0]) (ex := (.exit 0)) (st' := (f29n2E bc1 .exit0).2) (by kernel_rfl) (ap (len_cv (xs := bc1) (c := JournalLine.cells)) (ap h28 (ap h28 (ap h28 (ap h29 an))))) (fun h => nomatch h) (LoopQ.out rfl rfl)
    · obtain rfl := some_inj h
      exact runK_end cfg_ok (k := 1) (rs := [([(5, false), (6, false)], [(7, .bool false)], [(2, .val (.pl (.int .i64 (bc1.length : Int))))])]) (ps := [none]) (tds := []) (m := []) (keep := [0]) (ex := (.exit 0)) (st' := (f29n2E bc1 .exit0).2) (by kernel_rfl) (ap (len_cv (xs := bc1) (c := JournalLine.cells)) (ap h28 (ap h28 (ap h28 an)))) (fun h => nomatch h) (LoopQ.out rfl rfl)
noncomputable def f29n2L (bc1 : List JournalLine) : List JournalLine → Int → Option f29n2O
  | [], v25 =>
    some .exit0
  | x0 :: rest, v25 =>
    bif (decide (v25 ≤ 40)) then
      bif (decide (300 < (x0.Account.size : Int))) then
        some .ret
      else
        bif (decide (300 < (x0.Ccy.size : Int))) then
          some .ret
        else
          (f29n2L bc1 rest (v25 + 1))
    else
      some .exit0
theorem f29n2L_eq (bc1 : List JournalLine) : ∀ (rest : List JournalLine) (f k : Nat), bc1.drop k = rest → bc1.length ≤ maxLen → rest.length < f → f29n2 f bc1 (k : Int) = f29n2L bc1 rest (k : Int)
  | _, 0, _, _, _, hf => absurd hf (Nat.not_lt_zero _)
  | [], f + 1, k, hd, hm, hf => by
    have hk : ¬ ((k : Int) < (bc1.length : Int)) := by have := drop_nil hd; omega
    rw [f29n2, f29n2L]
    simp only [decide_eq_false hk, cond_false]
  | x0 :: rest, f + 1, k, hd, hm, hf => by
    obtain ⟨hx, hlt, hd'⟩ := drop_cons hd
    have hk : (k : Int) < (bc1.length : Int) := by omega
    have hw : wr64 ((k : Int) + 1) = (k : Int) + 1 := wr64_of (by omega) (by unfold maxLen at hm; omega)
    have ih : f29n2 f bc1 ((k : Int) + 1) = f29n2L bc1 rest ((k : Int) + 1) := f29n2L_eq bc1 rest f (k + 1) hd' hm (by simpa using hf)
    rw [f29n2, f29n2L]
    simp only [decide_eq_true hk, cond_true, at_nat, hx, Option.bind_some, hw, ih]
theorem f29n2_run (bc1 : List JournalLine) (hm : bc1.length ≤ maxLen) : f29n2 FUEL bc1 0 = f29n2L bc1 bc1 0 := f29n2L_eq bc1 bc1 FUEL 0 List.drop_zero hm (lt_FUEL hm)
inductive f29n1O where
  | norm
  | ret
def f29n1E (bc1 : List JournalLine) : f29n1O → Ex × Tr × Hp
  | .norm => (.norm, mkS [(0, (.pl (.sl .any 3 (bc1.map JournalLine.cells))))], [])
  | .ret => (.ret, mkS [(2, (.pl (.bool true)))], [])
def f29n1S (bc1 : List JournalLine) : Tr × Hp := (mkS [(0, (.pl (.sl .any 3 (bc1.map JournalLine.cells))))], [])
noncomputable def f29n1 (bc1 : List JournalLine) : Option f29n1O :=
  (f29n2 FUEL bc1 0).bind fun o38 => match o38 with
  | .exit0 => some .norm
  | .ret => some .ret
theorem f29n1_ok (bc1 : List JournalLine) {o : f29n1O} (h : (f29n1 bc1) = some o) : T Try.prog Try.f29.ntmps 0 (cL (dropC 1 c29)) (f29n1S bc1) (fun r => r = f29n1E bc1 o) := by
  unfold f29n1 at h
  refine runK_norm cfg_ok (k := 1) (rs := [([], [], [])]) (ps := []) (tds := []) (m := []) (keep := [0, 3]) (st' := (f29n2S bc1 0)) (by kernel_rfl) an ?_
  obtain ⟨o38, h39, h⟩ := bind_cases h
  cases o38 with
  | exit0 =>
    obtain rfl := some_inj h
    exact T.last' (T.bl (i := 0) (by kernel_rfl) (by kernel_rfl) (f29n2_ok FUEL bc1 0 h39)) (tds := []) (m := []) (keep := [0]) (st2 := (f29n1E bc1 .norm).2) (by kernel_rfl) an rfl
  | ret =>
    obtain rfl := some_inj h
    exact T.last' (T.bl (i := 0) (by kernel_rfl) (by kernel_rfl) (f29n2_ok FUEL bc1 0 h39)) (tds := []) (m := []) (keep := [2]) (st2 := (f29n1E bc1 .ret).2) (by kernel_rfl) an rfl
inductive f29n0O where
  | ret (v42 : Bool)
def f29n0E (a1 : List JournalLine) : f29n0O → Ex × Tr × Hp
  | .ret v42 => (.ret, mkS [(2, (.pl (.bool v42)))], [])
def f29n0S (a1 : List JournalLine) : Tr × Hp := (initS [(.pl (.sl .any 3 (a1.map JournalLine.cells)))] 0 .leaf, [])
noncomputable def f29n0 (a1 : List JournalLine) : Option f29n0O :=
  (f29n1 a1).bind fun o40 => match o40 with
  | .norm => some (.ret (decide (40 < (a1.length : Int))))
  | .ret => some (.ret true)
theorem f29n0_ok (a1 : List JournalLine) {o : f29n0O} (h : (f29n0 a1) = some o) : T Try.prog Try.f29.ntmps 0 c29 (f29n0S a1) (fun r => r = f29n0E a1 o) := by
  unfold f29n0 at h
  refine runK_norm cfg_ok (k := 1) (rs := [([], [], [])]) (ps := []) (tds := []) (m := []) (keep := [0]) (st' := (f29n1S a1)) (by kernel_rfl) an ?_
  obtain ⟨o40, h41, h⟩ := bind_cases h
  cases o40 with
  | norm =>
    refine T.oneN (by kernel_rfl) (f29n1_ok a1 h41) (st2 := (f29n1E a1 .norm).2) rfl ?_
    obtain rfl := some_inj h
    exact run_end cfg_ok (rs := [([], [], [(1, .val (.pl (.int .i64 (a1.length : Int))))])]) (ps := []) (tds := []) (m := []) (keep := [2]) (r := (.ret, (f29n0E a1 (.ret (decide (40 < (a1.length : Int))))).2)) (by kernel_rfl) (ap (len_cv (xs := a1) (c := JournalLine.cells)) an) rfl
  | ret =>
    obtain rfl := some_inj h
    exact T.oneX' (by kernel_rfl) (f29n1_ok a1 h41) (tds := []) (m := []) (keep := [2]) (st2 := (f29n0E a1 (.ret true)).2) (by kernel_rfl) an rfl rfl
noncomputable def f29 (a1 : List JournalLine) : Option Bool := (f29n0 a1).bind fun o => match o with
  | .ret v42 => some v42
theorem f29_ok (a1 : List JournalLine) {r : Bool} (h : (f29 a1) = some r) : CallS Try.prog false 29 [(.pl (.sl .any 3 (a1.map JournalLine.cells)))] [] (.pl (.bool r)) [] := by
  unfold f29 at h
  obtain ⟨o, ho, h⟩ := bind_cases h
  cases o with
  | ret v42 =>
    obtain rfl := some_inj h
    exact CallS.plain cfg_ok (f := Try.f29) (c := c29) (by kernel_rfl) (by kernel_rfl) (by kernel_rfl) (by kernel_rfl) ((f29n0_ok a1 ho).mono fun r e => by subst e; exact ⟨.inl rfl, (.pl (.bool v42)), (.pl (.bool v42)), by kernel_rfl, by kernel_rfl, ((Wk.refl _) : Wk (.pl (.bool v42)) (.pl (.bool v42)))⟩)
/-! ### novation/novationref38.Great -/
noncomputable def c12 : Code := Try.f12.body.getD .skip
inductive f12n2O where
  | exit0
  | ret
def f12n2E (ba1 : Journal) : f12n2O → Ex × Tr × Hp
  | .exit0 => ((.exit 0), mkS [(1, (.bp 0 0))], [some (.box ((Journal.cells ba1).map .pl))])
  | .ret => (.ret, mkS [(2, (.pl (.bool true)))], [])
def f12n2S (ba1 : Journal) (v33 : Int) : Tr × Hp := (mkS [(1, (.bp 0 0)), (3, (.pl (.int .i64 v33)))], [some (.box ((Journal.cells ba1).map .pl))])
noncomputable def f12n2 : Nat → Journal → Int → Option f12n2O
  | 0, _, _ => none
  | f + 1, ba1, v33 =>
    bif (decide (v33 < (ba1.Records.length : Int))) then
      bif (decide (v33 ≤ 220)) then
        (at? ba1.Records v33).bind fun x44 =>
        (f29 x44.Lines).bind fun x46 =>
        bif x46 then
          some .ret
        else
          bif (decide (300 < (x44.Text.size : Int))) then
            some .ret
          else
            (f12n2 f ba1 (wr64 (v33 + 1)))
      else
        some .exit0
    else
      some .exit0
theorem f12n2_ok : ∀ (f : Nat) (ba1 : Journal) (v33 : Int) {o : f12n2O}, (f12n2 f ba1 v33) = some o → TL Try.prog Try.f12.ntmps 0 f (cL (cL (dropC 1 (cL (dropC 1 c12))))) (f12n2S ba1 v33) (fun r => r = f12n2E ba1 o)
  | 0, _, _, o, h => by rw [f12n2] at h; cases h
  | f + 1, ba1, v33, o, h => by
    rw [f12n2] at h
    refine TL.body (K := fun s => ∃ v33 : Int, s = (f12n2S ba1 v33) ∧ (f12n2 f ba1 v33) = some o) ?_ (by rintro _ ⟨v33, rfl, hk⟩; exact f12n2_ok f _ _ hk)
    rcases cond_cases h with ⟨h36, h⟩ | ⟨h36, h⟩
    · rcases cond_cases h with ⟨h37, h⟩ | ⟨h37, h⟩
      · obtain ⟨x44, h45, h⟩ := bind_cases h
        obtain ⟨x46, h47, h⟩ := bind_cases h
        rcases cond_cases h with ⟨h48, h⟩ | ⟨h48, h⟩
        · obtain rfl := some_inj h
          exact runK_end cfg_ok (k := 2) (rs := [([(6, true), (7, true)], [(8, .bool true)], [(3, .val (.pl (.int .i64 (ba1.Records.length : Int))))]), ([(8, true), (9, true), (10, true), (11, true), (12, true), (13, true), (14, true), (15, true)], [(3, .idx (Int.toNat v33) (JournalRecord.cells x44)), (6, .call (.pl (.bool x46)) []), (16, .bool true)], []), ([], [], [])]) (ps := [some true, none]) (tds := []) (m := []) (keep := [2]) (ex := .ret) (st' := (f12n2E ba1 .ret).2) (by kernel_rfl) (ap (len_cv (xs := ba1.Records) (c := JournalRecord.cells)) (ap h36 (ap h36 (ap h36 (ap h37 (ap (at_some h45).1 (ap (at_map JournalRecord.cells (at_some h45).2) (ap h48 (ap h48 (ap h48 (ap h48 (ap h48 (ap h48 (ap h48 (ap h48 (ap h48 (ap (f29_ok x44.Lines h47) an))))))))))))))))) (fun h => nomatch h) (LoopQ.out rfl rfl)
        · rcases cond_cases h with ⟨h49, h⟩ | ⟨h49, h⟩
          · obtain rfl := some_inj h
            exact runK_end cfg_ok (k := 2) (rs := [([(6, true), (7, true)], [(8, .bool true)], [(3, .val (.pl (.int .i64 (ba1.Records.length : Int))))]), ([(8, false), (9, false), (10, false), (11, false), (12, false), (13, false), (14, false), (15, false)], [(3, .idx (Int.toNat v33) (JournalRecord.cells x44)), (6, .call (.pl (.bool x46)) []), (11, .idx (Int.toNat v33) (JournalRecord.cells x44)), (16, .bool false)], []), ([], [], [])]) (ps := [some true, some true]) (tds := []) (m := []) (keep := [2]) (ex := .ret) (st' := (f12n2E ba1 .ret).2) (by kernel_rfl) (ap (len_cv (xs := ba1.Records) (c := JournalRecord.cells)) (ap h36 (ap h36 (ap h36 (ap h37 (ap (at_some h45).1 (ap (at_map JournalRecord.cells (at_some h45).2) (ap h48 (ap h48 (ap h48 (ap h48 (ap (at_some h45).1 (ap (at_map JournalRecord.cells (at_some h45).2) (ap h48 (ap h48 (ap h48 (ap h48 (ap h48 (ap (f29_ok x44.Lines h47) (ap h49 an)))))))))))))))))))) (fun h => nomatch h) (LoopQ.out rfl rfl)
          · exact run_end cfg_ok (rs := [([(6, true), (7, true)], [(8, .bool true)], [(3, .val (.pl (.int .i64 (ba1.Records.length : Int))))]), ([(8, false), (9, false), (10, false), (11, false), (12, false), (13, false), (14, false), (15, false)], [(3, .idx (Int.toNat v33) (JournalRecord.cells x44)), (6, .call (.pl (.bool x46)) []), (11, .idx (Int.toNat v33) (JournalRecord.cells x44)), (16, .bool false)], []), ([], [], [])]) (ps := [some true, some false]) (tds := []) (m := [0]) (keep := [1, 3]) (r := (.norm, (f12n2S ba1 (wr64 (v33 + 1))))) (by kernel_rfl) (ap (len_cv (xs := ba1.Records) (c := JournalRecord.cells)) (ap h36 (ap h36 (ap h36 (ap h37 (ap (at_some h45).1 (ap (at_map JournalRecord.cells (at_some h45).2) (ap h48 (ap h48 (ap h48 (ap h48 (ap (at_some h45).1 (ap (at_map JournalRecord.cells (at_some h45).2) (ap h48 (ap h48 (ap h48 (ap h48 (ap h48 (ap (f29_ok x44.Lines h47) (ap h49 an)))))))))))))))))))) (LoopQ.norm ⟨(wr64 (v33 + 1)), rfl, h⟩)
      · obtain rfl := some_inj h
        exact runK_end cfg_ok (k := 1) (rs := [([(6, true), (7, true)], [(8, .bool true)], [(3, .val (.pl (.int .i64 (ba1.Records.length : Int))))])]) (ps := [some false]) (tds := []) (m := [0]) (keep := [1]) (ex := (.exit 0)) (st' := (f12n2E ba1 .exit0).2) (by kernel_rfl) (ap (len_cv (xs := ba1.Records) (c := JournalRecord.cells)) (ap h36 (ap h36 (ap h36 (ap h37 an))))) (fun h => nomatch h) (LoopQ.out rfl rfl)
    · obtain rfl := some_inj h
      exact runK_end cfg_ok (k := 1) (rs := [([(6, false), (7, false)], [(8, .bool false)], [(3, .val (.pl (.int .i64 (ba1.Records.length : Int))))])]) (ps := [none]) (tds := []) (m := [0]) (keep := [1]) (ex := (.exit 0)) (st' := (f12n2E ba1 .exit0).2) (by kernel_rfl) (ap (len_cv (xs := ba1.Records) (c := JournalRecord.cells)) (ap h36 (ap h36 (ap h36 an)))) (fun h => nomatch h) (LoopQ.out rfl rfl)
noncomputable def f12n2L (ba1 : Journal) : List JournalRecord → Int → Option f12n2O
  | [], v33 =>
    some .exit0
  | x0 :: rest, v33 =>
    bif (decide (v33 ≤ 220)) then
      (f29 x0.Lines).bind fun x46 =>
      bif x46 then
        some .ret
      else
        bif (decide (300 < (x0.Text.size : Int))) then
          some .ret
        else
          (f12n2L ba1 rest (v33 + 1))
    else
      some .exit0
theorem f12n2L_eq (ba1 : Journal) : ∀ (rest : List JournalRecord) (f k : Nat), ba1.Records.drop k = rest → ba1.Records.length ≤ maxLen → rest.length < f → f12n2 f ba1 (k : Int) = f12n2L ba1 rest (k : Int)
  | _, 0, _, _, _, hf => absurd hf (Nat.not_lt_zero _)
  | [], f + 1, k, hd, hm, hf => by
    have hk : ¬ ((k : Int) < (ba1.Records.length : Int)) := by have := drop_nil hd; omega
    rw [f12n2, f12n2L]
    simp only [decide_eq_false hk, cond_false]
  | x0 :: rest, f + 1, k, hd, hm, hf => by
    obtain ⟨hx, hlt, hd'⟩ := drop_cons hd
    have hk : (k : Int) < (ba1.Records.length : Int) := by omega
    have hw : wr64 ((k : Int) + 1) = (k : Int) + 1 := wr64_of (by omega) (by unfold maxLen at hm; omega)
    have ih : f12n2 f ba1 ((k : Int) + 1) = f12n2L ba1 rest ((k : Int) + 1) := f12n2L_eq ba1 rest f (k + 1) hd' hm (by simpa using hf)
    rw [f12n2, f12n2L]
    simp only [decide_eq_true hk, cond_true, at_nat, hx, Option.bind_some, hw, ih]
theorem f12n2_run (ba1 : Journal) (hm : ba1.Records.length ≤ maxLen) : f12n2 FUEL ba1 0 = f12n2L ba1 ba1.Records 0 := f12n2L_eq ba1 ba1.Records FUEL 0 List.drop_zero hm (lt_FUEL hm)
inductive f12n1O where
  | norm
  | ret
def f12n1E (ba1 : Journal) : f12n1O → Ex × Tr × Hp
  | .norm => (.norm, mkS [(1, (.bp 0 0))], [some (.box ((Journal.cells ba1).map .pl))])
  | .ret => (.ret, mkS [(2, (.pl (.bool true)))], [])
def f12n1S (ba1 : Journal) : Tr × Hp := (mkS [(1, (.bp 0 0))], [some (.box ((Journal.cells ba1).map .pl))])
noncomputable def f12n1 (ba1 : Journal) : Option f12n1O :=
  (f12n2 FUEL ba1 0).bind fun o50 => match o50 with
  | .exit0 => some .norm
  | .ret => some .ret
theorem f12n1_ok (ba1 : Journal) {o : f12n1O} (h : (f12n1 ba1) = some o) : T Try.prog Try.f12.ntmps 0 (cL (dropC 1 c12)) (f12n1S ba1) (fun r => r = f12n1E ba1 o) := by
  unfold f12n1 at h
  refine runK_norm cfg_ok (k := 1) (rs := [([], [], [])]) (ps := []) (tds := []) (m := [0]) (keep := [1, 3]) (st' := (f12n2S ba1 0)) (by kernel_rfl) an ?_
  obtain ⟨o50, h51, h⟩ := bind_cases h
  cases o50 with
  | exit0 =>
    obtain rfl := some_inj h
    exact T.last' (T.bl (i := 0) (by kernel_rfl) (by kernel_rfl) (f12n2_ok FUEL ba1 0 h51)) (tds := []) (m := [0]) (keep := [1]) (st2 := (f12n1E ba1 .norm).2) (by kernel_rfl) an rfl
  | ret =>
    obtain rfl := some_inj h
    exact T.last' (T.bl (i := 0) (by kernel_rfl) (by kernel_rfl) (f12n2_ok FUEL ba1 0 h51)) (tds := []) (m := []) (keep := [2]) (st2 := (f12n1E ba1 .ret).2) (by kernel_rfl) an rfl
inductive f12n0O where
  | ret (v54 : Bool)
def f12n0E (a1 : Journal) : f12n0O → Ex × Tr × Hp
  | .ret v54 => (.ret, mkS [(2, (.pl (.bool v54)))], [])
def f12n0S (a1 : Journal) : Tr × Hp := (initS [(.pl (.agg (Journal.cells a1)))] 0 .leaf, [])
noncomputable def f12n0 (a1 : Journal) : Option f12n0O :=
  (f12n1 a1).bind fun o52 => match o52 with
  | .norm => some (.ret (decide (220 < (a1.Records.length : Int))))
  | .ret => some (.ret true)
theorem f12n0_ok (a1 : Journal) {o : f12n0O} (h : (f12n0 a1) = some o) : T Try.prog Try.f12.ntmps 0 c12 (f12n0S a1) (fun r => r = f12n0E a1 o) := by
  unfold f12n0 at h
  refine runK_norm cfg_ok (k := 1) (rs := [([], [], [])]) (ps := []) (tds := []) (m := [0]) (keep := [1]) (st' := (f12n1S a1)) (by kernel_rfl) an ?_
  obtain ⟨o52, h53, h⟩ := bind_cases h
  cases o52 with
  | norm =>
    refine T.oneN (by kernel_rfl) (f12n1_ok a1 h53) (st2 := (f12n1E a1 .norm).2) rfl ?_
    obtain rfl := some_inj h
    exact run_end cfg_ok (rs := [([], [], [(2, .val (.pl (.int .i64 (a1.Records.length : Int))))])]) (ps := []) (tds := []) (m := []) (keep := [2]) (r := (.ret, (f12n0E a1 (.ret (decide (220 < (a1.Records.length : Int))))).2)) (by kernel_rfl) (ap (len_cv (xs := a1.Records) (c := JournalRecord.cells)) an) rfl
  | ret =>
    obtain rfl := some_inj h
    exact T.oneX' (by kernel_rfl) (f12n1_ok a1 h53) (tds := []) (m := []) (keep := [2]) (st2 := (f12n0E a1 (.ret true)).2) (by kernel_rfl) an rfl rfl
noncomputable def f12 (a1 : Journal) : Option Bool := (f12n0 a1).bind fun o => match o with
  | .ret v54 => some v54
theorem f12_ok (a1 : Journal) {r : Bool} (h : (f12 a1) = some r) : CallS Try.prog false 12 [(.pl (.agg (Journal.cells a1)))] [] (.pl (.bool r)) [] := by
  unfold f12 at h
  obtain ⟨o, ho, h⟩ := bind_cases h
  cases o with
  | ret v54 =>
    obtain rfl := some_inj h
    exact CallS.plain cfg_ok (f := Try.f12) (c := c12) (by kernel_rfl) (by kernel_rfl) (by kernel_rfl) (by kernel_rfl) ((f12n0_ok a1 ho).mono fun r e => by subst e; exact ⟨.inl rfl, (.pl (.bool v54)), (.pl (.bool v54)), by kernel_rfl, by kernel_rfl, ((Wk.refl _) : Wk (.pl (.bool v54)) (.pl (.bool v54)))⟩)
/-! ### novation/novationref38.Twin -/
noncomputable def c14 : Code := Try.f14.body.getD .skip
inductive f14r1n2O where
  | exit0 (v44 : List JournalRecord)
def f14r1n2E (ba1 : Journal) : f14r1n2O → Ex × Tr × Hp
  | .exit0 v44 => ((.exit 0), mkS [(2, (.bp 0 0)), (3, (.bp 1 0))], [some (.box [(.pl (.sl .nil 0 []))]), some (.box [(.own 2)]), some (.row false 3 (v44.map JournalRecord.cells))])
def f14r1n2S (ba1 : Journal) (v28 : Int) (v29 : List JournalRecord) : Tr × Hp := (mkS [(1, (.bp 0 0)), (2, (.bp 1 0)), (3, (.bp 2 0)), (4, (.pl (.int .i64 v28)))], [some (.box ((Journal.cells ba1).map .pl)), some (.box [(.pl (.sl .nil 0 []))]), some (.box [(.own 3)]), some (.row false 3 (v29.map JournalRecord.cells))])
noncomputable def f14r1n2 : Nat → Journal → Int → List JournalRecord → Option f14r1n2O
  | 0, _, _, _ => none
  | f + 1, ba1, v28, v29 =>
    bif (decide (v28 < (ba1.Records.length : Int))) then
      (at? ba1.Records v28).bind fun x38 =>
      bif (x38.Lines.isEmpty) then
        req (fit (v29.length + 1) 48) <|
        (f14r1n2 f ba1 (wr64 (v28 + 1)) (v29 ++ [(JournalRecord.mk x38.Day x38.Text [])]))
      else
        req (fit x38.Lines.length 40) <|
        req (fit (v29.length + 1) 48) <|
        (f14r1n2 f ba1 (wr64 (v28 + 1)) (v29 ++ [x38]))
    else
      some (.exit0 v29)
theorem f14r1n2_ok : ∀ (f : Nat) (ba1 : Journal) (v28 : Int) (v29 : List JournalRecord) {o : f14r1n2O}, (f14r1n2 f ba1 v28 v29) = some o → TL Try.prog Try.f14.ntmps 0 f (cL (cL (dropC 1 (cL (dropC 2 c14))))) (f14r1n2S ba1 v28 v29) (fun r => r = f14r1n2E ba1 o)
  | 0, _, _, _, o, h => by rw [f14r1n2] at h; cases h
  | f + 1, ba1, v28, v29, o, h => by
    rw [f14r1n2] at h
    refine TL.body (K := fun s => ∃ v28 : Int, ∃ v29 : List JournalRecord, s = (f14r1n2S ba1 v28 v29) ∧ (f14r1n2 f ba1 v28 v29) = some o) ?_ (by rintro _ ⟨v28, v29, rfl, hk⟩; exact f14r1n2_ok f _ _ _ hk)
    rcases cond_cases h with ⟨h31, h⟩ | ⟨h31, h⟩
    · obtain ⟨x38, h39, h⟩ := bind_cases h
      rcases cond_cases h with ⟨h40, h⟩ | ⟨h40, h⟩
      · obtain ⟨h41, h⟩ := req_cases h
        exact run_end cfg_ok (rs := [([], [], [(3, .val (.pl (.int .i64 (ba1.Records.length : Int))))]), ([], [(3, .idx (Int.toNat v28) (JournalRecord.cells x38))], []), ([], [(3, .app false)], []), ([], [(4, .fits)], [(4, .row 7 ((v29 ++ [(JournalRecord.mk x38.Day x38.Text [])]).map JournalRecord.cells))]), ([], [], [])]) (ps := [some true]) (tds := []) (m := [0, 1, 2, 7]) (keep := [1, 2, 3, 4]) (r := (.norm, (f14r1n2S ba1 (wr64 (v28 + 1)) (v29 ++ [(JournalRecord.mk x38.Day x38.Text [])])))) (by kernel_rfl) (ap (len_cv (xs := ba1.Records) (c := JournalRecord.cells)) (ap h31 (ap (at_some h39).1 (ap (at_map JournalRecord.cells (at_some h39).2) (ap (nil_map (c := JournalLine.cells) h40) (ap (fit_map (te := ti47) (xs := v29) (n := 1) (c := JournalRecord.cells) h41 rfl) (ap (app_cv (xs := v29) (ys := [(JournalRecord.mk x38.Day x38.Text [])]) (c := JournalRecord.cells)) an))))))) (LoopQ.norm ⟨(wr64 (v28 + 1)), (v29 ++ [(JournalRecord.mk x38.Day x38.Text [])]), rfl, h⟩)
      · obtain ⟨h42, h⟩ := req_cases h
        obtain ⟨h43, h⟩ := req_cases h
        exact run_end cfg_ok (rs := [([], [], [(3, .val (.pl (.int .i64 (ba1.Records.length : Int))))]), ([], [(3, .idx (Int.toNat v28) (JournalRecord.cells x38))], []), ([], [(3, .app true)], []), ([], [(4, .fits)], [(4, .row 8 ((v29 ++ [x38]).map JournalRecord.cells))]), ([], [], [])]) (ps := [some true]) (tds := []) (m := [0, 1, 2, 8]) (keep := [1, 2, 3, 4]) (r := (.norm, (f14r1n2S ba1 (wr64 (v28 + 1)) (v29 ++ [x38])))) (by kernel_rfl) (ap (len_cv (xs := ba1.Records) (c := JournalRecord.cells)) (ap h31 (ap (at_some h39).1 (ap (at_map JournalRecord.cells (at_some h39).2) (ap (fit_map0z (te := ti49) (xs := x38.Lines) (c := JournalLine.cells) h42 rfl) (ap (ne_map (c := JournalLine.cells) h40) (ap (len_all (c := JournalLine.cells) (xs := x38.Lines) (n := 3) (fun _ => rfl)) (ap (fit_map (te := ti47) (xs := v29) (n := 1) (c := JournalRecord.cells) h43 rfl) (ap (app_cv (xs := v29) (ys := [x38]) (c := JournalRecord.cells)) an))))))))) (LoopQ.norm ⟨(wr64 (v28 + 1)), (v29 ++ [x38]), rfl, h⟩)
    · obtain rfl := some_inj h
      exact runK_end cfg_ok (k := 1) (rs := [([], [], [(3, .val (.pl (.int .i64 (ba1.Records.length : Int))))])]) (ps := [some false]) (tds := []) (m := [1, 2, 3]) (keep := [2, 3]) (ex := (.exit 0)) (st' := (f14r1n2E ba1 (.exit0 v29)).2) (by kernel_rfl) (ap (len_cv (xs := ba1.Records) (c := JournalRecord.cells)) (ap h31 an)) (fun h => nomatch h) (LoopQ.out rfl rfl)
noncomputable def f14r1n2L (ba1 : Journal) : List JournalRecord → Int → (List JournalRecord) → Option f14r1n2O
  | [], v28, v29 =>
    some (.exit0 v29)
  | x0 :: rest, v28, v29 =>
    bif (x0.Lines.isEmpty) then
      req (fit (v29.length + 1) 48) <|
      (f14r1n2L ba1 rest (v28 + 1) (v29 ++ [(JournalRecord.mk x0.Day x0.Text [])]))
    else
      req (fit x0.Lines.length 40) <|
      req (fit (v29.length + 1) 48) <|
      (f14r1n2L ba1 rest (v28 + 1) (v29 ++ [x0]))
theorem f14r1n2L_eq (ba1 : Journal) : ∀ (rest : List JournalRecord) (f k : Nat) (v29 : List JournalRecord), ba1.Records.drop k = rest → ba1.Records.length ≤ maxLen → rest.length < f → f14r1n2 f ba1 (k : Int) v29 = f14r1n2L ba1 rest (k : Int) v29
  | _, 0, _, _, _, _, hf => absurd hf (Nat.not_lt_zero _)
  | [], f + 1, k, v29, hd, hm, hf => by
    have hk : ¬ ((k : Int) < (ba1.Records.length : Int)) := by have := drop_nil hd; omega
    rw [f14r1n2, f14r1n2L]
    simp only [decide_eq_false hk, cond_false]
  | x0 :: rest, f + 1, k, v29, hd, hm, hf => by
    obtain ⟨hx, hlt, hd'⟩ := drop_cons hd
    have hk : (k : Int) < (ba1.Records.length : Int) := by omega
    have hw : wr64 ((k : Int) + 1) = (k : Int) + 1 := wr64_of (by omega) (by unfold maxLen at hm; omega)
    have ih : ∀ (v29 : List JournalRecord), f14r1n2 f ba1 ((k : Int) + 1) v29 = f14r1n2L ba1 rest ((k : Int) + 1) v29 := fun v29 => f14r1n2L_eq ba1 rest f (k + 1) v29 hd' hm (by simpa using hf)
    rw [f14r1n2, f14r1n2L]
    simp only [decide_eq_true hk, cond_true, at_nat, hx, Option.bind_some, hw, ih]
theorem f14r1n2_run (ba1 : Journal) (v29 : List JournalRecord) (hm : ba1.Records.length ≤ maxLen) : f14r1n2 FUEL ba1 0 v29 = f14r1n2L ba1 ba1.Records 0 v29 := f14r1n2L_eq ba1 ba1.Records FUEL 0 v29 List.drop_zero hm (lt_FUEL hm)
inductive f14r1n1O where
  | norm (v48 : List JournalRecord)
def f14r1n1E (ba1 : Journal) : f14r1n1O → Ex × Tr × Hp
  | .norm v48 => (.norm, mkS [(2, (.bp 0 0)), (3, (.bp 1 0))], [some (.box [(.pl (.sl .nil 0 []))]), some (.box [(.own 2)]), some (.row false 3 (v48.map JournalRecord.cells))])
def f14r1n1S (ba1 : Journal) : Tr × Hp := (mkS [(1, (.bp 0 0)), (2, (.bp 1 0)), (3, (.bp 2 0))], [some (.box ((Journal.cells ba1).map .pl)), some (.box [(.pl (.sl .nil 0 []))]), some (.box [(.pl (.sl .nil 0 []))])])
noncomputable def f14r1n1 (ba1 : Journal) : Option f14r1n1O :=
  (f14r1n2 FUEL ba1 0 []).bind fun o45 => match o45 with
  | .exit0 v47 => some (.norm v47)
theorem f14r1n1_ok (ba1 : Journal) {o : f14r1n1O} (h : (f14r1n1 ba1) = some o) : T Try.prog Try.f14.ntmps 0 (cL (dropC 2 c14)) (f14r1n1S ba1) (fun r => r = f14r1n1E ba1 o) := by
  unfold f14r1n1 at h
  refine runK_norm cfg_ok (k := 1) (rs := [([], [], [])]) (ps := []) (tds := [.matC 2 0 3]) (m := [0, 1, 2, 3]) (keep := [1, 2, 3, 4]) (st' := (f14r1n2S ba1 0 [])) (by kernel_rfl) an ?_
  obtain ⟨o45, h46, h⟩ := bind_cases h
  cases o45 with
  | exit0 v47 =>
    obtain rfl := some_inj h
    exact T.last' (T.bl (i := 0) (by kernel_rfl) (by kernel_rfl) (f14r1n2_ok FUEL ba1 0 [] h46)) (tds := []) (m := [0, 1, 2]) (keep := [2, 3]) (st2 := (f14r1n1E ba1 (.norm v47)).2) (by kernel_rfl) an rfl
inductive f14r1n0O where
  | ret (v52 : List JournalRecord)
def f14r1n0E (a1 : Journal) : f14r1n0O → Ex × Tr × Hp
  | .ret v52 => (.ret, mkS [(2, (.bp 0 0))], [some (.box [(.own 1)]), some (.row false 3 (v52.map JournalRecord.cells))])
def f14r1n0S (a1 : Journal) : Tr × Hp := (initS [(.pl (.agg (Journal.cells a1)))] 0 .leaf, [])
noncomputable def f14r1n0 (a1 : Journal) : Option f14r1n0O :=
  (f14r1n1 a1).bind fun o49 => match o49 with
  | .norm v51 => some (.ret v51)
theorem f14r1n0_ok (a1 : Journal) {o : f14r1n0O} (h : (f14r1n0 a1) = some o) : T Try.prog Try.f14.ntmps 0 c14 (f14r1n0S a1) (fun r => r = f14r1n0E a1 o) := by
  unfold f14r1n0 at h
  refine runK_norm cfg_ok (k := 2) (rs := [([], [], []), ([], [], [])]) (ps := []) (tds := []) (m := [0, 1, 2]) (keep := [1, 2, 3]) (st' := (f14r1n1S a1)) (by kernel_rfl) an ?_
  obtain ⟨o49, h50, h⟩ := bind_cases h
  cases o49 with
  | norm v51 =>
    refine T.oneN (by kernel_rfl) (f14r1n1_ok a1 h50) (st2 := (f14r1n1E a1 (.norm v51)).2) rfl ?_
    obtain rfl := some_inj h
    exact run_end cfg_ok (rs := [([], [], [])]) (ps := []) (tds := []) (m := [0, 2]) (keep := [2]) (r := (.ret, (f14r1n0E a1 (.ret v51)).2)) (by kernel_rfl) an rfl
noncomputable def f14r1 (a1 : Journal) : Option (List JournalRecord) := (f14r1n0 a1).bind fun o => match o with
  | .ret v52 => some v52
theorem f14r1_ok (a1 : Journal) {r : List JournalRecord} (h : (f14r1 a1) = some r) : CallS Try.prog true 14 [(.pl (.agg (Journal.cells a1)))] [] (.agg [(.own 1)]) [some (.box [(.own 1)]), some (.row false 3 (r.map JournalRecord.cells))] := by
  unfold f14r1 at h
  obtain ⟨o, ho, h⟩ := bind_cases h
  cases o with
  | ret v52 =>
    obtain rfl := some_inj h
    exact CallS.shared cfg_ok (f := Try.f14) (c := c14) (by kernel_rfl) (by kernel_rfl) (by kernel_rfl) ((f14r1n0_ok a1 ho).mono fun r e => by subst e; exact ⟨.inl rfl, by kernel_rfl, by kernel_rfl⟩)
end Go.Proofs.Ytbgjlpdeoljmiaa
