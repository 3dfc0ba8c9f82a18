/- Functions of the program, plainly, and that the machine computes them. No condition. -/
import Derived.Test.YtbgjlpdeoljmiaaW6
namespace Go.Proofs.Ytbgjlpdeoljmiaa
set_option linter.unusedVariables false
set_option linter.unusedSimpArgs false
set_option maxRecDepth 100000
open Go.RowKit
/-! ### novation/novationref38.Same -/
noncomputable def c19 : Code := Try.f19.body.getD .skip
inductive f19n2O where
  | exit0
  | ret
def f19n2E (ba1 : Journal) (ba2 : Journal) : f19n2O → Ex × Tr × Hp
  | .exit0 => ((.exit 0), mkS [], [])
  | .ret => (.ret, mkS [(4, (.pl (.bool false)))], [])
def f19n2S (ba1 : Journal) (ba2 : Journal) (v38 : Int) : Tr × Hp := (mkS [(2, (.bp 0 0)), (3, (.bp 1 0)), (5, (.pl (.int .i64 v38)))], [some (.box ((Journal.cells ba1).map .pl)), some (.box ((Journal.cells ba2).map .pl))])
noncomputable def f19n2 : Nat → Journal → Journal → Int → Option f19n2O
  | 0, _, _, _ => none
  | f + 1, ba1, ba2, v38 =>
    bif (decide (v38 < (ba1.Records.length : Int))) then
      (at? ba1.Records v38).bind fun x48 =>
      (at? ba2.Records v38).bind fun x50 =>
      (f27 x48 x50).bind fun x52 =>
      bif x52 then
        (f19n2 f ba1 ba2 (wr64 (v38 + 1)))
      else
        some .ret
    else
      some .exit0
theorem f19n2_ok : ∀ (f : Nat) (ba1 : Journal) (ba2 : Journal) (v38 : Int) {o : f19n2O}, (f19n2 f ba1 ba2 v38) = some o → TL Try.prog Try.f19.ntmps 0 f (cL (cL (dropC 1 (cL (dropC 2 c19))))) (f19n2S ba1 ba2 v38) (fun r => r = f19n2E ba1 ba2 o)
  | 0, _, _, _, o, h => by rw [f19n2] at h; cases h
  | f + 1, ba1, ba2, v38, o, h => by
    rw [f19n2] at h
    refine TL.body (K := fun s => ∃ v38 : Int, s = (f19n2S ba1 ba2 v38) ∧ (f19n2 f ba1 ba2 v38) = some o) ?_ (by rintro _ ⟨v38, rfl, hk⟩; exact f19n2_ok f _ _ _ hk)
    rcases cond_cases h with ⟨h40, h⟩ | ⟨h40, h⟩
    · obtain ⟨x48, h49, h⟩ := bind_cases h
      obtain ⟨x50, h51, h⟩ := bind_cases h
      obtain ⟨x52, h53, h⟩ := bind_cases h
      rcases cond_cases h with ⟨h54, h⟩ | ⟨h54, h⟩
      · exact run_end cfg_ok (rs := [([], [], [(3, .val (.pl (.int .i64 (ba1.Records.length : Int))))]), ([], [(3, .idx (Int.toNat v38) (JournalRecord.cells x48)), (8, .idx (Int.toNat v38) (JournalRecord.cells x50)), (10, .call (.pl (.bool x52)) [])], []), ([], [], [])]) (ps := [some true, some false]) (tds := []) (m := [0, 1]) (keep := [2, 3, 5]) (r := (.norm, (f19n2S ba1 ba2 (wr64 (v38 + 1))))) (by kernel_rfl) (ap (len_cv (xs := ba1.Records) (c := JournalRecord.cells)) (ap h40 (ap (at_some h49).1 (ap (at_map JournalRecord.cells (at_some h49).2) (ap (at_some h51).1 (ap (at_map JournalRecord.cells (at_some h51).2) (ap (f27_ok x48 x50 h53) (ap (not_t h54) an)))))))) (LoopQ.norm ⟨(wr64 (v38 + 1)), rfl, h⟩)
      · obtain rfl := some_inj h
        exact runK_end cfg_ok (k := 2) (rs := [([], [], [(3, .val (.pl (.int .i64 (ba1.Records.length : Int))))]), ([], [(3, .idx (Int.toNat v38) (JournalRecord.cells x48)), (8, .idx (Int.toNat v38) (JournalRecord.cells x50)), (10, .call (.pl (.bool x52)) [])], []), ([], [], [])]) (ps := [some true, some true]) (tds := []) (m := []) (keep := [4]) (ex := .ret) (st' := (f19n2E ba1 ba2 .ret).2) (by kernel_rfl) (ap (len_cv (xs := ba1.Records) (c := JournalRecord.cells)) (ap h40 (ap (at_some h49).1 (ap (at_map JournalRecord.cells (at_some h49).2) (ap (at_some h51).1 (ap (at_map JournalRecord.cells (at_some h51).2) (ap (f27_ok x48 x50 h53) (ap (not_f h54) an)))))))) (fun h => nomatch h) (LoopQ.out rfl rfl)
    · obtain rfl := some_inj h
      exact runK_end cfg_ok (k := 1) (rs := [([], [], [(3, .val (.pl (.int .i64 (ba1.Records.length : Int))))])]) (ps := [some false]) (tds := []) (m := []) (keep := []) (ex := (.exit 0)) (st' := (f19n2E ba1 ba2 .exit0).2) (by kernel_rfl) (ap (len_cv (xs := ba1.Records) (c := JournalRecord.cells)) (ap h40 an)) (fun h => nomatch h) (LoopQ.out rfl rfl)
noncomputable def f19n2L (ba1 : Journal) (ba2 : Journal) : List JournalRecord → Int → Option f19n2O
  | [], v38 =>
    some .exit0
  | x0 :: rest, v38 =>
    (at? ba2.Records v38).bind fun x50 =>
    (f27 x0 x50).bind fun x52 =>
    bif x52 then
      (f19n2L ba1 ba2 rest (v38 + 1))
    else
      some .ret
theorem f19n2L_eq (ba1 : Journal) (ba2 : Journal) : ∀ (rest : List JournalRecord) (f k : Nat), ba1.Records.drop k = rest → ba1.Records.length ≤ maxLen → rest.length < f → f19n2 f ba1 ba2 (k : Int) = f19n2L ba1 ba2 rest (k : Int)
  | _, 0, _, _, _, hf => absurd hf (Nat.not_lt_zero _)
  | [], f + 1, k, hd, hm, hf => by
    have hk : ¬ ((k : Int) < (ba1.Records.length : Int)) := by have := drop_nil hd; omega
    rw [f19n2, f19n2L]
    simp only [decide_eq_false hk, cond_false]
  | x0 :: rest, f + 1, k, hd, hm, hf => by
    obtain ⟨hx, hlt, hd'⟩ := drop_cons hd
    have hk : (k : Int) < (ba1.Records.length : Int) := by omega
    have hw : wr64 ((k : Int) + 1) = (k : Int) + 1 := wr64_of (by omega) (by unfold maxLen at hm; omega)
    have ih : f19n2 f ba1 ba2 ((k : Int) + 1) = f19n2L ba1 ba2 rest ((k : Int) + 1) := f19n2L_eq ba1 ba2 rest f (k + 1) hd' hm (by simpa using hf)
    rw [f19n2, f19n2L]
    simp only [decide_eq_true hk, cond_true, at_nat, hx, Option.bind_some, hw, ih]
theorem f19n2_run (ba1 : Journal) (ba2 : Journal) (hm : ba1.Records.length ≤ maxLen) : f19n2 FUEL ba1 ba2 0 = f19n2L ba1 ba2 ba1.Records 0 := f19n2L_eq ba1 ba2 ba1.Records FUEL 0 List.drop_zero hm (lt_FUEL hm)
inductive f19n1O where
  | norm
  | ret
def f19n1E (ba1 : Journal) (ba2 : Journal) : f19n1O → Ex × Tr × Hp
  | .norm => (.norm, mkS [], [])
  | .ret => (.ret, mkS [(4, (.pl (.bool false)))], [])
def f19n1S (ba1 : Journal) (ba2 : Journal) : Tr × Hp := (mkS [(2, (.bp 0 0)), (3, (.bp 1 0))], [some (.box ((Journal.cells ba1).map .pl)), some (.box ((Journal.cells ba2).map .pl))])
noncomputable def f19n1 (ba1 : Journal) (ba2 : Journal) : Option f19n1O :=
  (f19n2 FUEL ba1 ba2 0).bind fun o55 => match o55 with
  | .exit0 => some .norm
  | .ret => some .ret
theorem f19n1_ok (ba1 : Journal) (ba2 : Journal) {o : f19n1O} (h : (f19n1 ba1 ba2) = some o) : T Try.prog Try.f19.ntmps 0 (cL (dropC 2 c19)) (f19n1S ba1 ba2) (fun r => r = f19n1E ba1 ba2 o) := by
  unfold f19n1 at h
  refine runK_norm cfg_ok (k := 1) (rs := [([], [], [])]) (ps := []) (tds := []) (m := [0, 1]) (keep := [2, 3, 5]) (st' := (f19n2S ba1 ba2 0)) (by kernel_rfl) an ?_
  obtain ⟨o55, h56, h⟩ := bind_cases h
  cases o55 with
  | exit0 =>
    obtain rfl := some_inj h
    exact T.last' (T.bl (i := 0) (by kernel_rfl) (by kernel_rfl) (f19n2_ok FUEL ba1 ba2 0 h56)) (tds := []) (m := []) (keep := []) (st2 := (f19n1E ba1 ba2 .norm).2) (by kernel_rfl) an rfl
  | ret =>
    obtain rfl := some_inj h
    exact T.last' (T.bl (i := 0) (by kernel_rfl) (by kernel_rfl) (f19n2_ok FUEL ba1 ba2 0 h56)) (tds := []) (m := []) (keep := [4]) (st2 := (f19n1E ba1 ba2 .ret).2) (by kernel_rfl) an rfl
inductive f19n0O where
  | ret (v59 : Bool)
def f19n0E (a1 : Journal) (a2 : Journal) : f19n0O → Ex × Tr × Hp
  | .ret v59 => (.ret, mkS [(4, (.pl (.bool v59)))], [])
def f19n0S (a1 : Journal) (a2 : Journal) : Tr × Hp := (initS [(.pl (.agg (Journal.cells a1))), (.pl (.agg (Journal.cells a2)))] 0 .leaf, [])
noncomputable def f19n0 (a1 : Journal) (a2 : Journal) : Option f19n0O :=
  bif (decide ((a1.Records.length : Int) = (a2.Records.length : Int))) then
    (f19n1 a1 a2).bind fun o57 => match o57 with
    | .norm => some (.ret true)
    | .ret => some (.ret false)
  else
    some (.ret false)
theorem f19n0_ok (a1 : Journal) (a2 : Journal) {o : f19n0O} (h : (f19n0 a1 a2) = some o) : T Try.prog Try.f19.ntmps 0 c19 (f19n0S a1 a2) (fun r => r = f19n0E a1 a2 o) := by
  unfold f19n0 at h
  rcases cond_cases h with ⟨h4, h⟩ | ⟨h4, h⟩
  · refine runK_norm cfg_ok (k := 2) (rs := [([], [], []), ([], [], [(2, .val (.pl (.int .i64 (a1.Records.length : Int)))), (5, .val (.pl (.int .i64 (a2.Records.length : Int))))])]) (ps := [some false]) (tds := []) (m := [0, 1]) (keep := [2, 3]) (st' := (f19n1S a1 a2)) (by kernel_rfl) (ap (len_cv (xs := a1.Records) (c := JournalRecord.cells)) (ap (len_cv (xs := a2.Records) (c := JournalRecord.cells)) (ap (not_t h4) an))) ?_
    obtain ⟨o57, h58, h⟩ := bind_cases h
    cases o57 with
    | norm =>
      refine T.oneN (by kernel_rfl) (f19n1_ok a1 a2 h58) (st2 := (f19n1E a1 a2 .norm).2) rfl ?_
      obtain rfl := some_inj h
      exact run_end cfg_ok (rs := [([], [], [])]) (ps := []) (tds := []) (m := []) (keep := [4]) (r := (.ret, (f19n0E a1 a2 (.ret true)).2)) (by kernel_rfl) an rfl
    | ret =>
      obtain rfl := some_inj h
      exact T.oneX' (by kernel_rfl) (f19n1_ok a1 a2 h58) (tds := []) (m := []) (keep := [4]) (st2 := (f19n0E a1 a2 (.ret false)).2) (by kernel_rfl) an rfl rfl
  · obtain rfl := some_inj h
    exact runK_end cfg_ok (k := 2) (rs := [([], [], []), ([], [], [(2, .val (.pl (.int .i64 (a1.Records.length : Int)))), (5, .val (.pl (.int .i64 (a2.Records.length : Int))))]), ([], [], [])]) (ps := [some true]) (tds := []) (m := []) (keep := [4]) (ex := .ret) (st' := (f19n0E a1 a2 (.ret false)).2) (by kernel_rfl) (ap (len_cv (xs := a1.Records) (c := JournalRecord.cells)) (ap (len_cv (xs := a2.Records) (c := JournalRecord.cells)) (ap (not_f h4) an))) (fun h => nomatch h) rfl
noncomputable def f19 (a1 : Journal) (a2 : Journal) : Option Bool := (f19n0 a1 a2).bind fun o => match o with
  | .ret v59 => some v59
theorem f19_ok (a1 : Journal) (a2 : Journal) {r : Bool} (h : (f19 a1 a2) = some r) : CallS Try.prog false 19 [(.pl (.agg (Journal.cells a1))), (.pl (.agg (Journal.cells a2)))] [] (.pl (.bool r)) [] := by
  unfold f19 at h
  obtain ⟨o, ho, h⟩ := bind_cases h
  cases o with
  | ret v59 =>
    obtain rfl := some_inj h
    exact CallS.plain cfg_ok (f := Try.f19) (c := c19) (by kernel_rfl) (by kernel_rfl) (by kernel_rfl) (by kernel_rfl) ((f19n0_ok a1 a2 ho).mono fun r e => by subst e; exact ⟨.inl rfl, (.pl (.bool v59)), (.pl (.bool v59)), by kernel_rfl, by kernel_rfl, ((Wk.refl _) : Wk (.pl (.bool v59)) (.pl (.bool v59)))⟩)
/-! ### novation/novationlaw38.alive -/
noncomputable def c11 : Code := Try.f11.body.getD .skip
inductive f11n2O where
  | exit0 (v51 : Int)
def f11n2E (bn1 : (List Int) × Int) (bl2 : Journal × Int) : f11n2O → Ex × Tr × Hp
  | .exit0 v51 => ((.exit 0), mkS [(1, (.bp 0 0)), (3, (.pl (.sl .any 1 (bn1.1.map (cInt .u8))))), (5, (.pl (.int .u64 v51)))], [some (.box ((Journal.cells bl2.1).map .pl))])
def f11n2S (bn1 : (List Int) × Int) (bl2 : Journal × Int) (v47 : Int) (v48 : Int) : Tr × Hp := (mkS [(1, (.bp 0 0)), (3, (.pl (.sl .any 1 (bn1.1.map (cInt .u8))))), (5, (.pl (.int .u64 v47))), (6, (.pl (.int .i64 v48)))], [some (.box ((Journal.cells bl2.1).map .pl))])
noncomputable def f11n2 : Nat → (List Int) × Int → Journal × Int → Int → Int → Option f11n2O
  | 0, _, _, _, _ => none
  | f + 1, bn1, bl2, v47, v48 =>
    bif (decide (v48 < 8)) then
      (f11n2 f bn1 bl2 (wru64 (v47 * 1099511628211)) (wr64 (v48 + 1)))
    else
      some (.exit0 v47)
theorem f11n2_ok : ∀ (f : Nat) (bn1 : (List Int) × Int) (bl2 : Journal × Int) (v47 : Int) (v48 : Int) {o : f11n2O}, (f11n2 f bn1 bl2 v47 v48) = some o → TL Try.prog Try.f11.ntmps 0 f (cL (cL (dropC 1 (cL (dropC 5 c11))))) (f11n2S bn1 bl2 v47 v48) (fun r => r = f11n2E bn1 bl2 o)
  | 0, _, _, _, _, o, h => by rw [f11n2] at h; cases h
  | f + 1, bn1, bl2, v47, v48, o, h => by
    rw [f11n2] at h
    refine TL.body (K := fun s => ∃ v47 : Int, ∃ v48 : Int, s = (f11n2S bn1 bl2 v47 v48) ∧ (f11n2 f bn1 bl2 v47 v48) = some o) ?_ (by rintro _ ⟨v47, v48, rfl, hk⟩; exact f11n2_ok f _ _ _ _ hk)
    rcases cond_cases h with ⟨h50, h⟩ | ⟨h50, h⟩
    · exact run_end cfg_ok (rs := [([], [], []), ([], [], []), ([], [], [])]) (ps := [some true]) (tds := []) (m := [0]) (keep := [1, 3, 5, 6]) (r := (.norm, (f11n2S bn1 bl2 (wru64 (v47 * 1099511628211)) (wr64 (v48 + 1))))) (by kernel_rfl) (ap h50 an) (LoopQ.norm ⟨(wru64 (v47 * 1099511628211)), (wr64 (v48 + 1)), rfl, h⟩)
    · obtain rfl := some_inj h
      exact runK_end cfg_ok (k := 1) (rs := [([], [], [])]) (ps := [some false]) (tds := []) (m := [0]) (keep := [1, 3, 5]) (ex := (.exit 0)) (st' := (f11n2E bn1 bl2 (.exit0 v47)).2) (by kernel_rfl) (ap h50 an) (fun h => nomatch h) (LoopQ.out rfl rfl)
inductive f11n1O where
  | norm (v55 : Int)
def f11n1E (bn1 : (List Int) × Int) (bl2 : Journal × Int) : f11n1O → Ex × Tr × Hp
  | .norm v55 => (.norm, mkS [(1, (.bp 0 0)), (3, (.pl (.sl .any 1 (bn1.1.map (cInt .u8))))), (5, (.pl (.int .u64 v55)))], [some (.box ((Journal.cells bl2.1).map .pl))])
def f11n1S (bn1 : (List Int) × Int) (bl2 : Journal × Int) : Tr × Hp := (mkS [(1, (.bp 0 0)), (3, (.pl (.sl .any 1 (bn1.1.map (cInt .u8))))), (5, (.pl (.int .u64 14695981039346656037)))], [some (.box ((Journal.cells bl2.1).map .pl))])
noncomputable def f11n1 (bn1 : (List Int) × Int) (bl2 : Journal × Int) : Option f11n1O :=
  (f11n2 FUEL bn1 bl2 14695981039346656037 0).bind fun o52 => match o52 with
  | .exit0 v54 => some (.norm v54)
theorem f11n1_ok (bn1 : (List Int) × Int) (bl2 : Journal × Int) {o : f11n1O} (h : (f11n1 bn1 bl2) = some o) : T Try.prog Try.f11.ntmps 0 (cL (dropC 5 c11)) (f11n1S bn1 bl2) (fun r => r = f11n1E bn1 bl2 o) := by
  unfold f11n1 at h
  refine runK_norm cfg_ok (k := 1) (rs := [([], [], [])]) (ps := []) (tds := []) (m := [0]) (keep := [1, 3, 5, 6]) (st' := (f11n2S bn1 bl2 14695981039346656037 0)) (by kernel_rfl) an ?_
  obtain ⟨o52, h53, h⟩ := bind_cases h
  cases o52 with
  | exit0 v54 =>
    obtain rfl := some_inj h
    exact T.last' (T.bl (i := 0) (by kernel_rfl) (by kernel_rfl) (f11n2_ok FUEL bn1 bl2 14695981039346656037 0 h53)) (tds := []) (m := [0]) (keep := [1, 3, 5]) (st2 := (f11n1E bn1 bl2 (.norm v54)).2) (by kernel_rfl) an rfl
inductive f11n0O where
  | ret (v83 : Bool)
def f11n0E : f11n0O → Ex × Tr × Hp
  | .ret v83 => (.ret, mkS [(0, (.pl (.bool v83)))], [])
def f11n0S : Tr × Hp := (initS [] 0 .leaf, [])
noncomputable def f11n0 : Option f11n0O :=
  f36.bind fun x7 =>
  (f37r1 5).bind fun x9 =>
  (f30 x7 1 str_x78 [(JournalLine.mk str_a str_EUR 5), (JournalLine.mk str_b str_EUR (wr64 (0 - 5)))]).bind fun x11 =>
  (f13 x11.1).bind fun x15 =>
  bif (decide (x11.2 = 0)) then
    bif (decide (x15.2 = 0)) then
      bif (decide ((x15.1.length : Int) = 51)) then
        req (cutB 0 4 x15.1.length) <|
        (f18 ((x15.1.take (Int.toNat 4)).drop 0) [39, 0, 0, 0]).bind fun x34 =>
        bif x34 then
          req (cutB 4 43 x15.1.length) <|
          f38r1.bind fun x38 =>
          (f18 ((x15.1.take (Int.toNat 43)).drop (Int.toNat 4)) [1, 0, 0, 0, 1, 0, 0, 0, 1, 120, 2, 1, 97, 3, 69, 85, 82, 5, 0, 0, 0, 0, 0, 0, 0, 1, 98, 3, 69, 85, 82, 251, 255, 255, 255, 255, 255, 255, 255]).bind fun x40 =>
          bif x40 then
            (f11n1 x15 x11).bind fun o56 => match o56 with
            | .norm v58 => (f16 x15.1).bind fun x61 =>
              (f25 x11.1 str_b str_EUR).bind fun x65 =>
              (f20 0 []).bind fun x75 =>
              bif (decide (x75 = v58)) then
                (f19 x11.1 x61.1).bind fun x78 =>
                bif x78 then
                  bif (decide (x61.2 = 51)) then
                    bif (decide (x65.2 = 0)) then
                      some (.ret (decide (x65.1 = (-5))))
                    else
                      some (.ret false)
                  else
                    some (.ret false)
                else
                  some (.ret false)
              else
                some (.ret false)
          else
            some (.ret false)
        else
          some (.ret false)
      else
        some (.ret false)
    else
      some (.ret false)
  else
    some (.ret false)
theorem f11n0_ok {o : f11n0O} (h : f11n0 = some o) : T Try.prog Try.f11.ntmps 0 c11 f11n0S (fun r => r = f11n0E o) := by
  unfold f11n0 at h
  obtain ⟨x7, h8, h⟩ := bind_cases h
  obtain ⟨x9, h10, h⟩ := bind_cases h
  obtain ⟨x11, h12, h⟩ := bind_cases h
  obtain ⟨x15, h16, h⟩ := bind_cases h
  rcases cond_cases h with ⟨h30, h⟩ | ⟨h30, h⟩
  · rcases cond_cases h with ⟨h31, h⟩ | ⟨h31, h⟩
    · rcases cond_cases h with ⟨h32, h⟩ | ⟨h32, h⟩
      · obtain ⟨h33, h⟩ := req_cases h
        obtain ⟨x34, h35, h⟩ := bind_cases h
        rcases cond_cases h with ⟨h36, h⟩ | ⟨h36, h⟩
        · obtain ⟨h37, h⟩ := req_cases h
          obtain ⟨x38, h39, h⟩ := bind_cases h
          obtain ⟨x40, h41, h⟩ := bind_cases h
          rcases cond_cases h with ⟨h42, h⟩ | ⟨h42, h⟩
          · refine runK_norm cfg_ok (k := 5) (rs := [([], [], []), ([], [(0, .call (.pl (.agg (Journal.cells x7))) []), (1, .call (.own 0) [some (.row false 3 ([(JournalLine.mk str_a str_EUR 5), (JournalLine.mk str_b str_EUR (wr64 (0 - 5)))].map JournalLine.cells))]), (2, .call (.tup [(.pl (.agg (Journal.cells x11.1))), (.pl (.int .i64 x11.2))]) [])], []), ([], [(1, .call (.tup [(.pl (.sl .any 1 (x15.1.map (cInt .u8)))), (.pl (.int .i64 x15.2))]) [])], []), ([(3, false), (4, false), (7, false), (8, false), (9, false), (12, false), (13, false), (14, false), (15, false), (16, false), (19, false), (20, false), (21, false), (22, false), (23, false)], [(5, .bool false), (10, .bool false), (13, .cut 0 (Int.toNat 4)), (15, .call (.pl (.bool x34)) []), (17, .bool false), (20, .cut (Int.toNat 4) (Int.toNat 43)), (21, .call (.own 4) [none, none, none, none, some (.row false 1 ([1, 0, 0, 0, 1, 0, 0, 0, 1, 120, 2, 1, 97, 3, 69, 85, 82, 5, 0, 0, 0, 0, 0, 0, 0, 1, 98, 3, 69, 85, 82, 251, 255, 255, 255, 255, 255, 255, 255].map (cInt .u8)))]), (22, .call (.pl (.bool x40)) []), (24, .bool false)], [(8, .val (.pl (.int .i64 (x15.1.length : Int)))), (13, .val (.pl (.sl .any 1 (((x15.1.take (Int.toNat 4)).drop 0).map (cInt .u8))))), (20, .val (.pl (.sl .any 1 (((x15.1.take (Int.toNat 43)).drop (Int.toNat 4)).map (cInt .u8)))))]), ([], [], [])]) (ps := [some false]) (tds := []) (m := [1]) (keep := [1, 3, 5]) (st' := (f11n1S x15 x11)) (by kernel_rfl) (ap (f36_ok h8) (ap (f37r1_ok 5 h10) (ap (f30_ok x7 1 str_x78 [(JournalLine.mk str_a str_EUR 5), (JournalLine.mk str_b str_EUR (wr64 (0 - 5)))] h12) (ap (f13_ok x11.1 h16) (ap (not_t h30) (ap (not_t h30) (ap (not_t h30) (ap (not_t h31) (ap (not_t h31) (ap (len_cv (xs := x15.1) (c := (cInt .u8))) (ap (not_t h31) (ap (not_t h31) (ap (not_t h32) (ap (not_t h32) (ap (cut_hn_1_map (c := (cInt .u8)) h33) (ap (cut_hn_2 h33) (ap (cut_hn_3 h33) (ap (cut_hn_4_map (c := (cInt .u8)) h33) (ap (congrArg (fun l => AV.pl (.sl .any 1 l)) (cut_cv (xs := x15.1) (c := (cInt .u8)) (n := (Int.toNat 4)) (m := 0))) (ap (not_t h32) (ap (not_t h32) (ap (not_t h32) (ap (not_t h32) (ap (not_t h36) (ap (not_t h36) (ap (cut_hl_1_map (c := (cInt .u8)) h37) (ap (cut_hl_2 h37) (ap (cut_hl_3 h37) (ap (cut_hl_4_map (c := (cInt .u8)) h37) (ap (congrArg (fun l => AV.pl (.sl .any 1 l)) (cut_cv (xs := x15.1) (c := (cInt .u8)) (n := (Int.toNat 43)) (m := (Int.toNat 4)))) (ap (not_t h36) (ap (not_t h36) (ap (not_t h36) (ap (not_t h36) (ap (same_len (e := ⟨false, 18, [(.pl (.sl .any 1 (((x15.1.take (Int.toNat 4)).drop 0).map (cInt .u8)))), (.pl (.sl .any 1 ([39, 0, 0, 0].map (cInt .u8))))], [], (.pl (.bool x34)), []⟩) (f := ⟨false, 18, [(.pl (.sl .any 1 (((x15.1.take (Int.toNat 43)).drop (Int.toNat 4)).map (cInt .u8)))), (.pl (.sl .any 1 ([1, 0, 0, 0, 1, 0, 0, 0, 1, 120, 2, 1, 97, 3, 69, 85, 82, 5, 0, 0, 0, 0, 0, 0, 0, 1, 98, 3, 69, 85, 82, 251, 255, 255, 255, 255, 255, 255, 255].map (cInt .u8))))], [], (.pl (.bool x40)), []⟩) 1 (by kernel_rfl)) (ap (f18_ok ((x15.1.take (Int.toNat 4)).drop 0) [39, 0, 0, 0] h35) (ap (CallS.ren (args' := []) (v' := (.own 4)) (B := [none, none, none, none]) (B' := [none, none, none, none, some (.row false 1 ([1, 0, 0, 0, 1, 0, 0, 0, 1, 120, 2, 1, 97, 3, 69, 85, 82, 5, 0, 0, 0, 0, 0, 0, 0, 1, 98, 3, 69, 85, 82, 251, 255, 255, 255, 255, 255, 255, 255].map (cInt .u8)))]) 4 [] (f38r1_ok h39) (by kernel_rfl) (by kernel_rfl) (by kernel_rfl) (by kernel_rfl) (by kernel_rfl) (by kernel_rfl)) (ap (f18_ok ((x15.1.take (Int.toNat 43)).drop (Int.toNat 4)) [1, 0, 0, 0, 1, 0, 0, 0, 1, 120, 2, 1, 97, 3, 69, 85, 82, 5, 0, 0, 0, 0, 0, 0, 0, 1, 98, 3, 69, 85, 82, 251, 255, 255, 255, 255, 255, 255, 255] h41) (ap (not_t h42) an))))))))))))))))))))))))))))))))))))))) ?_
            obtain ⟨o56, h57, h⟩ := bind_cases h
            cases o56 with
            | norm v58 =>
              refine T.oneN (by kernel_rfl) (f11n1_ok x15 x11 h57) (st2 := (f11n1E x15 x11 (.norm v58)).2) rfl ?_
              obtain ⟨x61, h62, h⟩ := bind_cases h
              obtain ⟨x65, h66, h⟩ := bind_cases h
              obtain ⟨x75, h76, h⟩ := bind_cases h
              rcases cond_cases h with ⟨h77, h⟩ | ⟨h77, h⟩
              · obtain ⟨x78, h79, h⟩ := bind_cases h
                rcases cond_cases h with ⟨h80, h⟩ | ⟨h80, h⟩
                · rcases cond_cases h with ⟨h81, h⟩ | ⟨h81, h⟩
                  · rcases cond_cases h with ⟨h82, h⟩ | ⟨h82, h⟩
                    · obtain rfl := some_inj h
                      exact run_end cfg_ok (rs := [([], [(1, .call (.tup [(.pl (.agg (Journal.cells x61.1))), (.pl (.int .i64 x61.2))]) [])], []), ([], [(1, .call (.tup [(.pl (.int .i64 x65.1)), (.pl (.int .i64 x65.2))]) [])], []), ([(4, true), (5, true), (6, true), (9, true), (10, true), (13, true), (14, true), (17, true), (18, true)], [(0, .call (.pl (.int .u64 x75)) []), (6, .call (.pl (.bool x78)) []), (7, .bool true), (11, .bool true), (15, .bool true), (19, .bool true)], [])]) (ps := []) (tds := []) (m := []) (keep := [0]) (r := (.ret, (f11n0E (.ret (decide (x65.1 = (-5))))).2)) (by kernel_rfl) (ap (f16_ok x15.1 h62) (ap (f25_ok x11.1 str_b str_EUR h66) (ap h77 (ap h77 (ap h77 (ap h77 (ap h80 (ap h80 (ap h80 (ap h81 (ap h81 (ap h81 (ap h82 (ap h82 (ap h82 (ap (CallS.wk (args' := [(.pl (.int .u64 0)), (.pl (.sl .nil 0 []))]) (f20_ok 0 [] h76) (wlc (Wk.refl _) (wlc (Wk.pl (WkP.nil (f := .nil) (sz := 0) (sz' := 1))) wln)) (Wk.refl _) rfl) (ap (f19_ok x11.1 x61.1 h79) an))))))))))))))))) rfl
                    · obtain rfl := some_inj h
                      exact run_end cfg_ok (rs := [([], [(1, .call (.tup [(.pl (.agg (Journal.cells x61.1))), (.pl (.int .i64 x61.2))]) [])], []), ([], [(1, .call (.tup [(.pl (.int .i64 x65.1)), (.pl (.int .i64 x65.2))]) [])], []), ([(4, true), (5, true), (6, true), (9, true), (10, true), (13, true), (14, true), (17, false), (18, false)], [(0, .call (.pl (.int .u64 x75)) []), (6, .call (.pl (.bool x78)) []), (7, .bool true), (11, .bool true), (15, .bool true), (19, .bool false)], [])]) (ps := []) (tds := []) (m := []) (keep := [0]) (r := (.ret, (f11n0E (.ret false)).2)) (by kernel_rfl) (ap (f16_ok x15.1 h62) (ap (f25_ok x11.1 str_b str_EUR h66) (ap h77 (ap h77 (ap h77 (ap h77 (ap h80 (ap h80 (ap h80 (ap h81 (ap h81 (ap h81 (ap h82 (ap h82 (ap h82 (ap (CallS.wk (args' := [(.pl (.int .u64 0)), (.pl (.sl .nil 0 []))]) (f20_ok 0 [] h76) (wlc (Wk.refl _) (wlc (Wk.pl (WkP.nil (f := .nil) (sz := 0) (sz' := 1))) wln)) (Wk.refl _) rfl) (ap (f19_ok x11.1 x61.1 h79) an))))))))))))))))) rfl
                  · obtain rfl := some_inj h
                    exact run_end cfg_ok (rs := [([], [(1, .call (.tup [(.pl (.agg (Journal.cells x61.1))), (.pl (.int .i64 x61.2))]) [])], []), ([], [(1, .call (.tup [(.pl (.int .i64 x65.1)), (.pl (.int .i64 x65.2))]) [])], []), ([(4, true), (5, true), (6, true), (9, true), (10, true), (13, false), (14, false)], [(0, .call (.pl (.int .u64 x75)) []), (6, .call (.pl (.bool x78)) []), (7, .bool true), (11, .bool true), (15, .bool false)], [])]) (ps := []) (tds := []) (m := []) (keep := [0]) (r := (.ret, (f11n0E (.ret false)).2)) (by kernel_rfl) (ap (f16_ok x15.1 h62) (ap (f25_ok x11.1 str_b str_EUR h66) (ap h77 (ap h77 (ap h77 (ap h77 (ap h80 (ap h80 (ap h80 (ap h81 (ap h81 (ap h81 (ap (CallS.wk (args' := [(.pl (.int .u64 0)), (.pl (.sl .nil 0 []))]) (f20_ok 0 [] h76) (wlc (Wk.refl _) (wlc (Wk.pl (WkP.nil (f := .nil) (sz := 0) (sz' := 1))) wln)) (Wk.refl _) rfl) (ap (f19_ok x11.1 x61.1 h79) an)))))))))))))) rfl
                · obtain rfl := some_inj h
                  exact run_end cfg_ok (rs := [([], [(1, .call (.tup [(.pl (.agg (Journal.cells x61.1))), (.pl (.int .i64 x61.2))]) [])], []), ([], [(1, .call (.tup [(.pl (.int .i64 x65.1)), (.pl (.int .i64 x65.2))]) [])], []), ([(4, true), (5, true), (6, true), (9, false), (10, false)], [(0, .call (.pl (.int .u64 x75)) []), (6, .call (.pl (.bool x78)) []), (7, .bool true), (11, .bool false)], [])]) (ps := []) (tds := []) (m := []) (keep := [0]) (r := (.ret, (f11n0E (.ret false)).2)) (by kernel_rfl) (ap (f16_ok x15.1 h62) (ap (f25_ok x11.1 str_b str_EUR h66) (ap h77 (ap h77 (ap h77 (ap h77 (ap h80 (ap h80 (ap h80 (ap (CallS.wk (args' := [(.pl (.int .u64 0)), (.pl (.sl .nil 0 []))]) (f20_ok 0 [] h76) (wlc (Wk.refl _) (wlc (Wk.pl (WkP.nil (f := .nil) (sz := 0) (sz' := 1))) wln)) (Wk.refl _) rfl) (ap (f19_ok x11.1 x61.1 h79) an))))))))))) rfl
              · obtain rfl := some_inj h
                exact run_end cfg_ok (rs := [([], [(1, .call (.tup [(.pl (.agg (Journal.cells x61.1))), (.pl (.int .i64 x61.2))]) [])], []), ([], [(1, .call (.tup [(.pl (.int .i64 x65.1)), (.pl (.int .i64 x65.2))]) [])], []), ([(4, false), (5, false), (6, false)], [(0, .call (.pl (.int .u64 x75)) []), (7, .bool false)], [])]) (ps := []) (tds := []) (m := []) (keep := [0]) (r := (.ret, (f11n0E (.ret false)).2)) (by kernel_rfl) (ap (f16_ok x15.1 h62) (ap (f25_ok x11.1 str_b str_EUR h66) (ap h77 (ap h77 (ap h77 (ap h77 (ap (CallS.wk (args' := [(.pl (.int .u64 0)), (.pl (.sl .nil 0 []))]) (f20_ok 0 [] h76) (wlc (Wk.refl _) (wlc (Wk.pl (WkP.nil (f := .nil) (sz := 0) (sz' := 1))) wln)) (Wk.refl _) rfl) an))))))) rfl
          · obtain rfl := some_inj h
            exact runK_end cfg_ok (k := 4) (rs := [([], [], []), ([], [(0, .call (.pl (.agg (Journal.cells x7))) []), (1, .call (.own 0) [some (.row false 3 ([(JournalLine.mk str_a str_EUR 5), (JournalLine.mk str_b str_EUR (wr64 (0 - 5)))].map JournalLine.cells))]), (2, .call (.tup [(.pl (.agg (Journal.cells x11.1))), (.pl (.int .i64 x11.2))]) [])], []), ([], [(1, .call (.tup [(.pl (.sl .any 1 (x15.1.map (cInt .u8)))), (.pl (.int .i64 x15.2))]) [])], []), ([(3, false), (4, false), (7, false), (8, false), (9, false), (12, false), (13, false), (14, false), (15, false), (16, false), (19, false), (20, false), (21, false), (22, false), (23, false)], [(5, .bool false), (10, .bool false), (13, .cut 0 (Int.toNat 4)), (15, .call (.pl (.bool x34)) []), (17, .bool false), (20, .cut (Int.toNat 4) (Int.toNat 43)), (21, .call (.own 4) [none, none, none, none, some (.row false 1 ([1, 0, 0, 0, 1, 0, 0, 0, 1, 120, 2, 1, 97, 3, 69, 85, 82, 5, 0, 0, 0, 0, 0, 0, 0, 1, 98, 3, 69, 85, 82, 251, 255, 255, 255, 255, 255, 255, 255].map (cInt .u8)))]), (22, .call (.pl (.bool x40)) []), (24, .bool false)], [(8, .val (.pl (.int .i64 (x15.1.length : Int)))), (13, .val (.pl (.sl .any 1 (((x15.1.take (Int.toNat 4)).drop 0).map (cInt .u8))))), (20, .val (.pl (.sl .any 1 (((x15.1.take (Int.toNat 43)).drop (Int.toNat 4)).map (cInt .u8)))))]), ([], [], [])]) (ps := [some true]) (tds := []) (m := []) (keep := [0]) (ex := .ret) (st' := (f11n0E (.ret false)).2) (by kernel_rfl) (ap (f36_ok h8) (ap (f37r1_ok 5 h10) (ap (f30_ok x7 1 str_x78 [(JournalLine.mk str_a str_EUR 5), (JournalLine.mk str_b str_EUR (wr64 (0 - 5)))] h12) (ap (f13_ok x11.1 h16) (ap (not_t h30) (ap (not_t h30) (ap (not_t h30) (ap (not_t h31) (ap (not_t h31) (ap (len_cv (xs := x15.1) (c := (cInt .u8))) (ap (not_t h31) (ap (not_t h31) (ap (not_t h32) (ap (not_t h32) (ap (cut_hn_1_map (c := (cInt .u8)) h33) (ap (cut_hn_2 h33) (ap (cut_hn_3 h33) (ap (cut_hn_4_map (c := (cInt .u8)) h33) (ap (congrArg (fun l => AV.pl (.sl .any 1 l)) (cut_cv (xs := x15.1) (c := (cInt .u8)) (n := (Int.toNat 4)) (m := 0))) (ap (not_t h32) (ap (not_t h32) (ap (not_t h32) (ap (not_t h32) (ap (not_t h36) (ap (not_t h36) (ap (cut_hl_1_map (c := (cInt .u8)) h37) (ap (cut_hl_2 h37) (ap (cut_hl_3 h37) (ap (cut_hl_4_map (c := (cInt .u8)) h37) (ap (congrArg (fun l => AV.pl (.sl .any 1 l)) (cut_cv (xs := x15.1) (c := (cInt .u8)) (n := (Int.toNat 43)) (m := (Int.toNat 4)))) (ap (not_t h36) (ap (not_t h36) (ap (not_t h36) (ap (not_t h36) (ap (same_len (e := ⟨false, 18, [(.pl (.sl .any 1 (((x15.1.take (Int.toNat 4)).drop 0).map (cInt .u8)))), (.pl (.sl .any 1 ([39, 0, 0, 0].map (cInt .u8))))], [], (.pl (.bool x34)), []⟩) (f := ⟨false, 18, [(.pl (.sl .any 1 (((x15.1.take (Int.toNat 43)).drop (Int.toNat 4)).map (cInt .u8)))), (.pl (.sl .any 1 ([1, 0, 0, 0, 1, 0, 0, 0, 1, 120, 2, 1, 97, 3, 69, 85, 82, 5, 0, 0, 0, 0, 0, 0, 0, 1, 98, 3, 69, 85, 82, 251, 255, 255, 255, 255, 255, 255, 255].map (cInt .u8))))], [], (.pl (.bool x40)), []⟩) 1 (by kernel_rfl)) (ap (f18_ok ((x15.1.take (Int.toNat 4)).drop 0) [39, 0, 0, 0] h35) (ap (CallS.ren (args' := []) (v' := (.own 4)) (B := [none, none, none, none]) (B' := [none, none, none, none, some (.row false 1 ([1, 0, 0, 0, 1, 0, 0, 0, 1, 120, 2, 1, 97, 3, 69, 85, 82, 5, 0, 0, 0, 0, 0, 0, 0, 1, 98, 3, 69, 85, 82, 251, 255, 255, 255, 255, 255, 255, 255].map (cInt .u8)))]) 4 [] (f38r1_ok h39) (by kernel_rfl) (by kernel_rfl) (by kernel_rfl) (by kernel_rfl) (by kernel_rfl) (by kernel_rfl)) (ap (f18_ok ((x15.1.take (Int.toNat 43)).drop (Int.toNat 4)) [1, 0, 0, 0, 1, 0, 0, 0, 1, 120, 2, 1, 97, 3, 69, 85, 82, 5, 0, 0, 0, 0, 0, 0, 0, 1, 98, 3, 69, 85, 82, 251, 255, 255, 255, 255, 255, 255, 255] h41) (ap (not_f h42) an))))))))))))))))))))))))))))))))))))))) (fun h => nomatch h) rfl
        · obtain rfl := some_inj h
          exact runK_end cfg_ok (k := 4) (rs := [([], [], []), ([], [(0, .call (.pl (.agg (Journal.cells x7))) []), (1, .call (.own 0) [some (.row false 3 ([(JournalLine.mk str_a str_EUR 5), (JournalLine.mk str_b str_EUR (wr64 (0 - 5)))].map JournalLine.cells))]), (2, .call (.tup [(.pl (.agg (Journal.cells x11.1))), (.pl (.int .i64 x11.2))]) [])], []), ([], [(1, .call (.tup [(.pl (.sl .any 1 (x15.1.map (cInt .u8)))), (.pl (.int .i64 x15.2))]) [])], []), ([(3, false), (4, false), (7, false), (8, false), (9, false), (12, false), (13, false), (14, false), (15, false), (16, false), (19, true), (20, true), (21, true), (22, true), (23, true)], [(5, .bool false), (10, .bool false), (13, .cut 0 (Int.toNat 4)), (15, .call (.pl (.bool x34)) []), (17, .bool false), (24, .bool true)], [(8, .val (.pl (.int .i64 (x15.1.length : Int)))), (13, .val (.pl (.sl .any 1 (((x15.1.take (Int.toNat 4)).drop 0).map (cInt .u8)))))]), ([], [], [])]) (ps := [none]) (tds := []) (m := []) (keep := [0]) (ex := .ret) (st' := (f11n0E (.ret false)).2) (by kernel_rfl) (ap (f36_ok h8) (ap (f37r1_ok 5 h10) (ap (f30_ok x7 1 str_x78 [(JournalLine.mk str_a str_EUR 5), (JournalLine.mk str_b str_EUR (wr64 (0 - 5)))] h12) (ap (f13_ok x11.1 h16) (ap (not_t h30) (ap (not_t h30) (ap (not_t h30) (ap (not_t h31) (ap (not_t h31) (ap (len_cv (xs := x15.1) (c := (cInt .u8))) (ap (not_t h31) (ap (not_t h31) (ap (not_t h32) (ap (not_t h32) (ap (cut_hn_1_map (c := (cInt .u8)) h33) (ap (cut_hn_2 h33) (ap (cut_hn_3 h33) (ap (cut_hn_4_map (c := (cInt .u8)) h33) (ap (congrArg (fun l => AV.pl (.sl .any 1 l)) (cut_cv (xs := x15.1) (c := (cInt .u8)) (n := (Int.toNat 4)) (m := 0))) (ap (not_t h32) (ap (not_t h32) (ap (not_t h32) (ap (not_t h32) (ap (not_f h36) (ap (not_f h36) (ap (not_f h36) (ap (not_f h36) (ap (not_f h36) (ap (not_f h36) (ap (f18_ok ((x15.1.take (Int.toNat 4)).drop 0) [39, 0, 0, 0] h35) an)))))))))))))))))))))))))))))) (fun h => nomatch h) rfl
      · obtain rfl := some_inj h
        exact runK_end cfg_ok (k := 4) (rs := [([], [], []), ([], [(0, .call (.pl (.agg (Journal.cells x7))) []), (1, .call (.own 0) [some (.row false 3 ([(JournalLine.mk str_a str_EUR 5), (JournalLine.mk str_b str_EUR (wr64 (0 - 5)))].map JournalLine.cells))]), (2, .call (.tup [(.pl (.agg (Journal.cells x11.1))), (.pl (.int .i64 x11.2))]) [])], []), ([], [(1, .call (.tup [(.pl (.sl .any 1 (x15.1.map (cInt .u8)))), (.pl (.int .i64 x15.2))]) [])], []), ([(3, false), (4, false), (7, false), (8, false), (9, false), (12, true), (13, true), (14, true), (15, true), (16, true)], [(5, .bool false), (10, .bool false), (17, .bool true)], [(8, .val (.pl (.int .i64 (x15.1.length : Int))))]), ([], [], [])]) (ps := [none]) (tds := []) (m := []) (keep := [0]) (ex := .ret) (st' := (f11n0E (.ret false)).2) (by kernel_rfl) (ap (f36_ok h8) (ap (f37r1_ok 5 h10) (ap (f30_ok x7 1 str_x78 [(JournalLine.mk str_a str_EUR 5), (JournalLine.mk str_b str_EUR (wr64 (0 - 5)))] h12) (ap (f13_ok x11.1 h16) (ap (not_t h30) (ap (not_t h30) (ap (not_t h30) (ap (not_t h31) (ap (not_t h31) (ap (len_cv (xs := x15.1) (c := (cInt .u8))) (ap (not_t h31) (ap (not_t h31) (ap (not_f h32) (ap (not_f h32) (ap (not_f h32) (ap (not_f h32) (ap (not_f h32) (ap (not_f h32) an)))))))))))))))))) (fun h => nomatch h) rfl
    · obtain rfl := some_inj h
      exact runK_end cfg_ok (k := 4) (rs := [([], [], []), ([], [(0, .call (.pl (.agg (Journal.cells x7))) []), (1, .call (.own 0) [some (.row false 3 ([(JournalLine.mk str_a str_EUR 5), (JournalLine.mk str_b str_EUR (wr64 (0 - 5)))].map JournalLine.cells))]), (2, .call (.tup [(.pl (.agg (Journal.cells x11.1))), (.pl (.int .i64 x11.2))]) [])], []), ([], [(1, .call (.tup [(.pl (.sl .any 1 (x15.1.map (cInt .u8)))), (.pl (.int .i64 x15.2))]) [])], []), ([(3, false), (4, false), (7, true), (8, true), (9, true)], [(5, .bool false), (10, .bool true)], []), ([], [], [])]) (ps := [none]) (tds := []) (m := []) (keep := [0]) (ex := .ret) (st' := (f11n0E (.ret false)).2) (by kernel_rfl) (ap (f36_ok h8) (ap (f37r1_ok 5 h10) (ap (f30_ok x7 1 str_x78 [(JournalLine.mk str_a str_EUR 5), (JournalLine.mk str_b str_EUR (wr64 (0 - 5)))] h12) (ap (f13_ok x11.1 h16) (ap (not_t h30) (ap (not_t h30) (ap (not_t h30) (ap (not_f h31) (ap (not_f h31) (ap (not_f h31) (ap (not_f h31) an))))))))))) (fun h => nomatch h) rfl
  · obtain rfl := some_inj h
    exact runK_end cfg_ok (k := 4) (rs := [([], [], []), ([], [(0, .call (.pl (.agg (Journal.cells x7))) []), (1, .call (.own 0) [some (.row false 3 ([(JournalLine.mk str_a str_EUR 5), (JournalLine.mk str_b str_EUR (wr64 (0 - 5)))].map JournalLine.cells))]), (2, .call (.tup [(.pl (.agg (Journal.cells x11.1))), (.pl (.int .i64 x11.2))]) [])], []), ([], [(1, .call (.tup [(.pl (.sl .any 1 (x15.1.map (cInt .u8)))), (.pl (.int .i64 x15.2))]) [])], []), ([(3, true), (4, true)], [(5, .bool true)], []), ([], [], [])]) (ps := [none]) (tds := []) (m := []) (keep := [0]) (ex := .ret) (st' := (f11n0E (.ret false)).2) (by kernel_rfl) (ap (f36_ok h8) (ap (f37r1_ok 5 h10) (ap (f30_ok x7 1 str_x78 [(JournalLine.mk str_a str_EUR 5), (JournalLine.mk str_b str_EUR (wr64 (0 - 5)))] h12) (ap (f13_ok x11.1 h16) (ap (not_f h30) (ap (not_f h30) (ap (not_f h30) an))))))) (fun h => nomatch h) rfl
noncomputable def f11 : Option Bool := f11n0.bind fun o => match o with
  | .ret v83 => some v83
theorem f11_ok {r : Bool} (h : f11 = some r) : CallS Try.prog false 11 [] [] (.pl (.bool r)) [] := by
  unfold f11 at h
  obtain ⟨o, ho, h⟩ := bind_cases h
  cases o with
  | ret v83 =>
    obtain rfl := some_inj h
    exact CallS.plain cfg_ok (f := Try.f11) (c := c11) (by kernel_rfl) (by kernel_rfl) (by kernel_rfl) (by kernel_rfl) ((f11n0_ok  ho).mono fun r e => by subst e; exact ⟨.inl rfl, (.pl (.bool v83)), (.pl (.bool v83)), by kernel_rfl, by kernel_rfl, ((Wk.refl _) : Wk (.pl (.bool v83)) (.pl (.bool v83)))⟩)
/-! ### novation/novationlaw38.JournalNames -/
noncomputable def c9 : Code := Try.f9.body.getD .skip
inductive f9n1O where
  | norm (v137 : Bool)
def f9n1E (bl1 : Journal × Int) (bl2 : Journal × Int) (bl3 : Journal × Int) (bl4 : Journal × Int) (bl5 : Journal × Int) (bl6 : Journal × Int) (bl7 : Journal × Int) (bl8 : Journal × Int) (bl9 : Journal × Int) (bl10 : Journal × Int) (bl11 : Journal × Int) (bl12 : Journal × Int) (bm13 : Int × Int) (bn14 : (List Int) × Int) (bl15 : Journal × Int) (bi16 : List JournalRecord) : f9n1O → Ex × Tr × Hp
  | .norm v137 => (.norm, mkS [(22, (.bp 0 0)), (23, (.pl (.int .i64 bl11.2))), (24, (.bp 1 0)), (25, (.pl (.int .i64 bl12.2))), (26, (.pl (.int .i64 bm13.1))), (27, (.pl (.int .i64 bm13.2))), (28, (.bp 2 0)), (30, (.pl (.int .i64 bn14.2))), (31, (.bp 3 0)), (32, (.pl (.int .i64 bl15.2))), (33, (.pl (.bool v137)))], [some (.box ((Journal.cells bl11.1).map .pl)), some (.box ((Journal.cells bl12.1).map .pl)), some (.box [(.own 4)]), some (.box ((Journal.cells bl15.1).map .pl)), some (.row true 3 (bi16.map JournalRecord.cells))])
def f9n1S (bl1 : Journal × Int) (bl2 : Journal × Int) (bl3 : Journal × Int) (bl4 : Journal × Int) (bl5 : Journal × Int) (bl6 : Journal × Int) (bl7 : Journal × Int) (bl8 : Journal × Int) (bl9 : Journal × Int) (bl10 : Journal × Int) (bl11 : Journal × Int) (bl12 : Journal × Int) (bm13 : Int × Int) (bn14 : (List Int) × Int) (bl15 : Journal × Int) (bi16 : List JournalRecord) : Tr × Hp := (mkS [(2, (.pl (.int .i64 bl1.2))), (4, (.pl (.int .i64 bl2.2))), (6, (.pl (.int .i64 bl3.2))), (8, (.pl (.int .i64 bl4.2))), (10, (.pl (.int .i64 bl5.2))), (12, (.pl (.int .i64 bl6.2))), (14, (.pl (.int .i64 bl7.2))), (16, (.pl (.int .i64 bl8.2))), (18, (.pl (.int .i64 bl9.2))), (21, (.pl (.int .i64 bl10.2))), (22, (.bp 0 0)), (23, (.pl (.int .i64 bl11.2))), (24, (.bp 1 0)), (25, (.pl (.int .i64 bl12.2))), (26, (.pl (.int .i64 bm13.1))), (27, (.pl (.int .i64 bm13.2))), (28, (.bp 2 0)), (30, (.pl (.int .i64 bn14.2))), (31, (.bp 3 0)), (32, (.pl (.int .i64 bl15.2)))], [some (.box ((Journal.cells bl11.1).map .pl)), some (.box ((Journal.cells bl12.1).map .pl)), some (.box [(.own 4)]), some (.box ((Journal.cells bl15.1).map .pl)), some (.row true 3 (bi16.map JournalRecord.cells))])
noncomputable def f9n1 (bl1 : Journal × Int) (bl2 : Journal × Int) (bl3 : Journal × Int) (bl4 : Journal × Int) (bl5 : Journal × Int) (bl6 : Journal × Int) (bl7 : Journal × Int) (bl8 : Journal × Int) (bl9 : Journal × Int) (bl10 : Journal × Int) (bl11 : Journal × Int) (bl12 : Journal × Int) (bm13 : Int × Int) (bn14 : (List Int) × Int) (bl15 : Journal × Int) (bi16 : List JournalRecord) : Option f9n1O :=
  bif (decide (bl1.2 = 0)) then
    bif (decide (bl2.2 = 40)) then
      bif (decide (bl3.2 = 14)) then
        bif (decide (bl4.2 = 0)) then
          bif (decide (bl5.2 = 2)) then
            bif (decide (bl6.2 = 2)) then
              bif (decide (bl7.2 = 2)) then
                bif (decide (bl8.2 = 2)) then
                  bif (decide (bl9.2 = 60)) then
                    some (.norm (decide (bl10.2 = 60)))
                  else
                    some (.norm false)
                else
                  some (.norm false)
              else
                some (.norm false)
            else
              some (.norm false)
          else
            some (.norm false)
        else
          some (.norm false)
      else
        some (.norm false)
    else
      some (.norm false)
  else
    some (.norm false)
theorem f9n1_ok (bl1 : Journal × Int) (bl2 : Journal × Int) (bl3 : Journal × Int) (bl4 : Journal × Int) (bl5 : Journal × Int) (bl6 : Journal × Int) (bl7 : Journal × Int) (bl8 : Journal × Int) (bl9 : Journal × Int) (bl10 : Journal × Int) (bl11 : Journal × Int) (bl12 : Journal × Int) (bm13 : Int × Int) (bn14 : (List Int) × Int) (bl15 : Journal × Int) (bi16 : List JournalRecord) {o : f9n1O} (h : (f9n1 bl1 bl2 bl3 bl4 bl5 bl6 bl7 bl8 bl9 bl10 bl11 bl12 bm13 bn14 bl15 bi16) = some o) : T Try.prog Try.f9.ntmps 0 (cL (dropC 19 c9)) (f9n1S bl1 bl2 bl3 bl4 bl5 bl6 bl7 bl8 bl9 bl10 bl11 bl12 bm13 bn14 bl15 bi16) (fun r => r = f9n1E bl1 bl2 bl3 bl4 bl5 bl6 bl7 bl8 bl9 bl10 bl11 bl12 bm13 bn14 bl15 bi16 o) := by
  unfold f9n1 at h
  rcases cond_cases h with ⟨h128, h⟩ | ⟨h128, h⟩
  · rcases cond_cases h with ⟨h129, h⟩ | ⟨h129, h⟩
    · rcases cond_cases h with ⟨h130, h⟩ | ⟨h130, h⟩
      · rcases cond_cases h with ⟨h131, h⟩ | ⟨h131, h⟩
        · rcases cond_cases h with ⟨h132, h⟩ | ⟨h132, h⟩
          · rcases cond_cases h with ⟨h133, h⟩ | ⟨h133, h⟩
            · rcases cond_cases h with ⟨h134, h⟩ | ⟨h134, h⟩
              · rcases cond_cases h with ⟨h135, h⟩ | ⟨h135, h⟩
                · rcases cond_cases h with ⟨h136, h⟩ | ⟨h136, h⟩
                  · obtain rfl := some_inj h
                    exact run_end cfg_ok (rs := [([(3, true), (4, true), (7, true), (8, true), (11, true), (12, true), (15, true), (16, true), (19, true), (20, true), (23, true), (24, true), (27, true), (28, true), (31, true), (32, true), (35, true), (36, true)], [(5, .bool true), (9, .bool true), (13, .bool true), (17, .bool true), (21, .bool true), (25, .bool true), (29, .bool true), (33, .bool true), (37, .bool true)], [])]) (ps := []) (tds := []) (m := [0, 1, 2, 3, 4]) (keep := [22, 23, 24, 25, 26, 27, 28, 30, 31, 32, 33]) (r := (.norm, (f9n1E bl1 bl2 bl3 bl4 bl5 bl6 bl7 bl8 bl9 bl10 bl11 bl12 bm13 bn14 bl15 bi16 (.norm (decide (bl10.2 = 60)))).2)) (by kernel_rfl) (ap h128 (ap h128 (ap h128 (ap h129 (ap h129 (ap h129 (ap h130 (ap h130 (ap h130 (ap h131 (ap h131 (ap h131 (ap h132 (ap h132 (ap h132 (ap h133 (ap h133 (ap h133 (ap h134 (ap h134 (ap h134 (ap h135 (ap h135 (ap h135 (ap h136 (ap h136 (ap h136 an))))))))))))))))))))))))))) rfl
                  · obtain rfl := some_inj h
                    exact run_end cfg_ok (rs := [([(3, true), (4, true), (7, true), (8, true), (11, true), (12, true), (15, true), (16, true), (19, true), (20, true), (23, true), (24, true), (27, true), (28, true), (31, true), (32, true), (35, false), (36, false)], [(5, .bool true), (9, .bool true), (13, .bool true), (17, .bool true), (21, .bool true), (25, .bool true), (29, .bool true), (33, .bool true), (37, .bool false)], [])]) (ps := []) (tds := []) (m := [0, 1, 2, 3, 4]) (keep := [22, 23, 24, 25, 26, 27, 28, 30, 31, 32, 33]) (r := (.norm, (f9n1E bl1 bl2 bl3 bl4 bl5 bl6 bl7 bl8 bl9 bl10 bl11 bl12 bm13 bn14 bl15 bi16 (.norm false)).2)) (by kernel_rfl) (ap h128 (ap h128 (ap h128 (ap h129 (ap h129 (ap h129 (ap h130 (ap h130 (ap h130 (ap h131 (ap h131 (ap h131 (ap h132 (ap h132 (ap h132 (ap h133 (ap h133 (ap h133 (ap h134 (ap h134 (ap h134 (ap h135 (ap h135 (ap h135 (ap h136 (ap h136 (ap h136 an))))))))))))))))))))))))))) rfl
                · obtain rfl := some_inj h
                  exact run_end cfg_ok (rs := [([(3, true), (4, true), (7, true), (8, true), (11, true), (12, true), (15, true), (16, true), (19, true), (20, true), (23, true), (24, true), (27, true), (28, true), (31, false), (32, false)], [(5, .bool true), (9, .bool true), (13, .bool true), (17, .bool true), (21, .bool true), (25, .bool true), (29, .bool true), (33, .bool false)], [])]) (ps := []) (tds := []) (m := [0, 1, 2, 3, 4]) (keep := [22, 23, 24, 25, 26, 27, 28, 30, 31, 32, 33]) (r := (.norm, (f9n1E bl1 bl2 bl3 bl4 bl5 bl6 bl7 bl8 bl9 bl10 bl11 bl12 bm13 bn14 bl15 bi16 (.norm false)).2)) (by kernel_rfl) (ap h128 (ap h128 (ap h128 (ap h129 (ap h129 (ap h129 (ap h130 (ap h130 (ap h130 (ap h131 (ap h131 (ap h131 (ap h132 (ap h132 (ap h132 (ap h133 (ap h133 (ap h133 (ap h134 (ap h134 (ap h134 (ap h135 (ap h135 (ap h135 an)))))))))))))))))))))))) rfl
              · obtain rfl := some_inj h
                exact run_end cfg_ok (rs := [([(3, true), (4, true), (7, true), (8, true), (11, true), (12, true), (15, true), (16, true), (19, true), (20, true), (23, true), (24, true), (27, false), (28, false)], [(5, .bool true), (9, .bool true), (13, .bool true), (17, .bool true), (21, .bool true), (25, .bool true), (29, .bool false)], [])]) (ps := []) (tds := []) (m := [0, 1, 2, 3, 4]) (keep := [22, 23, 24, 25, 26, 27, 28, 30, 31, 32, 33]) (r := (.norm, (f9n1E bl1 bl2 bl3 bl4 bl5 bl6 bl7 bl8 bl9 bl10 bl11 bl12 bm13 bn14 bl15 bi16 (.norm false)).2)) (by kernel_rfl) (ap h128 (ap h128 (ap h128 (ap h129 (ap h129 (ap h129 (ap h130 (ap h130 (ap h130 (ap h131 (ap h131 (ap h131 (ap h132 (ap h132 (ap h132 (ap h133 (ap h133 (ap h133 (ap h134 (ap h134 (ap h134 an))))))))))))))))))))) rfl
            · obtain rfl := some_inj h
              exact run_end cfg_ok (rs := [([(3, true), (4, true), (7, true), (8, true), (11, true), (12, true), (15, true), (16, true), (19, true), (20, true), (23, false), (24, false)], [(5, .bool true), (9, .bool true), (13, .bool true), (17, .bool true), (21, .bool true), (25, .bool false)], [])]) (ps := []) (tds := []) (m := [0, 1, 2, 3, 4]) (keep := [22, 23, 24, 25, 26, 27, 28, 30, 31, 32, 33]) (r := (.norm, (f9n1E bl1 bl2 bl3 bl4 bl5 bl6 bl7 bl8 bl9 bl10 bl11 bl12 bm13 bn14 bl15 bi16 (.norm false)).2)) (by kernel_rfl) (ap h128 (ap h128 (ap h128 (ap h129 (ap h129 (ap h129 (ap h130 (ap h130 (ap h130 (ap h131 (ap h131 (ap h131 (ap h132 (ap h132 (ap h132 (ap h133 (ap h133 (ap h133 an)))))))))))))))))) rfl
          · obtain rfl := some_inj h
            exact run_end cfg_ok (rs := [([(3, true), (4, true), (7, true), (8, true), (11, true), (12, true), (15, true), (16, true), (19, false), (20, false)], [(5, .bool true), (9, .bool true), (13, .bool true), (17, .bool true), (21, .bool false)], [])]) (ps := []) (tds := []) (m := [0, 1, 2, 3, 4]) (keep := [22, 23, 24, 25, 26, 27, 28, 30, 31, 32, 33]) (r := (.norm, (f9n1E bl1 bl2 bl3 bl4 bl5 bl6 bl7 bl8 bl9 bl10 bl11 bl12 bm13 bn14 bl15 bi16 (.norm false)).2)) (by kernel_rfl) (ap h128 (ap h128 (ap h128 (ap h129 (ap h129 (ap h129 (ap h130 (ap h130 (ap h130 (ap h131 (ap h131 (ap h131 (ap h132 (ap h132 (ap h132 an))))))))))))))) rfl
        · obtain rfl := some_inj h
          exact run_end cfg_ok (rs := [([(3, true), (4, true), (7, true), (8, true), (11, true), (12, true), (15, false), (16, false)], [(5, .bool true), (9, .bool true), (13, .bool true), (17, .bool false)], [])]) (ps := []) (tds := []) (m := [0, 1, 2, 3, 4]) (keep := [22, 23, 24, 25, 26, 27, 28, 30, 31, 32, 33]) (r := (.norm, (f9n1E bl1 bl2 bl3 bl4 bl5 bl6 bl7 bl8 bl9 bl10 bl11 bl12 bm13 bn14 bl15 bi16 (.norm false)).2)) (by kernel_rfl) (ap h128 (ap h128 (ap h128 (ap h129 (ap h129 (ap h129 (ap h130 (ap h130 (ap h130 (ap h131 (ap h131 (ap h131 an)))))))))))) rfl
      · obtain rfl := some_inj h
        exact run_end cfg_ok (rs := [([(3, true), (4, true), (7, true), (8, true), (11, false), (12, false)], [(5, .bool true), (9, .bool true), (13, .bool false)], [])]) (ps := []) (tds := []) (m := [0, 1, 2, 3, 4]) (keep := [22, 23, 24, 25, 26, 27, 28, 30, 31, 32, 33]) (r := (.norm, (f9n1E bl1 bl2 bl3 bl4 bl5 bl6 bl7 bl8 bl9 bl10 bl11 bl12 bm13 bn14 bl15 bi16 (.norm false)).2)) (by kernel_rfl) (ap h128 (ap h128 (ap h128 (ap h129 (ap h129 (ap h129 (ap h130 (ap h130 (ap h130 an))))))))) rfl
    · obtain rfl := some_inj h
      exact run_end cfg_ok (rs := [([(3, true), (4, true), (7, false), (8, false)], [(5, .bool true), (9, .bool false)], [])]) (ps := []) (tds := []) (m := [0, 1, 2, 3, 4]) (keep := [22, 23, 24, 25, 26, 27, 28, 30, 31, 32, 33]) (r := (.norm, (f9n1E bl1 bl2 bl3 bl4 bl5 bl6 bl7 bl8 bl9 bl10 bl11 bl12 bm13 bn14 bl15 bi16 (.norm false)).2)) (by kernel_rfl) (ap h128 (ap h128 (ap h128 (ap h129 (ap h129 (ap h129 an)))))) rfl
  · obtain rfl := some_inj h
    exact run_end cfg_ok (rs := [([(3, false), (4, false)], [(5, .bool false)], [])]) (ps := []) (tds := []) (m := [0, 1, 2, 3, 4]) (keep := [22, 23, 24, 25, 26, 27, 28, 30, 31, 32, 33]) (r := (.norm, (f9n1E bl1 bl2 bl3 bl4 bl5 bl6 bl7 bl8 bl9 bl10 bl11 bl12 bm13 bn14 bl15 bi16 (.norm false)).2)) (by kernel_rfl) (ap h128 (ap h128 (ap h128 an))) rfl
inductive f9n2O where
  | norm (v175 : Bool)
def f9n2E (bl1 : Journal × Int) (bl2 : Journal × Int) (bm3 : Int × Int) (bn4 : (List Int) × Int) (bl5 : Journal × Int) (bo6 : Bool) (bi7 : List JournalRecord) : f9n2O → Ex × Tr × Hp
  | .norm v175 => (.norm, mkS [(33, (.pl (.bool bo6))), (34, (.pl (.bool v175)))], [])
def f9n2S (bl1 : Journal × Int) (bl2 : Journal × Int) (bm3 : Int × Int) (bn4 : (List Int) × Int) (bl5 : Journal × Int) (bo6 : Bool) (bi7 : List JournalRecord) : Tr × Hp := (mkS [(22, (.bp 0 0)), (23, (.pl (.int .i64 bl1.2))), (24, (.bp 1 0)), (25, (.pl (.int .i64 bl2.2))), (26, (.pl (.int .i64 bm3.1))), (27, (.pl (.int .i64 bm3.2))), (28, (.bp 2 0)), (30, (.pl (.int .i64 bn4.2))), (31, (.bp 3 0)), (32, (.pl (.int .i64 bl5.2))), (33, (.pl (.bool bo6)))], [some (.box ((Journal.cells bl1.1).map .pl)), some (.box ((Journal.cells bl2.1).map .pl)), some (.box [(.own 4)]), some (.box ((Journal.cells bl5.1).map .pl)), some (.row true 3 (bi7.map JournalRecord.cells))])
noncomputable def f9n2 (bl1 : Journal × Int) (bl2 : Journal × Int) (bm3 : Int × Int) (bn4 : (List Int) × Int) (bl5 : Journal × Int) (bo6 : Bool) (bi7 : List JournalRecord) : Option f9n2O :=
  bif (decide (bl1.2 = 0)) then
    bif (decide ((bl1.1.Records.length : Int) = 0)) then
      bif (decide (bl2.2 = 0)) then
        bif (decide ((bl2.1.Records.length : Int) = 2)) then
          bif (decide (bm3.2 = 0)) then
            bif (decide (bm3.1 = 0)) then
              bif (decide (bn4.2 = 8)) then
                (f28 (Journal.mk bi7)).bind fun x171 =>
                bif (decide (x171 = 8)) then
                  bif (decide ((bl5.1.Records.length : Int) = 0)) then
                    some (.norm (decide (bl5.2 = 0)))
                  else
                    some (.norm false)
                else
                  some (.norm false)
              else
                some (.norm false)
            else
              some (.norm false)
          else
            some (.norm false)
        else
          some (.norm false)
      else
        some (.norm false)
    else
      some (.norm false)
  else
    some (.norm false)
theorem f9n2_ok (bl1 : Journal × Int) (bl2 : Journal × Int) (bm3 : Int × Int) (bn4 : (List Int) × Int) (bl5 : Journal × Int) (bo6 : Bool) (bi7 : List JournalRecord) {o : f9n2O} (h : (f9n2 bl1 bl2 bm3 bn4 bl5 bo6 bi7) = some o) : T Try.prog Try.f9.ntmps 0 (cL (dropC 0 (dropC 1 (dropC 19 c9)))) (f9n2S bl1 bl2 bm3 bn4 bl5 bo6 bi7) (fun r => r = f9n2E bl1 bl2 bm3 bn4 bl5 bo6 bi7 o) := by
  unfold f9n2 at h
  rcases cond_cases h with ⟨h164, h⟩ | ⟨h164, h⟩
  · rcases cond_cases h with ⟨h165, h⟩ | ⟨h165, h⟩
    · rcases cond_cases h with ⟨h166, h⟩ | ⟨h166, h⟩
      · rcases cond_cases h with ⟨h167, h⟩ | ⟨h167, h⟩
        · rcases cond_cases h with ⟨h168, h⟩ | ⟨h168, h⟩
          · rcases cond_cases h with ⟨h169, h⟩ | ⟨h169, h⟩
            · rcases cond_cases h with ⟨h170, h⟩ | ⟨h170, h⟩
              · obtain ⟨x171, h172, h⟩ := bind_cases h
                rcases cond_cases h with ⟨h173, h⟩ | ⟨h173, h⟩
                · rcases cond_cases h with ⟨h174, h⟩ | ⟨h174, h⟩
                  · obtain rfl := some_inj h
                    exact run_end cfg_ok (rs := [([(3, true), (4, true), (5, true), (6, true), (9, true), (10, true), (13, true), (14, true), (15, true), (16, true), (19, true), (20, true), (23, true), (24, true), (27, true), (28, true), (31, true), (32, true), (33, true), (36, true), (37, true), (38, true), (39, true), (42, true), (43, true)], [(7, .bool true), (11, .bool true), (17, .bool true), (21, .bool true), (25, .bool true), (29, .bool true), (32, .call (.pl (.int .i64 x171)) []), (34, .bool true), (40, .bool true), (44, .bool true)], [(5, .val (.pl (.int .i64 (bl1.1.Records.length : Int)))), (15, .val (.pl (.int .i64 (bl2.1.Records.length : Int)))), (38, .val (.pl (.int .i64 (bl5.1.Records.length : Int))))])]) (ps := []) (tds := []) (m := []) (keep := [33, 34]) (r := (.norm, (f9n2E bl1 bl2 bm3 bn4 bl5 bo6 bi7 (.norm (decide (bl5.2 = 0)))).2)) (by kernel_rfl) (ap h164 (ap h164 (ap h164 (ap (len_cv (xs := bl1.1.Records) (c := JournalRecord.cells)) (ap h164 (ap h164 (ap h165 (ap h165 (ap h165 (ap h166 (ap h166 (ap h166 (ap (len_cv (xs := bl2.1.Records) (c := JournalRecord.cells)) (ap h166 (ap h166 (ap h167 (ap h167 (ap h167 (ap h168 (ap h168 (ap h168 (ap h169 (ap h169 (ap h169 (ap h170 (ap h170 (ap h170 (ap h170 (ap h173 (ap h173 (ap h173 (ap (len_cv (xs := bl5.1.Records) (c := JournalRecord.cells)) (ap h173 (ap h173 (ap h174 (ap h174 (ap h174 (ap (f28_ok (Journal.mk bi7) h172) an)))))))))))))))))))))))))))))))))))))) rfl
                  · obtain rfl := some_inj h
                    exact run_end cfg_ok (rs := [([(3, true), (4, true), (5, true), (6, true), (9, true), (10, true), (13, true), (14, true), (15, true), (16, true), (19, true), (20, true), (23, true), (24, true), (27, true), (28, true), (31, true), (32, true), (33, true), (36, true), (37, true), (38, true), (39, true), (42, false), (43, false)], [(7, .bool true), (11, .bool true), (17, .bool true), (21, .bool true), (25, .bool true), (29, .bool true), (32, .call (.pl (.int .i64 x171)) []), (34, .bool true), (40, .bool true), (44, .bool false)], [(5, .val (.pl (.int .i64 (bl1.1.Records.length : Int)))), (15, .val (.pl (.int .i64 (bl2.1.Records.length : Int)))), (38, .val (.pl (.int .i64 (bl5.1.Records.length : Int))))])]) (ps := []) (tds := []) (m := []) (keep := [33, 34]) (r := (.norm, (f9n2E bl1 bl2 bm3 bn4 bl5 bo6 bi7 (.norm false)).2)) (by kernel_rfl) (ap h164 (ap h164 (ap h164 (ap (len_cv (xs := bl1.1.Records) (c := JournalRecord.cells)) (ap h164 (ap h164 (ap h165 (ap h165 (ap h165 (ap h166 (ap h166 (ap h166 (ap (len_cv (xs := bl2.1.Records) (c := JournalRecord.cells)) (ap h166 (ap h166 (ap h167 (ap h167 (ap h167 (ap h168 (ap h168 (ap h168 (ap h169 (ap h169 (ap h169 (ap h170 (ap h170 (ap h170 (ap h170 (ap h173 (ap h173 (ap h173 (ap (len_cv (xs := bl5.1.Records) (c := JournalRecord.cells)) (ap h173 (ap h173 (ap h174 (ap h174 (ap h174 (ap (f28_ok (Journal.mk bi7) h172) an)))))))))))))))))))))))))))))))))))))) rfl
                · obtain rfl := some_inj h
                  exact run_end cfg_ok (rs := [([(3, true), (4, true), (5, true), (6, true), (9, true), (10, true), (13, true), (14, true), (15, true), (16, true), (19, true), (20, true), (23, true), (24, true), (27, true), (28, true), (31, true), (32, true), (33, true), (36, false), (37, false), (38, false), (39, false)], [(7, .bool true), (11, .bool true), (17, .bool true), (21, .bool true), (25, .bool true), (29, .bool true), (32, .call (.pl (.int .i64 x171)) []), (34, .bool true), (40, .bool false)], [(5, .val (.pl (.int .i64 (bl1.1.Records.length : Int)))), (15, .val (.pl (.int .i64 (bl2.1.Records.length : Int))))])]) (ps := []) (tds := []) (m := []) (keep := [33, 34]) (r := (.norm, (f9n2E bl1 bl2 bm3 bn4 bl5 bo6 bi7 (.norm false)).2)) (by kernel_rfl) (ap h164 (ap h164 (ap h164 (ap (len_cv (xs := bl1.1.Records) (c := JournalRecord.cells)) (ap h164 (ap h164 (ap h165 (ap h165 (ap h165 (ap h166 (ap h166 (ap h166 (ap (len_cv (xs := bl2.1.Records) (c := JournalRecord.cells)) (ap h166 (ap h166 (ap h167 (ap h167 (ap h167 (ap h168 (ap h168 (ap h168 (ap h169 (ap h169 (ap h169 (ap h170 (ap h170 (ap h170 (ap h170 (ap h173 (ap h173 (ap h173 (ap h173 (ap h173 (ap (f28_ok (Journal.mk bi7) h172) an)))))))))))))))))))))))))))))))))) rfl
              · obtain rfl := some_inj h
                exact run_end cfg_ok (rs := [([(3, true), (4, true), (5, true), (6, true), (9, true), (10, true), (13, true), (14, true), (15, true), (16, true), (19, true), (20, true), (23, true), (24, true), (27, true), (28, true), (31, false), (32, false), (33, false)], [(7, .bool true), (11, .bool true), (17, .bool true), (21, .bool true), (25, .bool true), (29, .bool true), (34, .bool false)], [(5, .val (.pl (.int .i64 (bl1.1.Records.length : Int)))), (15, .val (.pl (.int .i64 (bl2.1.Records.length : Int))))])]) (ps := []) (tds := []) (m := []) (keep := [33, 34]) (r := (.norm, (f9n2E bl1 bl2 bm3 bn4 bl5 bo6 bi7 (.norm false)).2)) (by kernel_rfl) (ap h164 (ap h164 (ap h164 (ap (len_cv (xs := bl1.1.Records) (c := JournalRecord.cells)) (ap h164 (ap h164 (ap h165 (ap h165 (ap h165 (ap h166 (ap h166 (ap h166 (ap (len_cv (xs := bl2.1.Records) (c := JournalRecord.cells)) (ap h166 (ap h166 (ap h167 (ap h167 (ap h167 (ap h168 (ap h168 (ap h168 (ap h169 (ap h169 (ap h169 (ap h170 (ap h170 (ap h170 (ap h170 an)))))))))))))))))))))))))))) rfl
            · obtain rfl := some_inj h
              exact run_end cfg_ok (rs := [([(3, true), (4, true), (5, true), (6, true), (9, true), (10, true), (13, true), (14, true), (15, true), (16, true), (19, true), (20, true), (23, true), (24, true), (27, false), (28, false)], [(7, .bool true), (11, .bool true), (17, .bool true), (21, .bool true), (25, .bool true), (29, .bool false)], [(5, .val (.pl (.int .i64 (bl1.1.Records.length : Int)))), (15, .val (.pl (.int .i64 (bl2.1.Records.length : Int))))])]) (ps := []) (tds := []) (m := []) (keep := [33, 34]) (r := (.norm, (f9n2E bl1 bl2 bm3 bn4 bl5 bo6 bi7 (.norm false)).2)) (by kernel_rfl) (ap h164 (ap h164 (ap h164 (ap (len_cv (xs := bl1.1.Records) (c := JournalRecord.cells)) (ap h164 (ap h164 (ap h165 (ap h165 (ap h165 (ap h166 (ap h166 (ap h166 (ap (len_cv (xs := bl2.1.Records) (c := JournalRecord.cells)) (ap h166 (ap h166 (ap h167 (ap h167 (ap h167 (ap h168 (ap h168 (ap h168 (ap h169 (ap h169 (ap h169 an)))))))))))))))))))))))) rfl
          · obtain rfl := some_inj h
            exact run_end cfg_ok (rs := [([(3, true), (4, true), (5, true), (6, true), (9, true), (10, true), (13, true), (14, true), (15, true), (16, true), (19, true), (20, true), (23, false), (24, false)], [(7, .bool true), (11, .bool true), (17, .bool true), (21, .bool true), (25, .bool false)], [(5, .val (.pl (.int .i64 (bl1.1.Records.length : Int)))), (15, .val (.pl (.int .i64 (bl2.1.Records.length : Int))))])]) (ps := []) (tds := []) (m := []) (keep := [33, 34]) (r := (.norm, (f9n2E bl1 bl2 bm3 bn4 bl5 bo6 bi7 (.norm false)).2)) (by kernel_rfl) (ap h164 (ap h164 (ap h164 (ap (len_cv (xs := bl1.1.Records) (c := JournalRecord.cells)) (ap h164 (ap h164 (ap h165 (ap h165 (ap h165 (ap h166 (ap h166 (ap h166 (ap (len_cv (xs := bl2.1.Records) (c := JournalRecord.cells)) (ap h166 (ap h166 (ap h167 (ap h167 (ap h167 (ap h168 (ap h168 (ap h168 an))))))))))))))))))))) rfl
        · obtain rfl := some_inj h
          exact run_end cfg_ok (rs := [([(3, true), (4, true), (5, true), (6, true), (9, true), (10, true), (13, true), (14, true), (15, true), (16, true), (19, false), (20, false)], [(7, .bool true), (11, .bool true), (17, .bool true), (21, .bool false)], [(5, .val (.pl (.int .i64 (bl1.1.Records.length : Int)))), (15, .val (.pl (.int .i64 (bl2.1.Records.length : Int))))])]) (ps := []) (tds := []) (m := []) (keep := [33, 34]) (r := (.norm, (f9n2E bl1 bl2 bm3 bn4 bl5 bo6 bi7 (.norm false)).2)) (by kernel_rfl) (ap h164 (ap h164 (ap h164 (ap (len_cv (xs := bl1.1.Records) (c := JournalRecord.cells)) (ap h164 (ap h164 (ap h165 (ap h165 (ap h165 (ap h166 (ap h166 (ap h166 (ap (len_cv (xs := bl2.1.Records) (c := JournalRecord.cells)) (ap h166 (ap h166 (ap h167 (ap h167 (ap h167 an)))))))))))))))))) rfl
      · obtain rfl := some_inj h
        exact run_end cfg_ok (rs := [([(3, true), (4, true), (5, true), (6, true), (9, true), (10, true), (13, false), (14, false), (15, false), (16, false)], [(7, .bool true), (11, .bool true), (17, .bool false)], [(5, .val (.pl (.int .i64 (bl1.1.Records.length : Int))))])]) (ps := []) (tds := []) (m := []) (keep := [33, 34]) (r := (.norm, (f9n2E bl1 bl2 bm3 bn4 bl5 bo6 bi7 (.norm false)).2)) (by kernel_rfl) (ap h164 (ap h164 (ap h164 (ap (len_cv (xs := bl1.1.Records) (c := JournalRecord.cells)) (ap h164 (ap h164 (ap h165 (ap h165 (ap h165 (ap h166 (ap h166 (ap h166 (ap h166 (ap h166 an)))))))))))))) rfl
    · obtain rfl := some_inj h
      exact run_end cfg_ok (rs := [([(3, true), (4, true), (5, true), (6, true), (9, false), (10, false)], [(7, .bool true), (11, .bool false)], [(5, .val (.pl (.int .i64 (bl1.1.Records.length : Int))))])]) (ps := []) (tds := []) (m := []) (keep := [33, 34]) (r := (.norm, (f9n2E bl1 bl2 bm3 bn4 bl5 bo6 bi7 (.norm false)).2)) (by kernel_rfl) (ap h164 (ap h164 (ap h164 (ap (len_cv (xs := bl1.1.Records) (c := JournalRecord.cells)) (ap h164 (ap h164 (ap h165 (ap h165 (ap h165 an))))))))) rfl
  · obtain rfl := some_inj h
    exact run_end cfg_ok (rs := [([(3, false), (4, false), (5, false), (6, false)], [(7, .bool false)], [])]) (ps := []) (tds := []) (m := []) (keep := [33, 34]) (r := (.norm, (f9n2E bl1 bl2 bm3 bn4 bl5 bo6 bi7 (.norm false)).2)) (by kernel_rfl) (ap h164 (ap h164 (ap h164 (ap h164 (ap h164 an))))) rfl
inductive f9n0O where
  | ret (v187 : Bool)
def f9n0E : f9n0O → Ex × Tr × Hp
  | .ret v187 => (.ret, mkS [(0, (.pl (.bool v187)))], [])
def f9n0S : Tr × Hp := (initS [] 0 .leaf, [])
noncomputable def f9n0 : Option f9n0O :=
  f36.bind fun x7 =>
  (f37r1 1125899906842624).bind fun x9 =>
  (f30 x7 5 str_x [(JournalLine.mk str_a str_EUR 1125899906842624), (JournalLine.mk str_b str_EUR (wr64 (0 - 1125899906842624)))]).bind fun x11 =>
  (f37r1 1).bind fun x17 =>
  (f30 x11.1 4 str_x [(JournalLine.mk str_a str_EUR 1), (JournalLine.mk str_b str_EUR (wr64 (0 - 1)))]).bind fun x19 =>
  (f37r1 1).bind fun x25 =>
  (f30 x11.1 5 str_x [(JournalLine.mk str_a str_EUR 1), (JournalLine.mk str_b str_EUR (wr64 (0 - 1)))]).bind fun x27 =>
  (f37r1 (-1125899906842624)).bind fun x33 =>
  (f30 x11.1 5 str_x [(JournalLine.mk str_a str_EUR (-1125899906842624)), (JournalLine.mk str_b str_EUR (wr64 (0 - (-1125899906842624))))]).bind fun x35 =>
  (f37r1 (-1)).bind fun x41 =>
  (f30 x11.1 5 str_x0a [(JournalLine.mk str_a str_EUR (-1)), (JournalLine.mk str_b str_EUR (wr64 (0 - (-1))))]).bind fun x43 =>
  (f37r1 (-1)).bind fun x49 =>
  (f30 x11.1 100000 str_x [(JournalLine.mk str_a str_EUR (-1)), (JournalLine.mk str_b str_EUR (wr64 (0 - (-1))))]).bind fun x51 =>
  (f37r1 0).bind fun x57 =>
  (f30 x11.1 5 str_x [(JournalLine.mk str_a str_EUR 0), (JournalLine.mk str_b str_EUR (wr64 (0 - 0)))]).bind fun x59 =>
  (f37r1 1).bind fun x65 =>
  (f30 x11.1 5 str_x [(JournalLine.mk str_a str_EUR 1)]).bind fun x67 =>
  (f37r1 1).bind fun x75 =>
  (f37r1 2).bind fun x77 =>
  (f30 x11.1 4 str_x [(JournalLine.mk str_a str_EUR 1), (JournalLine.mk str_b str_EUR (wr64 (0 - 1))), (JournalLine.mk str_a str_EUR 2)]).bind fun x79 =>
  (f37r1 1).bind fun x83 =>
  (f30 x11.1 5 str_x [(JournalLine.mk str_a str_EUR 1), (JournalLine.mk str_b str_USD (wr64 (0 - 1)))]).bind fun x87 =>
  (f32 x35.1 4).bind fun x91 =>
  (f32 x35.1 5).bind fun x95 =>
  (f25 x35.1 str_a str_EUR).bind fun x99 =>
  (f13 (Journal.mk [(JournalRecord.mk 0 str_x [(JournalLine.mk str_a str_EUR 1), (JournalLine.mk str_b str_USD (wr64 (0 - 1)))])])).bind fun x103 =>
  (f16 [255, 255, 255, 255, 255, 255, 255, 255, 255, 255, 255, 255]).bind fun x107 =>
  (f9n1 x11 x19 x27 x35 x43 x51 x59 x67 x79 x87 x91 x95 x99 x103 x107 [(JournalRecord.mk 0 str_x [(JournalLine.mk str_a str_EUR 1), (JournalLine.mk str_b str_USD (wr64 (0 - 1)))])]).bind fun o138 => match o138 with
  | .norm v140 => (f9n2 x91 x95 x99 x103 x107 v140 [(JournalRecord.mk 0 str_x [(JournalLine.mk str_a str_EUR 1), (JournalLine.mk str_b str_USD (wr64 (0 - 1)))])]).bind fun o176 => match o176 with
    | .norm v178 => f11.bind fun x183 =>
      bif x183 then
        bif v140 then
          some (.ret v178)
        else
          some (.ret false)
      else
        some (.ret false)
theorem f9n0_ok {o : f9n0O} (h : f9n0 = some o) : T Try.prog Try.f9.ntmps 0 c9 f9n0S (fun r => r = f9n0E o) := by
  unfold f9n0 at h
  obtain ⟨x7, h8, h⟩ := bind_cases h
  obtain ⟨x9, h10, h⟩ := bind_cases h
  obtain ⟨x11, h12, h⟩ := bind_cases h
  obtain ⟨x17, h18, h⟩ := bind_cases h
  obtain ⟨x19, h20, h⟩ := bind_cases h
  obtain ⟨x25, h26, h⟩ := bind_cases h
  obtain ⟨x27, h28, h⟩ := bind_cases h
  obtain ⟨x33, h34, h⟩ := bind_cases h
  obtain ⟨x35, h36, h⟩ := bind_cases h
  obtain ⟨x41, h42, h⟩ := bind_cases h
  obtain ⟨x43, h44, h⟩ := bind_cases h
  obtain ⟨x49, h50, h⟩ := bind_cases h
  obtain ⟨x51, h52, h⟩ := bind_cases h
  obtain ⟨x57, h58, h⟩ := bind_cases h
  obtain ⟨x59, h60, h⟩ := bind_cases h
  obtain ⟨x65, h66, h⟩ := bind_cases h
  obtain ⟨x67, h68, h⟩ := bind_cases h
  obtain ⟨x75, h76, h⟩ := bind_cases h
  obtain ⟨x77, h78, h⟩ := bind_cases h
  obtain ⟨x79, h80, h⟩ := bind_cases h
  obtain ⟨x83, h84, h⟩ := bind_cases h
  obtain ⟨x87, h88, h⟩ := bind_cases h
  obtain ⟨x91, h92, h⟩ := bind_cases h
  obtain ⟨x95, h96, h⟩ := bind_cases h
  obtain ⟨x99, h100, h⟩ := bind_cases h
  obtain ⟨x103, h104, h⟩ := bind_cases h
  obtain ⟨x107, h108, h⟩ := bind_cases h
  refine runK_norm cfg_ok (k := 19) (rs := [([], [], []), ([], [(0, .call (.pl (.agg (Journal.cells x7))) []), (1, .call (.own 0) [some (.row false 3 ([(JournalLine.mk str_a str_EUR 1125899906842624), (JournalLine.mk str_b str_EUR (wr64 (0 - 1125899906842624)))].map JournalLine.cells))]), (2, .call (.tup [(.pl (.agg (Journal.cells x11.1))), (.pl (.int .i64 x11.2))]) [])], []), ([], [(1, .call (.own 4) [none, none, none, none, some (.row false 3 ([(JournalLine.mk str_a str_EUR 1), (JournalLine.mk str_b str_EUR (wr64 (0 - 1)))].map JournalLine.cells))]), (2, .call (.tup [(.pl (.agg (Journal.cells x19.1))), (.pl (.int .i64 x19.2))]) [])], []), ([], [(1, .call (.own 7) [none, none, none, none, none, none, none, some (.row false 3 ([(JournalLine.mk str_a str_EUR 1), (JournalLine.mk str_b str_EUR (wr64 (0 - 1)))].map JournalLine.cells))]), (2, .call (.tup [(.pl (.agg (Journal.cells x27.1))), (.pl (.int .i64 x27.2))]) [])], []), ([], [(1, .call (.own 10) [none, none, none, none, none, none, none, none, none, none, some (.row false 3 ([(JournalLine.mk str_a str_EUR (-1125899906842624)), (JournalLine.mk str_b str_EUR (wr64 (0 - (-1125899906842624))))].map JournalLine.cells))]), (2, .call (.tup [(.pl (.agg (Journal.cells x35.1))), (.pl (.int .i64 x35.2))]) [])], []), ([], [(1, .call (.own 13) [none, none, none, none, none, none, none, none, none, none, none, none, none, some (.row false 3 ([(JournalLine.mk str_a str_EUR (-1)), (JournalLine.mk str_b str_EUR (wr64 (0 - (-1))))].map JournalLine.cells))]), (2, .call (.tup [(.pl (.agg (Journal.cells x43.1))), (.pl (.int .i64 x43.2))]) [])], []), ([], [(1, .call (.own 16) [none, none, none, none, none, none, none, none, none, none, none, none, none, none, none, none, some (.row false 3 ([(JournalLine.mk str_a str_EUR (-1)), (JournalLine.mk str_b str_EUR (wr64 (0 - (-1))))].map JournalLine.cells))]), (2, .call (.tup [(.pl (.agg (Journal.cells x51.1))), (.pl (.int .i64 x51.2))]) [])], []), ([], [(1, .call (.own 19) [none, none, none, none, none, none, none, none, none, none, none, none, none, none, none, none, none, none, none, some (.row false 3 ([(JournalLine.mk str_a str_EUR 0), (JournalLine.mk str_b str_EUR (wr64 (0 - 0)))].map JournalLine.cells))]), (2, .call (.tup [(.pl (.agg (Journal.cells x59.1))), (.pl (.int .i64 x59.2))]) [])], []), ([], [(1, .call (.own 22) [none, none, none, none, none, none, none, none, none, none, none, none, none, none, none, none, none, none, none, none, none, none, some (.row false 3 ([(JournalLine.mk str_a str_EUR 1), (JournalLine.mk str_b str_EUR (wr64 (0 - 1)))].map JournalLine.cells))]), (3, .call (.tup [(.pl (.agg (Journal.cells x67.1))), (.pl (.int .i64 x67.2))]) [])], []), ([], [(1, .call (.own 27) [none, none, none, none, none, none, none, none, none, none, none, none, none, none, none, none, none, none, none, none, none, none, none, none, none, none, none, some (.row false 3 ([(JournalLine.mk str_a str_EUR 1), (JournalLine.mk str_b str_EUR (wr64 (0 - 1)))].map JournalLine.cells))]), (2, .call (.own 28) [none, none, none, none, none, none, none, none, none, none, none, none, none, none, none, none, none, none, none, none, none, none, none, none, none, none, none, none, some (.row false 3 ([(JournalLine.mk str_a str_EUR 2), (JournalLine.mk str_b str_EUR (wr64 (0 - 2)))].map JournalLine.cells))]), (6, .fits), (7, .call (.tup [(.pl (.agg (Journal.cells x79.1))), (.pl (.int .i64 x79.2))]) [])], []), ([], [(0, .call (.own 29) [none, none, none, none, none, none, none, none, none, none, none, none, none, none, none, none, none, none, none, none, none, none, none, none, none, none, none, none, none, some (.row false 3 ([(JournalLine.mk str_a str_EUR 1), (JournalLine.mk str_b str_EUR (wr64 (0 - 1)))].map JournalLine.cells))])], []), ([], [], []), ([], [(2, .call (.tup [(.pl (.agg (Journal.cells x87.1))), (.pl (.int .i64 x87.2))]) [])], []), ([], [(1, .call (.tup [(.pl (.agg (Journal.cells x91.1))), (.pl (.int .i64 x91.2))]) [])], []), ([], [(1, .call (.tup [(.pl (.agg (Journal.cells x95.1))), (.pl (.int .i64 x95.2))]) [])], []), ([], [(1, .call (.tup [(.pl (.int .i64 x99.1)), (.pl (.int .i64 x99.2))]) [])], []), ([], [], []), ([], [(1, .call (.tup [(.pl (.sl .any 1 (x103.1.map (cInt .u8)))), (.pl (.int .i64 x103.2))]) [])], []), ([], [(1, .call (.tup [(.pl (.agg (Journal.cells x107.1))), (.pl (.int .i64 x107.2))]) [])], [])]) (ps := []) (tds := []) (m := [31, 32, 34, 36, 33]) (keep := [2, 4, 6, 8, 10, 12, 14, 16, 18, 21, 22, 23, 24, 25, 26, 27, 28, 30, 31, 32]) (st' := (f9n1S x11 x19 x27 x35 x43 x51 x59 x67 x79 x87 x91 x95 x99 x103 x107 [(JournalRecord.mk 0 str_x [(JournalLine.mk str_a str_EUR 1), (JournalLine.mk str_b str_USD (wr64 (0 - 1)))])])) (by kernel_rfl) (ap (f36_ok h8) (ap (f37r1_ok 1125899906842624 h10) (ap (f30_ok x7 5 str_x [(JournalLine.mk str_a str_EUR 1125899906842624), (JournalLine.mk str_b str_EUR (wr64 (0 - 1125899906842624)))] h12) (ap (CallS.ren (args' := [(.pl (.int .i64 1))]) (v' := (.own 4)) (B := [none, none, none, none]) (B' := [none, none, none, none, some (.row false 3 ([(JournalLine.mk str_a str_EUR 1), (JournalLine.mk str_b str_EUR (wr64 (0 - 1)))].map JournalLine.cells))]) 4 [] (f37r1_ok 1 h18) (by kernel_rfl) (by kernel_rfl) (by kernel_rfl) (by kernel_rfl) (by kernel_rfl) (by kernel_rfl)) (ap (f30_ok x11.1 4 str_x [(JournalLine.mk str_a str_EUR 1), (JournalLine.mk str_b str_EUR (wr64 (0 - 1)))] h20) (ap (CallS.ren (args' := [(.pl (.int .i64 1))]) (v' := (.own 7)) (B := [none, none, none, none, none, none, none]) (B' := [none, none, none, none, none, none, none, some (.row false 3 ([(JournalLine.mk str_a str_EUR 1), (JournalLine.mk str_b str_EUR (wr64 (0 - 1)))].map JournalLine.cells))]) 7 [] (f37r1_ok 1 h26) (by kernel_rfl) (by kernel_rfl) (by kernel_rfl) (by kernel_rfl) (by kernel_rfl) (by kernel_rfl)) (ap (f30_ok x11.1 5 str_x [(JournalLine.mk str_a str_EUR 1), (JournalLine.mk str_b str_EUR (wr64 (0 - 1)))] h28) (ap (CallS.ren (args' := [(.pl (.int .i64 (-1125899906842624)))]) (v' := (.own 10)) (B := [none, none, none, none, none, none, none, none, none, none]) (B' := [none, none, none, none, none, none, none, none, none, none, some (.row false 3 ([(JournalLine.mk str_a str_EUR (-1125899906842624)), (JournalLine.mk str_b str_EUR (wr64 (0 - (-1125899906842624))))].map JournalLine.cells))]) 10 [] (f37r1_ok (-1125899906842624) h34) (by kernel_rfl) (by kernel_rfl) (by kernel_rfl) (by kernel_rfl) (by kernel_rfl) (by kernel_rfl)) (ap (f30_ok x11.1 5 str_x [(JournalLine.mk str_a str_EUR (-1125899906842624)), (JournalLine.mk str_b str_EUR (wr64 (0 - (-1125899906842624))))] h36) (ap (CallS.ren (args' := [(.pl (.int .i64 (-1)))]) (v' := (.own 13)) (B := [none, none, none, none, none, none, none, none, none, none, none, none, none]) (B' := [none, none, none, none, none, none, none, none, none, none, none, none, none, some (.row false 3 ([(JournalLine.mk str_a str_EUR (-1)), (JournalLine.mk str_b str_EUR (wr64 (0 - (-1))))].map JournalLine.cells))]) 13 [] (f37r1_ok (-1) h42) (by kernel_rfl) (by kernel_rfl) (by kernel_rfl) (by kernel_rfl) (by kernel_rfl) (by kernel_rfl)) (ap (f30_ok x11.1 5 str_x0a [(JournalLine.mk str_a str_EUR (-1)), (JournalLine.mk str_b str_EUR (wr64 (0 - (-1))))] h44) (ap (CallS.ren (args' := [(.pl (.int .i64 (-1)))]) (v' := (.own 16)) (B := [none, none, none, none, none, none, none, none, none, none, none, none, none, none, none, none]) (B' := [none, none, none, none, none, none, none, none, none, none, none, none, none, none, none, none, some (.row false 3 ([(JournalLine.mk str_a str_EUR (-1)), (JournalLine.mk str_b str_EUR (wr64 (0 - (-1))))].map JournalLine.cells))]) 16 [] (f37r1_ok (-1) h50) (by kernel_rfl) (by kernel_rfl) (by kernel_rfl) (by kernel_rfl) (by kernel_rfl) (by kernel_rfl)) (ap (f30_ok x11.1 100000 str_x [(JournalLine.mk str_a str_EUR (-1)), (JournalLine.mk str_b str_EUR (wr64 (0 - (-1))))] h52) (ap (CallS.ren (args' := [(.pl (.int .i64 0))]) (v' := (.own 19)) (B := [none, none, none, none, none, none, none, none, none, none, none, none, none, none, none, none, none, none, none]) (B' := [none, none, none, none, none, none, none, none, none, none, none, none, none, none, none, none, none, none, none, some (.row false 3 ([(JournalLine.mk str_a str_EUR 0), (JournalLine.mk str_b str_EUR (wr64 (0 - 0)))].map JournalLine.cells))]) 19 [] (f37r1_ok 0 h58) (by kernel_rfl) (by kernel_rfl) (by kernel_rfl) (by kernel_rfl) (by kernel_rfl) (by kernel_rfl)) (ap (f30_ok x11.1 5 str_x [(JournalLine.mk str_a str_EUR 0), (JournalLine.mk str_b str_EUR (wr64 (0 - 0)))] h60) (ap (CallS.ren (args' := [(.pl (.int .i64 1))]) (v' := (.own 22)) (B := [none, none, none, none, none, none, none, none, none, none, none, none, none, none, none, none, none, none, none, none, none, none]) (B' := [none, none, none, none, none, none, none, none, none, none, none, none, none, none, none, none, none, none, none, none, none, none, some (.row false 3 ([(JournalLine.mk str_a str_EUR 1), (JournalLine.mk str_b str_EUR (wr64 (0 - 1)))].map JournalLine.cells))]) 22 [] (f37r1_ok 1 h66) (by kernel_rfl) (by kernel_rfl) (by kernel_rfl) (by kernel_rfl) (by kernel_rfl) (by kernel_rfl)) (ap (f30_ok x11.1 5 str_x [(JournalLine.mk str_a str_EUR 1)] h68) (ap (rfl : fitsB 3 ti49 = true) (ap (same_hlen (e := ⟨true, 37, [(.pl (.int .i64 1))], [none, none, none, none, none, none, none, none, none, none, none, none, none, none, none, none, none, none, none, none, none, none, none, none, none, none, none], (.own 27), [none, none, none, none, none, none, none, none, none, none, none, none, none, none, none, none, none, none, none, none, none, none, none, none, none, none, none, some (.row false 3 ([(JournalLine.mk str_a str_EUR 1), (JournalLine.mk str_b str_EUR (wr64 (0 - 1)))].map JournalLine.cells))]⟩) (f := ⟨true, 37, [(.pl (.int .i64 2))], [none, none, none, none, none, none, none, none, none, none, none, none, none, none, none, none, none, none, none, none, none, none, none, none, none, none, none, none], (.own 28), [none, none, none, none, none, none, none, none, none, none, none, none, none, none, none, none, none, none, none, none, none, none, none, none, none, none, none, none, some (.row false 3 ([(JournalLine.mk str_a str_EUR 2), (JournalLine.mk str_b str_EUR (wr64 (0 - 2)))].map JournalLine.cells))]⟩) (by kernel_rfl)) (ap (CallS.ren (args' := [(.pl (.int .i64 1))]) (v' := (.own 27)) (B := [none, none, none, none, none, none, none, none, none, none, none, none, none, none, none, none, none, none, none, none, none, none, none, none, none, none, none]) (B' := [none, none, none, none, none, none, none, none, none, none, none, none, none, none, none, none, none, none, none, none, none, none, none, none, none, none, none, some (.row false 3 ([(JournalLine.mk str_a str_EUR 1), (JournalLine.mk str_b str_EUR (wr64 (0 - 1)))].map JournalLine.cells))]) 27 [] (f37r1_ok 1 h76) (by kernel_rfl) (by kernel_rfl) (by kernel_rfl) (by kernel_rfl) (by kernel_rfl) (by kernel_rfl)) (ap (CallS.ren (args' := [(.pl (.int .i64 2))]) (v' := (.own 28)) (B := [none, none, none, none, none, none, none, none, none, none, none, none, none, none, none, none, none, none, none, none, none, none, none, none, none, none, none, none]) (B' := [none, none, none, none, none, none, none, none, none, none, none, none, none, none, none, none, none, none, none, none, none, none, none, none, none, none, none, none, some (.row false 3 ([(JournalLine.mk str_a str_EUR 2), (JournalLine.mk str_b str_EUR (wr64 (0 - 2)))].map JournalLine.cells))]) 28 [] (f37r1_ok 2 h78) (by kernel_rfl) (by kernel_rfl) (by kernel_rfl) (by kernel_rfl) (by kernel_rfl) (by kernel_rfl)) (ap (f30_ok x11.1 4 str_x [(JournalLine.mk str_a str_EUR 1), (JournalLine.mk str_b str_EUR (wr64 (0 - 1))), (JournalLine.mk str_a str_EUR 2)] h80) (ap (CallS.ren (args' := [(.pl (.int .i64 1))]) (v' := (.own 29)) (B := [none, none, none, none, none, none, none, none, none, none, none, none, none, none, none, none, none, none, none, none, none, none, none, none, none, none, none, none, none]) (B' := [none, none, none, none, none, none, none, none, none, none, none, none, none, none, none, none, none, none, none, none, none, none, none, none, none, none, none, none, none, some (.row false 3 ([(JournalLine.mk str_a str_EUR 1), (JournalLine.mk str_b str_EUR (wr64 (0 - 1)))].map JournalLine.cells))]) 29 [] (f37r1_ok 1 h84) (by kernel_rfl) (by kernel_rfl) (by kernel_rfl) (by kernel_rfl) (by kernel_rfl) (by kernel_rfl)) (ap (f30_ok x11.1 5 str_x [(JournalLine.mk str_a str_EUR 1), (JournalLine.mk str_b str_USD (wr64 (0 - 1)))] h88) (ap (f32_ok x35.1 4 h92) (ap (f32_ok x35.1 5 h96) (ap (f25_ok x35.1 str_a str_EUR h100) (ap (f13_ok (Journal.mk [(JournalRecord.mk 0 str_x [(JournalLine.mk str_a str_EUR 1), (JournalLine.mk str_b str_USD (wr64 (0 - 1)))])]) h104) (ap (f16_ok [255, 255, 255, 255, 255, 255, 255, 255, 255, 255, 255, 255] h108) an))))))))))))))))))))))))))))) ?_
  obtain ⟨o138, h139, h⟩ := bind_cases h
  cases o138 with
  | norm v140 =>
    refine T.oneN (by kernel_rfl) (f9n1_ok x11 x19 x27 x35 x43 x51 x59 x67 x79 x87 x91 x95 x99 x103 x107 [(JournalRecord.mk 0 str_x [(JournalLine.mk str_a str_EUR 1), (JournalLine.mk str_b str_USD (wr64 (0 - 1)))])] h139) (st2 := (f9n1E x11 x19 x27 x35 x43 x51 x59 x67 x79 x87 x91 x95 x99 x103 x107 [(JournalRecord.mk 0 str_x [(JournalLine.mk str_a str_EUR 1), (JournalLine.mk str_b str_USD (wr64 (0 - 1)))])] (.norm v140)).2) rfl ?_
    refine runK_norm cfg_ok (k := 0) (rs := []) (ps := []) (tds := []) (m := [0, 1, 2, 3, 4]) (keep := [22, 23, 24, 25, 26, 27, 28, 30, 31, 32, 33]) (st' := (f9n2S x91 x95 x99 x103 x107 v140 [(JournalRecord.mk 0 str_x [(JournalLine.mk str_a str_EUR 1), (JournalLine.mk str_b str_USD (wr64 (0 - 1)))])])) (by kernel_rfl) an ?_
    obtain ⟨o176, h177, h⟩ := bind_cases h
    cases o176 with
    | norm v178 =>
      refine T.oneN (by kernel_rfl) (f9n2_ok x91 x95 x99 x103 x107 v140 [(JournalRecord.mk 0 str_x [(JournalLine.mk str_a str_EUR 1), (JournalLine.mk str_b str_USD (wr64 (0 - 1)))])] h177) (st2 := (f9n2E x91 x95 x99 x103 x107 v140 [(JournalRecord.mk 0 str_x [(JournalLine.mk str_a str_EUR 1), (JournalLine.mk str_b str_USD (wr64 (0 - 1)))])] (.norm v178)).2) rfl ?_
      obtain ⟨x183, h184, h⟩ := bind_cases h
      rcases cond_cases h with ⟨h185, h⟩ | ⟨h185, h⟩
      · rcases cond_cases h with ⟨h186, h⟩ | ⟨h186, h⟩
        · obtain rfl := some_inj h
          exact run_end cfg_ok (rs := [([(4, true), (7, true)], [(1, .call (.pl (.bool x183)) []), (5, .bool true), (8, .bool true)], [])]) (ps := []) (tds := []) (m := []) (keep := [0]) (r := (.ret, (f9n0E (.ret v178)).2)) (by kernel_rfl) (ap h185 (ap h185 (ap h186 (ap h186 (ap (f11_ok h184) an))))) rfl
        · obtain rfl := some_inj h
          exact run_end cfg_ok (rs := [([(4, true), (7, false)], [(1, .call (.pl (.bool x183)) []), (5, .bool true), (8, .bool false)], [])]) (ps := []) (tds := []) (m := []) (keep := [0]) (r := (.ret, (f9n0E (.ret false)).2)) (by kernel_rfl) (ap h185 (ap h185 (ap h186 (ap h186 (ap (f11_ok h184) an))))) rfl
      · obtain rfl := some_inj h
        exact run_end cfg_ok (rs := [([(4, false)], [(1, .call (.pl (.bool x183)) []), (5, .bool false)], [])]) (ps := []) (tds := []) (m := []) (keep := [0]) (r := (.ret, (f9n0E (.ret false)).2)) (by kernel_rfl) (ap h185 (ap h185 (ap (f11_ok h184) an))) rfl
noncomputable def f9 : Option Bool := f9n0.bind fun o => match o with
  | .ret v187 => some v187
theorem f9_ok {r : Bool} (h : f9 = some r) : CallS Try.prog false 9 [] [] (.pl (.bool r)) [] := by
  unfold f9 at h
  obtain ⟨o, ho, h⟩ := bind_cases h
  cases o with
  | ret v187 =>
    obtain rfl := some_inj h
    exact CallS.plain cfg_ok (f := Try.f9) (c := c9) (by kernel_rfl) (by kernel_rfl) (by kernel_rfl) (by kernel_rfl) ((f9n0_ok  ho).mono fun r e => by subst e; exact ⟨.inl rfl, (.pl (.bool v187)), (.pl (.bool v187)), by kernel_rfl, by kernel_rfl, ((Wk.refl _) : Wk (.pl (.bool v187)) (.pl (.bool v187)))⟩)
end Go.Proofs.Ytbgjlpdeoljmiaa
