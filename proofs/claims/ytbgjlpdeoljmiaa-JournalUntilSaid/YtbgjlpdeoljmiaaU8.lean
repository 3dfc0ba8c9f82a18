/- Functions of the program, plainly, and that the machine computes them. No condition. -/
import Derived.Test.YtbgjlpdeoljmiaaU7
namespace Go.Proofs.Ytbgjlpdeoljmiaa
set_option linter.unusedVariables false
set_option linter.unusedSimpArgs false
set_option maxRecDepth 100000
open Go.RowKit
/-! ### novation/journal.Until -/
noncomputable def c32 : Code := Try.f32.body.getD .skip
inductive f32n1O where
  | exit0 (v35 : Int)
def f32n1E (a2 : Int) (a1 : Journal) : f32n1O → Ex × Tr × Hp
  | .exit0 v35 => ((.exit 0), mkS [(2, (.bp 0 0)), (4, (.bp 1 0)), (7, (.pl (.int .i64 v35)))], [some (.box ((Journal.cells a1).map .pl)), some (.box [(.pl (.sl .nil 0 []))])])
def f32n1S (a2 : Int) (a1 : Journal) (v26 : Int) : Tr × Hp := (mkS [(1, (.pl (.int .i64 a2))), (2, (.bp 0 0)), (4, (.bp 1 0)), (7, (.pl (.int .i64 v26)))], [some (.box ((Journal.cells a1).map .pl)), some (.box [(.pl (.sl .nil 0 []))])])
noncomputable def f32n1 : Nat → Int → Journal → Int → Option f32n1O
  | 0, _, _, _ => none
  | f + 1, a2, a1, v26 =>
    bif (decide (v26 < (a1.Records.length : Int))) then
      (at? a1.Records v26).bind fun x32 =>
      bif (decide (x32.Day ≤ a2)) then
        (f32n1 f a2 a1 (wr64 (v26 + 1)))
      else
        some (.exit0 v26)
    else
      some (.exit0 v26)
theorem f32n1_ok : ∀ (f : Nat) (a2 : Int) (a1 : Journal) (v26 : Int) {o : f32n1O}, (f32n1 f a2 a1 v26) = some o → TL Try.prog Try.f32.ntmps 0 f (cL (cL (cL (dropC 3 c32)))) (f32n1S a2 a1 v26) (fun r => r = f32n1E a2 a1 o)
  | 0, _, _, _, o, h => by rw [f32n1] at h; cases h
  | f + 1, a2, a1, v26, o, h => by
    rw [f32n1] at h
    refine TL.body (K := fun s => ∃ v26 : Int, s = (f32n1S a2 a1 v26) ∧ (f32n1 f a2 a1 v26) = some o) ?_ (by rintro _ ⟨v26, rfl, hk⟩; exact f32n1_ok f _ _ _ hk)
    rcases cond_cases h with ⟨h31, h⟩ | ⟨h31, h⟩
    · obtain ⟨x32, h33, h⟩ := bind_cases h
      rcases cond_cases h with ⟨h34, h⟩ | ⟨h34, h⟩
      · exact run_end cfg_ok (rs := [([(6, true), (7, true), (8, true), (9, true), (10, true), (11, true), (12, true), (13, true)], [(9, .idx (Int.toNat v26) (JournalRecord.cells x32)), (14, .bool true)], [(3, .val (.pl (.int .i64 (a1.Records.length : Int))))]), ([], [], [])]) (ps := [some true]) (tds := []) (m := [0, 1]) (keep := [1, 2, 4, 7]) (r := (.norm, (f32n1S a2 a1 (wr64 (v26 + 1))))) (by kernel_rfl) (ap (len_cv (xs := a1.Records) (c := JournalRecord.cells)) (ap h31 (ap h31 (ap h31 (ap h31 (ap (at_some h33).1 (ap (at_map JournalRecord.cells (at_some h33).2) (ap h31 (ap h31 (ap h31 (ap h31 (ap h31 (ap h34 an))))))))))))) (LoopQ.norm ⟨(wr64 (v26 + 1)), rfl, h⟩)
      · obtain rfl := some_inj h
        exact runK_end cfg_ok (k := 1) (rs := [([(6, true), (7, true), (8, true), (9, true), (10, true), (11, true), (12, true), (13, true)], [(9, .idx (Int.toNat v26) (JournalRecord.cells x32)), (14, .bool true)], [(3, .val (.pl (.int .i64 (a1.Records.length : Int))))])]) (ps := [some false]) (tds := []) (m := [0, 1]) (keep := [2, 4, 7]) (ex := (.exit 0)) (st' := (f32n1E a2 a1 (.exit0 v26)).2) (by kernel_rfl) (ap (len_cv (xs := a1.Records) (c := JournalRecord.cells)) (ap h31 (ap h31 (ap h31 (ap h31 (ap (at_some h33).1 (ap (at_map JournalRecord.cells (at_some h33).2) (ap h31 (ap h31 (ap h31 (ap h31 (ap h31 (ap h34 an))))))))))))) (fun h => nomatch h) (LoopQ.out rfl rfl)
    · obtain rfl := some_inj h
      exact runK_end cfg_ok (k := 1) (rs := [([(6, false), (7, false), (8, false), (9, false), (10, false), (11, false), (12, false), (13, false)], [(14, .bool false)], [(3, .val (.pl (.int .i64 (a1.Records.length : Int))))])]) (ps := [none]) (tds := []) (m := [0, 1]) (keep := [2, 4, 7]) (ex := (.exit 0)) (st' := (f32n1E a2 a1 (.exit0 v26)).2) (by kernel_rfl) (ap (len_cv (xs := a1.Records) (c := JournalRecord.cells)) (ap h31 (ap h31 (ap h31 (ap h31 (ap h31 (ap h31 (ap h31 (ap h31 (ap h31 an)))))))))) (fun h => nomatch h) (LoopQ.out rfl rfl)
noncomputable def f32n1L (a2 : Int) (a1 : Journal) : List JournalRecord → Int → Option f32n1O
  | [], v26 =>
    some (.exit0 v26)
  | x0 :: rest, v26 =>
    bif (decide (x0.Day ≤ a2)) then
      (f32n1L a2 a1 rest (v26 + 1))
    else
      some (.exit0 v26)
theorem f32n1L_eq (a2 : Int) (a1 : Journal) : ∀ (rest : List JournalRecord) (f k : Nat), a1.Records.drop k = rest → a1.Records.length ≤ maxLen → rest.length < f → f32n1 f a2 a1 (k : Int) = f32n1L a2 a1 rest (k : Int)
  | _, 0, _, _, _, hf => absurd hf (Nat.not_lt_zero _)
  | [], f + 1, k, hd, hm, hf => by
    have hk : ¬ ((k : Int) < (a1.Records.length : Int)) := by have := drop_nil hd; omega
    rw [f32n1, f32n1L]
    simp only [decide_eq_false hk, cond_false]
  | x0 :: rest, f + 1, k, hd, hm, hf => by
    obtain ⟨hx, hlt, hd'⟩ := drop_cons hd
    have hk : (k : Int) < (a1.Records.length : Int) := by omega
    have hw : wr64 ((k : Int) + 1) = (k : Int) + 1 := wr64_of (by omega) (by unfold maxLen at hm; omega)
    have ih : f32n1 f a2 a1 ((k : Int) + 1) = f32n1L a2 a1 rest ((k : Int) + 1) := f32n1L_eq a2 a1 rest f (k + 1) hd' hm (by simpa using hf)
    rw [f32n1, f32n1L]
    simp only [decide_eq_true hk, cond_true, at_nat, hx, Option.bind_some, hw, ih]
theorem f32n1_run (a2 : Int) (a1 : Journal) (hm : a1.Records.length ≤ maxLen) : f32n1 FUEL a2 a1 0 = f32n1L a2 a1 a1.Records 0 := f32n1L_eq a2 a1 a1.Records FUEL 0 List.drop_zero hm (lt_FUEL hm)
inductive f32n0O where
  | ret (v45 : Int) (v46 : List JournalRecord)
def f32n0E (a1 : Journal) (a2 : Int) : f32n0O → Ex × Tr × Hp
  | .ret v45 v46 => (.ret, mkS [(4, (.bp 0 0)), (5, (.pl (.int .i64 v45)))], [some (.box [(.own 1)]), some (.row false 3 (v46.map JournalRecord.cells))])
def f32n0S (a1 : Journal) (a2 : Int) : Tr × Hp := (initS [(.pl (.agg (Journal.cells a1))), (.pl (.int .i64 a2))] 0 .leaf, [])
noncomputable def f32n0 (a1 : Journal) (a2 : Int) : Option f32n0O :=
  (f28 a1).bind fun x6 =>
  bif (decide (x6 = 0)) then
    (f32n1 FUEL a2 a1 0).bind fun o36 => match o36 with
    | .exit0 v38 => req (cutB 0 v38 a1.Records.length) <|
      (f51r1 ((a1.Records.take (Int.toNat v38)).drop 0)).bind fun x43 =>
      some (.ret 0 x43)
  else
    some (.ret x6 [])
theorem f32n0_ok (a1 : Journal) (a2 : Int) {o : f32n0O} (h : (f32n0 a1 a2) = some o) : T Try.prog Try.f32.ntmps 0 c32 (f32n0S a1 a2) (fun r => r = f32n0E a1 a2 o) := by
  unfold f32n0 at h
  obtain ⟨x6, h7, h⟩ := bind_cases h
  rcases cond_cases h with ⟨h8, h⟩ | ⟨h8, h⟩
  · refine runK_norm cfg_ok (k := 3) (rs := [([], [], []), ([], [(1, .call (.pl (.int .i64 x6)) [])], []), ([], [], []), ([], [], [])]) (ps := [some false]) (tds := []) (m := [0, 1]) (keep := [1, 2, 4, 7]) (st' := (f32n1S a2 a1 0)) (by kernel_rfl) (ap (f28_ok a1 h7) (ap (not_t h8) an)) ?_
    obtain ⟨o36, h37, h⟩ := bind_cases h
    cases o36 with
    | exit0 v38 =>
      refine T.oneN (by kernel_rfl) (T.bl (i := 0) (by kernel_rfl) (by kernel_rfl) (f32n1_ok FUEL a2 a1 0 h37)) (st2 := (f32n1E a2 a1 (.exit0 v38)).2) rfl ?_
      obtain ⟨h42, h⟩ := req_cases h
      obtain ⟨x43, h44, h⟩ := bind_cases h
      obtain rfl := some_inj h
      exact run_end cfg_ok (rs := [([], [(3, .cut 0 (Int.toNat v38)), (4, .call (.own 2) [none, none, some (.row false 3 (x43.map JournalRecord.cells))])], [(3, .val (.pl (.sl .any 3 (((a1.Records.take (Int.toNat v38)).drop 0).map JournalRecord.cells))))])]) (ps := []) (tds := []) (m := [1, 2]) (keep := [4, 5]) (r := (.ret, (f32n0E a1 a2 (.ret 0 x43)).2)) (by kernel_rfl) (ap (cut_hn_1_map (c := JournalRecord.cells) h42) (ap (cut_hn_2 h42) (ap (cut_hn_3 h42) (ap (cut_hn_4_map (c := JournalRecord.cells) h42) (ap (congrArg (fun l => AV.pl (.sl .any 3 l)) (cut_cv (xs := a1.Records) (c := JournalRecord.cells) (n := (Int.toNat v38)) (m := 0))) (ap (CallS.ren (args' := [(.pl (.sl .any 3 (((a1.Records.take (Int.toNat v38)).drop 0).map JournalRecord.cells)))]) (v' := (.own 2)) (B := [none, none]) (B' := [none, none, some (.row false 3 (x43.map JournalRecord.cells))]) 2 [] (f51r1_ok ((a1.Records.take (Int.toNat v38)).drop 0) h44) (by kernel_rfl) (by kernel_rfl) (by kernel_rfl) (by kernel_rfl) (by kernel_rfl) (by kernel_rfl)) an)))))) rfl
  · obtain rfl := some_inj h
    exact runK_end cfg_ok (k := 2) (rs := [([], [], []), ([], [(1, .call (.pl (.int .i64 x6)) [])], []), ([], [], []), ([], [], [])]) (ps := [some true]) (tds := [.matC 1 0 3]) (m := [1, 2]) (keep := [4, 5]) (ex := .ret) (st' := (f32n0E a1 a2 (.ret x6 [])).2) (by kernel_rfl) (ap (f28_ok a1 h7) (ap (not_f h8) an)) (fun h => nomatch h) rfl
noncomputable def f32 (a1 : Journal) (a2 : Int) : Option (Journal × Int) := (f32n0 a1 a2).bind fun o => match o with
  | .ret v45 v46 => some ((Journal.mk v46), v45)
theorem f32_ok (a1 : Journal) (a2 : Int) {r : Journal × Int} (h : (f32 a1 a2) = some r) : CallS Try.prog false 32 [(.pl (.agg (Journal.cells a1))), (.pl (.int .i64 a2))] [] (.tup [(.pl (.agg (Journal.cells r.1))), (.pl (.int .i64 r.2))]) [] := by
  unfold f32 at h
  obtain ⟨o, ho, h⟩ := bind_cases h
  cases o with
  | ret v45 v46 =>
    obtain rfl := some_inj h
    exact CallS.plain cfg_ok (f := Try.f32) (c := c32) (by kernel_rfl) (by kernel_rfl) (by kernel_rfl) (by kernel_rfl) ((f32n0_ok a1 a2 ho).mono fun r e => by subst e; exact ⟨.inl rfl, (.tup [(.agg [(.own 1)]), (.pl (.int .i64 v45))]), (.tup [(.pl (.agg (Journal.cells (Journal.mk v46)))), (.pl (.int .i64 v45))]), by kernel_rfl, by kernel_rfl, ((Wk.refl _) : Wk (.tup [(.pl (.agg (Journal.cells (Journal.mk v46)))), (.pl (.int .i64 v45))]) (.tup [(.pl (.agg (Journal.cells (Journal.mk v46)))), (.pl (.int .i64 v45))]))⟩)
/-! ### novation/novationlaw38.JournalUntil -/
noncomputable def c10 : Code := Try.f10.body.getD .skip
inductive f10n2O where
  | exit0
  | ret
def f10n2E (bf1 : Int) (bo2 : Bool) (ba3 : Journal) (bl4 : Journal × Int) : f10n2O → Ex × Tr × Hp
  | .exit0 => ((.exit 0), mkS [(1, (.pl (.int .i64 bf1))), (5, (.pl (.bool bo2))), (6, (.bp 0 0)), (7, (.bp 1 0))], [some (.box ((Journal.cells ba3).map .pl)), some (.box ((Journal.cells bl4.1).map .pl))])
  | .ret => (.ret, mkS [(4, (.pl (.bool false)))], [])
def f10n2S (bf1 : Int) (bo2 : Bool) (ba3 : Journal) (bl4 : Journal × Int) (v68 : Int) : Tr × Hp := (mkS [(1, (.pl (.int .i64 bf1))), (5, (.pl (.bool bo2))), (6, (.bp 0 0)), (7, (.bp 1 0)), (9, (.pl (.int .i64 v68)))], [some (.box ((Journal.cells ba3).map .pl)), some (.box ((Journal.cells bl4.1).map .pl))])
noncomputable def f10n2 : Nat → Int → Bool → Journal → Journal × Int → Int → Option f10n2O
  | 0, _, _, _, _, _ => none
  | f + 1, bf1, bo2, ba3, bl4, v68 =>
    bif (decide (v68 < (ba3.Records.length : Int))) then
      (at? ba3.Records v68).bind fun x80 =>
      bif ((decide (v68 < (bl4.1.Records.length : Int))) == (decide (x80.Day ≤ bf1))) then
        bif (decide (v68 < (bl4.1.Records.length : Int))) then
          (at? bl4.1.Records v68).bind fun x84 =>
          (f27 x84 x80).bind fun x86 =>
          bif x86 then
            (f10n2 f bf1 bo2 ba3 bl4 (wr64 (v68 + 1)))
          else
            some .ret
        else
          (f10n2 f bf1 bo2 ba3 bl4 (wr64 (v68 + 1)))
      else
        some .ret
    else
      some .exit0
theorem f10n2_ok : ∀ (f : Nat) (bf1 : Int) (bo2 : Bool) (ba3 : Journal) (bl4 : Journal × Int) (v68 : Int) {o : f10n2O}, (f10n2 f bf1 bo2 ba3 bl4 v68) = some o → TL Try.prog Try.f10.ntmps 0 f (cL (cL (dropC 1 (cL (dropC 6 c10))))) (f10n2S bf1 bo2 ba3 bl4 v68) (fun r => r = f10n2E bf1 bo2 ba3 bl4 o)
  | 0, _, _, _, _, _, o, h => by rw [f10n2] at h; cases h
  | f + 1, bf1, bo2, ba3, bl4, v68, o, h => by
    rw [f10n2] at h
    refine TL.body (K := fun s => ∃ v68 : Int, s = (f10n2S bf1 bo2 ba3 bl4 v68) ∧ (f10n2 f bf1 bo2 ba3 bl4 v68) = some o) ?_ (by rintro _ ⟨v68, rfl, hk⟩; exact f10n2_ok f _ _ _ _ _ hk)
    rcases cond_cases h with ⟨h70, h⟩ | ⟨h70, h⟩
    · obtain ⟨x80, h81, h⟩ := bind_cases h
      rcases cond_cases h with ⟨h82, h⟩ | ⟨h82, h⟩
      · rcases cond_cases h with ⟨h83, h⟩ | ⟨h83, h⟩
        · obtain ⟨x84, h85, h⟩ := bind_cases h
          obtain ⟨x86, h87, h⟩ := bind_cases h
          rcases cond_cases h with ⟨h88, h⟩ | ⟨h88, h⟩
          · exact run_end cfg_ok (rs := [([], [], [(3, .val (.pl (.int .i64 (ba3.Records.length : Int))))]), ([], [(3, .idx (Int.toNat v68) (JournalRecord.cells x80))], []), ([(11, false), (12, false), (13, false), (14, false), (15, false), (16, false), (17, true), (18, true), (19, true), (20, true), (21, true), (22, true), (23, true), (24, true), (25, false)], [(20, .idx (Int.toNat v68) (JournalRecord.cells x84)), (23, .call (.pl (.bool x86)) []), (25, .bool true), (26, .bool false)], [(3, .val (.pl (.int .i64 (bl4.1.Records.length : Int)))), (14, .val (.pl (.int .i64 (bl4.1.Records.length : Int))))]), ([], [], [])]) (ps := [some true, some false]) (tds := []) (m := [0, 1]) (keep := [1, 5, 6, 7, 9]) (r := (.norm, (f10n2S bf1 bo2 ba3 bl4 (wr64 (v68 + 1))))) (by kernel_rfl) (ap (len_cv (xs := ba3.Records) (c := JournalRecord.cells)) (ap h70 (ap (at_some h81).1 (ap (at_map JournalRecord.cells (at_some h81).2) (ap (len_cv (xs := bl4.1.Records) (c := JournalRecord.cells)) (ap (not_t h82) (ap (not_t h82) (ap (not_t h82) (ap (not_t h82) (ap (len_cv (xs := bl4.1.Records) (c := JournalRecord.cells)) (ap (not_t h82) (ap (not_t h82) (ap h83 (ap h83 (ap h83 (ap h83 (ap (at_some h85).1 (ap (at_map JournalRecord.cells (at_some h85).2) (ap h83 (ap h83 (ap h83 (ap h83 (ap (not_t h82) (ap h83 (ap (not_t h82) (ap (f27_ok x84 x80 h87) (ap (not_t h88) an))))))))))))))))))))))))))) (LoopQ.norm ⟨(wr64 (v68 + 1)), rfl, h⟩)
          · obtain rfl := some_inj h
            exact runK_end cfg_ok (k := 2) (rs := [([], [], [(3, .val (.pl (.int .i64 (ba3.Records.length : Int))))]), ([], [(3, .idx (Int.toNat v68) (JournalRecord.cells x80))], []), ([(11, false), (12, false), (13, false), (14, false), (15, false), (16, false), (17, true), (18, true), (19, true), (20, true), (21, true), (22, true), (23, true), (24, true), (25, false)], [(20, .idx (Int.toNat v68) (JournalRecord.cells x84)), (23, .call (.pl (.bool x86)) []), (25, .bool true), (26, .bool false)], [(3, .val (.pl (.int .i64 (bl4.1.Records.length : Int)))), (14, .val (.pl (.int .i64 (bl4.1.Records.length : Int))))]), ([], [], [])]) (ps := [some true, some true]) (tds := []) (m := []) (keep := [4]) (ex := .ret) (st' := (f10n2E bf1 bo2 ba3 bl4 .ret).2) (by kernel_rfl) (ap (len_cv (xs := ba3.Records) (c := JournalRecord.cells)) (ap h70 (ap (at_some h81).1 (ap (at_map JournalRecord.cells (at_some h81).2) (ap (len_cv (xs := bl4.1.Records) (c := JournalRecord.cells)) (ap (not_t h82) (ap (not_t h82) (ap (not_t h82) (ap (not_t h82) (ap (len_cv (xs := bl4.1.Records) (c := JournalRecord.cells)) (ap (not_t h82) (ap (not_t h82) (ap h83 (ap h83 (ap h83 (ap h83 (ap (at_some h85).1 (ap (at_map JournalRecord.cells (at_some h85).2) (ap h83 (ap h83 (ap h83 (ap h83 (ap (not_t h82) (ap h83 (ap (not_t h82) (ap (f27_ok x84 x80 h87) (ap (not_f h88) an))))))))))))))))))))))))))) (fun h => nomatch h) (LoopQ.out rfl rfl)
        · exact run_end cfg_ok (rs := [([], [], [(3, .val (.pl (.int .i64 (ba3.Records.length : Int))))]), ([], [(3, .idx (Int.toNat v68) (JournalRecord.cells x80))], []), ([(11, false), (12, false), (13, false), (14, false), (15, false), (16, false), (17, false), (18, false), (19, false), (20, false), (21, false), (22, false), (23, false), (24, false), (25, false)], [(25, .bool false), (26, .bool false)], [(3, .val (.pl (.int .i64 (bl4.1.Records.length : Int)))), (14, .val (.pl (.int .i64 (bl4.1.Records.length : Int))))]), ([], [], [])]) (ps := [some true, none]) (tds := []) (m := [0, 1]) (keep := [1, 5, 6, 7, 9]) (r := (.norm, (f10n2S bf1 bo2 ba3 bl4 (wr64 (v68 + 1))))) (by kernel_rfl) (ap (len_cv (xs := ba3.Records) (c := JournalRecord.cells)) (ap h70 (ap (at_some h81).1 (ap (at_map JournalRecord.cells (at_some h81).2) (ap (len_cv (xs := bl4.1.Records) (c := JournalRecord.cells)) (ap (not_t h82) (ap (not_t h82) (ap (not_t h82) (ap (not_t h82) (ap (len_cv (xs := bl4.1.Records) (c := JournalRecord.cells)) (ap (not_t h82) (ap (not_t h82) (ap h83 (ap h83 (ap h83 (ap h83 (ap h83 (ap h83 (ap h83 (ap h83 (ap (not_t h82) (ap h83 (ap (not_t h82) an))))))))))))))))))))))) (LoopQ.norm ⟨(wr64 (v68 + 1)), rfl, h⟩)
      · obtain rfl := some_inj h
        exact runK_end cfg_ok (k := 2) (rs := [([], [], [(3, .val (.pl (.int .i64 (ba3.Records.length : Int))))]), ([], [(3, .idx (Int.toNat v68) (JournalRecord.cells x80))], []), ([(11, true), (12, true), (13, true), (14, true), (15, true), (16, true), (25, true)], [(26, .bool true)], [(3, .val (.pl (.int .i64 (bl4.1.Records.length : Int))))]), ([], [], [])]) (ps := [some true, none]) (tds := []) (m := []) (keep := [4]) (ex := .ret) (st' := (f10n2E bf1 bo2 ba3 bl4 .ret).2) (by kernel_rfl) (ap (len_cv (xs := ba3.Records) (c := JournalRecord.cells)) (ap h70 (ap (at_some h81).1 (ap (at_map JournalRecord.cells (at_some h81).2) (ap (len_cv (xs := bl4.1.Records) (c := JournalRecord.cells)) (ap (not_f h82) (ap (not_f h82) (ap (not_f h82) (ap (not_f h82) (ap (not_f h82) (ap (not_f h82) (ap (not_f h82) (ap (not_f h82) an))))))))))))) (fun h => nomatch h) (LoopQ.out rfl rfl)
    · obtain rfl := some_inj h
      exact runK_end cfg_ok (k := 1) (rs := [([], [], [(3, .val (.pl (.int .i64 (ba3.Records.length : Int))))])]) (ps := [some false]) (tds := []) (m := [0, 1]) (keep := [1, 5, 6, 7]) (ex := (.exit 0)) (st' := (f10n2E bf1 bo2 ba3 bl4 .exit0).2) (by kernel_rfl) (ap (len_cv (xs := ba3.Records) (c := JournalRecord.cells)) (ap h70 an)) (fun h => nomatch h) (LoopQ.out rfl rfl)
noncomputable def f10n2L (bf1 : Int) (bo2 : Bool) (ba3 : Journal) (bl4 : Journal × Int) : List JournalRecord → Int → Option f10n2O
  | [], v68 =>
    some .exit0
  | x0 :: rest, v68 =>
    bif ((decide (v68 < (bl4.1.Records.length : Int))) == (decide (x0.Day ≤ bf1))) then
      bif (decide (v68 < (bl4.1.Records.length : Int))) then
        (at? bl4.1.Records v68).bind fun x84 =>
        (f27 x84 x0).bind fun x86 =>
        bif x86 then
          (f10n2L bf1 bo2 ba3 bl4 rest (v68 + 1))
        else
          some .ret
      else
        (f10n2L bf1 bo2 ba3 bl4 rest (v68 + 1))
    else
      some .ret
theorem f10n2L_eq (bf1 : Int) (bo2 : Bool) (ba3 : Journal) (bl4 : Journal × Int) : ∀ (rest : List JournalRecord) (f k : Nat), ba3.Records.drop k = rest → ba3.Records.length ≤ maxLen → rest.length < f → f10n2 f bf1 bo2 ba3 bl4 (k : Int) = f10n2L bf1 bo2 ba3 bl4 rest (k : Int)
  | _, 0, _, _, _, hf => absurd hf (Nat.not_lt_zero _)
  | [], f + 1, k, hd, hm, hf => by
    have hk : ¬ ((k : Int) < (ba3.Records.length : Int)) := by have := drop_nil hd; omega
    rw [f10n2, f10n2L]
    simp only [decide_eq_false hk, cond_false]
  | x0 :: rest, f + 1, k, hd, hm, hf => by
    obtain ⟨hx, hlt, hd'⟩ := drop_cons hd
    have hk : (k : Int) < (ba3.Records.length : Int) := by omega
    have hw : wr64 ((k : Int) + 1) = (k : Int) + 1 := wr64_of (by omega) (by unfold maxLen at hm; omega)
    have ih : f10n2 f bf1 bo2 ba3 bl4 ((k : Int) + 1) = f10n2L bf1 bo2 ba3 bl4 rest ((k : Int) + 1) := f10n2L_eq bf1 bo2 ba3 bl4 rest f (k + 1) hd' hm (by simpa using hf)
    rw [f10n2, f10n2L]
    simp only [decide_eq_true hk, cond_true, at_nat, hx, Option.bind_some, hw, ih]
theorem f10n2_run (bf1 : Int) (bo2 : Bool) (ba3 : Journal) (bl4 : Journal × Int) (hm : ba3.Records.length ≤ maxLen) : f10n2 FUEL bf1 bo2 ba3 bl4 0 = f10n2L bf1 bo2 ba3 bl4 ba3.Records 0 := f10n2L_eq bf1 bo2 ba3 bl4 ba3.Records FUEL 0 List.drop_zero hm (lt_FUEL hm)
inductive f10n1O where
  | norm
  | ret
def f10n1E (bf1 : Int) (bo2 : Bool) (ba3 : Journal) (bl4 : Journal × Int) : f10n1O → Ex × Tr × Hp
  | .norm => (.norm, mkS [(1, (.pl (.int .i64 bf1))), (5, (.pl (.bool bo2))), (6, (.bp 0 0)), (7, (.bp 1 0))], [some (.box ((Journal.cells ba3).map .pl)), some (.box ((Journal.cells bl4.1).map .pl))])
  | .ret => (.ret, mkS [(4, (.pl (.bool false)))], [])
def f10n1S (bf1 : Int) (bo2 : Bool) (ba3 : Journal) (bl4 : Journal × Int) : Tr × Hp := (mkS [(1, (.pl (.int .i64 bf1))), (5, (.pl (.bool bo2))), (6, (.bp 0 0)), (7, (.bp 1 0))], [some (.box ((Journal.cells ba3).map .pl)), some (.box ((Journal.cells bl4.1).map .pl))])
noncomputable def f10n1 (bf1 : Int) (bo2 : Bool) (ba3 : Journal) (bl4 : Journal × Int) : Option f10n1O :=
  (f10n2 FUEL bf1 bo2 ba3 bl4 0).bind fun o89 => match o89 with
  | .exit0 => some .norm
  | .ret => some .ret
theorem f10n1_ok (bf1 : Int) (bo2 : Bool) (ba3 : Journal) (bl4 : Journal × Int) {o : f10n1O} (h : (f10n1 bf1 bo2 ba3 bl4) = some o) : T Try.prog Try.f10.ntmps 0 (cL (dropC 6 c10)) (f10n1S bf1 bo2 ba3 bl4) (fun r => r = f10n1E bf1 bo2 ba3 bl4 o) := by
  unfold f10n1 at h
  refine runK_norm cfg_ok (k := 1) (rs := [([], [], [])]) (ps := []) (tds := []) (m := [0, 1]) (keep := [1, 5, 6, 7, 9]) (st' := (f10n2S bf1 bo2 ba3 bl4 0)) (by kernel_rfl) an ?_
  obtain ⟨o89, h90, h⟩ := bind_cases h
  cases o89 with
  | exit0 =>
    obtain rfl := some_inj h
    exact T.last' (T.bl (i := 0) (by kernel_rfl) (by kernel_rfl) (f10n2_ok FUEL bf1 bo2 ba3 bl4 0 h90)) (tds := []) (m := [0, 1]) (keep := [1, 5, 6, 7]) (st2 := (f10n1E bf1 bo2 ba3 bl4 .norm).2) (by kernel_rfl) an rfl
  | ret =>
    obtain rfl := some_inj h
    exact T.last' (T.bl (i := 0) (by kernel_rfl) (by kernel_rfl) (f10n2_ok FUEL bf1 bo2 ba3 bl4 0 h90)) (tds := []) (m := []) (keep := [4]) (st2 := (f10n1E bf1 bo2 ba3 bl4 .ret).2) (by kernel_rfl) an rfl
inductive f10n0O where
  | ret (v117 : Bool)
def f10n0E (a1 : List Entry) (a2 : Int) : f10n0O → Ex × Tr × Hp
  | .ret v117 => (.ret, mkS [(4, (.pl (.bool v117)))], [])
def f10n0S (a1 : List Entry) (a2 : Int) : Tr × Hp := (initS [(.pl (.sl .any 3 (a1.map Entry.cells))), (.pl (.int .i64 a2))] 0 .leaf, [])
noncomputable def f10n0 (a1 : List Entry) (a2 : Int) : Option f10n0O :=
  f11.bind fun x5 =>
  (f23 a1).bind fun x11 =>
  bif x11 then
    some (.ret x5)
  else
    bif x5 then
      (f24r1 a1).bind fun x17 =>
      (f32 x17 a2).bind fun x21 =>
      bif (decide (x21.2 = 0)) then
        bif (decide ((x17.Records.length : Int) < (x21.1.Records.length : Int))) then
          some (.ret false)
        else
          (f10n1 a2 x5 x17 x21).bind fun o91 => match o91 with
          | .norm => bif (decide (a2 < 0)) then
              some (.ret x5)
            else
              bif (decide (99999 ≤ a2)) then
                some (.ret x5)
              else
                (f37r1 1).bind fun x101 =>
                (f30 x17 99999 str_x [(JournalLine.mk str_a str_EUR 1), (JournalLine.mk str_b str_EUR (wr64 (0 - 1)))]).bind fun x103 =>
                (f32 x103.1 a2).bind fun x107 =>
                bif (decide (x103.2 = 0)) then
                  bif (decide (x107.2 = 0)) then
                    (f19 x107.1 x21.1).bind fun x115 =>
                    some (.ret x115)
                  else
                    some (.ret false)
                else
                  some (.ret true)
          | .ret => some (.ret false)
      else
        some (.ret false)
    else
      some (.ret x5)
theorem f10n0_ok (a1 : List Entry) (a2 : Int) {o : f10n0O} (h : (f10n0 a1 a2) = some o) : T Try.prog Try.f10.ntmps 0 c10 (f10n0S a1 a2) (fun r => r = f10n0E a1 a2 o) := by
  unfold f10n0 at h
  obtain ⟨x5, h6, h⟩ := bind_cases h
  obtain ⟨x11, h12, h⟩ := bind_cases h
  rcases cond_cases h with ⟨h13, h⟩ | ⟨h13, h⟩
  · obtain rfl := some_inj h
    exact runK_end cfg_ok (k := 3) (rs := [([], [], []), ([], [(0, .call (.pl (.bool x5)) [])], []), ([(3, true), (4, true)], [(1, .call (.pl (.bool x11)) []), (5, .bool true)], []), ([], [], [])]) (ps := [none]) (tds := []) (m := []) (keep := [4]) (ex := .ret) (st' := (f10n0E a1 a2 (.ret x5)).2) (by kernel_rfl) (ap (f11_ok h6) (ap h13 (ap h13 (ap h13 (ap (f23_ok a1 h12) an))))) (fun h => nomatch h) rfl
  · rcases cond_cases h with ⟨h14, h⟩ | ⟨h14, h⟩
    · obtain ⟨x17, h18, h⟩ := bind_cases h
      obtain ⟨x21, h22, h⟩ := bind_cases h
      rcases cond_cases h with ⟨h25, h⟩ | ⟨h25, h⟩
      · rcases cond_cases h with ⟨h26, h⟩ | ⟨h26, h⟩
        · obtain rfl := some_inj h
          exact runK_end cfg_ok (k := 6) (rs := [([], [], []), ([], [(0, .call (.pl (.bool x5)) [])], []), ([(3, false), (4, false)], [(1, .call (.pl (.bool x11)) []), (5, .bool false)], []), ([], [(1, .call (.pl (.agg (Journal.cells x17))) [some (.box ((Journal.cells x17).map .pl))])], []), ([], [(2, .call (.tup [(.pl (.agg (Journal.cells x21.1))), (.pl (.int .i64 x21.2))]) [])], []), ([(3, false), (4, false), (5, false), (6, false), (7, false), (8, false), (9, false)], [(10, .bool false)], [(5, .val (.pl (.int .i64 (x21.1.Records.length : Int)))), (8, .val (.pl (.int .i64 (x17.Records.length : Int))))]), ([], [], [])]) (ps := [some false, some true]) (tds := []) (m := []) (keep := [4]) (ex := .ret) (st' := (f10n0E a1 a2 (.ret false)).2) (by kernel_rfl) (ap (f11_ok h6) (ap h13 (ap h13 (ap h13 (ap (f23_ok a1 h12) (ap (not_t h14) (ap (f24r1_ok a1 h18) (ap (f32_ok x17 a2 h22) (ap (not_t h25) (ap (not_t h25) (ap (not_t h25) (ap (len_cv (xs := x21.1.Records) (c := JournalRecord.cells)) (ap (not_t h25) (ap (not_t h25) (ap (not_t h25) (ap (len_cv (xs := x17.Records) (c := JournalRecord.cells)) (ap (not_t h25) (ap (not_t h25) (ap h26 an))))))))))))))))))) (fun h => nomatch h) rfl
        · refine runK_norm cfg_ok (k := 6) (rs := [([], [], []), ([], [(0, .call (.pl (.bool x5)) [])], []), ([(3, false), (4, false)], [(1, .call (.pl (.bool x11)) []), (5, .bool false)], []), ([], [(1, .call (.pl (.agg (Journal.cells x17))) [some (.box ((Journal.cells x17).map .pl))])], []), ([], [(2, .call (.tup [(.pl (.agg (Journal.cells x21.1))), (.pl (.int .i64 x21.2))]) [])], []), ([(3, false), (4, false), (5, false), (6, false), (7, false), (8, false), (9, false)], [(10, .bool false)], [(5, .val (.pl (.int .i64 (x21.1.Records.length : Int)))), (8, .val (.pl (.int .i64 (x17.Records.length : Int))))])]) (ps := [some false, some false]) (tds := []) (m := [1, 2]) (keep := [1, 5, 6, 7]) (st' := (f10n1S a2 x5 x17 x21)) (by kernel_rfl) (ap (f11_ok h6) (ap h13 (ap h13 (ap h13 (ap (f23_ok a1 h12) (ap (not_t h14) (ap (f24r1_ok a1 h18) (ap (f32_ok x17 a2 h22) (ap (not_t h25) (ap (not_t h25) (ap (not_t h25) (ap (len_cv (xs := x21.1.Records) (c := JournalRecord.cells)) (ap (not_t h25) (ap (not_t h25) (ap (not_t h25) (ap (len_cv (xs := x17.Records) (c := JournalRecord.cells)) (ap (not_t h25) (ap (not_t h25) (ap h26 an))))))))))))))))))) ?_
          obtain ⟨o91, h92, h⟩ := bind_cases h
          cases o91 with
          | norm =>
            refine T.oneN (by kernel_rfl) (f10n1_ok a2 x5 x17 x21 h92) (st2 := (f10n1E a2 x5 x17 x21 .norm).2) rfl ?_
            rcases cond_cases h with ⟨h95, h⟩ | ⟨h95, h⟩
            · obtain rfl := some_inj h
              exact runK_end cfg_ok (k := 1) (rs := [([(3, true), (4, true)], [(5, .bool true)], []), ([], [], [])]) (ps := [none]) (tds := []) (m := []) (keep := [4]) (ex := .ret) (st' := (f10n0E a1 a2 (.ret x5)).2) (by kernel_rfl) (ap h95 (ap h95 (ap h95 an))) (fun h => nomatch h) rfl
            · rcases cond_cases h with ⟨h96, h⟩ | ⟨h96, h⟩
              · obtain rfl := some_inj h
                exact runK_end cfg_ok (k := 1) (rs := [([(3, false), (4, false)], [(5, .bool false)], []), ([], [], [])]) (ps := [some true]) (tds := []) (m := []) (keep := [4]) (ex := .ret) (st' := (f10n0E a1 a2 (.ret x5)).2) (by kernel_rfl) (ap h95 (ap h95 (ap h95 (ap h96 an)))) (fun h => nomatch h) rfl
              · obtain ⟨x101, h102, h⟩ := bind_cases h
                obtain ⟨x103, h104, h⟩ := bind_cases h
                obtain ⟨x107, h108, h⟩ := bind_cases h
                rcases cond_cases h with ⟨h113, h⟩ | ⟨h113, h⟩
                · rcases cond_cases h with ⟨h114, h⟩ | ⟨h114, h⟩
                  · obtain ⟨x115, h116, h⟩ := bind_cases h
                    obtain rfl := some_inj h
                    exact run_end cfg_ok (rs := [([(3, false), (4, false)], [(5, .bool false)], []), ([], [(1, .call (.own 4) [none, none, none, none, some (.row false 3 ([(JournalLine.mk str_a str_EUR 1), (JournalLine.mk str_b str_EUR (wr64 (0 - 1)))].map JournalLine.cells))]), (2, .call (.tup [(.pl (.agg (Journal.cells x103.1))), (.pl (.int .i64 x103.2))]) [])], []), ([], [(2, .call (.tup [(.pl (.agg (Journal.cells x107.1))), (.pl (.int .i64 x107.2))]) [])], []), ([(2, true), (3, true), (4, true), (5, false), (6, false), (7, false), (8, true), (9, true), (10, true), (11, false), (12, true)], [(10, .call (.pl (.bool x115)) []), (11, .bool true), (12, .bool false), (13, .bool true)], [])]) (ps := [some false]) (tds := []) (m := []) (keep := [4]) (r := (.ret, (f10n0E a1 a2 (.ret x115)).2)) (by kernel_rfl) (ap h95 (ap h95 (ap h95 (ap h96 (ap (CallS.ren (args' := [(.pl (.int .i64 1))]) (v' := (.own 4)) (B := [none, none, none, none]) (B' := [none, none, none, none, some (.row false 3 ([(JournalLine.mk str_a str_EUR 1), (JournalLine.mk str_b str_EUR (wr64 (0 - 1)))].map JournalLine.cells))]) 4 [] (f37r1_ok 1 h102) (by kernel_rfl) (by kernel_rfl) (by kernel_rfl) (by kernel_rfl) (by kernel_rfl) (by kernel_rfl)) (ap (f30_ok x17 99999 str_x [(JournalLine.mk str_a str_EUR 1), (JournalLine.mk str_b str_EUR (wr64 (0 - 1)))] h104) (ap (f32_ok x103.1 a2 h108) (ap h14 (ap h14 (ap h14 (ap (not_t h113) (ap (not_t h113) (ap (not_t h113) (ap h114 (ap h114 (ap h114 (ap (not_t h113) (ap h114 (ap h14 (ap (not_t h113) (ap h14 (ap (f19_ok x107.1 x21.1 h116) an)))))))))))))))))))))) rfl
                  · obtain rfl := some_inj h
                    exact run_end cfg_ok (rs := [([(3, false), (4, false)], [(5, .bool false)], []), ([], [(1, .call (.own 4) [none, none, none, none, some (.row false 3 ([(JournalLine.mk str_a str_EUR 1), (JournalLine.mk str_b str_EUR (wr64 (0 - 1)))].map JournalLine.cells))]), (2, .call (.tup [(.pl (.agg (Journal.cells x103.1))), (.pl (.int .i64 x103.2))]) [])], []), ([], [(2, .call (.tup [(.pl (.agg (Journal.cells x107.1))), (.pl (.int .i64 x107.2))]) [])], []), ([(2, true), (3, true), (4, true), (5, false), (6, false), (7, false), (8, false), (9, false), (10, false), (11, false), (12, true)], [(11, .bool false), (12, .bool false), (13, .bool true)], [])]) (ps := [some false]) (tds := []) (m := []) (keep := [4]) (r := (.ret, (f10n0E a1 a2 (.ret false)).2)) (by kernel_rfl) (ap h95 (ap h95 (ap h95 (ap h96 (ap (CallS.ren (args' := [(.pl (.int .i64 1))]) (v' := (.own 4)) (B := [none, none, none, none]) (B' := [none, none, none, none, some (.row false 3 ([(JournalLine.mk str_a str_EUR 1), (JournalLine.mk str_b str_EUR (wr64 (0 - 1)))].map JournalLine.cells))]) 4 [] (f37r1_ok 1 h102) (by kernel_rfl) (by kernel_rfl) (by kernel_rfl) (by kernel_rfl) (by kernel_rfl) (by kernel_rfl)) (ap (f30_ok x17 99999 str_x [(JournalLine.mk str_a str_EUR 1), (JournalLine.mk str_b str_EUR (wr64 (0 - 1)))] h104) (ap (f32_ok x103.1 a2 h108) (ap h14 (ap h14 (ap h14 (ap (not_t h113) (ap (not_t h113) (ap (not_t h113) (ap h114 (ap h114 (ap h114 (ap (not_t h113) (ap h114 (ap h14 (ap (not_t h113) (ap h14 an))))))))))))))))))))) rfl
                · obtain rfl := some_inj h
                  exact run_end cfg_ok (rs := [([(3, false), (4, false)], [(5, .bool false)], []), ([], [(1, .call (.own 4) [none, none, none, none, some (.row false 3 ([(JournalLine.mk str_a str_EUR 1), (JournalLine.mk str_b str_EUR (wr64 (0 - 1)))].map JournalLine.cells))]), (2, .call (.tup [(.pl (.agg (Journal.cells x103.1))), (.pl (.int .i64 x103.2))]) [])], []), ([], [(2, .call (.tup [(.pl (.agg (Journal.cells x107.1))), (.pl (.int .i64 x107.2))]) [])], []), ([(2, true), (3, true), (4, true), (5, true), (6, true), (7, true), (11, true), (12, true)], [(12, .bool true), (13, .bool true)], [])]) (ps := [some false]) (tds := []) (m := []) (keep := [4]) (r := (.ret, (f10n0E a1 a2 (.ret true)).2)) (by kernel_rfl) (ap h95 (ap h95 (ap h95 (ap h96 (ap (CallS.ren (args' := [(.pl (.int .i64 1))]) (v' := (.own 4)) (B := [none, none, none, none]) (B' := [none, none, none, none, some (.row false 3 ([(JournalLine.mk str_a str_EUR 1), (JournalLine.mk str_b str_EUR (wr64 (0 - 1)))].map JournalLine.cells))]) 4 [] (f37r1_ok 1 h102) (by kernel_rfl) (by kernel_rfl) (by kernel_rfl) (by kernel_rfl) (by kernel_rfl) (by kernel_rfl)) (ap (f30_ok x17 99999 str_x [(JournalLine.mk str_a str_EUR 1), (JournalLine.mk str_b str_EUR (wr64 (0 - 1)))] h104) (ap (f32_ok x103.1 a2 h108) (ap h14 (ap h14 (ap h14 (ap (not_f h113) (ap (not_f h113) (ap (not_f h113) (ap (not_f h113) (ap h14 (ap (not_f h113) (ap h14 an))))))))))))))))) rfl
          | ret =>
            obtain rfl := some_inj h
            exact T.oneX' (by kernel_rfl) (f10n1_ok a2 x5 x17 x21 h92) (tds := []) (m := []) (keep := [4]) (st2 := (f10n0E a1 a2 (.ret false)).2) (by kernel_rfl) an rfl rfl
      · obtain rfl := some_inj h
        exact runK_end cfg_ok (k := 6) (rs := [([], [], []), ([], [(0, .call (.pl (.bool x5)) [])], []), ([(3, false), (4, false)], [(1, .call (.pl (.bool x11)) []), (5, .bool false)], []), ([], [(1, .call (.pl (.agg (Journal.cells x17))) [some (.box ((Journal.cells x17).map .pl))])], []), ([], [(2, .call (.tup [(.pl (.agg (Journal.cells x21.1))), (.pl (.int .i64 x21.2))]) [])], []), ([(3, true), (4, true), (5, true), (6, true), (7, true), (8, true), (9, true)], [(10, .bool true)], []), ([], [], [])]) (ps := [some false, none]) (tds := []) (m := []) (keep := [4]) (ex := .ret) (st' := (f10n0E a1 a2 (.ret false)).2) (by kernel_rfl) (ap (f11_ok h6) (ap h13 (ap h13 (ap h13 (ap (f23_ok a1 h12) (ap (not_t h14) (ap (f24r1_ok a1 h18) (ap (f32_ok x17 a2 h22) (ap (not_f h25) (ap (not_f h25) (ap (not_f h25) (ap (not_f h25) (ap (not_f h25) (ap (not_f h25) (ap (not_f h25) (ap (not_f h25) an)))))))))))))))) (fun h => nomatch h) rfl
    · obtain rfl := some_inj h
      exact runK_end cfg_ok (k := 3) (rs := [([], [], []), ([], [(0, .call (.pl (.bool x5)) [])], []), ([(3, false), (4, false)], [(1, .call (.pl (.bool x11)) []), (5, .bool false)], []), ([], [], [])]) (ps := [some true]) (tds := []) (m := []) (keep := [4]) (ex := .ret) (st' := (f10n0E a1 a2 (.ret x5)).2) (by kernel_rfl) (ap (f11_ok h6) (ap h13 (ap h13 (ap h13 (ap (f23_ok a1 h12) (ap (not_f h14) an)))))) (fun h => nomatch h) rfl
noncomputable def f10 (a1 : List Entry) (a2 : Int) : Option Bool := (f10n0 a1 a2).bind fun o => match o with
  | .ret v117 => some v117
theorem f10_ok (a1 : List Entry) (a2 : Int) {r : Bool} (h : (f10 a1 a2) = some r) : CallS Try.prog false 10 [(.pl (.sl .any 3 (a1.map Entry.cells))), (.pl (.int .i64 a2))] [] (.pl (.bool r)) [] := by
  unfold f10 at h
  obtain ⟨o, ho, h⟩ := bind_cases h
  cases o with
  | ret v117 =>
    obtain rfl := some_inj h
    exact CallS.plain cfg_ok (f := Try.f10) (c := c10) (by kernel_rfl) (by kernel_rfl) (by kernel_rfl) (by kernel_rfl) ((f10n0_ok a1 a2 ho).mono fun r e => by subst e; exact ⟨.inl rfl, (.pl (.bool v117)), (.pl (.bool v117)), by kernel_rfl, by kernel_rfl, ((Wk.refl _) : Wk (.pl (.bool v117)) (.pl (.bool v117)))⟩)
end Go.Proofs.Ytbgjlpdeoljmiaa
