/- Functions of the program, plainly, and that the machine computes them. No condition. -/
import Derived.Test.YtbgjlpdeoljmiaaV7
namespace Go.Proofs.Ytbgjlpdeoljmiaa
set_option linter.unusedVariables false
set_option linter.unusedSimpArgs false
set_option maxRecDepth 100000
open Go.RowKit
/-! ### novation/novationlaw38.JournalZero -/
noncomputable def c4 : Code := Try.f4.body.getD .skip
inductive f4n4O where
  | exit2 (v678 : List JournalLine)
def f4n4E (bo1 : Bool) (bf2 : Int) (ba3 : Journal) : f4n4O → Ex × Tr × Hp
  | .exit2 v678 => ((.exit 2), mkS [(3, (.pl (.bool bo1))), (4, (.bp 0 0)), (5, (.pl (.int .i64 bf2))), (6, (.bp 1 0)), (7, (.own 2))], [some (.box ((Journal.cells ba3).map .pl)), some (.box ((Journal.cells (Journal.mk ((ba3.Records.take (Int.toNat (wr64 (bf2 + 1)))).drop 0))).map .pl)), some (.row false 3 (v678.map JournalLine.cells))])
def f4n4S (bo1 : Bool) (bf2 : Int) (ba3 : Journal) (v666 : Int) (v667 : List JournalLine) : Tr × Hp := (mkS [(3, (.pl (.bool bo1))), (4, (.bp 0 0)), (5, (.pl (.int .i64 bf2))), (6, (.bp 1 0)), (7, (.own 2)), (8, (.pl (.int .i64 v666)))], [some (.box ((Journal.cells ba3).map .pl)), some (.box ((Journal.cells (Journal.mk ((ba3.Records.take (Int.toNat (wr64 (bf2 + 1)))).drop 0))).map .pl)), some (.row false 3 (v667.map JournalLine.cells))])
noncomputable def f4n4 : Nat → Bool → Int → Journal → Int → List JournalLine → Option f4n4O
  | 0, _, _, _, _, _ => none
  | f + 1, bo1, bf2, ba3, v666, v667 =>
    bif (decide (v666 ≤ bf2)) then
      (at? ba3.Records v666).bind fun x674 =>
      bif (x674.Lines.isEmpty) then
        (f4n4 f bo1 bf2 ba3 (wr64 (v666 + 1)) v667)
      else
        req (fit (v667.length + x674.Lines.length) 40) <|
        (f4n4 f bo1 bf2 ba3 (wr64 (v666 + 1)) (v667 ++ x674.Lines))
    else
      some (.exit2 v667)
theorem f4n4_ok : ∀ (f : Nat) (bo1 : Bool) (bf2 : Int) (ba3 : Journal) (v666 : Int) (v667 : List JournalLine) {o : f4n4O}, (f4n4 f bo1 bf2 ba3 v666 v667) = some o → TL Try.prog Try.f4.ntmps 0 f (cL (cL (dropC 1 (cL (dropC 2 (cL (cL (dropC 1 (cL (cL (dropC 1 (cL (dropC 5 c4))))))))))))) (f4n4S bo1 bf2 ba3 v666 v667) (fun r => r = f4n4E bo1 bf2 ba3 o)
  | 0, _, _, _, _, _, o, h => by rw [f4n4] at h; cases h
  | f + 1, bo1, bf2, ba3, v666, v667, o, h => by
    rw [f4n4] at h
    refine TL.body (K := fun s => ∃ v666 : Int, ∃ v667 : List JournalLine, s = (f4n4S bo1 bf2 ba3 v666 v667) ∧ (f4n4 f bo1 bf2 ba3 v666 v667) = some o) ?_ (by rintro _ ⟨v666, v667, rfl, hk⟩; exact f4n4_ok f _ _ _ _ _ hk)
    rcases cond_cases h with ⟨h669, h⟩ | ⟨h669, h⟩
    · obtain ⟨x674, h675, h⟩ := bind_cases h
      rcases cond_cases h with ⟨h676, h⟩ | ⟨h676, h⟩
      · exact run_end cfg_ok (rs := [([], [], []), ([], [(4, .idx (Int.toNat v666) (JournalRecord.cells x674)), (7, .app false)], []), ([], [], [])]) (ps := [some true]) (tds := []) (m := [0, 1, 2]) (keep := [3, 4, 5, 6, 7, 8]) (r := (.norm, (f4n4S bo1 bf2 ba3 (wr64 (v666 + 1)) v667))) (by kernel_rfl) (ap h669 (ap (at_some h675).1 (ap (at_map JournalRecord.cells (at_some h675).2) (ap (nil_map (c := JournalLine.cells) h676) an)))) (LoopQ.norm ⟨(wr64 (v666 + 1)), v667, rfl, h⟩)
      · obtain ⟨h677, h⟩ := req_cases h
        exact run_end cfg_ok (rs := [([], [], []), ([], [(4, .idx (Int.toNat v666) (JournalRecord.cells x674)), (7, .app true)], [(7, .row 3 ((v667 ++ x674.Lines).map JournalLine.cells))]), ([], [], [])]) (ps := [some true]) (tds := []) (m := [0, 1, 3]) (keep := [3, 4, 5, 6, 7, 8]) (r := (.norm, (f4n4S bo1 bf2 ba3 (wr64 (v666 + 1)) (v667 ++ x674.Lines)))) (by kernel_rfl) (ap h669 (ap (at_some h675).1 (ap (at_map JournalRecord.cells (at_some h675).2) (ap (fit_map2 (te := ti49) (xs := v667) (ys := x674.Lines) (c := JournalLine.cells) (d := JournalLine.cells) h677 rfl) (ap (ne_map (c := JournalLine.cells) h676) (ap (len_all (c := JournalLine.cells) (xs := x674.Lines) (n := 3) (fun _ => rfl)) (ap (app_cv (xs := v667) (ys := x674.Lines) (c := JournalLine.cells)) an))))))) (LoopQ.norm ⟨(wr64 (v666 + 1)), (v667 ++ x674.Lines), rfl, h⟩)
    · obtain rfl := some_inj h
      exact runK_end cfg_ok (k := 1) (rs := [([], [], [])]) (ps := [some false]) (tds := []) (m := [0, 1, 2]) (keep := [3, 4, 5, 6, 7]) (ex := (.exit 2)) (st' := (f4n4E bo1 bf2 ba3 (.exit2 v667)).2) (by kernel_rfl) (ap h669 an) (fun h => nomatch h) (LoopQ.out rfl rfl)
inductive f4n3O where
  | norm (v682 : List JournalLine)
def f4n3E (bo1 : Bool) (bf2 : Int) (ba3 : Journal) : f4n3O → Ex × Tr × Hp
  | .norm v682 => (.norm, mkS [(3, (.pl (.bool bo1))), (4, (.bp 0 0)), (5, (.pl (.int .i64 bf2))), (6, (.bp 1 0)), (7, (.own 2))], [some (.box ((Journal.cells ba3).map .pl)), some (.box ((Journal.cells (Journal.mk ((ba3.Records.take (Int.toNat (wr64 (bf2 + 1)))).drop 0))).map .pl)), some (.row false 3 (v682.map JournalLine.cells))])
def f4n3S (bo1 : Bool) (bf2 : Int) (ba3 : Journal) : Tr × Hp := (mkS [(3, (.pl (.bool bo1))), (4, (.bp 0 0)), (5, (.pl (.int .i64 bf2))), (6, (.bp 1 0)), (7, (.pl (.sl .nil 0 [])))], [some (.box ((Journal.cells ba3).map .pl)), some (.box ((Journal.cells (Journal.mk ((ba3.Records.take (Int.toNat (wr64 (bf2 + 1)))).drop 0))).map .pl))])
noncomputable def f4n3 (bo1 : Bool) (bf2 : Int) (ba3 : Journal) : Option f4n3O :=
  (f4n4 FUEL bo1 bf2 ba3 0 []).bind fun o679 => match o679 with
  | .exit2 v681 => some (.norm v681)
theorem f4n3_ok (bo1 : Bool) (bf2 : Int) (ba3 : Journal) {o : f4n3O} (h : (f4n3 bo1 bf2 ba3) = some o) : T Try.prog Try.f4.ntmps 0 (cL (dropC 2 (cL (cL (dropC 1 (cL (cL (dropC 1 (cL (dropC 5 c4)))))))))) (f4n3S bo1 bf2 ba3) (fun r => r = f4n3E bo1 bf2 ba3 o) := by
  unfold f4n3 at h
  refine runK_norm cfg_ok (k := 1) (rs := [([], [], [])]) (ps := []) (tds := [.mat 7 3]) (m := [0, 1, 2]) (keep := [3, 4, 5, 6, 7, 8]) (st' := (f4n4S bo1 bf2 ba3 0 [])) (by kernel_rfl) an ?_
  obtain ⟨o679, h680, h⟩ := bind_cases h
  cases o679 with
  | exit2 v681 =>
    obtain rfl := some_inj h
    exact T.last' (T.bl (i := 2) (by kernel_rfl) (by kernel_rfl) (f4n4_ok FUEL bo1 bf2 ba3 0 [] h680)) (tds := []) (m := [0, 1, 2]) (keep := [3, 4, 5, 6, 7]) (st2 := (f4n3E bo1 bf2 ba3 (.norm v681)).2) (by kernel_rfl) an rfl
inductive f4n7O where
  | exit6 (v910 : Int) (v911 : Int)
def f4n7E (bo1 : Bool) (bf2 : Int) (bf3 : Int) (ba4 : Journal) (bc5 : List JournalLine) (bp6 : JournalLine) : f4n7O → Ex × Tr × Hp
  | .exit6 v910 v911 => ((.exit 6), mkS [(3, (.pl (.bool bo1))), (4, (.bp 0 0)), (5, (.pl (.int .i64 bf2))), (6, (.bp 1 0)), (7, (.own 2)), (9, (.pl (.int .i64 bf3))), (10, (.bp 3 0)), (11, (.pl (.int .i64 v910))), (12, (.pl (.int .i64 v911)))], [some (.box ((Journal.cells ba4).map .pl)), some (.box ((Journal.cells (Journal.mk ((ba4.Records.take (Int.toNat (wr64 (bf2 + 1)))).drop 0))).map .pl)), some (.row false 3 (bc5.map JournalLine.cells)), some (.box ((JournalLine.cells bp6).map .pl))])
def f4n7S (bo1 : Bool) (bf2 : Int) (bf3 : Int) (ba4 : Journal) (bc5 : List JournalLine) (bp6 : JournalLine) (v897 : Int) (v898 : Int) (v899 : Int) : Tr × Hp := (mkS [(3, (.pl (.bool bo1))), (4, (.bp 0 0)), (5, (.pl (.int .i64 bf2))), (6, (.bp 1 0)), (7, (.own 2)), (9, (.pl (.int .i64 bf3))), (10, (.bp 3 0)), (11, (.pl (.int .i64 v897))), (12, (.pl (.int .i64 v898))), (13, (.pl (.int .i64 v899)))], [some (.box ((Journal.cells ba4).map .pl)), some (.box ((Journal.cells (Journal.mk ((ba4.Records.take (Int.toNat (wr64 (bf2 + 1)))).drop 0))).map .pl)), some (.row false 3 (bc5.map JournalLine.cells)), some (.box ((JournalLine.cells bp6).map .pl))])
noncomputable def f4n7 : Nat → Bool → Int → Int → Journal → List JournalLine → JournalLine → Int → Int → Int → Option f4n7O
  | 0, _, _, _, _, _, _, _, _, _ => none
  | f + 1, bo1, bf2, bf3, ba4, bc5, bp6, v897, v898, v899 =>
    bif (decide (v899 < (bc5.length : Int))) then
      (at? bc5 v899).bind fun x906 =>
      bif (seq x906.Ccy bp6.Ccy) then
        bif (seq x906.Account bp6.Account) then
          (f4n7 f bo1 bf2 bf3 ba4 bc5 bp6 (wr64 (v897 + x906.Amount)) (wr64 (v898 + x906.Amount)) (wr64 (v899 + 1)))
        else
          (f4n7 f bo1 bf2 bf3 ba4 bc5 bp6 v897 (wr64 (v898 + x906.Amount)) (wr64 (v899 + 1)))
      else
        (f4n7 f bo1 bf2 bf3 ba4 bc5 bp6 v897 v898 (wr64 (v899 + 1)))
    else
      some (.exit6 v897 v898)
theorem f4n7_ok : ∀ (f : Nat) (bo1 : Bool) (bf2 : Int) (bf3 : Int) (ba4 : Journal) (bc5 : List JournalLine) (bp6 : JournalLine) (v897 : Int) (v898 : Int) (v899 : Int) {o : f4n7O}, (f4n7 f bo1 bf2 bf3 ba4 bc5 bp6 v897 v898 v899) = some o → TL Try.prog Try.f4.ntmps 0 f (cL (cL (dropC 1 (cL (dropC 2 (cL (cL (dropC 1 (cL (cL (dropC 1 (dropC 1 (dropC 2 (cL (cL (dropC 1 (cL (cL (dropC 1 (cL (dropC 5 c4))))))))))))))))))))) (f4n7S bo1 bf2 bf3 ba4 bc5 bp6 v897 v898 v899) (fun r => r = f4n7E bo1 bf2 bf3 ba4 bc5 bp6 o)
  | 0, _, _, _, _, _, _, _, _, _, o, h => by rw [f4n7] at h; cases h
  | f + 1, bo1, bf2, bf3, ba4, bc5, bp6, v897, v898, v899, o, h => by
    rw [f4n7] at h
    refine TL.body (K := fun s => ∃ v897 : Int, ∃ v898 : Int, ∃ v899 : Int, s = (f4n7S bo1 bf2 bf3 ba4 bc5 bp6 v897 v898 v899) ∧ (f4n7 f bo1 bf2 bf3 ba4 bc5 bp6 v897 v898 v899) = some o) ?_ (by rintro _ ⟨v897, v898, v899, rfl, hk⟩; exact f4n7_ok f _ _ _ _ _ _ _ _ _ hk)
    rcases cond_cases h with ⟨h901, h⟩ | ⟨h901, h⟩
    · obtain ⟨x906, h907, h⟩ := bind_cases h
      rcases cond_cases h with ⟨h908, h⟩ | ⟨h908, h⟩
      · rcases cond_cases h with ⟨h909, h⟩ | ⟨h909, h⟩
        · exact run_end cfg_ok (rs := [([], [], [(2, .val (.pl (.int .i64 (bc5.length : Int))))]), ([], [(2, .at_ (Int.toNat v899)), (4, .idx 0 (JournalLine.cells x906))], []), ([], [(3, .at_ (Int.toNat v899)), (5, .idx 0 (JournalLine.cells x906))], []), ([], [(2, .at_ (Int.toNat v899)), (4, .idx 0 (JournalLine.cells x906))], []), ([], [(3, .at_ (Int.toNat v899)), (5, .idx 0 (JournalLine.cells x906))], []), ([], [], [])]) (ps := [some true, some true, some true]) (tds := []) (m := [0, 1, 2, 3]) (keep := [3, 4, 5, 6, 7, 9, 10, 11, 12, 13]) (r := (.norm, (f4n7S bo1 bf2 bf3 ba4 bc5 bp6 (wr64 (v897 + x906.Amount)) (wr64 (v898 + x906.Amount)) (wr64 (v899 + 1))))) (by kernel_rfl) (ap (len_cv (xs := bc5) (c := JournalLine.cells)) (ap h901 (ap (at_some h907).1 (ap (lt_map JournalLine.cells (at_some h907).2) (ap (at_map JournalLine.cells (at_some h907).2) (ap h908 (ap (at_some h907).1 (ap (lt_map JournalLine.cells (at_some h907).2) (ap (at_map JournalLine.cells (at_some h907).2) (ap (at_some h907).1 (ap (lt_map JournalLine.cells (at_some h907).2) (ap (at_map JournalLine.cells (at_some h907).2) (ap h909 (ap (at_some h907).1 (ap (lt_map JournalLine.cells (at_some h907).2) (ap (at_map JournalLine.cells (at_some h907).2) an)))))))))))))))) (LoopQ.norm ⟨(wr64 (v897 + x906.Amount)), (wr64 (v898 + x906.Amount)), (wr64 (v899 + 1)), rfl, h⟩)
        · exact run_end cfg_ok (rs := [([], [], [(2, .val (.pl (.int .i64 (bc5.length : Int))))]), ([], [(2, .at_ (Int.toNat v899)), (4, .idx 0 (JournalLine.cells x906))], []), ([], [(3, .at_ (Int.toNat v899)), (5, .idx 0 (JournalLine.cells x906))], []), ([], [(2, .at_ (Int.toNat v899)), (4, .idx 0 (JournalLine.cells x906))], []), ([], [], [])]) (ps := [some true, some true, some false]) (tds := []) (m := [0, 1, 2, 3]) (keep := [3, 4, 5, 6, 7, 9, 10, 11, 12, 13]) (r := (.norm, (f4n7S bo1 bf2 bf3 ba4 bc5 bp6 v897 (wr64 (v898 + x906.Amount)) (wr64 (v899 + 1))))) (by kernel_rfl) (ap (len_cv (xs := bc5) (c := JournalLine.cells)) (ap h901 (ap (at_some h907).1 (ap (lt_map JournalLine.cells (at_some h907).2) (ap (at_map JournalLine.cells (at_some h907).2) (ap h908 (ap (at_some h907).1 (ap (lt_map JournalLine.cells (at_some h907).2) (ap (at_map JournalLine.cells (at_some h907).2) (ap (at_some h907).1 (ap (lt_map JournalLine.cells (at_some h907).2) (ap (at_map JournalLine.cells (at_some h907).2) (ap h909 an))))))))))))) (LoopQ.norm ⟨v897, (wr64 (v898 + x906.Amount)), (wr64 (v899 + 1)), rfl, h⟩)
      · exact run_end cfg_ok (rs := [([], [], [(2, .val (.pl (.int .i64 (bc5.length : Int))))]), ([], [(2, .at_ (Int.toNat v899)), (4, .idx 0 (JournalLine.cells x906))], []), ([], [], [])]) (ps := [some true, some false]) (tds := []) (m := [0, 1, 2, 3]) (keep := [3, 4, 5, 6, 7, 9, 10, 11, 12, 13]) (r := (.norm, (f4n7S bo1 bf2 bf3 ba4 bc5 bp6 v897 v898 (wr64 (v899 + 1))))) (by kernel_rfl) (ap (len_cv (xs := bc5) (c := JournalLine.cells)) (ap h901 (ap (at_some h907).1 (ap (lt_map JournalLine.cells (at_some h907).2) (ap (at_map JournalLine.cells (at_some h907).2) (ap h908 an)))))) (LoopQ.norm ⟨v897, v898, (wr64 (v899 + 1)), rfl, h⟩)
    · obtain rfl := some_inj h
      exact runK_end cfg_ok (k := 1) (rs := [([], [], [(2, .val (.pl (.int .i64 (bc5.length : Int))))])]) (ps := [some false]) (tds := []) (m := [0, 1, 2, 3]) (keep := [3, 4, 5, 6, 7, 9, 10, 11, 12]) (ex := (.exit 6)) (st' := (f4n7E bo1 bf2 bf3 ba4 bc5 bp6 (.exit6 v897 v898)).2) (by kernel_rfl) (ap (len_cv (xs := bc5) (c := JournalLine.cells)) (ap h901 an)) (fun h => nomatch h) (LoopQ.out rfl rfl)
noncomputable def f4n7L (bo1 : Bool) (bf2 : Int) (bf3 : Int) (ba4 : Journal) (bc5 : List JournalLine) (bp6 : JournalLine) : List JournalLine → Int → Int → Int → Option f4n7O
  | [], v897, v898, v899 =>
    some (.exit6 v897 v898)
  | x0 :: rest, v897, v898, v899 =>
    bif (seq x0.Ccy bp6.Ccy) then
      bif (seq x0.Account bp6.Account) then
        (f4n7L bo1 bf2 bf3 ba4 bc5 bp6 rest (wr64 (v897 + x0.Amount)) (wr64 (v898 + x0.Amount)) (v899 + 1))
      else
        (f4n7L bo1 bf2 bf3 ba4 bc5 bp6 rest v897 (wr64 (v898 + x0.Amount)) (v899 + 1))
    else
      (f4n7L bo1 bf2 bf3 ba4 bc5 bp6 rest v897 v898 (v899 + 1))
theorem f4n7L_eq (bo1 : Bool) (bf2 : Int) (bf3 : Int) (ba4 : Journal) (bc5 : List JournalLine) (bp6 : JournalLine) : ∀ (rest : List JournalLine) (f k : Nat) (v897 : Int) (v898 : Int), bc5.drop k = rest → bc5.length ≤ maxLen → rest.length < f → f4n7 f bo1 bf2 bf3 ba4 bc5 bp6 v897 v898 (k : Int) = f4n7L bo1 bf2 bf3 ba4 bc5 bp6 rest v897 v898 (k : Int)
  | _, 0, _, _, _, _, _, hf => absurd hf (Nat.not_lt_zero _)
  | [], f + 1, k, v897, v898, hd, hm, hf => by
    have hk : ¬ ((k : Int) < (bc5.length : Int)) := by have := drop_nil hd; omega
    rw [f4n7, f4n7L]
    simp only [decide_eq_false hk, cond_false]
  | x0 :: rest, f + 1, k, v897, v898, hd, hm, hf => by
    obtain ⟨hx, hlt, hd'⟩ := drop_cons hd
    have hk : (k : Int) < (bc5.length : Int) := by omega
    have hw : wr64 ((k : Int) + 1) = (k : Int) + 1 := wr64_of (by omega) (by unfold maxLen at hm; omega)
    have ih : ∀ (v897 : Int) (v898 : Int), f4n7 f bo1 bf2 bf3 ba4 bc5 bp6 v897 v898 ((k : Int) + 1) = f4n7L bo1 bf2 bf3 ba4 bc5 bp6 rest v897 v898 ((k : Int) + 1) := fun v897 v898 => f4n7L_eq bo1 bf2 bf3 ba4 bc5 bp6 rest f (k + 1) v897 v898 hd' hm (by simpa using hf)
    rw [f4n7, f4n7L]
    simp only [decide_eq_true hk, cond_true, at_nat, hx, Option.bind_some, hw, ih]
theorem f4n7_run (bo1 : Bool) (bf2 : Int) (bf3 : Int) (ba4 : Journal) (bc5 : List JournalLine) (bp6 : JournalLine) (v897 : Int) (v898 : Int) (hm : bc5.length ≤ maxLen) : f4n7 FUEL bo1 bf2 bf3 ba4 bc5 bp6 v897 v898 0 = f4n7L bo1 bf2 bf3 ba4 bc5 bp6 bc5 v897 v898 0 := f4n7L_eq bo1 bf2 bf3 ba4 bc5 bp6 bc5 FUEL 0 v897 v898 List.drop_zero hm (lt_FUEL hm)
inductive f4n6O where
  | norm (v916 : Int) (v917 : Int)
def f4n6E (bo1 : Bool) (bf2 : Int) (bf3 : Int) (ba4 : Journal) (bc5 : List JournalLine) (bp6 : JournalLine) : f4n6O → Ex × Tr × Hp
  | .norm v916 v917 => (.norm, mkS [(3, (.pl (.bool bo1))), (4, (.bp 0 0)), (5, (.pl (.int .i64 bf2))), (6, (.bp 1 0)), (7, (.own 2)), (9, (.pl (.int .i64 bf3))), (10, (.bp 3 0)), (11, (.pl (.int .i64 v916))), (12, (.pl (.int .i64 v917)))], [some (.box ((Journal.cells ba4).map .pl)), some (.box ((Journal.cells (Journal.mk ((ba4.Records.take (Int.toNat (wr64 (bf2 + 1)))).drop 0))).map .pl)), some (.row false 3 (bc5.map JournalLine.cells)), some (.box ((JournalLine.cells bp6).map .pl))])
def f4n6S (bo1 : Bool) (bf2 : Int) (bf3 : Int) (ba4 : Journal) (bc5 : List JournalLine) (bp6 : JournalLine) : Tr × Hp := (mkS [(3, (.pl (.bool bo1))), (4, (.bp 0 0)), (5, (.pl (.int .i64 bf2))), (6, (.bp 1 0)), (7, (.own 2)), (9, (.pl (.int .i64 bf3))), (10, (.bp 3 0)), (11, (.pl (.int .i64 0))), (12, (.pl (.int .i64 0)))], [some (.box ((Journal.cells ba4).map .pl)), some (.box ((Journal.cells (Journal.mk ((ba4.Records.take (Int.toNat (wr64 (bf2 + 1)))).drop 0))).map .pl)), some (.row false 3 (bc5.map JournalLine.cells)), some (.box ((JournalLine.cells bp6).map .pl))])
noncomputable def f4n6 (bo1 : Bool) (bf2 : Int) (bf3 : Int) (ba4 : Journal) (bc5 : List JournalLine) (bp6 : JournalLine) : Option f4n6O :=
  (f4n7 FUEL bo1 bf2 bf3 ba4 bc5 bp6 0 0 0).bind fun o912 => match o912 with
  | .exit6 v914 v915 => some (.norm v914 v915)
theorem f4n6_ok (bo1 : Bool) (bf2 : Int) (bf3 : Int) (ba4 : Journal) (bc5 : List JournalLine) (bp6 : JournalLine) {o : f4n6O} (h : (f4n6 bo1 bf2 bf3 ba4 bc5 bp6) = some o) : T Try.prog Try.f4.ntmps 0 (cL (dropC 2 (cL (cL (dropC 1 (cL (cL (dropC 1 (dropC 1 (dropC 2 (cL (cL (dropC 1 (cL (cL (dropC 1 (cL (dropC 5 c4)))))))))))))))))) (f4n6S bo1 bf2 bf3 ba4 bc5 bp6) (fun r => r = f4n6E bo1 bf2 bf3 ba4 bc5 bp6 o) := by
  unfold f4n6 at h
  refine runK_norm cfg_ok (k := 1) (rs := [([], [], [])]) (ps := []) (tds := []) (m := [0, 1, 2, 3]) (keep := [3, 4, 5, 6, 7, 9, 10, 11, 12, 13]) (st' := (f4n7S bo1 bf2 bf3 ba4 bc5 bp6 0 0 0)) (by kernel_rfl) an ?_
  obtain ⟨o912, h913, h⟩ := bind_cases h
  cases o912 with
  | exit6 v914 v915 =>
    obtain rfl := some_inj h
    exact T.last' (T.bl (i := 6) (by kernel_rfl) (by kernel_rfl) (f4n7_ok FUEL bo1 bf2 bf3 ba4 bc5 bp6 0 0 0 h913)) (tds := []) (m := [0, 1, 2, 3]) (keep := [3, 4, 5, 6, 7, 9, 10, 11, 12]) (st2 := (f4n6E bo1 bf2 bf3 ba4 bc5 bp6 (.norm v914 v915)).2) (by kernel_rfl) an rfl
inductive f4n8O where
  | norm (v938 : Bool)
def f4n8E (bo1 : Bool) (bf2 : Int) (bf3 : Int) (bf4 : Int) (bf5 : Int) (bq6 : Int × Int) (ba7 : Journal) (bc8 : List JournalLine) : f4n8O → Ex × Tr × Hp
  | .norm v938 => (.norm, mkS [(3, (.pl (.bool bo1))), (4, (.bp 0 0)), (5, (.pl (.int .i64 bf2))), (6, (.bp 1 0)), (7, (.own 2)), (9, (.pl (.int .i64 bf3))), (141, (.pl (.bool v938)))], [some (.box ((Journal.cells ba7).map .pl)), some (.box ((Journal.cells (Journal.mk ((ba7.Records.take (Int.toNat (wr64 (bf2 + 1)))).drop 0))).map .pl)), some (.row false 3 (bc8.map JournalLine.cells))])
def f4n8S (bo1 : Bool) (bf2 : Int) (bf3 : Int) (bf4 : Int) (bf5 : Int) (bq6 : Int × Int) (ba7 : Journal) (bc8 : List JournalLine) : Tr × Hp := (mkS [(3, (.pl (.bool bo1))), (4, (.bp 0 0)), (5, (.pl (.int .i64 bf2))), (6, (.bp 1 0)), (7, (.own 2)), (9, (.pl (.int .i64 bf3))), (11, (.pl (.int .i64 bf4))), (12, (.pl (.int .i64 bf5))), (14, (.pl (.int .i64 bq6.1))), (15, (.pl (.int .i64 bq6.2)))], [some (.box ((Journal.cells ba7).map .pl)), some (.box ((Journal.cells (Journal.mk ((ba7.Records.take (Int.toNat (wr64 (bf2 + 1)))).drop 0))).map .pl)), some (.row false 3 (bc8.map JournalLine.cells))])
noncomputable def f4n8 (bo1 : Bool) (bf2 : Int) (bf3 : Int) (bf4 : Int) (bf5 : Int) (bq6 : Int × Int) (ba7 : Journal) (bc8 : List JournalLine) : Option f4n8O :=
  bif (decide (bq6.2 = 0)) then
    bif (decide (bq6.1 = bf4)) then
      bif (decide (bf5 = 0)) then
        bif (decide (1125899906842624 < bq6.1)) then
          some (.norm true)
        else
          some (.norm (decide (bq6.1 < (-1125899906842624))))
      else
        some (.norm true)
    else
      some (.norm true)
  else
    some (.norm true)
theorem f4n8_ok (bo1 : Bool) (bf2 : Int) (bf3 : Int) (bf4 : Int) (bf5 : Int) (bq6 : Int × Int) (ba7 : Journal) (bc8 : List JournalLine) {o : f4n8O} (h : (f4n8 bo1 bf2 bf3 bf4 bf5 bq6 ba7 bc8) = some o) : T Try.prog Try.f4.ntmps 0 (cL (dropC 1 (dropC 1 (dropC 2 (cL (cL (dropC 1 (cL (cL (dropC 1 (dropC 1 (dropC 2 (cL (cL (dropC 1 (cL (cL (dropC 1 (cL (dropC 5 c4)))))))))))))))))))) (f4n8S bo1 bf2 bf3 bf4 bf5 bq6 ba7 bc8) (fun r => r = f4n8E bo1 bf2 bf3 bf4 bf5 bq6 ba7 bc8 o) := by
  unfold f4n8 at h
  rcases cond_cases h with ⟨h934, h⟩ | ⟨h934, h⟩
  · rcases cond_cases h with ⟨h935, h⟩ | ⟨h935, h⟩
    · rcases cond_cases h with ⟨h936, h⟩ | ⟨h936, h⟩
      · rcases cond_cases h with ⟨h937, h⟩ | ⟨h937, h⟩
        · obtain rfl := some_inj h
          exact run_end cfg_ok (rs := [([(3, false), (4, false), (5, false), (8, false), (9, false), (12, false), (13, false), (16, true), (17, true)], [(6, .bool false), (10, .bool false), (14, .bool false), (18, .bool true)], [])]) (ps := []) (tds := []) (m := [0, 1, 2]) (keep := [3, 4, 5, 6, 7, 9, 141]) (r := (.norm, (f4n8E bo1 bf2 bf3 bf4 bf5 bq6 ba7 bc8 (.norm true)).2)) (by kernel_rfl) (ap (not_t h934) (ap (not_t h934) (ap (not_t h934) (ap (not_t h934) (ap (not_t h935) (ap (not_t h935) (ap (not_t h935) (ap (not_t h936) (ap (not_t h936) (ap (not_t h936) (ap h937 (ap h937 (ap h937 an))))))))))))) rfl
        · obtain rfl := some_inj h
          exact run_end cfg_ok (rs := [([(3, false), (4, false), (5, false), (8, false), (9, false), (12, false), (13, false), (16, false), (17, false)], [(6, .bool false), (10, .bool false), (14, .bool false), (18, .bool false)], [])]) (ps := []) (tds := []) (m := [0, 1, 2]) (keep := [3, 4, 5, 6, 7, 9, 141]) (r := (.norm, (f4n8E bo1 bf2 bf3 bf4 bf5 bq6 ba7 bc8 (.norm (decide (bq6.1 < (-1125899906842624))))).2)) (by kernel_rfl) (ap (not_t h934) (ap (not_t h934) (ap (not_t h934) (ap (not_t h934) (ap (not_t h935) (ap (not_t h935) (ap (not_t h935) (ap (not_t h936) (ap (not_t h936) (ap (not_t h936) (ap h937 (ap h937 (ap h937 an))))))))))))) rfl
      · obtain rfl := some_inj h
        exact run_end cfg_ok (rs := [([(3, false), (4, false), (5, false), (8, false), (9, false), (12, true), (13, true)], [(6, .bool false), (10, .bool false), (14, .bool true)], [])]) (ps := []) (tds := []) (m := [0, 1, 2]) (keep := [3, 4, 5, 6, 7, 9, 141]) (r := (.norm, (f4n8E bo1 bf2 bf3 bf4 bf5 bq6 ba7 bc8 (.norm true)).2)) (by kernel_rfl) (ap (not_t h934) (ap (not_t h934) (ap (not_t h934) (ap (not_t h934) (ap (not_t h935) (ap (not_t h935) (ap (not_t h935) (ap (not_f h936) (ap (not_f h936) (ap (not_f h936) an)))))))))) rfl
    · obtain rfl := some_inj h
      exact run_end cfg_ok (rs := [([(3, false), (4, false), (5, false), (8, true), (9, true)], [(6, .bool false), (10, .bool true)], [])]) (ps := []) (tds := []) (m := [0, 1, 2]) (keep := [3, 4, 5, 6, 7, 9, 141]) (r := (.norm, (f4n8E bo1 bf2 bf3 bf4 bf5 bq6 ba7 bc8 (.norm true)).2)) (by kernel_rfl) (ap (not_t h934) (ap (not_t h934) (ap (not_t h934) (ap (not_t h934) (ap (not_f h935) (ap (not_f h935) (ap (not_f h935) an))))))) rfl
  · obtain rfl := some_inj h
    exact run_end cfg_ok (rs := [([(3, true), (4, true), (5, true)], [(6, .bool true)], [])]) (ps := []) (tds := []) (m := [0, 1, 2]) (keep := [3, 4, 5, 6, 7, 9, 141]) (r := (.norm, (f4n8E bo1 bf2 bf3 bf4 bf5 bq6 ba7 bc8 (.norm true)).2)) (by kernel_rfl) (ap (not_f h934) (ap (not_f h934) (ap (not_f h934) (ap (not_f h934) an)))) rfl
inductive f4n5O where
  | norm
  | ret
def f4n5E (bo1 : Bool) (bf2 : Int) (bf3 : Int) (ba4 : Journal) (bc5 : List JournalLine) : f4n5O → Ex × Tr × Hp
  | .norm => (.norm, mkS [(3, (.pl (.bool bo1))), (4, (.bp 0 0)), (5, (.pl (.int .i64 bf2))), (6, (.bp 1 0)), (7, (.own 2)), (9, (.pl (.int .i64 bf3)))], [some (.box ((Journal.cells ba4).map .pl)), some (.box ((Journal.cells (Journal.mk ((ba4.Records.take (Int.toNat (wr64 (bf2 + 1)))).drop 0))).map .pl)), some (.row false 3 (bc5.map JournalLine.cells))])
  | .ret => (.ret, mkS [(2, (.pl (.bool false)))], [])
def f4n5S (bo1 : Bool) (bf2 : Int) (bf3 : Int) (ba4 : Journal) (bc5 : List JournalLine) : Tr × Hp := (mkS [(3, (.pl (.bool bo1))), (4, (.bp 0 0)), (5, (.pl (.int .i64 bf2))), (6, (.bp 1 0)), (7, (.own 2)), (9, (.pl (.int .i64 bf3)))], [some (.box ((Journal.cells ba4).map .pl)), some (.box ((Journal.cells (Journal.mk ((ba4.Records.take (Int.toNat (wr64 (bf2 + 1)))).drop 0))).map .pl)), some (.row false 3 (bc5.map JournalLine.cells))])
noncomputable def f4n5 (bo1 : Bool) (bf2 : Int) (bf3 : Int) (ba4 : Journal) (bc5 : List JournalLine) : Option f4n5O :=
  (at? ba4.Records bf2).bind fun x870 =>
  (at? x870.Lines bf3).bind fun x872 =>
  (f4n6 bo1 bf2 bf3 ba4 bc5 x872).bind fun o918 => match o918 with
  | .norm v920 v921 => (f25 (Journal.mk ((ba4.Records.take (Int.toNat (wr64 (bf2 + 1)))).drop 0)) x872.Account x872.Ccy).bind fun x924 =>
    (f4n8 bo1 bf2 bf3 v920 v921 x924 ba4 bc5).bind fun o939 => match o939 with
    | .norm v941 => bif v941 then
        some .ret
      else
        some .norm
theorem f4n5_ok (bo1 : Bool) (bf2 : Int) (bf3 : Int) (ba4 : Journal) (bc5 : List JournalLine) {o : f4n5O} (h : (f4n5 bo1 bf2 bf3 ba4 bc5) = some o) : T Try.prog Try.f4.ntmps 0 (cL (dropC 1 (cL (cL (dropC 1 (dropC 1 (dropC 2 (cL (cL (dropC 1 (cL (cL (dropC 1 (cL (dropC 5 c4))))))))))))))) (f4n5S bo1 bf2 bf3 ba4 bc5) (fun r => r = f4n5E bo1 bf2 bf3 ba4 bc5 o) := by
  unfold f4n5 at h
  refine T.block' (i := 5) (by kernel_rfl) ?_
  obtain ⟨x870, h871, h⟩ := bind_cases h
  obtain ⟨x872, h873, h⟩ := bind_cases h
  refine runK_norm cfg_ok (k := 2) (rs := [([], [(3, .idx (Int.toNat bf2) (JournalRecord.cells x870)), (7, .idx (Int.toNat bf3) (JournalLine.cells x872))], []), ([], [], [])]) (ps := []) (tds := []) (m := [0, 1, 2, 3]) (keep := [3, 4, 5, 6, 7, 9, 10, 11, 12]) (st' := (f4n6S bo1 bf2 bf3 ba4 bc5 x872)) (by kernel_rfl) (ap (at_some h871).1 (ap (at_map JournalRecord.cells (at_some h871).2) (ap (at_some h873).1 (ap (at_map JournalLine.cells (at_some h873).2) an)))) ?_
  obtain ⟨o918, h919, h⟩ := bind_cases h
  cases o918 with
  | norm v920 v921 =>
    refine T.oneN (by kernel_rfl) (f4n6_ok bo1 bf2 bf3 ba4 bc5 x872 h919) (st2 := (f4n6E bo1 bf2 bf3 ba4 bc5 x872 (.norm v920 v921)).2) rfl ?_
    obtain ⟨x924, h925, h⟩ := bind_cases h
    refine runK_norm cfg_ok (k := 1) (rs := [([], [(5, .call (.tup [(.pl (.int .i64 x924.1)), (.pl (.int .i64 x924.2))]) [])], [])]) (ps := []) (tds := []) (m := [0, 1, 2]) (keep := [3, 4, 5, 6, 7, 9, 11, 12, 14, 15]) (st' := (f4n8S bo1 bf2 bf3 v920 v921 x924 ba4 bc5)) (by kernel_rfl) (ap (f25_ok (Journal.mk ((ba4.Records.take (Int.toNat (wr64 (bf2 + 1)))).drop 0)) x872.Account x872.Ccy h925) an) ?_
    obtain ⟨o939, h940, h⟩ := bind_cases h
    cases o939 with
    | norm v941 =>
      refine T.oneN (by kernel_rfl) (f4n8_ok bo1 bf2 bf3 v920 v921 x924 ba4 bc5 h940) (st2 := (f4n8E bo1 bf2 bf3 v920 v921 x924 ba4 bc5 (.norm v941)).2) rfl ?_
      rcases cond_cases h with ⟨h943, h⟩ | ⟨h943, h⟩
      · obtain rfl := some_inj h
        exact run_end cfg_ok (rs := [([], [], [])]) (ps := [some true]) (tds := []) (m := []) (keep := [2]) (r := (.ret, (f4n5E bo1 bf2 bf3 ba4 bc5 .ret).2)) (by kernel_rfl) (ap h943 an) rfl
      · obtain rfl := some_inj h
        exact run_end cfg_ok (rs := []) (ps := [some false]) (tds := []) (m := [0, 1, 2]) (keep := [3, 4, 5, 6, 7, 9]) (r := (.norm, (f4n5E bo1 bf2 bf3 ba4 bc5 .norm).2)) (by kernel_rfl) (ap h943 an) rfl
inductive f4n9O where
  | exit4
  | ret
def f4n9E (bo1 : Bool) (bf2 : Int) (ba3 : Journal) (v685 : List JournalLine) : f4n9O → Ex × Tr × Hp
  | .exit4 => ((.exit 4), mkS [(3, (.pl (.bool bo1))), (4, (.bp 0 0)), (5, (.pl (.int .i64 bf2)))], [some (.box ((Journal.cells ba3).map .pl))])
  | .ret => (.ret, mkS [(2, (.pl (.bool false)))], [])
def f4n9S (bo1 : Bool) (bf2 : Int) (ba3 : Journal) (v685 : List JournalLine) (v859 : Int) : Tr × Hp := (mkS [(3, (.pl (.bool bo1))), (4, (.bp 0 0)), (5, (.pl (.int .i64 bf2))), (6, (.bp 1 0)), (7, (.own 2)), (9, (.pl (.int .i64 v859)))], [some (.box ((Journal.cells ba3).map .pl)), some (.box ((Journal.cells (Journal.mk ((ba3.Records.take (Int.toNat (wr64 (bf2 + 1)))).drop 0))).map .pl)), some (.row false 3 (v685.map JournalLine.cells))])
noncomputable def f4n9 : Nat → Bool → Int → Journal → List JournalLine → Int → Option f4n9O
  | 0, _, _, _, _, _ => none
  | f + 1, bo1, bf2, ba3, v685, v859 =>
    (at? ba3.Records bf2).bind fun x863 =>
    bif (decide (v859 < (x863.Lines.length : Int))) then
      (f4n5 bo1 bf2 v859 ba3 v685).bind fun o944 => match o944 with
      | .norm => (f4n9 f bo1 bf2 ba3 v685 (wr64 (v859 + 1)))
      | .ret => some .ret
    else
      some .exit4
theorem f4n9_ok : ∀ (f : Nat) (bo1 : Bool) (bf2 : Int) (ba3 : Journal) (v685 : List JournalLine) (v859 : Int) {o : f4n9O}, (f4n9 f bo1 bf2 ba3 v685 v859) = some o → TL Try.prog Try.f4.ntmps 0 f (cL (cL (dropC 1 (dropC 1 (dropC 2 (cL (cL (dropC 1 (cL (cL (dropC 1 (cL (dropC 5 c4))))))))))))) (f4n9S bo1 bf2 ba3 v685 v859) (fun r => r = f4n9E bo1 bf2 ba3 v685 o)
  | 0, _, _, _, _, _, o, h => by rw [f4n9] at h; cases h
  | f + 1, bo1, bf2, ba3, v685, v859, o, h => by
    rw [f4n9] at h
    refine TL.body (K := fun s => ∃ v859 : Int, s = (f4n9S bo1 bf2 ba3 v685 v859) ∧ (f4n9 f bo1 bf2 ba3 v685 v859) = some o) ?_ (by rintro _ ⟨v859, rfl, hk⟩; exact f4n9_ok f _ _ _ _ _ hk)
    obtain ⟨x863, h864, h⟩ := bind_cases h
    rcases cond_cases h with ⟨h865, h⟩ | ⟨h865, h⟩
    · refine runK_norm cfg_ok (k := 1) (rs := [([], [(4, .idx (Int.toNat bf2) (JournalRecord.cells x863))], [(7, .val (.pl (.int .i64 (x863.Lines.length : Int))))])]) (ps := [some true]) (tds := []) (m := [0, 1, 2]) (keep := [3, 4, 5, 6, 7, 9]) (st' := (f4n5S bo1 bf2 v859 ba3 v685)) (by kernel_rfl) (ap (at_some h864).1 (ap (at_map JournalRecord.cells (at_some h864).2) (ap (len_cv (xs := x863.Lines) (c := JournalLine.cells)) (ap h865 an)))) ?_
      obtain ⟨o944, h945, h⟩ := bind_cases h
      cases o944 with
      | norm =>
        refine T.oneN (by kernel_rfl) (f4n5_ok bo1 bf2 v859 ba3 v685 h945) (st2 := (f4n5E bo1 bf2 v859 ba3 v685 .norm).2) rfl ?_
        exact run_end cfg_ok (rs := [([], [], [])]) (ps := []) (tds := []) (m := [0, 1, 2]) (keep := [3, 4, 5, 6, 7, 9]) (r := (.norm, (f4n9S bo1 bf2 ba3 v685 (wr64 (v859 + 1))))) (by kernel_rfl) an (LoopQ.norm ⟨(wr64 (v859 + 1)), rfl, h⟩)
      | ret =>
        obtain rfl := some_inj h
        exact T.oneX' (by kernel_rfl) (f4n5_ok bo1 bf2 v859 ba3 v685 h945) (tds := []) (m := []) (keep := [2]) (st2 := (f4n9E bo1 bf2 ba3 v685 .ret).2) (by kernel_rfl) an rfl (LoopQ.out rfl rfl)
    · obtain rfl := some_inj h
      exact runK_end cfg_ok (k := 1) (rs := [([], [(4, .idx (Int.toNat bf2) (JournalRecord.cells x863))], [(7, .val (.pl (.int .i64 (x863.Lines.length : Int))))])]) (ps := [some false]) (tds := []) (m := [0]) (keep := [3, 4, 5]) (ex := (.exit 4)) (st' := (f4n9E bo1 bf2 ba3 v685 .exit4).2) (by kernel_rfl) (ap (at_some h864).1 (ap (at_map JournalRecord.cells (at_some h864).2) (ap (len_cv (xs := x863.Lines) (c := JournalLine.cells)) (ap h865 an)))) (fun h => nomatch h) (LoopQ.out rfl rfl)
inductive f4n2O where
  | norm
  | ret
def f4n2E (bo1 : Bool) (bf2 : Int) (ba3 : Journal) : f4n2O → Ex × Tr × Hp
  | .norm => (.norm, mkS [(3, (.pl (.bool bo1))), (4, (.bp 0 0)), (5, (.pl (.int .i64 bf2)))], [some (.box ((Journal.cells ba3).map .pl))])
  | .ret => (.ret, mkS [(2, (.pl (.bool false)))], [])
def f4n2S (bo1 : Bool) (bf2 : Int) (ba3 : Journal) : Tr × Hp := (mkS [(3, (.pl (.bool bo1))), (4, (.bp 0 0)), (5, (.pl (.int .i64 bf2)))], [some (.box ((Journal.cells ba3).map .pl))])
noncomputable def f4n2 (bo1 : Bool) (bf2 : Int) (ba3 : Journal) : Option f4n2O :=
  req (cutB 0 (wr64 (bf2 + 1)) ba3.Records.length) <|
  (f4n3 bo1 bf2 ba3).bind fun o683 => match o683 with
  | .norm v685 => (f4n9 FUEL bo1 bf2 ba3 v685 0).bind fun o946 => match o946 with
    | .exit4 => some .norm
    | .ret => some .ret
theorem f4n2_ok (bo1 : Bool) (bf2 : Int) (ba3 : Journal) {o : f4n2O} (h : (f4n2 bo1 bf2 ba3) = some o) : T Try.prog Try.f4.ntmps 0 (cL (dropC 1 (cL (cL (dropC 1 (cL (dropC 5 c4))))))) (f4n2S bo1 bf2 ba3) (fun r => r = f4n2E bo1 bf2 ba3 o) := by
  unfold f4n2 at h
  refine T.block' (i := 1) (by kernel_rfl) ?_
  obtain ⟨h643, h⟩ := req_cases h
  refine runK_norm cfg_ok (k := 2) (rs := [([], [(4, .cut 0 (Int.toNat (wr64 (bf2 + 1))))], [(4, .val (.pl (.sl .any 3 (((ba3.Records.take (Int.toNat (wr64 (bf2 + 1)))).drop 0).map JournalRecord.cells))))]), ([], [], [])]) (ps := []) (tds := []) (m := [0, 1]) (keep := [3, 4, 5, 6, 7]) (st' := (f4n3S bo1 bf2 ba3)) (by kernel_rfl) (ap (cut_hn_1_map (c := JournalRecord.cells) h643) (ap (cut_hn_2 h643) (ap (cut_hn_3 h643) (ap (cut_hn_4_map (c := JournalRecord.cells) h643) (ap (congrArg (fun l => AV.pl (.sl .any 3 l)) (cut_cv (xs := ba3.Records) (c := JournalRecord.cells) (n := (Int.toNat (wr64 (bf2 + 1)))) (m := 0))) an))))) ?_
  obtain ⟨o683, h684, h⟩ := bind_cases h
  cases o683 with
  | norm v685 =>
    refine T.oneN (by kernel_rfl) (f4n3_ok bo1 bf2 ba3 h684) (st2 := (f4n3E bo1 bf2 ba3 (.norm v685)).2) rfl ?_
    refine runK_norm cfg_ok (k := 1) (rs := [([], [], [])]) (ps := []) (tds := []) (m := [0, 1, 2]) (keep := [3, 4, 5, 6, 7, 9]) (st' := (f4n9S bo1 bf2 ba3 v685 0)) (by kernel_rfl) an ?_
    obtain ⟨o946, h947, h⟩ := bind_cases h
    cases o946 with
    | exit4 =>
      obtain rfl := some_inj h
      exact T.last' (T.bl (i := 4) (by kernel_rfl) (by kernel_rfl) (f4n9_ok FUEL bo1 bf2 ba3 v685 0 h947)) (tds := []) (m := [0]) (keep := [3, 4, 5]) (st2 := (f4n2E bo1 bf2 ba3 .norm).2) (by kernel_rfl) an rfl
    | ret =>
      obtain rfl := some_inj h
      exact T.last' (T.bl (i := 4) (by kernel_rfl) (by kernel_rfl) (f4n9_ok FUEL bo1 bf2 ba3 v685 0 h947)) (tds := []) (m := []) (keep := [2]) (st2 := (f4n2E bo1 bf2 ba3 .ret).2) (by kernel_rfl) an rfl
inductive f4n10O where
  | exit0
  | ret
def f4n10E (bo1 : Bool) (ba2 : Journal) : f4n10O → Ex × Tr × Hp
  | .exit0 => ((.exit 0), mkS [(3, (.pl (.bool bo1)))], [])
  | .ret => (.ret, mkS [(2, (.pl (.bool false)))], [])
def f4n10S (bo1 : Bool) (ba2 : Journal) (v639 : Int) : Tr × Hp := (mkS [(3, (.pl (.bool bo1))), (4, (.bp 0 0)), (5, (.pl (.int .i64 v639)))], [some (.box ((Journal.cells ba2).map .pl))])
noncomputable def f4n10 : Nat → Bool → Journal → Int → Option f4n10O
  | 0, _, _, _ => none
  | f + 1, bo1, ba2, v639 =>
    bif (decide (v639 < (ba2.Records.length : Int))) then
      (f4n2 bo1 v639 ba2).bind fun o948 => match o948 with
      | .norm => (f4n10 f bo1 ba2 (wr64 (v639 + 1)))
      | .ret => some .ret
    else
      some .exit0
theorem f4n10_ok : ∀ (f : Nat) (bo1 : Bool) (ba2 : Journal) (v639 : Int) {o : f4n10O}, (f4n10 f bo1 ba2 v639) = some o → TL Try.prog Try.f4.ntmps 0 f (cL (cL (dropC 1 (cL (dropC 5 c4))))) (f4n10S bo1 ba2 v639) (fun r => r = f4n10E bo1 ba2 o)
  | 0, _, _, _, o, h => by rw [f4n10] at h; cases h
  | f + 1, bo1, ba2, v639, o, h => by
    rw [f4n10] at h
    refine TL.body (K := fun s => ∃ v639 : Int, s = (f4n10S bo1 ba2 v639) ∧ (f4n10 f bo1 ba2 v639) = some o) ?_ (by rintro _ ⟨v639, rfl, hk⟩; exact f4n10_ok f _ _ _ hk)
    rcases cond_cases h with ⟨h641, h⟩ | ⟨h641, h⟩
    · refine runK_norm cfg_ok (k := 1) (rs := [([], [], [(3, .val (.pl (.int .i64 (ba2.Records.length : Int))))])]) (ps := [some true]) (tds := []) (m := [0]) (keep := [3, 4, 5]) (st' := (f4n2S bo1 v639 ba2)) (by kernel_rfl) (ap (len_cv (xs := ba2.Records) (c := JournalRecord.cells)) (ap h641 an)) ?_
      obtain ⟨o948, h949, h⟩ := bind_cases h
      cases o948 with
      | norm =>
        refine T.oneN (by kernel_rfl) (f4n2_ok bo1 v639 ba2 h949) (st2 := (f4n2E bo1 v639 ba2 .norm).2) rfl ?_
        exact run_end cfg_ok (rs := [([], [], [])]) (ps := []) (tds := []) (m := [0]) (keep := [3, 4, 5]) (r := (.norm, (f4n10S bo1 ba2 (wr64 (v639 + 1))))) (by kernel_rfl) an (LoopQ.norm ⟨(wr64 (v639 + 1)), rfl, h⟩)
      | ret =>
        obtain rfl := some_inj h
        exact T.oneX' (by kernel_rfl) (f4n2_ok bo1 v639 ba2 h949) (tds := []) (m := []) (keep := [2]) (st2 := (f4n10E bo1 ba2 .ret).2) (by kernel_rfl) an rfl (LoopQ.out rfl rfl)
    · obtain rfl := some_inj h
      exact runK_end cfg_ok (k := 1) (rs := [([], [], [(3, .val (.pl (.int .i64 (ba2.Records.length : Int))))])]) (ps := [some false]) (tds := []) (m := []) (keep := [3]) (ex := (.exit 0)) (st' := (f4n10E bo1 ba2 .exit0).2) (by kernel_rfl) (ap (len_cv (xs := ba2.Records) (c := JournalRecord.cells)) (ap h641 an)) (fun h => nomatch h) (LoopQ.out rfl rfl)
inductive f4n1O where
  | norm
  | ret
def f4n1E (bo1 : Bool) (ba2 : Journal) : f4n1O → Ex × Tr × Hp
  | .norm => (.norm, mkS [(3, (.pl (.bool bo1)))], [])
  | .ret => (.ret, mkS [(2, (.pl (.bool false)))], [])
def f4n1S (bo1 : Bool) (ba2 : Journal) : Tr × Hp := (mkS [(3, (.pl (.bool bo1))), (4, (.bp 0 0))], [some (.box ((Journal.cells ba2).map .pl))])
noncomputable def f4n1 (bo1 : Bool) (ba2 : Journal) : Option f4n1O :=
  (f4n10 FUEL bo1 ba2 0).bind fun o950 => match o950 with
  | .exit0 => some .norm
  | .ret => some .ret
theorem f4n1_ok (bo1 : Bool) (ba2 : Journal) {o : f4n1O} (h : (f4n1 bo1 ba2) = some o) : T Try.prog Try.f4.ntmps 0 (cL (dropC 5 c4)) (f4n1S bo1 ba2) (fun r => r = f4n1E bo1 ba2 o) := by
  unfold f4n1 at h
  refine runK_norm cfg_ok (k := 1) (rs := [([], [], [])]) (ps := []) (tds := []) (m := [0]) (keep := [3, 4, 5]) (st' := (f4n10S bo1 ba2 0)) (by kernel_rfl) an ?_
  obtain ⟨o950, h951, h⟩ := bind_cases h
  cases o950 with
  | exit0 =>
    obtain rfl := some_inj h
    exact T.last' (T.bl (i := 0) (by kernel_rfl) (by kernel_rfl) (f4n10_ok FUEL bo1 ba2 0 h951)) (tds := []) (m := []) (keep := [3]) (st2 := (f4n1E bo1 ba2 .norm).2) (by kernel_rfl) an rfl
  | ret =>
    obtain rfl := some_inj h
    exact T.last' (T.bl (i := 0) (by kernel_rfl) (by kernel_rfl) (f4n10_ok FUEL bo1 ba2 0 h951)) (tds := []) (m := []) (keep := [2]) (st2 := (f4n1E bo1 ba2 .ret).2) (by kernel_rfl) an rfl
inductive f4n0O where
  | ret (v954 : Bool)
def f4n0E (a1 : List Entry) : f4n0O → Ex × Tr × Hp
  | .ret v954 => (.ret, mkS [(2, (.pl (.bool v954)))], [])
def f4n0S (a1 : List Entry) : Tr × Hp := (initS [(.pl (.sl .any 3 (a1.map Entry.cells)))] 0 .leaf, [])
noncomputable def f4n0 (a1 : List Entry) : Option f4n0O :=
  f11.bind fun x4 =>
  (f23 a1).bind fun x10 =>
  bif x10 then
    some (.ret x4)
  else
    bif x4 then
      (f24r1 a1).bind fun x16 =>
      bif (decide ((a1.length : Int) < (x16.Records.length : Int))) then
        some (.ret false)
      else
        (f4n1 x4 x16).bind fun o952 => match o952 with
        | .norm => some (.ret x4)
        | .ret => some (.ret false)
    else
      some (.ret x4)
theorem f4n0_ok (a1 : List Entry) {o : f4n0O} (h : (f4n0 a1) = some o) : T Try.prog Try.f4.ntmps 0 c4 (f4n0S a1) (fun r => r = f4n0E a1 o) := by
  unfold f4n0 at h
  obtain ⟨x4, h5, h⟩ := bind_cases h
  obtain ⟨x10, h11, h⟩ := bind_cases h
  rcases cond_cases h with ⟨h12, h⟩ | ⟨h12, h⟩
  · obtain rfl := some_inj h
    exact runK_end cfg_ok (k := 3) (rs := [([], [], []), ([], [(0, .call (.pl (.bool x4)) [])], []), ([(3, true), (4, true)], [(1, .call (.pl (.bool x10)) []), (5, .bool true)], []), ([], [], [])]) (ps := [none]) (tds := []) (m := []) (keep := [2]) (ex := .ret) (st' := (f4n0E a1 (.ret x4)).2) (by kernel_rfl) (ap (f11_ok h5) (ap h12 (ap h12 (ap h12 (ap (f23_ok a1 h11) an))))) (fun h => nomatch h) rfl
  · rcases cond_cases h with ⟨h13, h⟩ | ⟨h13, h⟩
    · obtain ⟨x16, h17, h⟩ := bind_cases h
      rcases cond_cases h with ⟨h19, h⟩ | ⟨h19, h⟩
      · obtain rfl := some_inj h
        exact runK_end cfg_ok (k := 5) (rs := [([], [], []), ([], [(0, .call (.pl (.bool x4)) [])], []), ([(3, false), (4, false)], [(1, .call (.pl (.bool x10)) []), (5, .bool false)], []), ([], [(1, .call (.pl (.agg (Journal.cells x16))) [some (.box ((Journal.cells x16).map .pl))])], []), ([], [], [(2, .val (.pl (.int .i64 (x16.Records.length : Int)))), (4, .val (.pl (.int .i64 (a1.length : Int))))]), ([], [], [])]) (ps := [some false, some true]) (tds := []) (m := []) (keep := [2]) (ex := .ret) (st' := (f4n0E a1 (.ret false)).2) (by kernel_rfl) (ap (f11_ok h5) (ap h12 (ap h12 (ap h12 (ap (f23_ok a1 h11) (ap (not_t h13) (ap (f24r1_ok a1 h17) (ap (len_cv (xs := x16.Records) (c := JournalRecord.cells)) (ap (len_cv (xs := a1) (c := Entry.cells)) (ap h19 an)))))))))) (fun h => nomatch h) rfl
      · refine runK_norm cfg_ok (k := 5) (rs := [([], [], []), ([], [(0, .call (.pl (.bool x4)) [])], []), ([(3, false), (4, false)], [(1, .call (.pl (.bool x10)) []), (5, .bool false)], []), ([], [(1, .call (.pl (.agg (Journal.cells x16))) [some (.box ((Journal.cells x16).map .pl))])], []), ([], [], [(2, .val (.pl (.int .i64 (x16.Records.length : Int)))), (4, .val (.pl (.int .i64 (a1.length : Int))))])]) (ps := [some false, some false]) (tds := []) (m := [1]) (keep := [3, 4]) (st' := (f4n1S x4 x16)) (by kernel_rfl) (ap (f11_ok h5) (ap h12 (ap h12 (ap h12 (ap (f23_ok a1 h11) (ap (not_t h13) (ap (f24r1_ok a1 h17) (ap (len_cv (xs := x16.Records) (c := JournalRecord.cells)) (ap (len_cv (xs := a1) (c := Entry.cells)) (ap h19 an)))))))))) ?_
        obtain ⟨o952, h953, h⟩ := bind_cases h
        cases o952 with
        | norm =>
          refine T.oneN (by kernel_rfl) (f4n1_ok x4 x16 h953) (st2 := (f4n1E x4 x16 .norm).2) rfl ?_
          obtain rfl := some_inj h
          exact run_end cfg_ok (rs := [([], [], [])]) (ps := []) (tds := []) (m := []) (keep := [2]) (r := (.ret, (f4n0E a1 (.ret x4)).2)) (by kernel_rfl) an rfl
        | ret =>
          obtain rfl := some_inj h
          exact T.oneX' (by kernel_rfl) (f4n1_ok x4 x16 h953) (tds := []) (m := []) (keep := [2]) (st2 := (f4n0E a1 (.ret false)).2) (by kernel_rfl) an rfl rfl
    · obtain rfl := some_inj h
      exact runK_end cfg_ok (k := 3) (rs := [([], [], []), ([], [(0, .call (.pl (.bool x4)) [])], []), ([(3, false), (4, false)], [(1, .call (.pl (.bool x10)) []), (5, .bool false)], []), ([], [], [])]) (ps := [some true]) (tds := []) (m := []) (keep := [2]) (ex := .ret) (st' := (f4n0E a1 (.ret x4)).2) (by kernel_rfl) (ap (f11_ok h5) (ap h12 (ap h12 (ap h12 (ap (f23_ok a1 h11) (ap (not_f h13) an)))))) (fun h => nomatch h) rfl
noncomputable def f4 (a1 : List Entry) : Option Bool := (f4n0 a1).bind fun o => match o with
  | .ret v954 => some v954
theorem f4_ok (a1 : List Entry) {r : Bool} (h : (f4 a1) = some r) : CallS Try.prog false 4 [(.pl (.sl .any 3 (a1.map Entry.cells)))] [] (.pl (.bool r)) [] := by
  unfold f4 at h
  obtain ⟨o, ho, h⟩ := bind_cases h
  cases o with
  | ret v954 =>
    obtain rfl := some_inj h
    exact CallS.plain cfg_ok (f := Try.f4) (c := c4) (by kernel_rfl) (by kernel_rfl) (by kernel_rfl) (by kernel_rfl) ((f4n0_ok a1 ho).mono fun r e => by subst e; exact ⟨.inl rfl, (.pl (.bool v954)), (.pl (.bool v954)), by kernel_rfl, by kernel_rfl, ((Wk.refl _) : Wk (.pl (.bool v954)) (.pl (.bool v954)))⟩)
end Go.Proofs.Ytbgjlpdeoljmiaa
