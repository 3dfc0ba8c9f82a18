/- Functions of the program, plainly, and that the machine computes them. No condition. -/
import Derived.Test.YtbgjlpdeoljmiaaX5
namespace Go.Proofs.Ytbgjlpdeoljmiaa
set_option linter.unusedVariables false
set_option linter.unusedSimpArgs false
set_option maxRecDepth 100000
open Go.RowKit
/-! ### (*novation/journal.book).add -/
inductive f44r4n2O where
  | exit0 (v43 : List (Account_ × Int))
def f44r4n2E (bc2 : List JournalLine) (bf1 : Int) (bf3 : Int) (bd4 : ByteArray) : f44r4n2O → Ex × Tr × Hp
  | .exit0 v43 => ((.exit 0), mkS [(0, (.bp 0 0)), (3, (.bp 3 0))], [some (.box [(.mp 2), (.pl (.int .i64 bf1)), (.pl (.int .i64 bf1))]), some (.row true 3 (bc2.map JournalLine.cells)), some (.map (v43.map (mkv (pAgg Account_.cells) (pInt .i64)))), some (.box [(.pl (.int .i64 bf3)), (.pl (.str bd4)), (.own 1)])])
def f44r4n2S (bc2 : List JournalLine) (bf1 : Int) (bf3 : Int) (bd4 : ByteArray) (v35 : Int) (v36 : List (Account_ × Int)) : Tr × Hp := (mkS [(0, (.bp 0 0)), (3, (.bp 3 0)), (32, (.own 1)), (33, (.pl (.int .i64 (bc2.length : Int)))), (34, (.pl (.int .i64 v35)))], [some (.box [(.mp 2), (.pl (.int .i64 bf1)), (.pl (.int .i64 bf1))]), some (.row true 3 (bc2.map JournalLine.cells)), some (.map (v36.map (mkv (pAgg Account_.cells) (pInt .i64)))), some (.box [(.pl (.int .i64 bf3)), (.pl (.str bd4)), (.own 1)])])
noncomputable def f44r4n2 : Nat → List JournalLine → Int → Int → ByteArray → Int → List (Account_ × Int) → Option f44r4n2O
  | 0, _, _, _, _, _, _ => none
  | f + 1, bc2, bf1, bf3, bd4, v35, v36 =>
    bif (decide (v35 < (bc2.length : Int))) then
      (at? bc2 v35).bind fun x41 =>
      (f44r4n2 f bc2 bf1 bf3 bd4 (wr64 (v35 + 1)) (mPut Account_.eqb (Account_.mk x41.Account x41.Ccy) (wr64 ((mGet Account_.eqb 0 (Account_.mk x41.Account x41.Ccy) v36) + x41.Amount)) v36))
    else
      some (.exit0 v36)
theorem f44r4n2_ok : ∀ (f : Nat) (bc2 : List JournalLine) (bf1 : Int) (bf3 : Int) (bd4 : ByteArray) (v35 : Int) (v36 : List (Account_ × Int)) {o : f44r4n2O}, (f44r4n2 f bc2 bf1 bf3 bd4 v35 v36) = some o → TL Try.prog Try.f44.ntmps 3 f (cL (cL (dropC 1 (cL (dropC 2 c44))))) (f44r4n2S bc2 bf1 bf3 bd4 v35 v36) (fun r => r = f44r4n2E bc2 bf1 bf3 bd4 o)
  | 0, _, _, _, _, _, _, o, h => by rw [f44r4n2] at h; cases h
  | f + 1, bc2, bf1, bf3, bd4, v35, v36, o, h => by
    rw [f44r4n2] at h
    refine TL.body (K := fun s => ∃ v35 : Int, ∃ v36 : List (Account_ × Int), s = (f44r4n2S bc2 bf1 bf3 bd4 v35 v36) ∧ (f44r4n2 f bc2 bf1 bf3 bd4 v35 v36) = some o) ?_ (by rintro _ ⟨v35, v36, rfl, hk⟩; exact f44r4n2_ok f _ _ _ _ _ _ hk)
    rcases cond_cases h with ⟨h38, h⟩ | ⟨h38, h⟩
    · obtain ⟨x41, h42, h⟩ := bind_cases h
      exact run_end cfg_ok (rs := [([], [], []), ([], [(0, .at_ (Int.toNat v35)), (1, .idx 0 (JournalLine.cells x41))], []), ([], [(9, .look ((pInt .i64) (mGet Account_.eqb 0 (Account_.mk x41.Account x41.Ccy) v36)) (mHas Account_.eqb (Account_.mk x41.Account x41.Ccy) v36)), (13, .ment ((pInt .i64) (mGet Account_.eqb 0 (Account_.mk x41.Account x41.Ccy) v36)) (mIdx Account_.eqb (Account_.mk x41.Account x41.Ccy) v36) ((mEns Account_.eqb 0 (Account_.mk x41.Account x41.Ccy) v36).map (mkv (pAgg Account_.cells) (pInt .i64)))), (15, .mst (mIdx Account_.eqb (Account_.mk x41.Account x41.Ccy) v36) ((pAgg Account_.cells) (Account_.mk x41.Account x41.Ccy)) ((pInt .i64) (mGet Account_.eqb 0 (Account_.mk x41.Account x41.Ccy) v36)))], [(15, .map 2 ((mPut Account_.eqb (Account_.mk x41.Account x41.Ccy) (wr64 ((mGet Account_.eqb 0 (Account_.mk x41.Account x41.Ccy) v36) + x41.Amount)) v36).map (mkv (pAgg Account_.cells) (pInt .i64))))]), ([], [], [])]) (ps := [some true]) (tds := []) (m := [3]) (keep := [0, 3, 32, 33, 34]) (r := (.norm, (f44r4n2S bc2 bf1 bf3 bd4 (wr64 (v35 + 1)) (mPut Account_.eqb (Account_.mk x41.Account x41.Ccy) (wr64 ((mGet Account_.eqb 0 (Account_.mk x41.Account x41.Ccy) v36) + x41.Amount)) v36)))) (by kernel_rfl) (ap h38 (ap (at_some h42).1 (ap (lt_map JournalLine.cells (at_some h42).2) (ap (at_map JournalLine.cells (at_some h42).2) (ap (look_map (vp := (pInt .i64)) (e := 3) key_95 0 (by kernel_rfl) (Account_.mk x41.Account x41.Ccy) v36) (ap (ment_map (vp := (pInt .i64)) (e := 3) key_95 0 (by kernel_rfl) (Account_.mk x41.Account x41.Ccy) v36) (ap (rfl : ((mIdx Account_.eqb (Account_.mk x41.Account x41.Ccy) v36) : Int) = (((mIdx Account_.eqb (Account_.mk x41.Account x41.Ccy) v36) : Nat) : Int)) (ap (mst_at (vp := (pInt .i64)) key_95 0 (Account_.mk x41.Account x41.Ccy) v36) (ap (mst_put (vp := (pInt .i64)) key_95 0 (wr64 ((mGet Account_.eqb 0 (Account_.mk x41.Account x41.Ccy) v36) + x41.Amount)) (Account_.mk x41.Account x41.Ccy) v36) an))))))))) (LoopQ.norm ⟨(wr64 (v35 + 1)), (mPut Account_.eqb (Account_.mk x41.Account x41.Ccy) (wr64 ((mGet Account_.eqb 0 (Account_.mk x41.Account x41.Ccy) v36) + x41.Amount)) v36), rfl, h⟩)
    · obtain rfl := some_inj h
      exact runK_end cfg_ok (k := 2) (rs := [([], [], [])]) (ps := [some false]) (tds := []) (m := [3]) (keep := [0, 3]) (ex := (.exit 0)) (st' := (f44r4n2E bc2 bf1 bf3 bd4 (.exit0 v36)).2) (by kernel_rfl) (ap h38 an) (fun h => nomatch h) (LoopQ.out rfl rfl)
noncomputable def f44r4n2L (bc2 : List JournalLine) (bf1 : Int) (bf3 : Int) (bd4 : ByteArray) : List JournalLine → Int → (List (Account_ × Int)) → Option f44r4n2O
  | [], v35, v36 =>
    some (.exit0 v36)
  | x0 :: rest, v35, v36 =>
    (f44r4n2L bc2 bf1 bf3 bd4 rest (v35 + 1) (mPut Account_.eqb (Account_.mk x0.Account x0.Ccy) (wr64 ((mGet Account_.eqb 0 (Account_.mk x0.Account x0.Ccy) v36) + x0.Amount)) v36))
theorem f44r4n2L_eq (bc2 : List JournalLine) (bf1 : Int) (bf3 : Int) (bd4 : ByteArray) : ∀ (rest : List JournalLine) (f k : Nat) (v36 : List (Account_ × Int)), bc2.drop k = rest → bc2.length ≤ maxLen → rest.length < f → f44r4n2 f bc2 bf1 bf3 bd4 (k : Int) v36 = f44r4n2L bc2 bf1 bf3 bd4 rest (k : Int) v36
  | _, 0, _, _, _, _, hf => absurd hf (Nat.not_lt_zero _)
  | [], f + 1, k, v36, hd, hm, hf => by
    have hk : ¬ ((k : Int) < (bc2.length : Int)) := by have := drop_nil hd; omega
    rw [f44r4n2, f44r4n2L]
    simp only [decide_eq_false hk, cond_false]
  | x0 :: rest, f + 1, k, v36, hd, hm, hf => by
    obtain ⟨hx, hlt, hd'⟩ := drop_cons hd
    have hk : (k : Int) < (bc2.length : Int) := by omega
    have hw : wr64 ((k : Int) + 1) = (k : Int) + 1 := wr64_of (by omega) (by unfold maxLen at hm; omega)
    have ih : ∀ (v36 : List (Account_ × Int)), f44r4n2 f bc2 bf1 bf3 bd4 ((k : Int) + 1) v36 = f44r4n2L bc2 bf1 bf3 bd4 rest ((k : Int) + 1) v36 := fun v36 => f44r4n2L_eq bc2 bf1 bf3 bd4 rest f (k + 1) v36 hd' hm (by simpa using hf)
    rw [f44r4n2, f44r4n2L]
    simp only [decide_eq_true hk, cond_true, at_nat, hx, Option.bind_some, hw, ih]
theorem f44r4n2_run (bc2 : List JournalLine) (bf1 : Int) (bf3 : Int) (bd4 : ByteArray) (v36 : List (Account_ × Int)) (hm : bc2.length ≤ maxLen) : f44r4n2 FUEL bc2 bf1 bf3 bd4 0 v36 = f44r4n2L bc2 bf1 bf3 bd4 bc2 0 v36 := f44r4n2L_eq bc2 bf1 bf3 bd4 bc2 FUEL 0 v36 List.drop_zero hm (lt_FUEL hm)
inductive f44r4n1O where
  | norm (v47 : List (Account_ × Int))
def f44r4n1E (bf1 : Int) (bc2 : List JournalLine) (bf3 : Int) (bd4 : ByteArray) : f44r4n1O → Ex × Tr × Hp
  | .norm v47 => (.norm, mkS [(0, (.bp 0 0)), (3, (.bp 3 0))], [some (.box [(.mp 2), (.pl (.int .i64 bf1)), (.pl (.int .i64 bf1))]), some (.row true 3 (bc2.map JournalLine.cells)), some (.map (v47.map (mkv (pAgg Account_.cells) (pInt .i64)))), some (.box [(.pl (.int .i64 bf3)), (.pl (.str bd4)), (.own 1)])])
def f44r4n1S (bf1 : Int) (bc2 : List JournalLine) (bf3 : Int) (bd4 : ByteArray) : Tr × Hp := (mkS [(0, (.bp 0 0)), (3, (.bp 3 0))], [some (.box [(.mp 2), (.pl (.int .i64 bf1)), (.pl (.int .i64 bf1))]), some (.row true 3 (bc2.map JournalLine.cells)), some (.map ([].map (mkv (pAgg Account_.cells) (pInt .i64)))), some (.box [(.pl (.int .i64 bf3)), (.pl (.str bd4)), (.own 1)])])
noncomputable def f44r4n1 (bf1 : Int) (bc2 : List JournalLine) (bf3 : Int) (bd4 : ByteArray) : Option f44r4n1O :=
  (f44r4n2 FUEL bc2 bf1 bf3 bd4 0 []).bind fun o44 => match o44 with
  | .exit0 v46 => some (.norm v46)
theorem f44r4n1_ok (bf1 : Int) (bc2 : List JournalLine) (bf3 : Int) (bd4 : ByteArray) {o : f44r4n1O} (h : (f44r4n1 bf1 bc2 bf3 bd4) = some o) : T Try.prog Try.f44.ntmps 3 (cL (dropC 2 c44)) (f44r4n1S bf1 bc2 bf3 bd4) (fun r => r = f44r4n1E bf1 bc2 bf3 bd4 o) := by
  unfold f44r4n1 at h
  refine runK_norm cfg_ok (k := 1) (rs := [([], [], [(2, .val (.pl (.int .i64 (bc2.length : Int))))])]) (ps := []) (tds := []) (m := [3]) (keep := [0, 3, 32, 33, 34]) (st' := (f44r4n2S bc2 bf1 bf3 bd4 0 [])) (by kernel_rfl) (ap (len_cv (xs := bc2) (c := JournalLine.cells)) an) ?_
  obtain ⟨o44, h45, h⟩ := bind_cases h
  cases o44 with
  | exit0 v46 =>
    obtain rfl := some_inj h
    exact T.last' (T.bl (i := 0) (by kernel_rfl) (by kernel_rfl) (f44r4n2_ok FUEL bc2 bf1 bf3 bd4 0 [] h45)) (tds := []) (m := [3]) (keep := [0, 3]) (st2 := (f44r4n1E bf1 bc2 bf3 bd4 (.norm v46)).2) (by kernel_rfl) an rfl
inductive f44r4n0O where
  | ret (v55 : Bool) (v56 : Int) (v57 : Int) (v58 : List (Account_ × Int))
def f44r4n0E (a1 : Int) (a2 : ByteArray) (a3 : Int) (a4 : List JournalLine) : f44r4n0O → Ex × Tr × Hp
  | .ret v55 v56 v57 v58 => (.ret, mkS [(4, (.pl (.bool v55)))], [some (.box [(.mp 2), (.pl (.int .i64 v56)), (.pl (.int .i64 v57))]), some (.row true 3 (a4.map JournalLine.cells)), some (.map (v58.map (mkv (pAgg Account_.cells) (pInt .i64))))])
def f44r4n0S (a1 : Int) (a2 : ByteArray) (a3 : Int) (a4 : List JournalLine) : Tr × Hp := (initS [(.bp 0 0), (.agg [(.pl (.int .i64 a1)), (.pl (.str a2)), (.own 1)])] 0 .leaf, [some (.box [(.mp 2), (.pl (.int .i64 a3)), (.pl (.int .i64 a3))]), some (.row false 3 (a4.map JournalLine.cells)), some (.map ([].map (mkv (pAgg Account_.cells) (pInt .i64))))])
noncomputable def f44r4n0 (a1 : Int) (a2 : ByteArray) (a3 : Int) (a4 : List JournalLine) : Option f44r4n0O :=
  bif (decide (a3 = 200)) then
    some (.ret false a3 a3 [])
  else
    (f49 (JournalRecord.mk a1 a2 a4)).bind fun x14 =>
    bif x14 then
      (f50 (JournalRecord.mk a1 a2 a4)).bind fun x17 =>
      bif x17 then
        bif (decide (a1 < a3)) then
          some (.ret false a3 a3 [])
        else
          (f44r4n1 a3 a4 a1 a2).bind fun o48 => match o48 with
          | .norm v50 => (f61r2 a1 a2 (wr64 (a3 + 1)) a4 v50).bind fun x53 =>
            some (.ret x53 a1 (wr64 (a3 + 1)) v50)
      else
        some (.ret false a3 a3 [])
    else
      some (.ret false a3 a3 [])
theorem f44r4n0_ok (a1 : Int) (a2 : ByteArray) (a3 : Int) (a4 : List JournalLine) {o : f44r4n0O} (h : (f44r4n0 a1 a2 a3 a4) = some o) : T Try.prog Try.f44.ntmps 3 c44 (f44r4n0S a1 a2 a3 a4) (fun r => r = f44r4n0E a1 a2 a3 a4 o) := by
  unfold f44r4n0 at h
  rcases cond_cases h with ⟨h13, h⟩ | ⟨h13, h⟩
  · obtain rfl := some_inj h
    exact runK_end cfg_ok (k := 2) (rs := [([], [], []), ([(6, true), (7, true), (8, true)], [(9, .bool true)], []), ([], [], [])]) (ps := [none]) (tds := [.frzO 1]) (m := []) (keep := [4]) (ex := .ret) (st' := (f44r4n0E a1 a2 a3 a4 (.ret false a3 a3 [])).2) (by kernel_rfl) (ap h13 (ap h13 (ap h13 (ap h13 an)))) (fun h => nomatch h) rfl
  · obtain ⟨x14, h15, h⟩ := bind_cases h
    rcases cond_cases h with ⟨h16, h⟩ | ⟨h16, h⟩
    · obtain ⟨x17, h18, h⟩ := bind_cases h
      rcases cond_cases h with ⟨h19, h⟩ | ⟨h19, h⟩
      · rcases cond_cases h with ⟨h20, h⟩ | ⟨h20, h⟩
        · obtain rfl := some_inj h
          exact runK_end cfg_ok (k := 2) (rs := [([], [], []), ([(6, false), (7, false), (8, false), (11, false), (12, false), (13, false), (16, false), (17, false), (18, false), (19, false), (20, false), (21, false), (22, false)], [(7, .call (.pl (.bool x14)) []), (9, .bool false), (12, .call (.pl (.bool x17)) []), (14, .bool false), (23, .bool false)], []), ([], [], [])]) (ps := [some true]) (tds := []) (m := []) (keep := [4]) (ex := .ret) (st' := (f44r4n0E a1 a2 a3 a4 (.ret false a3 a3 [])).2) (by kernel_rfl) (ap h13 (ap h13 (ap h13 (ap h13 (ap (not_t h16) (ap (not_t h16) (ap (not_t h16) (ap (not_t h16) (ap (not_t h19) (ap (not_t h19) (ap (not_t h19) (ap (not_t h19) (ap (not_t h19) (ap (not_t h19) (ap (not_t h19) (ap (not_t h19) (ap (f49_ok (JournalRecord.mk a1 a2 a4) h15) (ap (f50_ok (JournalRecord.mk a1 a2 a4) h18) (ap h20 an))))))))))))))))))) (fun h => nomatch h) rfl
        · refine runK_norm cfg_ok (k := 2) (rs := [([], [], []), ([(6, false), (7, false), (8, false), (11, false), (12, false), (13, false), (16, false), (17, false), (18, false), (19, false), (20, false), (21, false), (22, false)], [(7, .call (.pl (.bool x14)) []), (9, .bool false), (12, .call (.pl (.bool x17)) []), (14, .bool false), (23, .bool false)], [])]) (ps := [some false]) (tds := []) (m := [3]) (keep := [0, 3]) (st' := (f44r4n1S a3 a4 a1 a2)) (by kernel_rfl) (ap h13 (ap h13 (ap h13 (ap h13 (ap (not_t h16) (ap (not_t h16) (ap (not_t h16) (ap (not_t h16) (ap (not_t h19) (ap (not_t h19) (ap (not_t h19) (ap (not_t h19) (ap (not_t h19) (ap (not_t h19) (ap (not_t h19) (ap (not_t h19) (ap (f49_ok (JournalRecord.mk a1 a2 a4) h15) (ap (f50_ok (JournalRecord.mk a1 a2 a4) h18) (ap h20 an))))))))))))))))))) ?_
          obtain ⟨o48, h49, h⟩ := bind_cases h
          cases o48 with
          | norm v50 =>
            refine T.oneN (by kernel_rfl) (f44r4n1_ok a3 a4 a1 a2 h49) (st2 := (f44r4n1E a3 a4 a1 a2 (.norm v50)).2) rfl ?_
            obtain ⟨x53, h54, h⟩ := bind_cases h
            obtain rfl := some_inj h
            exact run_end cfg_ok (rs := [([], [], []), ([], [(2, .call (.pl (.bool x53)) [some (.box [(.mp 2), (.pl (.int .i64 a1)), (.pl (.int .i64 (wr64 (a3 + 1))))]), some (.row true 3 (a4.map JournalLine.cells)), some (.map (v50.map (mkv (pAgg Account_.cells) (pInt .i64)))), none, none])], [])]) (ps := []) (tds := []) (m := []) (keep := [4]) (r := (.ret, (f44r4n0E a1 a2 a3 a4 (.ret x53 a1 (wr64 (a3 + 1)) v50)).2)) (by kernel_rfl) (ap (CallS.ren (args' := [(.bp 0 0), (.agg [(.pl (.int .i64 a1)), (.pl (.str a2)), (.own 1)])]) (v' := (.pl (.bool x53))) (B := [some (.box [(.mp 2), (.pl (.int .i64 a1)), (.pl (.int .i64 (wr64 (a3 + 1))))]), some (.row true 3 (a4.map JournalLine.cells)), some (.map (v50.map (mkv (pAgg Account_.cells) (pInt .i64)))), none, none]) (B' := [some (.box [(.mp 2), (.pl (.int .i64 a1)), (.pl (.int .i64 (wr64 (a3 + 1))))]), some (.row true 3 (a4.map JournalLine.cells)), some (.map (v50.map (mkv (pAgg Account_.cells) (pInt .i64)))), none, none]) 5 [0, 1, 2] (f61r2_ok a1 a2 (wr64 (a3 + 1)) a4 v50 h54) (by kernel_rfl) (by kernel_rfl) (by kernel_rfl) (by kernel_rfl) (by kernel_rfl) (by kernel_rfl)) an) rfl
      · obtain rfl := some_inj h
        exact runK_end cfg_ok (k := 2) (rs := [([], [], []), ([(6, false), (7, false), (8, false), (11, false), (12, false), (13, false), (16, true), (17, true), (18, true), (19, true), (20, true), (21, true), (22, true)], [(7, .call (.pl (.bool x14)) []), (9, .bool false), (12, .call (.pl (.bool x17)) []), (14, .bool false), (23, .bool true)], []), ([], [], [])]) (ps := [none]) (tds := []) (m := []) (keep := [4]) (ex := .ret) (st' := (f44r4n0E a1 a2 a3 a4 (.ret false a3 a3 [])).2) (by kernel_rfl) (ap h13 (ap h13 (ap h13 (ap h13 (ap (not_t h16) (ap (not_t h16) (ap (not_t h16) (ap (not_t h16) (ap (not_f h19) (ap (not_f h19) (ap (not_f h19) (ap (not_f h19) (ap (not_f h19) (ap (not_f h19) (ap (not_f h19) (ap (not_f h19) (ap (f49_ok (JournalRecord.mk a1 a2 a4) h15) (ap (f50_ok (JournalRecord.mk a1 a2 a4) h18) an)))))))))))))))))) (fun h => nomatch h) rfl
    · obtain rfl := some_inj h
      exact runK_end cfg_ok (k := 2) (rs := [([], [], []), ([(6, false), (7, false), (8, false), (11, true), (12, true), (13, true)], [(7, .call (.pl (.bool x14)) []), (9, .bool false), (14, .bool true)], []), ([], [], [])]) (ps := [none]) (tds := []) (m := []) (keep := [4]) (ex := .ret) (st' := (f44r4n0E a1 a2 a3 a4 (.ret false a3 a3 [])).2) (by kernel_rfl) (ap h13 (ap h13 (ap h13 (ap h13 (ap (not_f h16) (ap (not_f h16) (ap (not_f h16) (ap (not_f h16) (ap (f49_ok (JournalRecord.mk a1 a2 a4) h15) an))))))))) (fun h => nomatch h) rfl
noncomputable def f44r4 (a1 : Int) (a2 : ByteArray) (a3 : Int) (a4 : List JournalLine) : Option (Bool × Int × Int × (List (Account_ × Int))) := (f44r4n0 a1 a2 a3 a4).bind fun o => match o with
  | .ret v55 v56 v57 v58 => some (v55, v56, v57, v58)
theorem f44r4_ok (a1 : Int) (a2 : ByteArray) (a3 : Int) (a4 : List JournalLine) {r : Bool × Int × Int × (List (Account_ × Int))} (h : (f44r4 a1 a2 a3 a4) = some r) : CallS Try.prog true 44 [(.bp 0 0), (.agg [(.pl (.int .i64 a1)), (.pl (.str a2)), (.own 1)])] [some (.box [(.mp 2), (.pl (.int .i64 a3)), (.pl (.int .i64 a3))]), some (.row false 3 (a4.map JournalLine.cells)), some (.map ([].map (mkv (pAgg Account_.cells) (pInt .i64))))] (.pl (.bool r.1)) [some (.box [(.mp 2), (.pl (.int .i64 r.2.1)), (.pl (.int .i64 r.2.2.1))]), some (.row true 3 (a4.map JournalLine.cells)), some (.map (r.2.2.2.map (mkv (pAgg Account_.cells) (pInt .i64))))] := by
  unfold f44r4 at h
  obtain ⟨o, ho, h⟩ := bind_cases h
  cases o with
  | ret v55 v56 v57 v58 =>
    obtain rfl := some_inj h
    exact CallS.shared cfg_ok (f := Try.f44) (c := c44) (by kernel_rfl) (by kernel_rfl) (by kernel_rfl) ((f44r4n0_ok a1 a2 a3 a4 ho).mono fun r e => by subst e; exact ⟨.inl rfl, by kernel_rfl, by kernel_rfl⟩)
/-! ### (*novation/journal.book).add -/
inductive f44r5n2O where
  | exit0 (v45 : List (Account_ × Int))
def f44r5n2E (bc3 : List JournalLine) (bf1 : Int) (bf2 : Int) (bf5 : Int) (bd6 : ByteArray) : f44r5n2O → Ex × Tr × Hp
  | .exit0 v45 => ((.exit 0), mkS [(0, (.bp 0 0)), (3, (.bp 3 0))], [some (.box [(.mp 2), (.pl (.int .i64 bf1)), (.pl (.int .i64 bf2))]), some (.row true 3 (bc3.map JournalLine.cells)), some (.map (v45.map (mkv (pAgg Account_.cells) (pInt .i64)))), some (.box [(.pl (.int .i64 bf5)), (.pl (.str bd6)), (.own 1)])])
def f44r5n2S (bc3 : List JournalLine) (bf1 : Int) (bf2 : Int) (bf5 : Int) (bd6 : ByteArray) (v37 : Int) (v38 : List (Account_ × Int)) : Tr × Hp := (mkS [(0, (.bp 0 0)), (3, (.bp 3 0)), (32, (.own 1)), (33, (.pl (.int .i64 (bc3.length : Int)))), (34, (.pl (.int .i64 v37)))], [some (.box [(.mp 2), (.pl (.int .i64 bf1)), (.pl (.int .i64 bf2))]), some (.row true 3 (bc3.map JournalLine.cells)), some (.map (v38.map (mkv (pAgg Account_.cells) (pInt .i64)))), some (.box [(.pl (.int .i64 bf5)), (.pl (.str bd6)), (.own 1)])])
noncomputable def f44r5n2 : Nat → List JournalLine → Int → Int → Int → ByteArray → Int → List (Account_ × Int) → Option f44r5n2O
  | 0, _, _, _, _, _, _, _ => none
  | f + 1, bc3, bf1, bf2, bf5, bd6, v37, v38 =>
    bif (decide (v37 < (bc3.length : Int))) then
      (at? bc3 v37).bind fun x43 =>
      (f44r5n2 f bc3 bf1 bf2 bf5 bd6 (wr64 (v37 + 1)) (mPut Account_.eqb (Account_.mk x43.Account x43.Ccy) (wr64 ((mGet Account_.eqb 0 (Account_.mk x43.Account x43.Ccy) v38) + x43.Amount)) v38))
    else
      some (.exit0 v38)
theorem f44r5n2_ok : ∀ (f : Nat) (bc3 : List JournalLine) (bf1 : Int) (bf2 : Int) (bf5 : Int) (bd6 : ByteArray) (v37 : Int) (v38 : List (Account_ × Int)) {o : f44r5n2O}, (f44r5n2 f bc3 bf1 bf2 bf5 bd6 v37 v38) = some o → TL Try.prog Try.f44.ntmps 3 f (cL (cL (dropC 1 (cL (dropC 2 c44))))) (f44r5n2S bc3 bf1 bf2 bf5 bd6 v37 v38) (fun r => r = f44r5n2E bc3 bf1 bf2 bf5 bd6 o)
  | 0, _, _, _, _, _, _, _, o, h => by rw [f44r5n2] at h; cases h
  | f + 1, bc3, bf1, bf2, bf5, bd6, v37, v38, o, h => by
    rw [f44r5n2] at h
    refine TL.body (K := fun s => ∃ v37 : Int, ∃ v38 : List (Account_ × Int), s = (f44r5n2S bc3 bf1 bf2 bf5 bd6 v37 v38) ∧ (f44r5n2 f bc3 bf1 bf2 bf5 bd6 v37 v38) = some o) ?_ (by rintro _ ⟨v37, v38, rfl, hk⟩; exact f44r5n2_ok f _ _ _ _ _ _ _ hk)
    rcases cond_cases h with ⟨h40, h⟩ | ⟨h40, h⟩
    · obtain ⟨x43, h44, h⟩ := bind_cases h
      exact run_end cfg_ok (rs := [([], [], []), ([], [(0, .at_ (Int.toNat v37)), (1, .idx 0 (JournalLine.cells x43))], []), ([], [(9, .look ((pInt .i64) (mGet Account_.eqb 0 (Account_.mk x43.Account x43.Ccy) v38)) (mHas Account_.eqb (Account_.mk x43.Account x43.Ccy) v38)), (13, .ment ((pInt .i64) (mGet Account_.eqb 0 (Account_.mk x43.Account x43.Ccy) v38)) (mIdx Account_.eqb (Account_.mk x43.Account x43.Ccy) v38) ((mEns Account_.eqb 0 (Account_.mk x43.Account x43.Ccy) v38).map (mkv (pAgg Account_.cells) (pInt .i64)))), (15, .mst (mIdx Account_.eqb (Account_.mk x43.Account x43.Ccy) v38) ((pAgg Account_.cells) (Account_.mk x43.Account x43.Ccy)) ((pInt .i64) (mGet Account_.eqb 0 (Account_.mk x43.Account x43.Ccy) v38)))], [(15, .map 2 ((mPut Account_.eqb (Account_.mk x43.Account x43.Ccy) (wr64 ((mGet Account_.eqb 0 (Account_.mk x43.Account x43.Ccy) v38) + x43.Amount)) v38).map (mkv (pAgg Account_.cells) (pInt .i64))))]), ([], [], [])]) (ps := [some true]) (tds := []) (m := [3]) (keep := [0, 3, 32, 33, 34]) (r := (.norm, (f44r5n2S bc3 bf1 bf2 bf5 bd6 (wr64 (v37 + 1)) (mPut Account_.eqb (Account_.mk x43.Account x43.Ccy) (wr64 ((mGet Account_.eqb 0 (Account_.mk x43.Account x43.Ccy) v38) + x43.Amount)) v38)))) (by kernel_rfl) (ap h40 (ap (at_some h44).1 (ap (lt_map JournalLine.cells (at_some h44).2) (ap (at_map JournalLine.cells (at_some h44).2) (ap (look_map (vp := (pInt .i64)) (e := 3) key_95 0 (by kernel_rfl) (Account_.mk x43.Account x43.Ccy) v38) (ap (ment_map (vp := (pInt .i64)) (e := 3) key_95 0 (by kernel_rfl) (Account_.mk x43.Account x43.Ccy) v38) (ap (rfl : ((mIdx Account_.eqb (Account_.mk x43.Account x43.Ccy) v38) : Int) = (((mIdx Account_.eqb (Account_.mk x43.Account x43.Ccy) v38) : Nat) : Int)) (ap (mst_at (vp := (pInt .i64)) key_95 0 (Account_.mk x43.Account x43.Ccy) v38) (ap (mst_put (vp := (pInt .i64)) key_95 0 (wr64 ((mGet Account_.eqb 0 (Account_.mk x43.Account x43.Ccy) v38) + x43.Amount)) (Account_.mk x43.Account x43.Ccy) v38) an))))))))) (LoopQ.norm ⟨(wr64 (v37 + 1)), (mPut Account_.eqb (Account_.mk x43.Account x43.Ccy) (wr64 ((mGet Account_.eqb 0 (Account_.mk x43.Account x43.Ccy) v38) + x43.Amount)) v38), rfl, h⟩)
    · obtain rfl := some_inj h
      exact runK_end cfg_ok (k := 2) (rs := [([], [], [])]) (ps := [some false]) (tds := []) (m := [3]) (keep := [0, 3]) (ex := (.exit 0)) (st' := (f44r5n2E bc3 bf1 bf2 bf5 bd6 (.exit0 v38)).2) (by kernel_rfl) (ap h40 an) (fun h => nomatch h) (LoopQ.out rfl rfl)
noncomputable def f44r5n2L (bc3 : List JournalLine) (bf1 : Int) (bf2 : Int) (bf5 : Int) (bd6 : ByteArray) : List JournalLine → Int → (List (Account_ × Int)) → Option f44r5n2O
  | [], v37, v38 =>
    some (.exit0 v38)
  | x0 :: rest, v37, v38 =>
    (f44r5n2L bc3 bf1 bf2 bf5 bd6 rest (v37 + 1) (mPut Account_.eqb (Account_.mk x0.Account x0.Ccy) (wr64 ((mGet Account_.eqb 0 (Account_.mk x0.Account x0.Ccy) v38) + x0.Amount)) v38))
theorem f44r5n2L_eq (bc3 : List JournalLine) (bf1 : Int) (bf2 : Int) (bf5 : Int) (bd6 : ByteArray) : ∀ (rest : List JournalLine) (f k : Nat) (v38 : List (Account_ × Int)), bc3.drop k = rest → bc3.length ≤ maxLen → rest.length < f → f44r5n2 f bc3 bf1 bf2 bf5 bd6 (k : Int) v38 = f44r5n2L bc3 bf1 bf2 bf5 bd6 rest (k : Int) v38
  | _, 0, _, _, _, _, hf => absurd hf (Nat.not_lt_zero _)
  | [], f + 1, k, v38, hd, hm, hf => by
    have hk : ¬ ((k : Int) < (bc3.length : Int)) := by have := drop_nil hd; omega
    rw [f44r5n2, f44r5n2L]
    simp only [decide_eq_false hk, cond_false]
  | x0 :: rest, f + 1, k, v38, hd, hm, hf => by
    obtain ⟨hx, hlt, hd'⟩ := drop_cons hd
    have hk : (k : Int) < (bc3.length : Int) := by omega
    have hw : wr64 ((k : Int) + 1) = (k : Int) + 1 := wr64_of (by omega) (by unfold maxLen at hm; omega)
    have ih : ∀ (v38 : List (Account_ × Int)), f44r5n2 f bc3 bf1 bf2 bf5 bd6 ((k : Int) + 1) v38 = f44r5n2L bc3 bf1 bf2 bf5 bd6 rest ((k : Int) + 1) v38 := fun v38 => f44r5n2L_eq bc3 bf1 bf2 bf5 bd6 rest f (k + 1) v38 hd' hm (by simpa using hf)
    rw [f44r5n2, f44r5n2L]
    simp only [decide_eq_true hk, cond_true, at_nat, hx, Option.bind_some, hw, ih]
theorem f44r5n2_run (bc3 : List JournalLine) (bf1 : Int) (bf2 : Int) (bf5 : Int) (bd6 : ByteArray) (v38 : List (Account_ × Int)) (hm : bc3.length ≤ maxLen) : f44r5n2 FUEL bc3 bf1 bf2 bf5 bd6 0 v38 = f44r5n2L bc3 bf1 bf2 bf5 bd6 bc3 0 v38 := f44r5n2L_eq bc3 bf1 bf2 bf5 bd6 bc3 FUEL 0 v38 List.drop_zero hm (lt_FUEL hm)
inductive f44r5n1O where
  | norm (v49 : List (Account_ × Int))
def f44r5n1E (bf1 : Int) (bf2 : Int) (bc3 : List JournalLine) (bg4 : List (Account_ × Int)) (bf5 : Int) (bd6 : ByteArray) : f44r5n1O → Ex × Tr × Hp
  | .norm v49 => (.norm, mkS [(0, (.bp 0 0)), (3, (.bp 3 0))], [some (.box [(.mp 2), (.pl (.int .i64 bf1)), (.pl (.int .i64 bf2))]), some (.row true 3 (bc3.map JournalLine.cells)), some (.map (v49.map (mkv (pAgg Account_.cells) (pInt .i64)))), some (.box [(.pl (.int .i64 bf5)), (.pl (.str bd6)), (.own 1)])])
def f44r5n1S (bf1 : Int) (bf2 : Int) (bc3 : List JournalLine) (bg4 : List (Account_ × Int)) (bf5 : Int) (bd6 : ByteArray) : Tr × Hp := (mkS [(0, (.bp 0 0)), (3, (.bp 3 0))], [some (.box [(.mp 2), (.pl (.int .i64 bf1)), (.pl (.int .i64 bf2))]), some (.row true 3 (bc3.map JournalLine.cells)), some (.map (bg4.map (mkv (pAgg Account_.cells) (pInt .i64)))), some (.box [(.pl (.int .i64 bf5)), (.pl (.str bd6)), (.own 1)])])
noncomputable def f44r5n1 (bf1 : Int) (bf2 : Int) (bc3 : List JournalLine) (bg4 : List (Account_ × Int)) (bf5 : Int) (bd6 : ByteArray) : Option f44r5n1O :=
  (f44r5n2 FUEL bc3 bf1 bf2 bf5 bd6 0 bg4).bind fun o46 => match o46 with
  | .exit0 v48 => some (.norm v48)
theorem f44r5n1_ok (bf1 : Int) (bf2 : Int) (bc3 : List JournalLine) (bg4 : List (Account_ × Int)) (bf5 : Int) (bd6 : ByteArray) {o : f44r5n1O} (h : (f44r5n1 bf1 bf2 bc3 bg4 bf5 bd6) = some o) : T Try.prog Try.f44.ntmps 3 (cL (dropC 2 c44)) (f44r5n1S bf1 bf2 bc3 bg4 bf5 bd6) (fun r => r = f44r5n1E bf1 bf2 bc3 bg4 bf5 bd6 o) := by
  unfold f44r5n1 at h
  refine runK_norm cfg_ok (k := 1) (rs := [([], [], [(2, .val (.pl (.int .i64 (bc3.length : Int))))])]) (ps := []) (tds := []) (m := [3]) (keep := [0, 3, 32, 33, 34]) (st' := (f44r5n2S bc3 bf1 bf2 bf5 bd6 0 bg4)) (by kernel_rfl) (ap (len_cv (xs := bc3) (c := JournalLine.cells)) an) ?_
  obtain ⟨o46, h47, h⟩ := bind_cases h
  cases o46 with
  | exit0 v48 =>
    obtain rfl := some_inj h
    exact T.last' (T.bl (i := 0) (by kernel_rfl) (by kernel_rfl) (f44r5n2_ok FUEL bc3 bf1 bf2 bf5 bd6 0 bg4 h47)) (tds := []) (m := [3]) (keep := [0, 3]) (st2 := (f44r5n1E bf1 bf2 bc3 bg4 bf5 bd6 (.norm v48)).2) (by kernel_rfl) an rfl
inductive f44r5n0O where
  | ret (v57 : Bool) (v58 : Int) (v59 : Int) (v60 : List (Account_ × Int))
def f44r5n0E (a1 : Int) (a2 : ByteArray) (a3 : Int) (a4 : Int) (a5 : List JournalLine) (a6 : List (Account_ × Int)) : f44r5n0O → Ex × Tr × Hp
  | .ret v57 v58 v59 v60 => (.ret, mkS [(4, (.pl (.bool v57)))], [some (.box [(.mp 2), (.pl (.int .i64 v58)), (.pl (.int .i64 v59))]), some (.row true 3 (a5.map JournalLine.cells)), some (.map (v60.map (mkv (pAgg Account_.cells) (pInt .i64))))])
def f44r5n0S (a1 : Int) (a2 : ByteArray) (a3 : Int) (a4 : Int) (a5 : List JournalLine) (a6 : List (Account_ × Int)) : Tr × Hp := (initS [(.bp 0 0), (.agg [(.pl (.int .i64 a1)), (.pl (.str a2)), (.own 1)])] 0 .leaf, [some (.box [(.mp 2), (.pl (.int .i64 a3)), (.pl (.int .i64 a4))]), some (.row false 3 (a5.map JournalLine.cells)), some (.map (a6.map (mkv (pAgg Account_.cells) (pInt .i64))))])
noncomputable def f44r5n0 (a1 : Int) (a2 : ByteArray) (a3 : Int) (a4 : Int) (a5 : List JournalLine) (a6 : List (Account_ × Int)) : Option f44r5n0O :=
  bif (decide (a4 = 200)) then
    some (.ret false a3 a4 a6)
  else
    (f49 (JournalRecord.mk a1 a2 a5)).bind fun x16 =>
    bif x16 then
      (f50 (JournalRecord.mk a1 a2 a5)).bind fun x19 =>
      bif x19 then
        bif (decide (a1 < a3)) then
          some (.ret false a3 a4 a6)
        else
          (f44r5n1 a3 a4 a5 a6 a1 a2).bind fun o50 => match o50 with
          | .norm v52 => (f61r2 a1 a2 (wr64 (a4 + 1)) a5 v52).bind fun x55 =>
            some (.ret x55 a1 (wr64 (a4 + 1)) v52)
      else
        some (.ret false a3 a4 a6)
    else
      some (.ret false a3 a4 a6)
theorem f44r5n0_ok (a1 : Int) (a2 : ByteArray) (a3 : Int) (a4 : Int) (a5 : List JournalLine) (a6 : List (Account_ × Int)) {o : f44r5n0O} (h : (f44r5n0 a1 a2 a3 a4 a5 a6) = some o) : T Try.prog Try.f44.ntmps 3 c44 (f44r5n0S a1 a2 a3 a4 a5 a6) (fun r => r = f44r5n0E a1 a2 a3 a4 a5 a6 o) := by
  unfold f44r5n0 at h
  rcases cond_cases h with ⟨h15, h⟩ | ⟨h15, h⟩
  · obtain rfl := some_inj h
    exact runK_end cfg_ok (k := 2) (rs := [([], [], []), ([(6, true), (7, true), (8, true)], [(9, .bool true)], []), ([], [], [])]) (ps := [none]) (tds := [.frzO 1]) (m := []) (keep := [4]) (ex := .ret) (st' := (f44r5n0E a1 a2 a3 a4 a5 a6 (.ret false a3 a4 a6)).2) (by kernel_rfl) (ap h15 (ap h15 (ap h15 (ap h15 an)))) (fun h => nomatch h) rfl
  · obtain ⟨x16, h17, h⟩ := bind_cases h
    rcases cond_cases h with ⟨h18, h⟩ | ⟨h18, h⟩
    · obtain ⟨x19, h20, h⟩ := bind_cases h
      rcases cond_cases h with ⟨h21, h⟩ | ⟨h21, h⟩
      · rcases cond_cases h with ⟨h22, h⟩ | ⟨h22, h⟩
        · obtain rfl := some_inj h
          exact runK_end cfg_ok (k := 2) (rs := [([], [], []), ([(6, false), (7, false), (8, false), (11, false), (12, false), (13, false), (16, false), (17, false), (18, false), (19, false), (20, false), (21, false), (22, false)], [(7, .call (.pl (.bool x16)) []), (9, .bool false), (12, .call (.pl (.bool x19)) []), (14, .bool false), (23, .bool false)], []), ([], [], [])]) (ps := [some true]) (tds := []) (m := []) (keep := [4]) (ex := .ret) (st' := (f44r5n0E a1 a2 a3 a4 a5 a6 (.ret false a3 a4 a6)).2) (by kernel_rfl) (ap h15 (ap h15 (ap h15 (ap h15 (ap (not_t h18) (ap (not_t h18) (ap (not_t h18) (ap (not_t h18) (ap (not_t h21) (ap (not_t h21) (ap (not_t h21) (ap (not_t h21) (ap (not_t h21) (ap (not_t h21) (ap (not_t h21) (ap (not_t h21) (ap (f49_ok (JournalRecord.mk a1 a2 a5) h17) (ap (f50_ok (JournalRecord.mk a1 a2 a5) h20) (ap h22 an))))))))))))))))))) (fun h => nomatch h) rfl
        · refine runK_norm cfg_ok (k := 2) (rs := [([], [], []), ([(6, false), (7, false), (8, false), (11, false), (12, false), (13, false), (16, false), (17, false), (18, false), (19, false), (20, false), (21, false), (22, false)], [(7, .call (.pl (.bool x16)) []), (9, .bool false), (12, .call (.pl (.bool x19)) []), (14, .bool false), (23, .bool false)], [])]) (ps := [some false]) (tds := []) (m := [3]) (keep := [0, 3]) (st' := (f44r5n1S a3 a4 a5 a6 a1 a2)) (by kernel_rfl) (ap h15 (ap h15 (ap h15 (ap h15 (ap (not_t h18) (ap (not_t h18) (ap (not_t h18) (ap (not_t h18) (ap (not_t h21) (ap (not_t h21) (ap (not_t h21) (ap (not_t h21) (ap (not_t h21) (ap (not_t h21) (ap (not_t h21) (ap (not_t h21) (ap (f49_ok (JournalRecord.mk a1 a2 a5) h17) (ap (f50_ok (JournalRecord.mk a1 a2 a5) h20) (ap h22 an))))))))))))))))))) ?_
          obtain ⟨o50, h51, h⟩ := bind_cases h
          cases o50 with
          | norm v52 =>
            refine T.oneN (by kernel_rfl) (f44r5n1_ok a3 a4 a5 a6 a1 a2 h51) (st2 := (f44r5n1E a3 a4 a5 a6 a1 a2 (.norm v52)).2) rfl ?_
            obtain ⟨x55, h56, h⟩ := bind_cases h
            obtain rfl := some_inj h
            exact run_end cfg_ok (rs := [([], [], []), ([], [(2, .call (.pl (.bool x55)) [some (.box [(.mp 2), (.pl (.int .i64 a1)), (.pl (.int .i64 (wr64 (a4 + 1))))]), some (.row true 3 (a5.map JournalLine.cells)), some (.map (v52.map (mkv (pAgg Account_.cells) (pInt .i64)))), none, none])], [])]) (ps := []) (tds := []) (m := []) (keep := [4]) (r := (.ret, (f44r5n0E a1 a2 a3 a4 a5 a6 (.ret x55 a1 (wr64 (a4 + 1)) v52)).2)) (by kernel_rfl) (ap (CallS.ren (args' := [(.bp 0 0), (.agg [(.pl (.int .i64 a1)), (.pl (.str a2)), (.own 1)])]) (v' := (.pl (.bool x55))) (B := [some (.box [(.mp 2), (.pl (.int .i64 a1)), (.pl (.int .i64 (wr64 (a4 + 1))))]), some (.row true 3 (a5.map JournalLine.cells)), some (.map (v52.map (mkv (pAgg Account_.cells) (pInt .i64)))), none, none]) (B' := [some (.box [(.mp 2), (.pl (.int .i64 a1)), (.pl (.int .i64 (wr64 (a4 + 1))))]), some (.row true 3 (a5.map JournalLine.cells)), some (.map (v52.map (mkv (pAgg Account_.cells) (pInt .i64)))), none, none]) 5 [0, 1, 2] (f61r2_ok a1 a2 (wr64 (a4 + 1)) a5 v52 h56) (by kernel_rfl) (by kernel_rfl) (by kernel_rfl) (by kernel_rfl) (by kernel_rfl) (by kernel_rfl)) an) rfl
      · obtain rfl := some_inj h
        exact runK_end cfg_ok (k := 2) (rs := [([], [], []), ([(6, false), (7, false), (8, false), (11, false), (12, false), (13, false), (16, true), (17, true), (18, true), (19, true), (20, true), (21, true), (22, true)], [(7, .call (.pl (.bool x16)) []), (9, .bool false), (12, .call (.pl (.bool x19)) []), (14, .bool false), (23, .bool true)], []), ([], [], [])]) (ps := [none]) (tds := []) (m := []) (keep := [4]) (ex := .ret) (st' := (f44r5n0E a1 a2 a3 a4 a5 a6 (.ret false a3 a4 a6)).2) (by kernel_rfl) (ap h15 (ap h15 (ap h15 (ap h15 (ap (not_t h18) (ap (not_t h18) (ap (not_t h18) (ap (not_t h18) (ap (not_f h21) (ap (not_f h21) (ap (not_f h21) (ap (not_f h21) (ap (not_f h21) (ap (not_f h21) (ap (not_f h21) (ap (not_f h21) (ap (f49_ok (JournalRecord.mk a1 a2 a5) h17) (ap (f50_ok (JournalRecord.mk a1 a2 a5) h20) an)))))))))))))))))) (fun h => nomatch h) rfl
    · obtain rfl := some_inj h
      exact runK_end cfg_ok (k := 2) (rs := [([], [], []), ([(6, false), (7, false), (8, false), (11, true), (12, true), (13, true)], [(7, .call (.pl (.bool x16)) []), (9, .bool false), (14, .bool true)], []), ([], [], [])]) (ps := [none]) (tds := []) (m := []) (keep := [4]) (ex := .ret) (st' := (f44r5n0E a1 a2 a3 a4 a5 a6 (.ret false a3 a4 a6)).2) (by kernel_rfl) (ap h15 (ap h15 (ap h15 (ap h15 (ap (not_f h18) (ap (not_f h18) (ap (not_f h18) (ap (not_f h18) (ap (f49_ok (JournalRecord.mk a1 a2 a5) h17) an))))))))) (fun h => nomatch h) rfl
noncomputable def f44r5 (a1 : Int) (a2 : ByteArray) (a3 : Int) (a4 : Int) (a5 : List JournalLine) (a6 : List (Account_ × Int)) : Option (Bool × Int × Int × (List (Account_ × Int))) := (f44r5n0 a1 a2 a3 a4 a5 a6).bind fun o => match o with
  | .ret v57 v58 v59 v60 => some (v57, v58, v59, v60)
theorem f44r5_ok (a1 : Int) (a2 : ByteArray) (a3 : Int) (a4 : Int) (a5 : List JournalLine) (a6 : List (Account_ × Int)) {r : Bool × Int × Int × (List (Account_ × Int))} (h : (f44r5 a1 a2 a3 a4 a5 a6) = some r) : CallS Try.prog true 44 [(.bp 0 0), (.agg [(.pl (.int .i64 a1)), (.pl (.str a2)), (.own 1)])] [some (.box [(.mp 2), (.pl (.int .i64 a3)), (.pl (.int .i64 a4))]), some (.row false 3 (a5.map JournalLine.cells)), some (.map (a6.map (mkv (pAgg Account_.cells) (pInt .i64))))] (.pl (.bool r.1)) [some (.box [(.mp 2), (.pl (.int .i64 r.2.1)), (.pl (.int .i64 r.2.2.1))]), some (.row true 3 (a5.map JournalLine.cells)), some (.map (r.2.2.2.map (mkv (pAgg Account_.cells) (pInt .i64))))] := by
  unfold f44r5 at h
  obtain ⟨o, ho, h⟩ := bind_cases h
  cases o with
  | ret v57 v58 v59 v60 =>
    obtain rfl := some_inj h
    exact CallS.shared cfg_ok (f := Try.f44) (c := c44) (by kernel_rfl) (by kernel_rfl) (by kernel_rfl) ((f44r5n0_ok a1 a2 a3 a4 a5 a6 ho).mono fun r e => by subst e; exact ⟨.inl rfl, by kernel_rfl, by kernel_rfl⟩)
/-! ### novation/journal.Recover -/
noncomputable def c16 : Code := Try.f16.body.getD .skip
inductive f16n1O where
  | ret (v56 : Int) (v57 : List JournalRecord)
def f16n1E (a1 : List Int) : f16n1O → Ex × Tr × Hp
  | .ret v56 v57 => (.ret, mkS [(2, (.bp 0 0)), (3, (.pl (.int .i64 v56)))], [some (.box [(.own 1)]), some (.row false 3 (v57.map JournalRecord.cells))])
def f16n1S (a1 : List Int) (v35 : Int) (v36 : Int) (v37 : Int) (v38 : Int) (v39 : Reader_) (v40 : List JournalRecord) (v41 : List (Account_ × Int)) : Tr × Hp := (mkS [(0, (.pl (.sl .any 1 (a1.map (cInt .u8))))), (2, (.bp 0 0)), (4, (.bp 1 0)), (5, (.bp 2 0)), (6, (.bp 3 0)), (7, (.pl (.int .i64 v35))), (8, (.pl (.int .u64 v36)))], [some (.box [(.pl (.sl .nil 0 []))]), some (.box [(.own 4)]), some (.box [(.mp 5), (.pl (.int .i64 v37)), (.pl (.int .i64 v38))]), some (.box ((Reader_.cells v39).map .pl)), some (.row false 3 (v40.map JournalRecord.cells)), some (.map (v41.map (mkv (pAgg Account_.cells) (pInt .i64))))])
noncomputable def f16n1 : Nat → List Int → Int → Int → Int → Int → Reader_ → List JournalRecord → List (Account_ × Int) → Option f16n1O
  | 0, _, _, _, _, _, _, _, _ => none
  | f + 1, a1, v35, v36, v37, v38, v39, v40, v41 =>
    (f43r1 (wr64 (v38 + 1)) v36 v39).bind fun x44 =>
    bif x44.2.2.2.2.1 then
      (f44r5 x44.2.1 x44.2.2.1 v37 v38 x44.2.2.2.2.2 v41).bind fun x51 =>
      bif x51.1 then
        req (fit (v40.length + 1) 48) <|
        (f16n1 f a1 (wr64 ((a1.length : Int) - (x44.1.b.length : Int))) x44.2.2.2.1 x51.2.1 x51.2.2.1 x44.1 (v40 ++ [(JournalRecord.mk x44.2.1 x44.2.2.1 x44.2.2.2.2.2)]) x51.2.2.2)
      else
        some (.ret v35 v40)
    else
      some (.ret v35 v40)
theorem f16n1_ok : ∀ (f : Nat) (a1 : List Int) (v35 : Int) (v36 : Int) (v37 : Int) (v38 : Int) (v39 : Reader_) (v40 : List JournalRecord) (v41 : List (Account_ × Int)) {o : f16n1O}, (f16n1 f a1 v35 v36 v37 v38 v39 v40 v41) = some o → TL Try.prog Try.f16.ntmps 0 f (cL (cL (dropC 5 c16))) (f16n1S a1 v35 v36 v37 v38 v39 v40 v41) (fun r => r = f16n1E a1 o)
  | 0, _, _, _, _, _, _, _, _, o, h => by rw [f16n1] at h; cases h
  | f + 1, a1, v35, v36, v37, v38, v39, v40, v41, o, h => by
    rw [f16n1] at h
    refine TL.body (K := fun s => ∃ v35 : Int, ∃ v36 : Int, ∃ v37 : Int, ∃ v38 : Int, ∃ v39 : Reader_, ∃ v40 : List JournalRecord, ∃ v41 : List (Account_ × Int), s = (f16n1S a1 v35 v36 v37 v38 v39 v40 v41) ∧ (f16n1 f a1 v35 v36 v37 v38 v39 v40 v41) = some o) ?_ (by rintro _ ⟨v35, v36, v37, v38, v39, v40, v41, rfl, hk⟩; exact f16n1_ok f _ _ _ _ _ _ _ _ hk)
    refine T.block' (i := 1) (by kernel_rfl) ?_
    obtain ⟨x44, h45, h⟩ := bind_cases h
    rcases cond_cases h with ⟨h50, h⟩ | ⟨h50, h⟩
    · obtain ⟨x51, h52, h⟩ := bind_cases h
      rcases cond_cases h with ⟨h53, h⟩ | ⟨h53, h⟩
      · obtain ⟨h55, h⟩ := req_cases h
        exact run_end cfg_ok (rs := [([], [(7, .call (.tup [(.agg [(.pl (.int .i64 x44.2.1)), (.pl (.str x44.2.2.1)), (.own 9)]), (.pl (.int .u64 x44.2.2.2.1)), (.pl (.bool x44.2.2.2.2.1))]) [none, none, none, some (.box ((Reader_.cells x44.1).map .pl)), none, none, some (.box [(.pl (.int .i64 x44.2.1)), (.pl (.str x44.2.2.1)), (.own 9)]), some (.box (((cInt .u64) x44.2.2.2.1).map .pl)), some (.box ((cBool x44.2.2.2.2.1).map .pl)), some (.row false 3 (x44.2.2.2.2.2.map JournalLine.cells))])], []), ([(3, false), (4, false), (5, false), (6, false)], [(5, .call (.pl (.bool x51.1)) [none, none, some (.box [(.mp 5), (.pl (.int .i64 x51.2.1)), (.pl (.int .i64 x51.2.2.1))]), none, none, some (.map (x51.2.2.2.map (mkv (pAgg Account_.cells) (pInt .i64)))), none, none, none, some (.row true 3 (x44.2.2.2.2.2.map JournalLine.cells)), none]), (7, .bool false)], []), ([], [(4, .fits)], [(4, .row 12 ((v40 ++ [(JournalRecord.mk x44.2.1 x44.2.2.1 x44.2.2.2.2.2)]).map JournalRecord.cells))]), ([], [], [(1, .val (.pl (.int .i64 (a1.length : Int)))), (6, .val (.pl (.int .i64 (x44.1.b.length : Int))))])]) (ps := [some false]) (tds := []) (m := [0, 1, 2, 3, 12, 5]) (keep := [0, 2, 4, 5, 6, 7, 8]) (r := (.norm, (f16n1S a1 (wr64 ((a1.length : Int) - (x44.1.b.length : Int))) x44.2.2.2.1 x51.2.1 x51.2.2.1 x44.1 (v40 ++ [(JournalRecord.mk x44.2.1 x44.2.2.1 x44.2.2.2.2.2)]) x51.2.2.2))) (by kernel_rfl) (ap (CallS.ren (args' := [(.bp 3 0), (.pl (.int .i64 (wr64 (v38 + 1)))), (.pl (.int .u64 v36))]) (v' := (.tup [(.agg [(.pl (.int .i64 x44.2.1)), (.pl (.str x44.2.2.1)), (.own 9)]), (.pl (.int .u64 x44.2.2.2.1)), (.pl (.bool x44.2.2.2.2.1))])) (B := [none, none, none, some (.box ((Reader_.cells v39).map .pl)), none, none]) (B' := [none, none, none, some (.box ((Reader_.cells x44.1).map .pl)), none, none, some (.box [(.pl (.int .i64 x44.2.1)), (.pl (.str x44.2.2.1)), (.own 9)]), some (.box (((cInt .u64) x44.2.2.2.1).map .pl)), some (.box ((cBool x44.2.2.2.2.1).map .pl)), some (.row false 3 (x44.2.2.2.2.2.map JournalLine.cells))]) 6 [3] (f43r1_ok (wr64 (v38 + 1)) v36 v39 h45) (by kernel_rfl) (by kernel_rfl) (by kernel_rfl) (by kernel_rfl) (by kernel_rfl) (by kernel_rfl)) (ap (not_t h50) (ap (not_t h50) (ap (not_t h50) (ap (not_t h50) (ap (not_t h50) (ap (CallS.ren (args' := [(.bp 2 0), (.agg [(.pl (.int .i64 x44.2.1)), (.pl (.str x44.2.2.1)), (.own 9)])]) (v' := (.pl (.bool x51.1))) (B := [none, none, some (.box [(.mp 5), (.pl (.int .i64 v37)), (.pl (.int .i64 v38))]), none, none, some (.map (v41.map (mkv (pAgg Account_.cells) (pInt .i64)))), none, none, none, some (.row false 3 (x44.2.2.2.2.2.map JournalLine.cells)), none]) (B' := [none, none, some (.box [(.mp 5), (.pl (.int .i64 x51.2.1)), (.pl (.int .i64 x51.2.2.1))]), none, none, some (.map (x51.2.2.2.map (mkv (pAgg Account_.cells) (pInt .i64)))), none, none, none, some (.row true 3 (x44.2.2.2.2.2.map JournalLine.cells)), none]) 11 [2, 9, 5] (f44r5_ok x44.2.1 x44.2.2.1 v37 v38 x44.2.2.2.2.2 v41 h52) (by kernel_rfl) (by kernel_rfl) (by kernel_rfl) (by kernel_rfl) (by kernel_rfl) (by kernel_rfl)) (ap (not_t h53) (ap (fit_map (te := ti47) (xs := v40) (n := 1) (c := JournalRecord.cells) h55 rfl) (ap (app_cv (xs := v40) (ys := [(JournalRecord.mk x44.2.1 x44.2.2.1 x44.2.2.2.2.2)]) (c := JournalRecord.cells)) (ap (len_cv (xs := a1) (c := (cInt .u8))) (ap (len_cv (xs := x44.1.b) (c := (cInt .u8))) an)))))))))))) (LoopQ.norm ⟨(wr64 ((a1.length : Int) - (x44.1.b.length : Int))), x44.2.2.2.1, x51.2.1, x51.2.2.1, x44.1, (v40 ++ [(JournalRecord.mk x44.2.1 x44.2.2.1 x44.2.2.2.2.2)]), x51.2.2.2, rfl, h⟩)
      · obtain rfl := some_inj h
        exact runK_end cfg_ok (k := 2) (rs := [([], [(7, .call (.tup [(.agg [(.pl (.int .i64 x44.2.1)), (.pl (.str x44.2.2.1)), (.own 9)]), (.pl (.int .u64 x44.2.2.2.1)), (.pl (.bool x44.2.2.2.2.1))]) [none, none, none, some (.box ((Reader_.cells x44.1).map .pl)), none, none, some (.box [(.pl (.int .i64 x44.2.1)), (.pl (.str x44.2.2.1)), (.own 9)]), some (.box (((cInt .u64) x44.2.2.2.1).map .pl)), some (.box ((cBool x44.2.2.2.2.1).map .pl)), some (.row false 3 (x44.2.2.2.2.2.map JournalLine.cells))])], []), ([(3, false), (4, false), (5, false), (6, false)], [(5, .call (.pl (.bool x51.1)) [none, none, some (.box [(.mp 5), (.pl (.int .i64 x51.2.1)), (.pl (.int .i64 x51.2.2.1))]), none, none, some (.map (x51.2.2.2.map (mkv (pAgg Account_.cells) (pInt .i64)))), none, none, none, some (.row true 3 (x44.2.2.2.2.2.map JournalLine.cells)), none]), (7, .bool false)], []), ([], [], [])]) (ps := [some true]) (tds := []) (m := [0, 4]) (keep := [2, 3]) (ex := .ret) (st' := (f16n1E a1 (.ret v35 v40)).2) (by kernel_rfl) (ap (CallS.ren (args' := [(.bp 3 0), (.pl (.int .i64 (wr64 (v38 + 1)))), (.pl (.int .u64 v36))]) (v' := (.tup [(.agg [(.pl (.int .i64 x44.2.1)), (.pl (.str x44.2.2.1)), (.own 9)]), (.pl (.int .u64 x44.2.2.2.1)), (.pl (.bool x44.2.2.2.2.1))])) (B := [none, none, none, some (.box ((Reader_.cells v39).map .pl)), none, none]) (B' := [none, none, none, some (.box ((Reader_.cells x44.1).map .pl)), none, none, some (.box [(.pl (.int .i64 x44.2.1)), (.pl (.str x44.2.2.1)), (.own 9)]), some (.box (((cInt .u64) x44.2.2.2.1).map .pl)), some (.box ((cBool x44.2.2.2.2.1).map .pl)), some (.row false 3 (x44.2.2.2.2.2.map JournalLine.cells))]) 6 [3] (f43r1_ok (wr64 (v38 + 1)) v36 v39 h45) (by kernel_rfl) (by kernel_rfl) (by kernel_rfl) (by kernel_rfl) (by kernel_rfl) (by kernel_rfl)) (ap (not_t h50) (ap (not_t h50) (ap (not_t h50) (ap (not_t h50) (ap (not_t h50) (ap (CallS.ren (args' := [(.bp 2 0), (.agg [(.pl (.int .i64 x44.2.1)), (.pl (.str x44.2.2.1)), (.own 9)])]) (v' := (.pl (.bool x51.1))) (B := [none, none, some (.box [(.mp 5), (.pl (.int .i64 v37)), (.pl (.int .i64 v38))]), none, none, some (.map (v41.map (mkv (pAgg Account_.cells) (pInt .i64)))), none, none, none, some (.row false 3 (x44.2.2.2.2.2.map JournalLine.cells)), none]) (B' := [none, none, some (.box [(.mp 5), (.pl (.int .i64 x51.2.1)), (.pl (.int .i64 x51.2.2.1))]), none, none, some (.map (x51.2.2.2.map (mkv (pAgg Account_.cells) (pInt .i64)))), none, none, none, some (.row true 3 (x44.2.2.2.2.2.map JournalLine.cells)), none]) 11 [2, 9, 5] (f44r5_ok x44.2.1 x44.2.2.1 v37 v38 x44.2.2.2.2.2 v41 h52) (by kernel_rfl) (by kernel_rfl) (by kernel_rfl) (by kernel_rfl) (by kernel_rfl) (by kernel_rfl)) (ap (not_f h53) an)))))))) (fun h => nomatch h) (LoopQ.out rfl rfl)
    · obtain rfl := some_inj h
      exact runK_end cfg_ok (k := 2) (rs := [([], [(7, .call (.tup [(.agg [(.pl (.int .i64 x44.2.1)), (.pl (.str x44.2.2.1)), (.own 9)]), (.pl (.int .u64 x44.2.2.2.1)), (.pl (.bool x44.2.2.2.2.1))]) [none, none, none, some (.box ((Reader_.cells x44.1).map .pl)), none, none, some (.box [(.pl (.int .i64 x44.2.1)), (.pl (.str x44.2.2.1)), (.own 9)]), some (.box (((cInt .u64) x44.2.2.2.1).map .pl)), some (.box ((cBool x44.2.2.2.2.1).map .pl)), some (.row false 3 (x44.2.2.2.2.2.map JournalLine.cells))])], []), ([(3, true), (4, true), (5, true), (6, true)], [(7, .bool true)], []), ([], [], [])]) (ps := [none]) (tds := []) (m := [0, 4]) (keep := [2, 3]) (ex := .ret) (st' := (f16n1E a1 (.ret v35 v40)).2) (by kernel_rfl) (ap (CallS.ren (args' := [(.bp 3 0), (.pl (.int .i64 (wr64 (v38 + 1)))), (.pl (.int .u64 v36))]) (v' := (.tup [(.agg [(.pl (.int .i64 x44.2.1)), (.pl (.str x44.2.2.1)), (.own 9)]), (.pl (.int .u64 x44.2.2.2.1)), (.pl (.bool x44.2.2.2.2.1))])) (B := [none, none, none, some (.box ((Reader_.cells v39).map .pl)), none, none]) (B' := [none, none, none, some (.box ((Reader_.cells x44.1).map .pl)), none, none, some (.box [(.pl (.int .i64 x44.2.1)), (.pl (.str x44.2.2.1)), (.own 9)]), some (.box (((cInt .u64) x44.2.2.2.1).map .pl)), some (.box ((cBool x44.2.2.2.2.1).map .pl)), some (.row false 3 (x44.2.2.2.2.2.map JournalLine.cells))]) 6 [3] (f43r1_ok (wr64 (v38 + 1)) v36 v39 h45) (by kernel_rfl) (by kernel_rfl) (by kernel_rfl) (by kernel_rfl) (by kernel_rfl) (by kernel_rfl)) (ap (not_f h50) (ap (not_f h50) (ap (not_f h50) (ap (not_f h50) (ap (not_f h50) an)))))) (fun h => nomatch h) (LoopQ.out rfl rfl)
inductive f16n0O where
  | ret (v62 : Int) (v63 : List JournalRecord)
def f16n0E (a1 : List Int) : f16n0O → Ex × Tr × Hp
  | .ret v62 v63 => (.ret, mkS [(2, (.bp 0 0)), (3, (.pl (.int .i64 v62)))], [some (.box [(.own 1)]), some (.row false 3 (v63.map JournalRecord.cells))])
def f16n0S (a1 : List Int) : Tr × Hp := (initS [(.pl (.sl .any 1 (a1.map (cInt .u8))))] 0 .leaf, [])
noncomputable def f16n0 (a1 : List Int) : Option f16n0O :=
  (f16n1 FUEL a1 0 0 0 0 (Reader_.mk a1) [] []).bind fun o58 => match o58 with
  | .ret v60 v61 => some (.ret v60 v61)
theorem f16n0_ok (a1 : List Int) {o : f16n0O} (h : (f16n0 a1) = some o) : T Try.prog Try.f16.ntmps 0 c16 (f16n0S a1) (fun r => r = f16n0E a1 o) := by
  unfold f16n0 at h
  refine runK_norm cfg_ok (k := 5) (rs := [([], [], []), ([], [], []), ([], [], []), ([], [], []), ([], [], [])]) (ps := []) (tds := [.matC 1 0 3]) (m := [0, 1, 3, 4, 5, 2]) (keep := [0, 2, 4, 5, 6, 7, 8]) (st' := (f16n1S a1 0 0 0 0 (Reader_.mk a1) [] [])) (by kernel_rfl) an ?_
  obtain ⟨o58, h59, h⟩ := bind_cases h
  cases o58 with
  | ret v60 v61 =>
    obtain rfl := some_inj h
    exact T.last' (T.bl (i := 0) (by kernel_rfl) (by kernel_rfl) (f16n1_ok FUEL a1 0 0 0 0 (Reader_.mk a1) [] [] h59)) (tds := []) (m := [0, 1]) (keep := [2, 3]) (st2 := (f16n0E a1 (.ret v60 v61)).2) (by kernel_rfl) an rfl
noncomputable def f16 (a1 : List Int) : Option (Journal × Int) := (f16n0 a1).bind fun o => match o with
  | .ret v62 v63 => some ((Journal.mk v63), v62)
theorem f16_ok (a1 : List Int) {r : Journal × Int} (h : (f16 a1) = some r) : CallS Try.prog false 16 [(.pl (.sl .any 1 (a1.map (cInt .u8))))] [] (.tup [(.pl (.agg (Journal.cells r.1))), (.pl (.int .i64 r.2))]) [] := by
  unfold f16 at h
  obtain ⟨o, ho, h⟩ := bind_cases h
  cases o with
  | ret v62 v63 =>
    obtain rfl := some_inj h
    exact CallS.plain cfg_ok (f := Try.f16) (c := c16) (by kernel_rfl) (by kernel_rfl) (by kernel_rfl) (by kernel_rfl) ((f16n0_ok a1 ho).mono fun r e => by subst e; exact ⟨.inl rfl, (.tup [(.agg [(.own 1)]), (.pl (.int .i64 v62))]), (.tup [(.pl (.agg (Journal.cells (Journal.mk v63)))), (.pl (.int .i64 v62))]), by kernel_rfl, by kernel_rfl, ((Wk.refl _) : Wk (.tup [(.pl (.agg (Journal.cells (Journal.mk v63)))), (.pl (.int .i64 v62))]) (.tup [(.pl (.agg (Journal.cells (Journal.mk v63)))), (.pl (.int .i64 v62))]))⟩)
/-! ### novation/journal.Balance -/
noncomputable def c25 : Code := Try.f25.body.getD .skip
inductive f25n0O where
  | ret (v10 : Int) (v11 : Int)
def f25n0E (a1 : Journal) (a2 : ByteArray) (a3 : ByteArray) : f25n0O → Ex × Tr × Hp
  | .ret v10 v11 => (.ret, mkS [(6, (.pl (.int .i64 v10))), (7, (.pl (.int .i64 v11)))], [])
def f25n0S (a1 : Journal) (a2 : ByteArray) (a3 : ByteArray) : Tr × Hp := (initS [(.pl (.agg (Journal.cells a1))), (.pl (.str a2)), (.pl (.str a3))] 0 .leaf, [])
noncomputable def f25n0 (a1 : Journal) (a2 : ByteArray) (a3 : ByteArray) : Option f25n0O :=
  (f47r1 a1).bind fun x6 =>
  bif x6.1 then
    some (.ret (mGet Account_.eqb 0 (Account_.mk a2 a3) x6.2.2.2) 0)
  else
    some (.ret 0 8)
theorem f25n0_ok (a1 : Journal) (a2 : ByteArray) (a3 : ByteArray) {o : f25n0O} (h : (f25n0 a1 a2 a3) = some o) : T Try.prog Try.f25.ntmps 0 c25 (f25n0S a1 a2 a3) (fun r => r = f25n0E a1 a2 a3 o) := by
  unfold f25n0 at h
  obtain ⟨x6, h7, h⟩ := bind_cases h
  rcases cond_cases h with ⟨h9, h⟩ | ⟨h9, h⟩
  · obtain rfl := some_inj h
    exact run_end cfg_ok (rs := [([], [], []), ([], [(1, .call (.tup [(.bp 1 0), (.pl (.bool x6.1))]) [none, some (.box [(.mp 2), (.pl (.int .i64 x6.2.1)), (.pl (.int .i64 x6.2.2.1))]), some (.map (x6.2.2.2.map (mkv (pAgg Account_.cells) (pInt .i64))))])], []), ([], [], []), ([], [(7, .look ((pInt .i64) (mGet Account_.eqb 0 (Account_.mk a2 a3) x6.2.2.2)) (mHas Account_.eqb (Account_.mk a2 a3) x6.2.2.2))], [])]) (ps := [some false]) (tds := []) (m := []) (keep := [6, 7]) (r := (.ret, (f25n0E a1 a2 a3 (.ret (mGet Account_.eqb 0 (Account_.mk a2 a3) x6.2.2.2) 0)).2)) (by kernel_rfl) (ap (CallS.ren (args' := [(.pl (.agg (Journal.cells a1)))]) (v' := (.tup [(.bp 1 0), (.pl (.bool x6.1))])) (B := [none]) (B' := [none, some (.box [(.mp 2), (.pl (.int .i64 x6.2.1)), (.pl (.int .i64 x6.2.2.1))]), some (.map (x6.2.2.2.map (mkv (pAgg Account_.cells) (pInt .i64))))]) 1 [] (f47r1_ok a1 h7) (by kernel_rfl) (by kernel_rfl) (by kernel_rfl) (by kernel_rfl) (by kernel_rfl) (by kernel_rfl)) (ap (not_t h9) (ap (look_map (vp := (pInt .i64)) (e := 3) key_95 0 (by kernel_rfl) (Account_.mk a2 a3) x6.2.2.2) an))) rfl
  · obtain rfl := some_inj h
    exact runK_end cfg_ok (k := 3) (rs := [([], [], []), ([], [(1, .call (.tup [(.bp 1 0), (.pl (.bool x6.1))]) [none, some (.box [(.mp 2), (.pl (.int .i64 x6.2.1)), (.pl (.int .i64 x6.2.2.1))]), some (.map (x6.2.2.2.map (mkv (pAgg Account_.cells) (pInt .i64))))])], []), ([], [], []), ([], [], [])]) (ps := [some true]) (tds := []) (m := []) (keep := [6, 7]) (ex := .ret) (st' := (f25n0E a1 a2 a3 (.ret 0 8)).2) (by kernel_rfl) (ap (CallS.ren (args' := [(.pl (.agg (Journal.cells a1)))]) (v' := (.tup [(.bp 1 0), (.pl (.bool x6.1))])) (B := [none]) (B' := [none, some (.box [(.mp 2), (.pl (.int .i64 x6.2.1)), (.pl (.int .i64 x6.2.2.1))]), some (.map (x6.2.2.2.map (mkv (pAgg Account_.cells) (pInt .i64))))]) 1 [] (f47r1_ok a1 h7) (by kernel_rfl) (by kernel_rfl) (by kernel_rfl) (by kernel_rfl) (by kernel_rfl) (by kernel_rfl)) (ap (not_f h9) an)) (fun h => nomatch h) rfl
noncomputable def f25 (a1 : Journal) (a2 : ByteArray) (a3 : ByteArray) : Option (Int × Int) := (f25n0 a1 a2 a3).bind fun o => match o with
  | .ret v10 v11 => some (v10, v11)
theorem f25_ok (a1 : Journal) (a2 : ByteArray) (a3 : ByteArray) {r : Int × Int} (h : (f25 a1 a2 a3) = some r) : CallS Try.prog false 25 [(.pl (.agg (Journal.cells a1))), (.pl (.str a2)), (.pl (.str a3))] [] (.tup [(.pl (.int .i64 r.1)), (.pl (.int .i64 r.2))]) [] := by
  unfold f25 at h
  obtain ⟨o, ho, h⟩ := bind_cases h
  cases o with
  | ret v10 v11 =>
    obtain rfl := some_inj h
    exact CallS.plain cfg_ok (f := Try.f25) (c := c25) (by kernel_rfl) (by kernel_rfl) (by kernel_rfl) (by kernel_rfl) ((f25n0_ok a1 a2 a3 ho).mono fun r e => by subst e; exact ⟨.inl rfl, (.tup [(.pl (.int .i64 v10)), (.pl (.int .i64 v11))]), (.tup [(.pl (.int .i64 v10)), (.pl (.int .i64 v11))]), by kernel_rfl, by kernel_rfl, ((Wk.refl _) : Wk (.tup [(.pl (.int .i64 v10)), (.pl (.int .i64 v11))]) (.tup [(.pl (.int .i64 v10)), (.pl (.int .i64 v11))]))⟩)
/-! ### novation/novationref38.SameRecord -/
noncomputable def c27 : Code := Try.f27.body.getD .skip
inductive f27n2O where
  | exit0
  | ret
def f27n2E (bb1 : JournalRecord) (bb2 : JournalRecord) : f27n2O → Ex × Tr × Hp
  | .exit0 => ((.exit 0), mkS [], [])
  | .ret => (.ret, mkS [(4, (.pl (.bool false)))], [])
def f27n2S (bb1 : JournalRecord) (bb2 : JournalRecord) (v34 : Int) : Tr × Hp := (mkS [(2, (.bp 0 0)), (3, (.bp 1 0)), (5, (.pl (.int .i64 v34)))], [some (.box ((JournalRecord.cells bb1).map .pl)), some (.box ((JournalRecord.cells bb2).map .pl))])
noncomputable def f27n2 : Nat → JournalRecord → JournalRecord → Int → Option f27n2O
  | 0, _, _, _ => none
  | f + 1, bb1, bb2, v34 =>
    bif (decide (v34 < (bb1.Lines.length : Int))) then
      (at? bb1.Lines v34).bind fun x42 =>
      (at? bb2.Lines v34).bind fun x44 =>
      bif (JournalLine.eqb x42 x44) then
        (f27n2 f bb1 bb2 (wr64 (v34 + 1)))
      else
        some .ret
    else
      some .exit0
theorem f27n2_ok : ∀ (f : Nat) (bb1 : JournalRecord) (bb2 : JournalRecord) (v34 : Int) {o : f27n2O}, (f27n2 f bb1 bb2 v34) = some o → TL Try.prog Try.f27.ntmps 0 f (cL (cL (dropC 1 (cL (dropC 2 c27))))) (f27n2S bb1 bb2 v34) (fun r => r = f27n2E bb1 bb2 o)
  | 0, _, _, _, o, h => by rw [f27n2] at h; cases h
  | f + 1, bb1, bb2, v34, o, h => by
    rw [f27n2] at h
    refine TL.body (K := fun s => ∃ v34 : Int, s = (f27n2S bb1 bb2 v34) ∧ (f27n2 f bb1 bb2 v34) = some o) ?_ (by rintro _ ⟨v34, rfl, hk⟩; exact f27n2_ok f _ _ _ hk)
    rcases cond_cases h with ⟨h36, h⟩ | ⟨h36, h⟩
    · obtain ⟨x42, h43, h⟩ := bind_cases h
      obtain ⟨x44, h45, h⟩ := bind_cases h
      rcases cond_cases h with ⟨h46, h⟩ | ⟨h46, h⟩
      · exact run_end cfg_ok (rs := [([], [], [(3, .val (.pl (.int .i64 (bb1.Lines.length : Int))))]), ([], [(3, .idx (Int.toNat v34) (JournalLine.cells x42)), (8, .idx (Int.toNat v34) (JournalLine.cells x44)), (10, .bool (JournalLine.eqb x42 x44))], []), ([], [], [])]) (ps := [some true, some false]) (tds := []) (m := [0, 1]) (keep := [2, 3, 5]) (r := (.norm, (f27n2S bb1 bb2 (wr64 (v34 + 1))))) (by kernel_rfl) (ap (len_cv (xs := bb1.Lines) (c := JournalLine.cells)) (ap h36 (ap (at_some h43).1 (ap (at_map JournalLine.cells (at_some h43).2) (ap (at_some h45).1 (ap (at_map JournalLine.cells (at_some h45).2) (ap (JournalLine.eqb_ok x42 x44) (ap (not_t h46) an)))))))) (LoopQ.norm ⟨(wr64 (v34 + 1)), rfl, h⟩)
      · obtain rfl := some_inj h
        exact runK_end cfg_ok (k := 2) (rs := [([], [], [(3, .val (.pl (.int .i64 (bb1.Lines.length : Int))))]), ([], [(3, .idx (Int.toNat v34) (JournalLine.cells x42)), (8, .idx (Int.toNat v34) (JournalLine.cells x44)), (10, .bool (JournalLine.eqb x42 x44))], []), ([], [], [])]) (ps := [some true, some true]) (tds := []) (m := []) (keep := [4]) (ex := .ret) (st' := (f27n2E bb1 bb2 .ret).2) (by kernel_rfl) (ap (len_cv (xs := bb1.Lines) (c := JournalLine.cells)) (ap h36 (ap (at_some h43).1 (ap (at_map JournalLine.cells (at_some h43).2) (ap (at_some h45).1 (ap (at_map JournalLine.cells (at_some h45).2) (ap (JournalLine.eqb_ok x42 x44) (ap (not_f h46) an)))))))) (fun h => nomatch h) (LoopQ.out rfl rfl)
    · obtain rfl := some_inj h
      exact runK_end cfg_ok (k := 1) (rs := [([], [], [(3, .val (.pl (.int .i64 (bb1.Lines.length : Int))))])]) (ps := [some false]) (tds := []) (m := []) (keep := []) (ex := (.exit 0)) (st' := (f27n2E bb1 bb2 .exit0).2) (by kernel_rfl) (ap (len_cv (xs := bb1.Lines) (c := JournalLine.cells)) (ap h36 an)) (fun h => nomatch h) (LoopQ.out rfl rfl)
noncomputable def f27n2L (bb1 : JournalRecord) (bb2 : JournalRecord) : List JournalLine → Int → Option f27n2O
  | [], v34 =>
    some .exit0
  | x0 :: rest, v34 =>
    (at? bb2.Lines v34).bind fun x44 =>
    bif (JournalLine.eqb x0 x44) then
      (f27n2L bb1 bb2 rest (v34 + 1))
    else
      some .ret
theorem f27n2L_eq (bb1 : JournalRecord) (bb2 : JournalRecord) : ∀ (rest : List JournalLine) (f k : Nat), bb1.Lines.drop k = rest → bb1.Lines.length ≤ maxLen → rest.length < f → f27n2 f bb1 bb2 (k : Int) = f27n2L bb1 bb2 rest (k : Int)
  | _, 0, _, _, _, hf => absurd hf (Nat.not_lt_zero _)
  | [], f + 1, k, hd, hm, hf => by
    have hk : ¬ ((k : Int) < (bb1.Lines.length : Int)) := by have := drop_nil hd; omega
    rw [f27n2, f27n2L]
    simp only [decide_eq_false hk, cond_false]
  | x0 :: rest, f + 1, k, hd, hm, hf => by
    obtain ⟨hx, hlt, hd'⟩ := drop_cons hd
    have hk : (k : Int) < (bb1.Lines.length : Int) := by omega
    have hw : wr64 ((k : Int) + 1) = (k : Int) + 1 := wr64_of (by omega) (by unfold maxLen at hm; omega)
    have ih : f27n2 f bb1 bb2 ((k : Int) + 1) = f27n2L bb1 bb2 rest ((k : Int) + 1) := f27n2L_eq bb1 bb2 rest f (k + 1) hd' hm (by simpa using hf)
    rw [f27n2, f27n2L]
    simp only [decide_eq_true hk, cond_true, at_nat, hx, Option.bind_some, hw, ih]
theorem f27n2_run (bb1 : JournalRecord) (bb2 : JournalRecord) (hm : bb1.Lines.length ≤ maxLen) : f27n2 FUEL bb1 bb2 0 = f27n2L bb1 bb2 bb1.Lines 0 := f27n2L_eq bb1 bb2 bb1.Lines FUEL 0 List.drop_zero hm (lt_FUEL hm)
inductive f27n1O where
  | norm
  | ret
def f27n1E (bb1 : JournalRecord) (bb2 : JournalRecord) : f27n1O → Ex × Tr × Hp
  | .norm => (.norm, mkS [], [])
  | .ret => (.ret, mkS [(4, (.pl (.bool false)))], [])
def f27n1S (bb1 : JournalRecord) (bb2 : JournalRecord) : Tr × Hp := (mkS [(2, (.bp 0 0)), (3, (.bp 1 0))], [some (.box ((JournalRecord.cells bb1).map .pl)), some (.box ((JournalRecord.cells bb2).map .pl))])
noncomputable def f27n1 (bb1 : JournalRecord) (bb2 : JournalRecord) : Option f27n1O :=
  (f27n2 FUEL bb1 bb2 0).bind fun o47 => match o47 with
  | .exit0 => some .norm
  | .ret => some .ret
theorem f27n1_ok (bb1 : JournalRecord) (bb2 : JournalRecord) {o : f27n1O} (h : (f27n1 bb1 bb2) = some o) : T Try.prog Try.f27.ntmps 0 (cL (dropC 2 c27)) (f27n1S bb1 bb2) (fun r => r = f27n1E bb1 bb2 o) := by
  unfold f27n1 at h
  refine runK_norm cfg_ok (k := 1) (rs := [([], [], [])]) (ps := []) (tds := []) (m := [0, 1]) (keep := [2, 3, 5]) (st' := (f27n2S bb1 bb2 0)) (by kernel_rfl) an ?_
  obtain ⟨o47, h48, h⟩ := bind_cases h
  cases o47 with
  | exit0 =>
    obtain rfl := some_inj h
    exact T.last' (T.bl (i := 0) (by kernel_rfl) (by kernel_rfl) (f27n2_ok FUEL bb1 bb2 0 h48)) (tds := []) (m := []) (keep := []) (st2 := (f27n1E bb1 bb2 .norm).2) (by kernel_rfl) an rfl
  | ret =>
    obtain rfl := some_inj h
    exact T.last' (T.bl (i := 0) (by kernel_rfl) (by kernel_rfl) (f27n2_ok FUEL bb1 bb2 0 h48)) (tds := []) (m := []) (keep := [4]) (st2 := (f27n1E bb1 bb2 .ret).2) (by kernel_rfl) an rfl
inductive f27n0O where
  | ret (v51 : Bool)
def f27n0E (a1 : JournalRecord) (a2 : JournalRecord) : f27n0O → Ex × Tr × Hp
  | .ret v51 => (.ret, mkS [(4, (.pl (.bool v51)))], [])
def f27n0S (a1 : JournalRecord) (a2 : JournalRecord) : Tr × Hp := (initS [(.pl (.agg (JournalRecord.cells a1))), (.pl (.agg (JournalRecord.cells a2)))] 0 .leaf, [])
noncomputable def f27n0 (a1 : JournalRecord) (a2 : JournalRecord) : Option f27n0O :=
  bif (decide (a1.Day = a2.Day)) then
    bif (seq a1.Text a2.Text) then
      bif (decide ((a1.Lines.length : Int) = (a2.Lines.length : Int))) then
        (f27n1 a1 a2).bind fun o49 => match o49 with
        | .norm => some (.ret true)
        | .ret => some (.ret false)
      else
        some (.ret false)
    else
      some (.ret false)
  else
    some (.ret false)
theorem f27n0_ok (a1 : JournalRecord) (a2 : JournalRecord) {o : f27n0O} (h : (f27n0 a1 a2) = some o) : T Try.prog Try.f27.ntmps 0 c27 (f27n0S a1 a2) (fun r => r = f27n0E a1 a2 o) := by
  unfold f27n0 at h
  rcases cond_cases h with ⟨h6, h⟩ | ⟨h6, h⟩
  · rcases cond_cases h with ⟨h7, h⟩ | ⟨h7, h⟩
    · rcases cond_cases h with ⟨h8, h⟩ | ⟨h8, h⟩
      · refine runK_norm cfg_ok (k := 2) (rs := [([], [], []), ([(6, false), (7, false), (8, false), (9, false), (10, false), (13, false), (14, false), (15, false), (16, false), (17, false), (18, false), (19, false)], [(11, .bool false), (20, .bool false)], [(15, .val (.pl (.int .i64 (a1.Lines.length : Int)))), (18, .val (.pl (.int .i64 (a2.Lines.length : Int))))])]) (ps := [some false]) (tds := []) (m := [0, 1]) (keep := [2, 3]) (st' := (f27n1S a1 a2)) (by kernel_rfl) (ap (not_t h6) (ap (not_t h6) (ap (not_t h6) (ap (not_t h6) (ap (not_t h6) (ap (not_t h6) (ap (not_t h7) (ap (not_t h7) (ap (not_t h7) (ap (len_cv (xs := a1.Lines) (c := JournalLine.cells)) (ap (not_t h7) (ap (not_t h7) (ap (not_t h7) (ap (len_cv (xs := a2.Lines) (c := JournalLine.cells)) (ap (not_t h7) (ap (not_t h7) (ap (not_t h8) an))))))))))))))))) ?_
        obtain ⟨o49, h50, h⟩ := bind_cases h
        cases o49 with
        | norm =>
          refine T.oneN (by kernel_rfl) (f27n1_ok a1 a2 h50) (st2 := (f27n1E a1 a2 .norm).2) rfl ?_
          obtain rfl := some_inj h
          exact run_end cfg_ok (rs := [([], [], [])]) (ps := []) (tds := []) (m := []) (keep := [4]) (r := (.ret, (f27n0E a1 a2 (.ret true)).2)) (by kernel_rfl) an rfl
        | ret =>
          obtain rfl := some_inj h
          exact T.oneX' (by kernel_rfl) (f27n1_ok a1 a2 h50) (tds := []) (m := []) (keep := [4]) (st2 := (f27n0E a1 a2 (.ret false)).2) (by kernel_rfl) an rfl rfl
      · obtain rfl := some_inj h
        exact runK_end cfg_ok (k := 2) (rs := [([], [], []), ([(6, false), (7, false), (8, false), (9, false), (10, false), (13, false), (14, false), (15, false), (16, false), (17, false), (18, false), (19, false)], [(11, .bool false), (20, .bool false)], [(15, .val (.pl (.int .i64 (a1.Lines.length : Int)))), (18, .val (.pl (.int .i64 (a2.Lines.length : Int))))]), ([], [], [])]) (ps := [some true]) (tds := []) (m := []) (keep := [4]) (ex := .ret) (st' := (f27n0E a1 a2 (.ret false)).2) (by kernel_rfl) (ap (not_t h6) (ap (not_t h6) (ap (not_t h6) (ap (not_t h6) (ap (not_t h6) (ap (not_t h6) (ap (not_t h7) (ap (not_t h7) (ap (not_t h7) (ap (len_cv (xs := a1.Lines) (c := JournalLine.cells)) (ap (not_t h7) (ap (not_t h7) (ap (not_t h7) (ap (len_cv (xs := a2.Lines) (c := JournalLine.cells)) (ap (not_t h7) (ap (not_t h7) (ap (not_f h8) an))))))))))))))))) (fun h => nomatch h) rfl
    · obtain rfl := some_inj h
      exact runK_end cfg_ok (k := 2) (rs := [([], [], []), ([(6, false), (7, false), (8, false), (9, false), (10, false), (13, true), (14, true), (15, true), (16, true), (17, true), (18, true), (19, true)], [(11, .bool false), (20, .bool true)], []), ([], [], [])]) (ps := [none]) (tds := []) (m := []) (keep := [4]) (ex := .ret) (st' := (f27n0E a1 a2 (.ret false)).2) (by kernel_rfl) (ap (not_t h6) (ap (not_t h6) (ap (not_t h6) (ap (not_t h6) (ap (not_t h6) (ap (not_t h6) (ap (not_f h7) (ap (not_f h7) (ap (not_f h7) (ap (not_f h7) (ap (not_f h7) (ap (not_f h7) (ap (not_f h7) (ap (not_f h7) an)))))))))))))) (fun h => nomatch h) rfl
  · obtain rfl := some_inj h
    exact runK_end cfg_ok (k := 2) (rs := [([], [], []), ([(6, true), (7, true), (8, true), (9, true), (10, true)], [(11, .bool true)], []), ([], [], [])]) (ps := [none]) (tds := []) (m := []) (keep := [4]) (ex := .ret) (st' := (f27n0E a1 a2 (.ret false)).2) (by kernel_rfl) (ap (not_f h6) (ap (not_f h6) (ap (not_f h6) (ap (not_f h6) (ap (not_f h6) (ap (not_f h6) an)))))) (fun h => nomatch h) rfl
noncomputable def f27 (a1 : JournalRecord) (a2 : JournalRecord) : Option Bool := (f27n0 a1 a2).bind fun o => match o with
  | .ret v51 => some v51
theorem f27_ok (a1 : JournalRecord) (a2 : JournalRecord) {r : Bool} (h : (f27 a1 a2) = some r) : CallS Try.prog false 27 [(.pl (.agg (JournalRecord.cells a1))), (.pl (.agg (JournalRecord.cells a2)))] [] (.pl (.bool r)) [] := by
  unfold f27 at h
  obtain ⟨o, ho, h⟩ := bind_cases h
  cases o with
  | ret v51 =>
    obtain rfl := some_inj h
    exact CallS.plain cfg_ok (f := Try.f27) (c := c27) (by kernel_rfl) (by kernel_rfl) (by kernel_rfl) (by kernel_rfl) ((f27n0_ok a1 a2 ho).mono fun r e => by subst e; exact ⟨.inl rfl, (.pl (.bool v51)), (.pl (.bool v51)), by kernel_rfl, by kernel_rfl, ((Wk.refl _) : Wk (.pl (.bool v51)) (.pl (.bool v51)))⟩)
end Go.Proofs.Ytbgjlpdeoljmiaa
