/- Functions of the program, plainly, and that the machine computes them. No condition. -/
import Derived.Test.YtkimdlpfbojkgaaG4
namespace Go.Proofs.Ytkimdlpfbojkgaa
set_option linter.unusedVariables false
set_option maxRecDepth 100000
open Go.RowKit
/-! ### novation/novate.Position -/
noncomputable def c14 : Code := Try.f14.body.getD .skip
inductive f14n2O where
  | exit0 (v56 : Int) (v57 : Int)
def f14n2E (bc1 : ByteArray) (bc2 : ByteArray) (bi3 : (List NovateLeg) × Int) : f14n2O → Ex × Tr × Hp
  | .exit0 v56 v57 => ((.exit 0), mkS [(10, (.pl (.int .i64 bi3.2))), (11, (.pl (.int .i64 v56))), (12, (.pl (.int .i64 v57)))], [])
def f14n2S (bc1 : ByteArray) (bc2 : ByteArray) (bi3 : (List NovateLeg) × Int) (v39 : Int) (v40 : Int) (v41 : Int) : Tr × Hp := (mkS [(1, (.pl (.str bc1))), (2, (.pl (.str bc2))), (10, (.pl (.int .i64 bi3.2))), (11, (.pl (.int .i64 v39))), (12, (.pl (.int .i64 v40))), (20, (.pl (.sl .any 6 (bi3.1.map NovateLeg.cells)))), (21, (.pl (.int .i64 (bi3.1.length : Int)))), (22, (.pl (.int .i64 v41)))], [])
def f14n2 : Nat → ByteArray → ByteArray → (List NovateLeg) × Int → Int → Int → Int → Option f14n2O
  | 0, _, _, _, _, _, _ => none
  | f + 1, bc1, bc2, bi3, v39, v40, v41 =>
    bif (decide (v41 < (bi3.1.length : Int))) then
      (at? bi3.1 v41).bind fun x50 =>
      bif (seq x50.Product bc2) then
        bif (seq x50.Buyer bc1) then
          bif (seq x50.Seller bc1) then
            (f14n2 f bc1 bc2 bi3 (wr64 ((wr64 (v39 + x50.Quantity)) - x50.Quantity)) (wr64 ((wr64 (v40 + (wr64 (x50.Quantity * x50.Price)))) - (wr64 (x50.Quantity * x50.Price)))) (wr64 (v41 + 1)))
          else
            (f14n2 f bc1 bc2 bi3 (wr64 (v39 + x50.Quantity)) (wr64 (v40 + (wr64 (x50.Quantity * x50.Price)))) (wr64 (v41 + 1)))
        else
          bif (seq x50.Seller bc1) then
            (f14n2 f bc1 bc2 bi3 (wr64 (v39 - x50.Quantity)) (wr64 (v40 - (wr64 (x50.Quantity * x50.Price)))) (wr64 (v41 + 1)))
          else
            (f14n2 f bc1 bc2 bi3 v39 v40 (wr64 (v41 + 1)))
      else
        (f14n2 f bc1 bc2 bi3 v39 v40 (wr64 (v41 + 1)))
    else
      some (.exit0 v39 v40)
theorem f14n2_ok : ∀ (f : Nat) (bc1 : ByteArray) (bc2 : ByteArray) (bi3 : (List NovateLeg) × Int) (v39 : Int) (v40 : Int) (v41 : Int) {o : f14n2O}, (f14n2 f bc1 bc2 bi3 v39 v40 v41) = some o → TL Try.prog Try.f14.ntmps 0 f (cL (cL (dropC 1 (cL (dropC 3 c14))))) (f14n2S bc1 bc2 bi3 v39 v40 v41) (fun r => r = f14n2E bc1 bc2 bi3 o)
  | 0, _, _, _, _, _, _, o, h => by rw [f14n2] at h; cases h
  | f + 1, bc1, bc2, bi3, v39, v40, v41, o, h => by
    rw [f14n2] at h
    refine TL.body (K := fun s => ∃ v39 : Int, ∃ v40 : Int, ∃ v41 : Int, s = (f14n2S bc1 bc2 bi3 v39 v40 v41) ∧ (f14n2 f bc1 bc2 bi3 v39 v40 v41) = some o) ?_ (by rintro _ ⟨v39, v40, v41, rfl, hk⟩; exact f14n2_ok f _ _ _ _ _ _ hk)
    rcases cond_cases h with ⟨h43, h⟩ | ⟨h43, h⟩
    · obtain ⟨x50, h51, h⟩ := bind_cases h
      rcases cond_cases h with ⟨h52, h⟩ | ⟨h52, h⟩
      · rcases cond_cases h with ⟨h53, h⟩ | ⟨h53, h⟩
        · rcases cond_cases h with ⟨h54, h⟩ | ⟨h54, h⟩
          · exact run_end cfg_ok (rs := [([], [], []), ([], [(0, .idx (Int.toNat v41) (NovateLeg.cells x50))], []), ([], [], []), ([], [], []), ([], [], []), ([], [], []), ([], [], []), ([], [], [])]) (ps := [some true, some false, some true, some true]) (tds := []) (m := []) (keep := [1, 2, 10, 11, 12, 20, 21, 22]) (r := (.norm, (f14n2S bc1 bc2 bi3 (wr64 ((wr64 (v39 + x50.Quantity)) - x50.Quantity)) (wr64 ((wr64 (v40 + (wr64 (x50.Quantity * x50.Price)))) - (wr64 (x50.Quantity * x50.Price)))) (wr64 (v41 + 1))))) (by kernel_rfl) (ap h43 (ap (at_some h51).1 (ap (at_map NovateLeg.cells (at_some h51).2) (ap (not_t h52) (ap h53 (ap h54 an)))))) (LoopQ.norm ⟨(wr64 ((wr64 (v39 + x50.Quantity)) - x50.Quantity)), (wr64 ((wr64 (v40 + (wr64 (x50.Quantity * x50.Price)))) - (wr64 (x50.Quantity * x50.Price)))), (wr64 (v41 + 1)), rfl, h⟩)
          · exact run_end cfg_ok (rs := [([], [], []), ([], [(0, .idx (Int.toNat v41) (NovateLeg.cells x50))], []), ([], [], []), ([], [], []), ([], [], []), ([], [], []), ([], [], [])]) (ps := [some true, some false, some true, some false]) (tds := []) (m := []) (keep := [1, 2, 10, 11, 12, 20, 21, 22]) (r := (.norm, (f14n2S bc1 bc2 bi3 (wr64 (v39 + x50.Quantity)) (wr64 (v40 + (wr64 (x50.Quantity * x50.Price)))) (wr64 (v41 + 1))))) (by kernel_rfl) (ap h43 (ap (at_some h51).1 (ap (at_map NovateLeg.cells (at_some h51).2) (ap (not_t h52) (ap h53 (ap h54 an)))))) (LoopQ.norm ⟨(wr64 (v39 + x50.Quantity)), (wr64 (v40 + (wr64 (x50.Quantity * x50.Price)))), (wr64 (v41 + 1)), rfl, h⟩)
        · rcases cond_cases h with ⟨h55, h⟩ | ⟨h55, h⟩
          · exact run_end cfg_ok (rs := [([], [], []), ([], [(0, .idx (Int.toNat v41) (NovateLeg.cells x50))], []), ([], [], []), ([], [], []), ([], [], []), ([], [], []), ([], [], [])]) (ps := [some true, some false, some false, some true]) (tds := []) (m := []) (keep := [1, 2, 10, 11, 12, 20, 21, 22]) (r := (.norm, (f14n2S bc1 bc2 bi3 (wr64 (v39 - x50.Quantity)) (wr64 (v40 - (wr64 (x50.Quantity * x50.Price)))) (wr64 (v41 + 1))))) (by kernel_rfl) (ap h43 (ap (at_some h51).1 (ap (at_map NovateLeg.cells (at_some h51).2) (ap (not_t h52) (ap h53 (ap h55 an)))))) (LoopQ.norm ⟨(wr64 (v39 - x50.Quantity)), (wr64 (v40 - (wr64 (x50.Quantity * x50.Price)))), (wr64 (v41 + 1)), rfl, h⟩)
          · exact run_end cfg_ok (rs := [([], [], []), ([], [(0, .idx (Int.toNat v41) (NovateLeg.cells x50))], []), ([], [], []), ([], [], []), ([], [], []), ([], [], [])]) (ps := [some true, some false, some false, some false]) (tds := []) (m := []) (keep := [1, 2, 10, 11, 12, 20, 21, 22]) (r := (.norm, (f14n2S bc1 bc2 bi3 v39 v40 (wr64 (v41 + 1))))) (by kernel_rfl) (ap h43 (ap (at_some h51).1 (ap (at_map NovateLeg.cells (at_some h51).2) (ap (not_t h52) (ap h53 (ap h55 an)))))) (LoopQ.norm ⟨v39, v40, (wr64 (v41 + 1)), rfl, h⟩)
      · exact run_end cfg_ok (rs := [([], [], []), ([], [(0, .idx (Int.toNat v41) (NovateLeg.cells x50))], []), ([], [], []), ([], [], [])]) (ps := [some true, some true]) (tds := []) (m := []) (keep := [1, 2, 10, 11, 12, 20, 21, 22]) (r := (.norm, (f14n2S bc1 bc2 bi3 v39 v40 (wr64 (v41 + 1))))) (by kernel_rfl) (ap h43 (ap (at_some h51).1 (ap (at_map NovateLeg.cells (at_some h51).2) (ap (not_f h52) an)))) (LoopQ.norm ⟨v39, v40, (wr64 (v41 + 1)), rfl, h⟩)
    · obtain rfl := some_inj h
      exact runK_end cfg_ok (k := 2) (rs := [([], [], [])]) (ps := [some false]) (tds := []) (m := []) (keep := [10, 11, 12]) (ex := (.exit 0)) (st' := (f14n2E bc1 bc2 bi3 (.exit0 v39 v40)).2) (by kernel_rfl) (ap h43 an) (fun h => nomatch h) (LoopQ.out rfl rfl)
def f14n2L (bc1 : ByteArray) (bc2 : ByteArray) (bi3 : (List NovateLeg) × Int) : List NovateLeg → Int → Int → Int → Option f14n2O
  | [], v39, v40, v41 =>
    some (.exit0 v39 v40)
  | x0 :: rest, v39, v40, v41 =>
    bif (seq x0.Product bc2) then
      bif (seq x0.Buyer bc1) then
        bif (seq x0.Seller bc1) then
          (f14n2L bc1 bc2 bi3 rest (wr64 ((wr64 (v39 + x0.Quantity)) - x0.Quantity)) (wr64 ((wr64 (v40 + (wr64 (x0.Quantity * x0.Price)))) - (wr64 (x0.Quantity * x0.Price)))) (v41 + 1))
        else
          (f14n2L bc1 bc2 bi3 rest (wr64 (v39 + x0.Quantity)) (wr64 (v40 + (wr64 (x0.Quantity * x0.Price)))) (v41 + 1))
      else
        bif (seq x0.Seller bc1) then
          (f14n2L bc1 bc2 bi3 rest (wr64 (v39 - x0.Quantity)) (wr64 (v40 - (wr64 (x0.Quantity * x0.Price)))) (v41 + 1))
        else
          (f14n2L bc1 bc2 bi3 rest v39 v40 (v41 + 1))
    else
      (f14n2L bc1 bc2 bi3 rest v39 v40 (v41 + 1))
theorem f14n2L_eq (bc1 : ByteArray) (bc2 : ByteArray) (bi3 : (List NovateLeg) × Int) : ∀ (rest : List NovateLeg) (f k : Nat) (v39 : Int) (v40 : Int), bi3.1.drop k = rest → bi3.1.length ≤ maxLen → rest.length < f → f14n2 f bc1 bc2 bi3 v39 v40 (k : Int) = f14n2L bc1 bc2 bi3 rest v39 v40 (k : Int)
  | _, 0, _, _, _, _, _, hf => absurd hf (Nat.not_lt_zero _)
  | [], f + 1, k, v39, v40, hd, hm, hf => by
    have hk : ¬ ((k : Int) < (bi3.1.length : Int)) := by have := drop_nil hd; omega
    rw [f14n2, f14n2L]
    simp only [decide_eq_false hk, cond_false]
  | x0 :: rest, f + 1, k, v39, v40, hd, hm, hf => by
    obtain ⟨hx, hlt, hd'⟩ := drop_cons hd
    have hk : (k : Int) < (bi3.1.length : Int) := by omega
    have hw : wr64 ((k : Int) + 1) = (k : Int) + 1 := wr64_of (by omega) (by unfold maxLen at hm; omega)
    have ih : ∀ (v39 : Int) (v40 : Int), f14n2 f bc1 bc2 bi3 v39 v40 ((k : Int) + 1) = f14n2L bc1 bc2 bi3 rest v39 v40 ((k : Int) + 1) := fun v39 v40 => f14n2L_eq bc1 bc2 bi3 rest f (k + 1) v39 v40 hd' hm (by simpa using hf)
    rw [f14n2, f14n2L]
    simp only [decide_eq_true hk, cond_true, at_nat, hx, Option.bind_some, hw, ih]
theorem f14n2_run (bc1 : ByteArray) (bc2 : ByteArray) (bi3 : (List NovateLeg) × Int) (v39 : Int) (v40 : Int) (hm : bi3.1.length ≤ maxLen) : f14n2 FUEL bc1 bc2 bi3 v39 v40 0 = f14n2L bc1 bc2 bi3 bi3.1 v39 v40 0 := f14n2L_eq bc1 bc2 bi3 bi3.1 FUEL 0 v39 v40 List.drop_zero hm (lt_FUEL hm)
inductive f14n1O where
  | norm (v62 : Int) (v63 : Int)
def f14n1E (bc1 : ByteArray) (bc2 : ByteArray) (bi3 : (List NovateLeg) × Int) : f14n1O → Ex × Tr × Hp
  | .norm v62 v63 => (.norm, mkS [(10, (.pl (.int .i64 bi3.2))), (11, (.pl (.int .i64 v62))), (12, (.pl (.int .i64 v63)))], [])
def f14n1S (bc1 : ByteArray) (bc2 : ByteArray) (bi3 : (List NovateLeg) × Int) : Tr × Hp := (mkS [(1, (.pl (.str bc1))), (2, (.pl (.str bc2))), (9, (.pl (.sl .any 6 (bi3.1.map NovateLeg.cells)))), (10, (.pl (.int .i64 bi3.2))), (11, (.pl (.int .i64 0))), (12, (.pl (.int .i64 0)))], [])
def f14n1 (bc1 : ByteArray) (bc2 : ByteArray) (bi3 : (List NovateLeg) × Int) : Option f14n1O :=
  (f14n2 FUEL bc1 bc2 bi3 0 0 0).bind fun o58 => match o58 with
  | .exit0 v60 v61 => some (.norm v60 v61)
theorem f14n1_ok (bc1 : ByteArray) (bc2 : ByteArray) (bi3 : (List NovateLeg) × Int) {o : f14n1O} (h : (f14n1 bc1 bc2 bi3) = some o) : T Try.prog Try.f14.ntmps 0 (cL (dropC 3 c14)) (f14n1S bc1 bc2 bi3) (fun r => r = f14n1E bc1 bc2 bi3 o) := by
  unfold f14n1 at h
  refine runK_norm cfg_ok (k := 1) (rs := [([], [], [(1, .val (.pl (.int .i64 (bi3.1.length : Int))))])]) (ps := []) (tds := []) (m := []) (keep := [1, 2, 10, 11, 12, 20, 21, 22]) (st' := (f14n2S bc1 bc2 bi3 0 0 0)) (by kernel_rfl) (ap (len_cv (xs := bi3.1) (c := NovateLeg.cells)) an) ?_
  obtain ⟨o58, h59, h⟩ := bind_cases h
  cases o58 with
  | exit0 v60 v61 =>
    obtain rfl := some_inj h
    exact T.last' (T.bl (i := 0) (by kernel_rfl) (by kernel_rfl) (f14n2_ok FUEL bc1 bc2 bi3 0 0 0 h59)) (tds := []) (m := []) (keep := [10, 11, 12]) (st2 := (f14n1E bc1 bc2 bi3 (.norm v60 v61)).2) (by kernel_rfl) an rfl
inductive f14n0O where
  | ret (v68 : Int) (v69 : Int) (v70 : Int)
def f14n0E (a1 : NovateBook) (a2 : ByteArray) (a3 : ByteArray) : f14n0O → Ex × Tr × Hp
  | .ret v68 v69 v70 => (.ret, mkS [(6, (.pl (.int .i64 v68))), (7, (.pl (.int .i64 v69))), (8, (.pl (.int .i64 v70)))], [])
def f14n0S (a1 : NovateBook) (a2 : ByteArray) (a3 : ByteArray) : Tr × Hp := (initS [(.pl (.agg (NovateBook.cells a1))), (.pl (.str a2)), (.pl (.str a3))] 0 .leaf, [])
def f14n0 (a1 : NovateBook) (a2 : ByteArray) (a3 : ByteArray) : Option f14n0O :=
  (f12 a1).bind fun x6 =>
  (f14n1 a2 a3 x6).bind fun o64 => match o64 with
  | .norm v66 v67 => some (.ret v66 v67 x6.2)
theorem f14n0_ok (a1 : NovateBook) (a2 : ByteArray) (a3 : ByteArray) {o : f14n0O} (h : (f14n0 a1 a2 a3) = some o) : T Try.prog Try.f14.ntmps 0 c14 (f14n0S a1 a2 a3) (fun r => r = f14n0E a1 a2 a3 o) := by
  unfold f14n0 at h
  obtain ⟨x6, h7, h⟩ := bind_cases h
  refine runK_norm cfg_ok (k := 3) (rs := [([], [], []), ([], [(1, .call (.tup [(.pl (.sl .any 6 (x6.1.map NovateLeg.cells))), (.pl (.int .i64 x6.2))]) [])], []), ([], [], [])]) (ps := []) (tds := []) (m := []) (keep := [1, 2, 9, 10, 11, 12]) (st' := (f14n1S a2 a3 x6)) (by kernel_rfl) (ap (f12_ok a1 h7) an) ?_
  obtain ⟨o64, h65, h⟩ := bind_cases h
  cases o64 with
  | norm v66 v67 =>
    refine T.oneN (by kernel_rfl) (f14n1_ok a2 a3 x6 h65) (st2 := (f14n1E a2 a3 x6 (.norm v66 v67)).2) rfl ?_
    obtain rfl := some_inj h
    exact run_end cfg_ok (rs := [([], [], [])]) (ps := []) (tds := []) (m := []) (keep := [6, 7, 8]) (r := (.ret, (f14n0E a1 a2 a3 (.ret v66 v67 x6.2)).2)) (by kernel_rfl) an rfl
def f14 (a1 : NovateBook) (a2 : ByteArray) (a3 : ByteArray) : Option (Int × Int × Int) := (f14n0 a1 a2 a3).bind fun o => match o with
  | .ret v68 v69 v70 => some (v68, v69, v70)
theorem f14_ok (a1 : NovateBook) (a2 : ByteArray) (a3 : ByteArray) {r : Int × Int × Int} (h : (f14 a1 a2 a3) = some r) : CallS Try.prog false 14 [(.pl (.agg (NovateBook.cells a1))), (.pl (.str a2)), (.pl (.str a3))] [] (.tup [(.pl (.int .i64 r.1)), (.pl (.int .i64 r.2.1)), (.pl (.int .i64 r.2.2))]) [] := by
  unfold f14 at h
  obtain ⟨o, ho, h⟩ := bind_cases h
  cases o with
  | ret v68 v69 v70 =>
    obtain rfl := some_inj h
    exact CallS.plain cfg_ok (f := Try.f14) (c := c14) (by kernel_rfl) (by kernel_rfl) (by kernel_rfl) (by kernel_rfl) ((f14n0_ok a1 a2 a3 ho).mono fun r e => by subst e; exact ⟨.inl rfl, (.tup [(.pl (.int .i64 v68)), (.pl (.int .i64 v69)), (.pl (.int .i64 v70))]), (.tup [(.pl (.int .i64 v68)), (.pl (.int .i64 v69)), (.pl (.int .i64 v70))]), by kernel_rfl, by kernel_rfl, ((Wk.refl _) : Wk (.tup [(.pl (.int .i64 v68)), (.pl (.int .i64 v69)), (.pl (.int .i64 v70))]) (.tup [(.pl (.int .i64 v68)), (.pl (.int .i64 v69)), (.pl (.int .i64 v70))]))⟩)
/-! ### novation/novationref34.sum -/
noncomputable def c46 : Code := Try.f46.body.getD .skip
inductive f46n2O where
  | exit0 (v52 : Int) (v53 : Int)
def f46n2E (bj1 : List NovateLeg) (bc2 : ByteArray) (bc3 : ByteArray) : f46n2O → Ex × Tr × Hp
  | .exit0 v52 v53 => ((.exit 0), mkS [(8, (.pl (.int .i64 v52))), (9, (.pl (.int .i64 v53)))], [])
def f46n2S (bj1 : List NovateLeg) (bc2 : ByteArray) (bc3 : ByteArray) (v35 : Int) (v36 : Int) (v37 : Int) : Tr × Hp := (mkS [(0, (.pl (.sl .any 6 (bj1.map NovateLeg.cells)))), (1, (.pl (.str bc2))), (2, (.pl (.str bc3))), (8, (.pl (.int .i64 v35))), (9, (.pl (.int .i64 v36))), (10, (.pl (.int .i64 v37)))], [])
def f46n2 : Nat → List NovateLeg → ByteArray → ByteArray → Int → Int → Int → Option f46n2O
  | 0, _, _, _, _, _, _ => none
  | f + 1, bj1, bc2, bc3, v35, v36, v37 =>
    bif (decide (v37 < (bj1.length : Int))) then
      (at? bj1 v37).bind fun x46 =>
      bif (seq x46.Product bc3) then
        bif (seq x46.Buyer bc2) then
          bif (seq x46.Seller bc2) then
            (f46n2 f bj1 bc2 bc3 (wr64 ((wr64 (v35 + x46.Quantity)) - x46.Quantity)) (wr64 ((wr64 (v36 + (wr64 (x46.Quantity * x46.Price)))) - (wr64 (x46.Quantity * x46.Price)))) (wr64 (v37 + 1)))
          else
            (f46n2 f bj1 bc2 bc3 (wr64 (v35 + x46.Quantity)) (wr64 (v36 + (wr64 (x46.Quantity * x46.Price)))) (wr64 (v37 + 1)))
        else
          bif (seq x46.Seller bc2) then
            (f46n2 f bj1 bc2 bc3 (wr64 (v35 - x46.Quantity)) (wr64 (v36 - (wr64 (x46.Quantity * x46.Price)))) (wr64 (v37 + 1)))
          else
            (f46n2 f bj1 bc2 bc3 v35 v36 (wr64 (v37 + 1)))
      else
        (f46n2 f bj1 bc2 bc3 v35 v36 (wr64 (v37 + 1)))
    else
      some (.exit0 v35 v36)
theorem f46n2_ok : ∀ (f : Nat) (bj1 : List NovateLeg) (bc2 : ByteArray) (bc3 : ByteArray) (v35 : Int) (v36 : Int) (v37 : Int) {o : f46n2O}, (f46n2 f bj1 bc2 bc3 v35 v36 v37) = some o → TL Try.prog Try.f46.ntmps 0 f (cL (cL (dropC 1 (cL (dropC 2 c46))))) (f46n2S bj1 bc2 bc3 v35 v36 v37) (fun r => r = f46n2E bj1 bc2 bc3 o)
  | 0, _, _, _, _, _, _, o, h => by rw [f46n2] at h; cases h
  | f + 1, bj1, bc2, bc3, v35, v36, v37, o, h => by
    rw [f46n2] at h
    refine TL.body (K := fun s => ∃ v35 : Int, ∃ v36 : Int, ∃ v37 : Int, s = (f46n2S bj1 bc2 bc3 v35 v36 v37) ∧ (f46n2 f bj1 bc2 bc3 v35 v36 v37) = some o) ?_ (by rintro _ ⟨v35, v36, v37, rfl, hk⟩; exact f46n2_ok f _ _ _ _ _ _ hk)
    rcases cond_cases h with ⟨h39, h⟩ | ⟨h39, h⟩
    · obtain ⟨x46, h47, h⟩ := bind_cases h
      rcases cond_cases h with ⟨h48, h⟩ | ⟨h48, h⟩
      · rcases cond_cases h with ⟨h49, h⟩ | ⟨h49, h⟩
        · rcases cond_cases h with ⟨h50, h⟩ | ⟨h50, h⟩
          · exact run_end cfg_ok (rs := [([], [], [(2, .val (.pl (.int .i64 (bj1.length : Int))))]), ([(8, true), (9, true), (10, true), (11, true), (12, true), (13, true), (14, true)], [(2, .idx (Int.toNat v37) (NovateLeg.cells x46)), (10, .idx (Int.toNat v37) (NovateLeg.cells x46)), (15, .bool true)], []), ([], [(3, .idx (Int.toNat v37) (NovateLeg.cells x46))], []), ([], [(3, .idx (Int.toNat v37) (NovateLeg.cells x46)), (8, .idx (Int.toNat v37) (NovateLeg.cells x46))], []), ([(8, true), (9, true), (10, true), (11, true), (12, true), (13, true), (14, true)], [(2, .idx (Int.toNat v37) (NovateLeg.cells x46)), (10, .idx (Int.toNat v37) (NovateLeg.cells x46)), (15, .bool true)], []), ([], [(3, .idx (Int.toNat v37) (NovateLeg.cells x46))], []), ([], [(3, .idx (Int.toNat v37) (NovateLeg.cells x46)), (8, .idx (Int.toNat v37) (NovateLeg.cells x46))], []), ([], [], [])]) (ps := [some true, some true, some true]) (tds := []) (m := []) (keep := [0, 1, 2, 8, 9, 10]) (r := (.norm, (f46n2S bj1 bc2 bc3 (wr64 ((wr64 (v35 + x46.Quantity)) - x46.Quantity)) (wr64 ((wr64 (v36 + (wr64 (x46.Quantity * x46.Price)))) - (wr64 (x46.Quantity * x46.Price)))) (wr64 (v37 + 1))))) (by kernel_rfl) (ap (len_cv (xs := bj1) (c := NovateLeg.cells)) (ap h39 (ap (at_some h47).1 (ap (at_map NovateLeg.cells (at_some h47).2) (ap h48 (ap h48 (ap h48 (ap (at_some h47).1 (ap (at_map NovateLeg.cells (at_some h47).2) (ap h48 (ap h48 (ap h48 (ap h48 (ap h48 (ap h49 (ap (at_some h47).1 (ap (at_map NovateLeg.cells (at_some h47).2) (ap (at_some h47).1 (ap (at_map NovateLeg.cells (at_some h47).2) (ap (at_some h47).1 (ap (at_map NovateLeg.cells (at_some h47).2) (ap (at_some h47).1 (ap (at_map NovateLeg.cells (at_some h47).2) (ap h48 (ap h48 (ap h48 (ap (at_some h47).1 (ap (at_map NovateLeg.cells (at_some h47).2) (ap h48 (ap h48 (ap h48 (ap h48 (ap h48 (ap h50 (ap (at_some h47).1 (ap (at_map NovateLeg.cells (at_some h47).2) (ap (at_some h47).1 (ap (at_map NovateLeg.cells (at_some h47).2) (ap (at_some h47).1 (ap (at_map NovateLeg.cells (at_some h47).2) an)))))))))))))))))))))))))))))))))))))))) (LoopQ.norm ⟨(wr64 ((wr64 (v35 + x46.Quantity)) - x46.Quantity)), (wr64 ((wr64 (v36 + (wr64 (x46.Quantity * x46.Price)))) - (wr64 (x46.Quantity * x46.Price)))), (wr64 (v37 + 1)), rfl, h⟩)
          · exact run_end cfg_ok (rs := [([], [], [(2, .val (.pl (.int .i64 (bj1.length : Int))))]), ([(8, true), (9, true), (10, true), (11, true), (12, true), (13, true), (14, true)], [(2, .idx (Int.toNat v37) (NovateLeg.cells x46)), (10, .idx (Int.toNat v37) (NovateLeg.cells x46)), (15, .bool true)], []), ([], [(3, .idx (Int.toNat v37) (NovateLeg.cells x46))], []), ([], [(3, .idx (Int.toNat v37) (NovateLeg.cells x46)), (8, .idx (Int.toNat v37) (NovateLeg.cells x46))], []), ([(8, true), (9, true), (10, true), (11, true), (12, true), (13, true), (14, true)], [(2, .idx (Int.toNat v37) (NovateLeg.cells x46)), (10, .idx (Int.toNat v37) (NovateLeg.cells x46)), (15, .bool true)], []), ([], [], [])]) (ps := [some true, some true, some false]) (tds := []) (m := []) (keep := [0, 1, 2, 8, 9, 10]) (r := (.norm, (f46n2S bj1 bc2 bc3 (wr64 (v35 + x46.Quantity)) (wr64 (v36 + (wr64 (x46.Quantity * x46.Price)))) (wr64 (v37 + 1))))) (by kernel_rfl) (ap (len_cv (xs := bj1) (c := NovateLeg.cells)) (ap h39 (ap (at_some h47).1 (ap (at_map NovateLeg.cells (at_some h47).2) (ap h48 (ap h48 (ap h48 (ap (at_some h47).1 (ap (at_map NovateLeg.cells (at_some h47).2) (ap h48 (ap h48 (ap h48 (ap h48 (ap h48 (ap h49 (ap (at_some h47).1 (ap (at_map NovateLeg.cells (at_some h47).2) (ap (at_some h47).1 (ap (at_map NovateLeg.cells (at_some h47).2) (ap (at_some h47).1 (ap (at_map NovateLeg.cells (at_some h47).2) (ap (at_some h47).1 (ap (at_map NovateLeg.cells (at_some h47).2) (ap h48 (ap h48 (ap h48 (ap (at_some h47).1 (ap (at_map NovateLeg.cells (at_some h47).2) (ap h48 (ap h48 (ap h48 (ap h48 (ap h48 (ap h50 an)))))))))))))))))))))))))))))))))) (LoopQ.norm ⟨(wr64 (v35 + x46.Quantity)), (wr64 (v36 + (wr64 (x46.Quantity * x46.Price)))), (wr64 (v37 + 1)), rfl, h⟩)
        · rcases cond_cases h with ⟨h51, h⟩ | ⟨h51, h⟩
          · exact run_end cfg_ok (rs := [([], [], [(2, .val (.pl (.int .i64 (bj1.length : Int))))]), ([(8, true), (9, true), (10, true), (11, true), (12, true), (13, true), (14, true)], [(2, .idx (Int.toNat v37) (NovateLeg.cells x46)), (10, .idx (Int.toNat v37) (NovateLeg.cells x46)), (15, .bool true)], []), ([(8, true), (9, true), (10, true), (11, true), (12, true), (13, true), (14, true)], [(2, .idx (Int.toNat v37) (NovateLeg.cells x46)), (10, .idx (Int.toNat v37) (NovateLeg.cells x46)), (15, .bool true)], []), ([], [(3, .idx (Int.toNat v37) (NovateLeg.cells x46))], []), ([], [(3, .idx (Int.toNat v37) (NovateLeg.cells x46)), (8, .idx (Int.toNat v37) (NovateLeg.cells x46))], []), ([], [], [])]) (ps := [some true, some false, some true]) (tds := []) (m := []) (keep := [0, 1, 2, 8, 9, 10]) (r := (.norm, (f46n2S bj1 bc2 bc3 (wr64 (v35 - x46.Quantity)) (wr64 (v36 - (wr64 (x46.Quantity * x46.Price)))) (wr64 (v37 + 1))))) (by kernel_rfl) (ap (len_cv (xs := bj1) (c := NovateLeg.cells)) (ap h39 (ap (at_some h47).1 (ap (at_map NovateLeg.cells (at_some h47).2) (ap h48 (ap h48 (ap h48 (ap (at_some h47).1 (ap (at_map NovateLeg.cells (at_some h47).2) (ap h48 (ap h48 (ap h48 (ap h48 (ap h48 (ap h49 (ap (at_some h47).1 (ap (at_map NovateLeg.cells (at_some h47).2) (ap h48 (ap h48 (ap h48 (ap (at_some h47).1 (ap (at_map NovateLeg.cells (at_some h47).2) (ap h48 (ap h48 (ap h48 (ap h48 (ap h48 (ap h51 (ap (at_some h47).1 (ap (at_map NovateLeg.cells (at_some h47).2) (ap (at_some h47).1 (ap (at_map NovateLeg.cells (at_some h47).2) (ap (at_some h47).1 (ap (at_map NovateLeg.cells (at_some h47).2) an)))))))))))))))))))))))))))))))))) (LoopQ.norm ⟨(wr64 (v35 - x46.Quantity)), (wr64 (v36 - (wr64 (x46.Quantity * x46.Price)))), (wr64 (v37 + 1)), rfl, h⟩)
          · exact run_end cfg_ok (rs := [([], [], [(2, .val (.pl (.int .i64 (bj1.length : Int))))]), ([(8, true), (9, true), (10, true), (11, true), (12, true), (13, true), (14, true)], [(2, .idx (Int.toNat v37) (NovateLeg.cells x46)), (10, .idx (Int.toNat v37) (NovateLeg.cells x46)), (15, .bool true)], []), ([(8, true), (9, true), (10, true), (11, true), (12, true), (13, true), (14, true)], [(2, .idx (Int.toNat v37) (NovateLeg.cells x46)), (10, .idx (Int.toNat v37) (NovateLeg.cells x46)), (15, .bool true)], []), ([], [], [])]) (ps := [some true, some false, some false]) (tds := []) (m := []) (keep := [0, 1, 2, 8, 9, 10]) (r := (.norm, (f46n2S bj1 bc2 bc3 v35 v36 (wr64 (v37 + 1))))) (by kernel_rfl) (ap (len_cv (xs := bj1) (c := NovateLeg.cells)) (ap h39 (ap (at_some h47).1 (ap (at_map NovateLeg.cells (at_some h47).2) (ap h48 (ap h48 (ap h48 (ap (at_some h47).1 (ap (at_map NovateLeg.cells (at_some h47).2) (ap h48 (ap h48 (ap h48 (ap h48 (ap h48 (ap h49 (ap (at_some h47).1 (ap (at_map NovateLeg.cells (at_some h47).2) (ap h48 (ap h48 (ap h48 (ap (at_some h47).1 (ap (at_map NovateLeg.cells (at_some h47).2) (ap h48 (ap h48 (ap h48 (ap h48 (ap h48 (ap h51 an)))))))))))))))))))))))))))) (LoopQ.norm ⟨v35, v36, (wr64 (v37 + 1)), rfl, h⟩)
      · exact run_end cfg_ok (rs := [([], [], [(2, .val (.pl (.int .i64 (bj1.length : Int))))]), ([(8, false), (9, false), (10, false), (11, false), (12, false), (13, false), (14, false)], [(2, .idx (Int.toNat v37) (NovateLeg.cells x46)), (15, .bool false)], []), ([(8, false), (9, false), (10, false), (11, false), (12, false), (13, false), (14, false)], [(2, .idx (Int.toNat v37) (NovateLeg.cells x46)), (15, .bool false)], []), ([], [], [])]) (ps := [some true, none, none]) (tds := []) (m := []) (keep := [0, 1, 2, 8, 9, 10]) (r := (.norm, (f46n2S bj1 bc2 bc3 v35 v36 (wr64 (v37 + 1))))) (by kernel_rfl) (ap (len_cv (xs := bj1) (c := NovateLeg.cells)) (ap h39 (ap (at_some h47).1 (ap (at_map NovateLeg.cells (at_some h47).2) (ap h48 (ap h48 (ap h48 (ap h48 (ap h48 (ap h48 (ap h48 (ap h48 (ap (at_some h47).1 (ap (at_map NovateLeg.cells (at_some h47).2) (ap h48 (ap h48 (ap h48 (ap h48 (ap h48 (ap h48 (ap h48 (ap h48 an)))))))))))))))))))))) (LoopQ.norm ⟨v35, v36, (wr64 (v37 + 1)), rfl, h⟩)
    · obtain rfl := some_inj h
      exact runK_end cfg_ok (k := 1) (rs := [([], [], [(2, .val (.pl (.int .i64 (bj1.length : Int))))])]) (ps := [some false]) (tds := []) (m := []) (keep := [8, 9]) (ex := (.exit 0)) (st' := (f46n2E bj1 bc2 bc3 (.exit0 v35 v36)).2) (by kernel_rfl) (ap (len_cv (xs := bj1) (c := NovateLeg.cells)) (ap h39 an)) (fun h => nomatch h) (LoopQ.out rfl rfl)
def f46n2L (bj1 : List NovateLeg) (bc2 : ByteArray) (bc3 : ByteArray) : List NovateLeg → Int → Int → Int → Option f46n2O
  | [], v35, v36, v37 =>
    some (.exit0 v35 v36)
  | x0 :: rest, v35, v36, v37 =>
    bif (seq x0.Product bc3) then
      bif (seq x0.Buyer bc2) then
        bif (seq x0.Seller bc2) then
          (f46n2L bj1 bc2 bc3 rest (wr64 ((wr64 (v35 + x0.Quantity)) - x0.Quantity)) (wr64 ((wr64 (v36 + (wr64 (x0.Quantity * x0.Price)))) - (wr64 (x0.Quantity * x0.Price)))) (v37 + 1))
        else
          (f46n2L bj1 bc2 bc3 rest (wr64 (v35 + x0.Quantity)) (wr64 (v36 + (wr64 (x0.Quantity * x0.Price)))) (v37 + 1))
      else
        bif (seq x0.Seller bc2) then
          (f46n2L bj1 bc2 bc3 rest (wr64 (v35 - x0.Quantity)) (wr64 (v36 - (wr64 (x0.Quantity * x0.Price)))) (v37 + 1))
        else
          (f46n2L bj1 bc2 bc3 rest v35 v36 (v37 + 1))
    else
      (f46n2L bj1 bc2 bc3 rest v35 v36 (v37 + 1))
theorem f46n2L_eq (bj1 : List NovateLeg) (bc2 : ByteArray) (bc3 : ByteArray) : ∀ (rest : List NovateLeg) (f k : Nat) (v35 : Int) (v36 : Int), bj1.drop k = rest → bj1.length ≤ maxLen → rest.length < f → f46n2 f bj1 bc2 bc3 v35 v36 (k : Int) = f46n2L bj1 bc2 bc3 rest v35 v36 (k : Int)
  | _, 0, _, _, _, _, _, hf => absurd hf (Nat.not_lt_zero _)
  | [], f + 1, k, v35, v36, hd, hm, hf => by
    have hk : ¬ ((k : Int) < (bj1.length : Int)) := by have := drop_nil hd; omega
    rw [f46n2, f46n2L]
    simp only [decide_eq_false hk, cond_false]
  | x0 :: rest, f + 1, k, v35, v36, hd, hm, hf => by
    obtain ⟨hx, hlt, hd'⟩ := drop_cons hd
    have hk : (k : Int) < (bj1.length : Int) := by omega
    have hw : wr64 ((k : Int) + 1) = (k : Int) + 1 := wr64_of (by omega) (by unfold maxLen at hm; omega)
    have ih : ∀ (v35 : Int) (v36 : Int), f46n2 f bj1 bc2 bc3 v35 v36 ((k : Int) + 1) = f46n2L bj1 bc2 bc3 rest v35 v36 ((k : Int) + 1) := fun v35 v36 => f46n2L_eq bj1 bc2 bc3 rest f (k + 1) v35 v36 hd' hm (by simpa using hf)
    rw [f46n2, f46n2L]
    simp only [decide_eq_true hk, cond_true, at_nat, hx, Option.bind_some, hw, ih]
theorem f46n2_run (bj1 : List NovateLeg) (bc2 : ByteArray) (bc3 : ByteArray) (v35 : Int) (v36 : Int) (hm : bj1.length ≤ maxLen) : f46n2 FUEL bj1 bc2 bc3 v35 v36 0 = f46n2L bj1 bc2 bc3 bj1 v35 v36 0 := f46n2L_eq bj1 bc2 bc3 bj1 FUEL 0 v35 v36 List.drop_zero hm (lt_FUEL hm)
inductive f46n1O where
  | norm (v58 : Int) (v59 : Int)
def f46n1E (bj1 : List NovateLeg) (bc2 : ByteArray) (bc3 : ByteArray) : f46n1O → Ex × Tr × Hp
  | .norm v58 v59 => (.norm, mkS [(8, (.pl (.int .i64 v58))), (9, (.pl (.int .i64 v59)))], [])
def f46n1S (bj1 : List NovateLeg) (bc2 : ByteArray) (bc3 : ByteArray) : Tr × Hp := (mkS [(0, (.pl (.sl .any 6 (bj1.map NovateLeg.cells)))), (1, (.pl (.str bc2))), (2, (.pl (.str bc3))), (8, (.pl (.int .i64 0))), (9, (.pl (.int .i64 0)))], [])
def f46n1 (bj1 : List NovateLeg) (bc2 : ByteArray) (bc3 : ByteArray) : Option f46n1O :=
  (f46n2 FUEL bj1 bc2 bc3 0 0 0).bind fun o54 => match o54 with
  | .exit0 v56 v57 => some (.norm v56 v57)
theorem f46n1_ok (bj1 : List NovateLeg) (bc2 : ByteArray) (bc3 : ByteArray) {o : f46n1O} (h : (f46n1 bj1 bc2 bc3) = some o) : T Try.prog Try.f46.ntmps 0 (cL (dropC 2 c46)) (f46n1S bj1 bc2 bc3) (fun r => r = f46n1E bj1 bc2 bc3 o) := by
  unfold f46n1 at h
  refine runK_norm cfg_ok (k := 1) (rs := [([], [], [])]) (ps := []) (tds := []) (m := []) (keep := [0, 1, 2, 8, 9, 10]) (st' := (f46n2S bj1 bc2 bc3 0 0 0)) (by kernel_rfl) an ?_
  obtain ⟨o54, h55, h⟩ := bind_cases h
  cases o54 with
  | exit0 v56 v57 =>
    obtain rfl := some_inj h
    exact T.last' (T.bl (i := 0) (by kernel_rfl) (by kernel_rfl) (f46n2_ok FUEL bj1 bc2 bc3 0 0 0 h55)) (tds := []) (m := []) (keep := [8, 9]) (st2 := (f46n1E bj1 bc2 bc3 (.norm v56 v57)).2) (by kernel_rfl) an rfl
inductive f46n0O where
  | ret (v64 : Int) (v65 : Int)
def f46n0E (a1 : List NovateLeg) (a2 : ByteArray) (a3 : ByteArray) : f46n0O → Ex × Tr × Hp
  | .ret v64 v65 => (.ret, mkS [(6, (.pl (.int .i64 v64))), (7, (.pl (.int .i64 v65)))], [])
def f46n0S (a1 : List NovateLeg) (a2 : ByteArray) (a3 : ByteArray) : Tr × Hp := (initS [(.pl (.sl .any 6 (a1.map NovateLeg.cells))), (.pl (.str a2)), (.pl (.str a3))] 0 .leaf, [])
def f46n0 (a1 : List NovateLeg) (a2 : ByteArray) (a3 : ByteArray) : Option f46n0O :=
  (f46n1 a1 a2 a3).bind fun o60 => match o60 with
  | .norm v62 v63 => some (.ret v62 v63)
theorem f46n0_ok (a1 : List NovateLeg) (a2 : ByteArray) (a3 : ByteArray) {o : f46n0O} (h : (f46n0 a1 a2 a3) = some o) : T Try.prog Try.f46.ntmps 0 c46 (f46n0S a1 a2 a3) (fun r => r = f46n0E a1 a2 a3 o) := by
  unfold f46n0 at h
  refine runK_norm cfg_ok (k := 2) (rs := [([], [], []), ([], [], [])]) (ps := []) (tds := []) (m := []) (keep := [0, 1, 2, 8, 9]) (st' := (f46n1S a1 a2 a3)) (by kernel_rfl) an ?_
  obtain ⟨o60, h61, h⟩ := bind_cases h
  cases o60 with
  | norm v62 v63 =>
    refine T.oneN (by kernel_rfl) (f46n1_ok a1 a2 a3 h61) (st2 := (f46n1E a1 a2 a3 (.norm v62 v63)).2) rfl ?_
    obtain rfl := some_inj h
    exact run_end cfg_ok (rs := [([], [], [])]) (ps := []) (tds := []) (m := []) (keep := [6, 7]) (r := (.ret, (f46n0E a1 a2 a3 (.ret v62 v63)).2)) (by kernel_rfl) an rfl
def f46 (a1 : List NovateLeg) (a2 : ByteArray) (a3 : ByteArray) : Option (Int × Int) := (f46n0 a1 a2 a3).bind fun o => match o with
  | .ret v64 v65 => some (v64, v65)
theorem f46_ok (a1 : List NovateLeg) (a2 : ByteArray) (a3 : ByteArray) {r : Int × Int} (h : (f46 a1 a2 a3) = some r) : CallS Try.prog false 46 [(.pl (.sl .any 6 (a1.map NovateLeg.cells))), (.pl (.str a2)), (.pl (.str a3))] [] (.tup [(.pl (.int .i64 r.1)), (.pl (.int .i64 r.2))]) [] := by
  unfold f46 at h
  obtain ⟨o, ho, h⟩ := bind_cases h
  cases o with
  | ret v64 v65 =>
    obtain rfl := some_inj h
    exact CallS.plain cfg_ok (f := Try.f46) (c := c46) (by kernel_rfl) (by kernel_rfl) (by kernel_rfl) (by kernel_rfl) ((f46n0_ok a1 a2 a3 ho).mono fun r e => by subst e; exact ⟨.inl rfl, (.tup [(.pl (.int .i64 v64)), (.pl (.int .i64 v65))]), (.tup [(.pl (.int .i64 v64)), (.pl (.int .i64 v65))]), by kernel_rfl, by kernel_rfl, ((Wk.refl _) : Wk (.tup [(.pl (.int .i64 v64)), (.pl (.int .i64 v65))]) (.tup [(.pl (.int .i64 v64)), (.pl (.int .i64 v65))]))⟩)
/-! ### novation/novationref34.Position -/
noncomputable def c26 : Code := Try.f26.body.getD .skip
inductive f26n0O where
  | ret (v12 : Int) (v13 : Int) (v14 : Int)
def f26n0E (a1 : NovateBook) (a2 : ByteArray) (a3 : ByteArray) : f26n0O → Ex × Tr × Hp
  | .ret v12 v13 v14 => (.ret, mkS [(6, (.pl (.int .i64 v12))), (7, (.pl (.int .i64 v13))), (8, (.pl (.int .i64 v14)))], [])
def f26n0S (a1 : NovateBook) (a2 : ByteArray) (a3 : ByteArray) : Tr × Hp := (initS [(.pl (.agg (NovateBook.cells a1))), (.pl (.str a2)), (.pl (.str a3))] 0 .leaf, [])
def f26n0 (a1 : NovateBook) (a2 : ByteArray) (a3 : ByteArray) : Option f26n0O :=
  (f25 a1).bind fun x6 =>
  (f46 x6.1 a2 a3).bind fun x10 =>
  some (.ret x10.1 x10.2 x6.2)
theorem f26n0_ok (a1 : NovateBook) (a2 : ByteArray) (a3 : ByteArray) {o : f26n0O} (h : (f26n0 a1 a2 a3) = some o) : T Try.prog Try.f26.ntmps 0 c26 (f26n0S a1 a2 a3) (fun r => r = f26n0E a1 a2 a3 o) := by
  unfold f26n0 at h
  obtain ⟨x6, h7, h⟩ := bind_cases h
  obtain ⟨x10, h11, h⟩ := bind_cases h
  obtain rfl := some_inj h
  exact run_end cfg_ok (rs := [([], [], []), ([], [(1, .call (.tup [(.pl (.sl .any 6 (x6.1.map NovateLeg.cells))), (.pl (.int .i64 x6.2))]) [])], []), ([], [(3, .call (.tup [(.pl (.int .i64 x10.1)), (.pl (.int .i64 x10.2))]) [])], []), ([], [], [])]) (ps := []) (tds := []) (m := []) (keep := [6, 7, 8]) (r := (.ret, (f26n0E a1 a2 a3 (.ret x10.1 x10.2 x6.2)).2)) (by kernel_rfl) (ap (f25_ok a1 h7) (ap (f46_ok x6.1 a2 a3 h11) an)) rfl
def f26 (a1 : NovateBook) (a2 : ByteArray) (a3 : ByteArray) : Option (Int × Int × Int) := (f26n0 a1 a2 a3).bind fun o => match o with
  | .ret v12 v13 v14 => some (v12, v13, v14)
theorem f26_ok (a1 : NovateBook) (a2 : ByteArray) (a3 : ByteArray) {r : Int × Int × Int} (h : (f26 a1 a2 a3) = some r) : CallS Try.prog false 26 [(.pl (.agg (NovateBook.cells a1))), (.pl (.str a2)), (.pl (.str a3))] [] (.tup [(.pl (.int .i64 r.1)), (.pl (.int .i64 r.2.1)), (.pl (.int .i64 r.2.2))]) [] := by
  unfold f26 at h
  obtain ⟨o, ho, h⟩ := bind_cases h
  cases o with
  | ret v12 v13 v14 =>
    obtain rfl := some_inj h
    exact CallS.plain cfg_ok (f := Try.f26) (c := c26) (by kernel_rfl) (by kernel_rfl) (by kernel_rfl) (by kernel_rfl) ((f26n0_ok a1 a2 a3 ho).mono fun r e => by subst e; exact ⟨.inl rfl, (.tup [(.pl (.int .i64 v12)), (.pl (.int .i64 v13)), (.pl (.int .i64 v14))]), (.tup [(.pl (.int .i64 v12)), (.pl (.int .i64 v13)), (.pl (.int .i64 v14))]), by kernel_rfl, by kernel_rfl, ((Wk.refl _) : Wk (.tup [(.pl (.int .i64 v12)), (.pl (.int .i64 v13)), (.pl (.int .i64 v14))]) (.tup [(.pl (.int .i64 v12)), (.pl (.int .i64 v13)), (.pl (.int .i64 v14))]))⟩)
/-! ### novation/novate.Agreed -/
noncomputable def c27 : Code := Try.f27.body.getD .skip
inductive f27n2O where
  | exit0 (v58 : Int) (v59 : Int)
def f27n2E (bc1 : ByteArray) (bc2 : ByteArray) (bf3 : NovateBook) : f27n2O → Ex × Tr × Hp
  | .exit0 v58 v59 => ((.exit 0), mkS [(10, (.pl (.int .i64 v58))), (11, (.pl (.int .i64 v59)))], [])
def f27n2S (bc1 : ByteArray) (bc2 : ByteArray) (bf3 : NovateBook) (v41 : Int) (v42 : Int) (v43 : Int) : Tr × Hp := (mkS [(1, (.pl (.str bc1))), (2, (.pl (.str bc2))), (10, (.pl (.int .i64 v41))), (11, (.pl (.int .i64 v42))), (21, (.pl (.sl .any 8 (bf3.Trades.map NovateTrade.cells)))), (22, (.pl (.int .i64 (bf3.Trades.length : Int)))), (23, (.pl (.int .i64 v43)))], [])
def f27n2 : Nat → ByteArray → ByteArray → NovateBook → Int → Int → Int → Option f27n2O
  | 0, _, _, _, _, _, _ => none
  | f + 1, bc1, bc2, bf3, v41, v42, v43 =>
    bif (decide (v43 < (bf3.Trades.length : Int))) then
      (at? bf3.Trades v43).bind fun x52 =>
      bif (decide (x52.Stage = 1)) then
        bif (seq x52.Product bc2) then
          bif (seq x52.Buyer bc1) then
            (f27n2 f bc1 bc2 bf3 (wr64 (v41 + (wr64 (1 * x52.Quantity)))) (wr64 (v42 + (wr64 ((wr64 (1 * x52.Quantity)) * x52.Price)))) (wr64 (v43 + 1)))
          else
            bif (seq x52.Seller bc1) then
              (f27n2 f bc1 bc2 bf3 (wr64 (v41 + (wr64 ((-1) * x52.Quantity)))) (wr64 (v42 + (wr64 ((wr64 ((-1) * x52.Quantity)) * x52.Price)))) (wr64 (v43 + 1)))
            else
              (f27n2 f bc1 bc2 bf3 (wr64 (v41 + (wr64 (0 * x52.Quantity)))) (wr64 (v42 + (wr64 ((wr64 (0 * x52.Quantity)) * x52.Price)))) (wr64 (v43 + 1)))
        else
          (f27n2 f bc1 bc2 bf3 (wr64 (v41 + (wr64 (0 * x52.Quantity)))) (wr64 (v42 + (wr64 ((wr64 (0 * x52.Quantity)) * x52.Price)))) (wr64 (v43 + 1)))
      else
        (f27n2 f bc1 bc2 bf3 (wr64 (v41 + (wr64 (0 * x52.Quantity)))) (wr64 (v42 + (wr64 ((wr64 (0 * x52.Quantity)) * x52.Price)))) (wr64 (v43 + 1)))
    else
      some (.exit0 v41 v42)
theorem f27n2_ok : ∀ (f : Nat) (bc1 : ByteArray) (bc2 : ByteArray) (bf3 : NovateBook) (v41 : Int) (v42 : Int) (v43 : Int) {o : f27n2O}, (f27n2 f bc1 bc2 bf3 v41 v42 v43) = some o → TL Try.prog Try.f27.ntmps 0 f (cL (cL (dropC 1 (cL (dropC 3 c27))))) (f27n2S bc1 bc2 bf3 v41 v42 v43) (fun r => r = f27n2E bc1 bc2 bf3 o)
  | 0, _, _, _, _, _, _, o, h => by rw [f27n2] at h; cases h
  | f + 1, bc1, bc2, bf3, v41, v42, v43, o, h => by
    rw [f27n2] at h
    refine TL.body (K := fun s => ∃ v41 : Int, ∃ v42 : Int, ∃ v43 : Int, s = (f27n2S bc1 bc2 bf3 v41 v42 v43) ∧ (f27n2 f bc1 bc2 bf3 v41 v42 v43) = some o) ?_ (by rintro _ ⟨v41, v42, v43, rfl, hk⟩; exact f27n2_ok f _ _ _ _ _ _ hk)
    rcases cond_cases h with ⟨h45, h⟩ | ⟨h45, h⟩
    · obtain ⟨x52, h53, h⟩ := bind_cases h
      rcases cond_cases h with ⟨h54, h⟩ | ⟨h54, h⟩
      · rcases cond_cases h with ⟨h55, h⟩ | ⟨h55, h⟩
        · rcases cond_cases h with ⟨h56, h⟩ | ⟨h56, h⟩
          · exact run_end cfg_ok (rs := [([], [], []), ([], [(0, .idx (Int.toNat v43) (NovateTrade.cells x52))], []), ([], [], []), ([(4, false), (5, false), (6, false), (7, false)], [(8, .bool false)], []), ([], [], []), ([], [], []), ([], [], []), ([], [], [])]) (ps := [some true, some false, some true]) (tds := []) (m := []) (keep := [1, 2, 10, 11, 21, 22, 23]) (r := (.norm, (f27n2S bc1 bc2 bf3 (wr64 (v41 + (wr64 (1 * x52.Quantity)))) (wr64 (v42 + (wr64 ((wr64 (1 * x52.Quantity)) * x52.Price)))) (wr64 (v43 + 1))))) (by kernel_rfl) (ap h45 (ap (at_some h53).1 (ap (at_map NovateTrade.cells (at_some h53).2) (ap (not_t h54) (ap (not_t h54) (ap (not_t h54) (ap (not_t h54) (ap (not_t h54) (ap (not_t h55) (ap h56 an)))))))))) (LoopQ.norm ⟨(wr64 (v41 + (wr64 (1 * x52.Quantity)))), (wr64 (v42 + (wr64 ((wr64 (1 * x52.Quantity)) * x52.Price)))), (wr64 (v43 + 1)), rfl, h⟩)
          · rcases cond_cases h with ⟨h57, h⟩ | ⟨h57, h⟩
            · exact run_end cfg_ok (rs := [([], [], []), ([], [(0, .idx (Int.toNat v43) (NovateTrade.cells x52))], []), ([], [], []), ([(4, false), (5, false), (6, false), (7, false)], [(8, .bool false)], []), ([], [], []), ([], [], []), ([], [], []), ([], [], []), ([], [], [])]) (ps := [some true, some false, some false, some true]) (tds := []) (m := []) (keep := [1, 2, 10, 11, 21, 22, 23]) (r := (.norm, (f27n2S bc1 bc2 bf3 (wr64 (v41 + (wr64 ((-1) * x52.Quantity)))) (wr64 (v42 + (wr64 ((wr64 ((-1) * x52.Quantity)) * x52.Price)))) (wr64 (v43 + 1))))) (by kernel_rfl) (ap h45 (ap (at_some h53).1 (ap (at_map NovateTrade.cells (at_some h53).2) (ap (not_t h54) (ap (not_t h54) (ap (not_t h54) (ap (not_t h54) (ap (not_t h54) (ap (not_t h55) (ap h56 (ap h57 an))))))))))) (LoopQ.norm ⟨(wr64 (v41 + (wr64 ((-1) * x52.Quantity)))), (wr64 (v42 + (wr64 ((wr64 ((-1) * x52.Quantity)) * x52.Price)))), (wr64 (v43 + 1)), rfl, h⟩)
            · exact run_end cfg_ok (rs := [([], [], []), ([], [(0, .idx (Int.toNat v43) (NovateTrade.cells x52))], []), ([], [], []), ([(4, false), (5, false), (6, false), (7, false)], [(8, .bool false)], []), ([], [], []), ([], [], []), ([], [], []), ([], [], [])]) (ps := [some true, some false, some false, some false]) (tds := []) (m := []) (keep := [1, 2, 10, 11, 21, 22, 23]) (r := (.norm, (f27n2S bc1 bc2 bf3 (wr64 (v41 + (wr64 (0 * x52.Quantity)))) (wr64 (v42 + (wr64 ((wr64 (0 * x52.Quantity)) * x52.Price)))) (wr64 (v43 + 1))))) (by kernel_rfl) (ap h45 (ap (at_some h53).1 (ap (at_map NovateTrade.cells (at_some h53).2) (ap (not_t h54) (ap (not_t h54) (ap (not_t h54) (ap (not_t h54) (ap (not_t h54) (ap (not_t h55) (ap h56 (ap h57 an))))))))))) (LoopQ.norm ⟨(wr64 (v41 + (wr64 (0 * x52.Quantity)))), (wr64 (v42 + (wr64 ((wr64 (0 * x52.Quantity)) * x52.Price)))), (wr64 (v43 + 1)), rfl, h⟩)
        · exact run_end cfg_ok (rs := [([], [], []), ([], [(0, .idx (Int.toNat v43) (NovateTrade.cells x52))], []), ([], [], []), ([(4, false), (5, false), (6, false), (7, false)], [(8, .bool false)], []), ([], [], []), ([], [], [])]) (ps := [some true, some true]) (tds := []) (m := []) (keep := [1, 2, 10, 11, 21, 22, 23]) (r := (.norm, (f27n2S bc1 bc2 bf3 (wr64 (v41 + (wr64 (0 * x52.Quantity)))) (wr64 (v42 + (wr64 ((wr64 (0 * x52.Quantity)) * x52.Price)))) (wr64 (v43 + 1))))) (by kernel_rfl) (ap h45 (ap (at_some h53).1 (ap (at_map NovateTrade.cells (at_some h53).2) (ap (not_t h54) (ap (not_t h54) (ap (not_t h54) (ap (not_t h54) (ap (not_t h54) (ap (not_f h55) an))))))))) (LoopQ.norm ⟨(wr64 (v41 + (wr64 (0 * x52.Quantity)))), (wr64 (v42 + (wr64 ((wr64 (0 * x52.Quantity)) * x52.Price)))), (wr64 (v43 + 1)), rfl, h⟩)
      · exact run_end cfg_ok (rs := [([], [], []), ([], [(0, .idx (Int.toNat v43) (NovateTrade.cells x52))], []), ([], [], []), ([(4, true), (5, true), (6, true), (7, true)], [(8, .bool true)], []), ([], [], []), ([], [], [])]) (ps := [some true, none]) (tds := []) (m := []) (keep := [1, 2, 10, 11, 21, 22, 23]) (r := (.norm, (f27n2S bc1 bc2 bf3 (wr64 (v41 + (wr64 (0 * x52.Quantity)))) (wr64 (v42 + (wr64 ((wr64 (0 * x52.Quantity)) * x52.Price)))) (wr64 (v43 + 1))))) (by kernel_rfl) (ap h45 (ap (at_some h53).1 (ap (at_map NovateTrade.cells (at_some h53).2) (ap (not_f h54) (ap (not_f h54) (ap (not_f h54) (ap (not_f h54) (ap (not_f h54) an)))))))) (LoopQ.norm ⟨(wr64 (v41 + (wr64 (0 * x52.Quantity)))), (wr64 (v42 + (wr64 ((wr64 (0 * x52.Quantity)) * x52.Price)))), (wr64 (v43 + 1)), rfl, h⟩)
    · obtain rfl := some_inj h
      exact runK_end cfg_ok (k := 2) (rs := [([], [], [])]) (ps := [some false]) (tds := []) (m := []) (keep := [10, 11]) (ex := (.exit 0)) (st' := (f27n2E bc1 bc2 bf3 (.exit0 v41 v42)).2) (by kernel_rfl) (ap h45 an) (fun h => nomatch h) (LoopQ.out rfl rfl)
def f27n2L (bc1 : ByteArray) (bc2 : ByteArray) (bf3 : NovateBook) : List NovateTrade → Int → Int → Int → Option f27n2O
  | [], v41, v42, v43 =>
    some (.exit0 v41 v42)
  | x0 :: rest, v41, v42, v43 =>
    bif (decide (x0.Stage = 1)) then
      bif (seq x0.Product bc2) then
        bif (seq x0.Buyer bc1) then
          (f27n2L bc1 bc2 bf3 rest (wr64 (v41 + (wr64 (1 * x0.Quantity)))) (wr64 (v42 + (wr64 ((wr64 (1 * x0.Quantity)) * x0.Price)))) (v43 + 1))
        else
          bif (seq x0.Seller bc1) then
            (f27n2L bc1 bc2 bf3 rest (wr64 (v41 + (wr64 ((-1) * x0.Quantity)))) (wr64 (v42 + (wr64 ((wr64 ((-1) * x0.Quantity)) * x0.Price)))) (v43 + 1))
          else
            (f27n2L bc1 bc2 bf3 rest (wr64 (v41 + (wr64 (0 * x0.Quantity)))) (wr64 (v42 + (wr64 ((wr64 (0 * x0.Quantity)) * x0.Price)))) (v43 + 1))
      else
        (f27n2L bc1 bc2 bf3 rest (wr64 (v41 + (wr64 (0 * x0.Quantity)))) (wr64 (v42 + (wr64 ((wr64 (0 * x0.Quantity)) * x0.Price)))) (v43 + 1))
    else
      (f27n2L bc1 bc2 bf3 rest (wr64 (v41 + (wr64 (0 * x0.Quantity)))) (wr64 (v42 + (wr64 ((wr64 (0 * x0.Quantity)) * x0.Price)))) (v43 + 1))
theorem f27n2L_eq (bc1 : ByteArray) (bc2 : ByteArray) (bf3 : NovateBook) : ∀ (rest : List NovateTrade) (f k : Nat) (v41 : Int) (v42 : Int), bf3.Trades.drop k = rest → bf3.Trades.length ≤ maxLen → rest.length < f → f27n2 f bc1 bc2 bf3 v41 v42 (k : Int) = f27n2L bc1 bc2 bf3 rest v41 v42 (k : Int)
  | _, 0, _, _, _, _, _, hf => absurd hf (Nat.not_lt_zero _)
  | [], f + 1, k, v41, v42, hd, hm, hf => by
    have hk : ¬ ((k : Int) < (bf3.Trades.length : Int)) := by have := drop_nil hd; omega
    rw [f27n2, f27n2L]
    simp only [decide_eq_false hk, cond_false]
  | x0 :: rest, f + 1, k, v41, v42, hd, hm, hf => by
    obtain ⟨hx, hlt, hd'⟩ := drop_cons hd
    have hk : (k : Int) < (bf3.Trades.length : Int) := by omega
    have hw : wr64 ((k : Int) + 1) = (k : Int) + 1 := wr64_of (by omega) (by unfold maxLen at hm; omega)
    have ih : ∀ (v41 : Int) (v42 : Int), f27n2 f bc1 bc2 bf3 v41 v42 ((k : Int) + 1) = f27n2L bc1 bc2 bf3 rest v41 v42 ((k : Int) + 1) := fun v41 v42 => f27n2L_eq bc1 bc2 bf3 rest f (k + 1) v41 v42 hd' hm (by simpa using hf)
    rw [f27n2, f27n2L]
    simp only [decide_eq_true hk, cond_true, at_nat, hx, Option.bind_some, hw, ih]
theorem f27n2_run (bc1 : ByteArray) (bc2 : ByteArray) (bf3 : NovateBook) (v41 : Int) (v42 : Int) (hm : bf3.Trades.length ≤ maxLen) : f27n2 FUEL bc1 bc2 bf3 v41 v42 0 = f27n2L bc1 bc2 bf3 bf3.Trades v41 v42 0 := f27n2L_eq bc1 bc2 bf3 bf3.Trades FUEL 0 v41 v42 List.drop_zero hm (lt_FUEL hm)
inductive f27n1O where
  | norm (v64 : Int) (v65 : Int)
def f27n1E (bc1 : ByteArray) (bc2 : ByteArray) (bf3 : NovateBook) : f27n1O → Ex × Tr × Hp
  | .norm v64 v65 => (.norm, mkS [(10, (.pl (.int .i64 v64))), (11, (.pl (.int .i64 v65)))], [])
def f27n1S (bc1 : ByteArray) (bc2 : ByteArray) (bf3 : NovateBook) : Tr × Hp := (mkS [(1, (.pl (.str bc1))), (2, (.pl (.str bc2))), (3, (.bp 0 0)), (10, (.pl (.int .i64 0))), (11, (.pl (.int .i64 0)))], [some (.box ((NovateBook.cells bf3).map .pl))])
def f27n1 (bc1 : ByteArray) (bc2 : ByteArray) (bf3 : NovateBook) : Option f27n1O :=
  (f27n2 FUEL bc1 bc2 bf3 0 0 0).bind fun o60 => match o60 with
  | .exit0 v62 v63 => some (.norm v62 v63)
theorem f27n1_ok (bc1 : ByteArray) (bc2 : ByteArray) (bf3 : NovateBook) {o : f27n1O} (h : (f27n1 bc1 bc2 bf3) = some o) : T Try.prog Try.f27.ntmps 0 (cL (dropC 3 c27)) (f27n1S bc1 bc2 bf3) (fun r => r = f27n1E bc1 bc2 bf3 o) := by
  unfold f27n1 at h
  refine runK_norm cfg_ok (k := 1) (rs := [([], [], [(2, .val (.pl (.int .i64 (bf3.Trades.length : Int))))])]) (ps := []) (tds := []) (m := []) (keep := [1, 2, 10, 11, 21, 22, 23]) (st' := (f27n2S bc1 bc2 bf3 0 0 0)) (by kernel_rfl) (ap (len_cv (xs := bf3.Trades) (c := NovateTrade.cells)) an) ?_
  obtain ⟨o60, h61, h⟩ := bind_cases h
  cases o60 with
  | exit0 v62 v63 =>
    obtain rfl := some_inj h
    exact T.last' (T.bl (i := 0) (by kernel_rfl) (by kernel_rfl) (f27n2_ok FUEL bc1 bc2 bf3 0 0 0 h61)) (tds := []) (m := []) (keep := [10, 11]) (st2 := (f27n1E bc1 bc2 bf3 (.norm v62 v63)).2) (by kernel_rfl) an rfl
inductive f27n0O where
  | ret (v70 : Int) (v71 : Int) (v72 : Int)
def f27n0E (a1 : NovateBook) (a2 : ByteArray) (a3 : ByteArray) : f27n0O → Ex × Tr × Hp
  | .ret v70 v71 v72 => (.ret, mkS [(6, (.pl (.int .i64 v70))), (7, (.pl (.int .i64 v71))), (8, (.pl (.int .i64 v72)))], [])
def f27n0S (a1 : NovateBook) (a2 : ByteArray) (a3 : ByteArray) : Tr × Hp := (initS [(.pl (.agg (NovateBook.cells a1))), (.pl (.str a2)), (.pl (.str a3))] 0 .leaf, [])
def f27n0 (a1 : NovateBook) (a2 : ByteArray) (a3 : ByteArray) : Option f27n0O :=
  (f13 a1).bind fun x7 =>
  bif (decide (x7 = 0)) then
    (f27n1 a2 a3 a1).bind fun o66 => match o66 with
    | .norm v68 v69 => some (.ret v68 v69 0)
  else
    some (.ret 0 0 x7)
theorem f27n0_ok (a1 : NovateBook) (a2 : ByteArray) (a3 : ByteArray) {o : f27n0O} (h : (f27n0 a1 a2 a3) = some o) : T Try.prog Try.f27.ntmps 0 c27 (f27n0S a1 a2 a3) (fun r => r = f27n0E a1 a2 a3 o) := by
  unfold f27n0 at h
  obtain ⟨x7, h8, h⟩ := bind_cases h
  rcases cond_cases h with ⟨h9, h⟩ | ⟨h9, h⟩
  · refine runK_norm cfg_ok (k := 3) (rs := [([], [], []), ([], [(1, .call (.pl (.int .i64 x7)) [])], []), ([], [], []), ([], [], [])]) (ps := [some false]) (tds := []) (m := [0]) (keep := [1, 2, 3, 10, 11]) (st' := (f27n1S a2 a3 a1)) (by kernel_rfl) (ap (f13_ok a1 h8) (ap (not_t h9) an)) ?_
    obtain ⟨o66, h67, h⟩ := bind_cases h
    cases o66 with
    | norm v68 v69 =>
      refine T.oneN (by kernel_rfl) (f27n1_ok a2 a3 a1 h67) (st2 := (f27n1E a2 a3 a1 (.norm v68 v69)).2) rfl ?_
      obtain rfl := some_inj h
      exact run_end cfg_ok (rs := [([], [], [])]) (ps := []) (tds := []) (m := []) (keep := [6, 7, 8]) (r := (.ret, (f27n0E a1 a2 a3 (.ret v68 v69 0)).2)) (by kernel_rfl) an rfl
  · obtain rfl := some_inj h
    exact runK_end cfg_ok (k := 2) (rs := [([], [], []), ([], [(1, .call (.pl (.int .i64 x7)) [])], []), ([], [], []), ([], [], [])]) (ps := [some true]) (tds := []) (m := []) (keep := [6, 7, 8]) (ex := .ret) (st' := (f27n0E a1 a2 a3 (.ret 0 0 x7)).2) (by kernel_rfl) (ap (f13_ok a1 h8) (ap (not_f h9) an)) (fun h => nomatch h) rfl
def f27 (a1 : NovateBook) (a2 : ByteArray) (a3 : ByteArray) : Option (Int × Int × Int) := (f27n0 a1 a2 a3).bind fun o => match o with
  | .ret v70 v71 v72 => some (v70, v71, v72)
theorem f27_ok (a1 : NovateBook) (a2 : ByteArray) (a3 : ByteArray) {r : Int × Int × Int} (h : (f27 a1 a2 a3) = some r) : CallS Try.prog false 27 [(.pl (.agg (NovateBook.cells a1))), (.pl (.str a2)), (.pl (.str a3))] [] (.tup [(.pl (.int .i64 r.1)), (.pl (.int .i64 r.2.1)), (.pl (.int .i64 r.2.2))]) [] := by
  unfold f27 at h
  obtain ⟨o, ho, h⟩ := bind_cases h
  cases o with
  | ret v70 v71 v72 =>
    obtain rfl := some_inj h
    exact CallS.plain cfg_ok (f := Try.f27) (c := c27) (by kernel_rfl) (by kernel_rfl) (by kernel_rfl) (by kernel_rfl) ((f27n0_ok a1 a2 a3 ho).mono fun r e => by subst e; exact ⟨.inl rfl, (.tup [(.pl (.int .i64 v70)), (.pl (.int .i64 v71)), (.pl (.int .i64 v72))]), (.tup [(.pl (.int .i64 v70)), (.pl (.int .i64 v71)), (.pl (.int .i64 v72))]), by kernel_rfl, by kernel_rfl, ((Wk.refl _) : Wk (.tup [(.pl (.int .i64 v70)), (.pl (.int .i64 v71)), (.pl (.int .i64 v72))]) (.tup [(.pl (.int .i64 v70)), (.pl (.int .i64 v71)), (.pl (.int .i64 v72))]))⟩)
/-! ### novation/novationref34.Agreed -/
noncomputable def c28 : Code := Try.f28.body.getD .skip
inductive f28n2O where
  | exit0 (v42 : List NovateLeg)
def f28n2E (bc1 : ByteArray) (bc2 : ByteArray) (bf3 : NovateBook) : f28n2O → Ex × Tr × Hp
  | .exit0 v42 => ((.exit 0), mkS [(1, (.pl (.str bc1))), (2, (.pl (.str bc2))), (9, (.own 0))], [some (.row false 6 (v42.map NovateLeg.cells))])
def f28n2S (bc1 : ByteArray) (bc2 : ByteArray) (bf3 : NovateBook) (v30 : Int) (v31 : List NovateLeg) : Tr × Hp := (mkS [(1, (.pl (.str bc1))), (2, (.pl (.str bc2))), (3, (.bp 0 0)), (9, (.own 1)), (10, (.pl (.int .i64 v30)))], [some (.box ((NovateBook.cells bf3).map .pl)), some (.row false 6 (v31.map NovateLeg.cells))])
def f28n2 : Nat → ByteArray → ByteArray → NovateBook → Int → List NovateLeg → Option f28n2O
  | 0, _, _, _, _, _ => none
  | f + 1, bc1, bc2, bf3, v30, v31 =>
    bif (decide (v30 < (bf3.Trades.length : Int))) then
      (at? bf3.Trades v30).bind fun x38 =>
      bif (decide (x38.Stage = 1)) then
        req (fit (v31.length + 1) 72) <|
        (f28n2 f bc1 bc2 bf3 (wr64 (v30 + 1)) (v31 ++ [(NovateLeg.mk 0 x38.Buyer x38.Seller x38.Product x38.Quantity x38.Price)]))
      else
        (f28n2 f bc1 bc2 bf3 (wr64 (v30 + 1)) v31)
    else
      some (.exit0 v31)
theorem f28n2_ok : ∀ (f : Nat) (bc1 : ByteArray) (bc2 : ByteArray) (bf3 : NovateBook) (v30 : Int) (v31 : List NovateLeg) {o : f28n2O}, (f28n2 f bc1 bc2 bf3 v30 v31) = some o → TL Try.prog Try.f28.ntmps 0 f (cL (cL (dropC 1 (cL (dropC 3 c28))))) (f28n2S bc1 bc2 bf3 v30 v31) (fun r => r = f28n2E bc1 bc2 bf3 o)
  | 0, _, _, _, _, _, o, h => by rw [f28n2] at h; cases h
  | f + 1, bc1, bc2, bf3, v30, v31, o, h => by
    rw [f28n2] at h
    refine TL.body (K := fun s => ∃ v30 : Int, ∃ v31 : List NovateLeg, s = (f28n2S bc1 bc2 bf3 v30 v31) ∧ (f28n2 f bc1 bc2 bf3 v30 v31) = some o) ?_ (by rintro _ ⟨v30, v31, rfl, hk⟩; exact f28n2_ok f _ _ _ _ _ hk)
    rcases cond_cases h with ⟨h33, h⟩ | ⟨h33, h⟩
    · obtain ⟨x38, h39, h⟩ := bind_cases h
      rcases cond_cases h with ⟨h40, h⟩ | ⟨h40, h⟩
      · obtain ⟨h41, h⟩ := req_cases h
        exact run_end cfg_ok (rs := [([], [], [(3, .val (.pl (.int .i64 (bf3.Trades.length : Int))))]), ([], [(3, .idx (Int.toNat v30) (NovateTrade.cells x38))], []), ([], [], []), ([], [(13, .fits)], [(13, .row 4 ((v31 ++ [(NovateLeg.mk 0 x38.Buyer x38.Seller x38.Product x38.Quantity x38.Price)]).map NovateLeg.cells))]), ([], [], [])]) (ps := [some true, some true]) (tds := []) (m := [0, 4]) (keep := [1, 2, 3, 9, 10]) (r := (.norm, (f28n2S bc1 bc2 bf3 (wr64 (v30 + 1)) (v31 ++ [(NovateLeg.mk 0 x38.Buyer x38.Seller x38.Product x38.Quantity x38.Price)])))) (by kernel_rfl) (ap (len_cv (xs := bf3.Trades) (c := NovateTrade.cells)) (ap h33 (ap (at_some h39).1 (ap (at_map NovateTrade.cells (at_some h39).2) (ap h40 (ap (fit_map (te := ti32) (xs := v31) (n := 1) (c := NovateLeg.cells) h41 rfl) (ap (app_cv (xs := v31) (ys := [(NovateLeg.mk 0 x38.Buyer x38.Seller x38.Product x38.Quantity x38.Price)]) (c := NovateLeg.cells)) an))))))) (LoopQ.norm ⟨(wr64 (v30 + 1)), (v31 ++ [(NovateLeg.mk 0 x38.Buyer x38.Seller x38.Product x38.Quantity x38.Price)]), rfl, h⟩)
      · exact run_end cfg_ok (rs := [([], [], [(3, .val (.pl (.int .i64 (bf3.Trades.length : Int))))]), ([], [(3, .idx (Int.toNat v30) (NovateTrade.cells x38))], []), ([], [], []), ([], [], [])]) (ps := [some true, some false]) (tds := []) (m := [0, 1]) (keep := [1, 2, 3, 9, 10]) (r := (.norm, (f28n2S bc1 bc2 bf3 (wr64 (v30 + 1)) v31))) (by kernel_rfl) (ap (len_cv (xs := bf3.Trades) (c := NovateTrade.cells)) (ap h33 (ap (at_some h39).1 (ap (at_map NovateTrade.cells (at_some h39).2) (ap h40 an))))) (LoopQ.norm ⟨(wr64 (v30 + 1)), v31, rfl, h⟩)
    · obtain rfl := some_inj h
      exact runK_end cfg_ok (k := 1) (rs := [([], [], [(3, .val (.pl (.int .i64 (bf3.Trades.length : Int))))])]) (ps := [some false]) (tds := []) (m := [1]) (keep := [1, 2, 9]) (ex := (.exit 0)) (st' := (f28n2E bc1 bc2 bf3 (.exit0 v31)).2) (by kernel_rfl) (ap (len_cv (xs := bf3.Trades) (c := NovateTrade.cells)) (ap h33 an)) (fun h => nomatch h) (LoopQ.out rfl rfl)
def f28n2L (bc1 : ByteArray) (bc2 : ByteArray) (bf3 : NovateBook) : List NovateTrade → Int → (List NovateLeg) → Option f28n2O
  | [], v30, v31 =>
    some (.exit0 v31)
  | x0 :: rest, v30, v31 =>
    bif (decide (x0.Stage = 1)) then
      req (fit (v31.length + 1) 72) <|
      (f28n2L bc1 bc2 bf3 rest (v30 + 1) (v31 ++ [(NovateLeg.mk 0 x0.Buyer x0.Seller x0.Product x0.Quantity x0.Price)]))
    else
      (f28n2L bc1 bc2 bf3 rest (v30 + 1) v31)
theorem f28n2L_eq (bc1 : ByteArray) (bc2 : ByteArray) (bf3 : NovateBook) : ∀ (rest : List NovateTrade) (f k : Nat) (v31 : List NovateLeg), bf3.Trades.drop k = rest → bf3.Trades.length ≤ maxLen → rest.length < f → f28n2 f bc1 bc2 bf3 (k : Int) v31 = f28n2L bc1 bc2 bf3 rest (k : Int) v31
  | _, 0, _, _, _, _, hf => absurd hf (Nat.not_lt_zero _)
  | [], f + 1, k, v31, hd, hm, hf => by
    have hk : ¬ ((k : Int) < (bf3.Trades.length : Int)) := by have := drop_nil hd; omega
    rw [f28n2, f28n2L]
    simp only [decide_eq_false hk, cond_false]
  | x0 :: rest, f + 1, k, v31, hd, hm, hf => by
    obtain ⟨hx, hlt, hd'⟩ := drop_cons hd
    have hk : (k : Int) < (bf3.Trades.length : Int) := by omega
    have hw : wr64 ((k : Int) + 1) = (k : Int) + 1 := wr64_of (by omega) (by unfold maxLen at hm; omega)
    have ih : ∀ (v31 : List NovateLeg), f28n2 f bc1 bc2 bf3 ((k : Int) + 1) v31 = f28n2L bc1 bc2 bf3 rest ((k : Int) + 1) v31 := fun v31 => f28n2L_eq bc1 bc2 bf3 rest f (k + 1) v31 hd' hm (by simpa using hf)
    rw [f28n2, f28n2L]
    simp only [decide_eq_true hk, cond_true, at_nat, hx, Option.bind_some, hw, ih]
theorem f28n2_run (bc1 : ByteArray) (bc2 : ByteArray) (bf3 : NovateBook) (v31 : List NovateLeg) (hm : bf3.Trades.length ≤ maxLen) : f28n2 FUEL bc1 bc2 bf3 0 v31 = f28n2L bc1 bc2 bf3 bf3.Trades 0 v31 := f28n2L_eq bc1 bc2 bf3 bf3.Trades FUEL 0 v31 List.drop_zero hm (lt_FUEL hm)
inductive f28n1O where
  | norm (v46 : List NovateLeg)
def f28n1E (bc1 : ByteArray) (bc2 : ByteArray) (bf3 : NovateBook) : f28n1O → Ex × Tr × Hp
  | .norm v46 => (.norm, mkS [(1, (.pl (.str bc1))), (2, (.pl (.str bc2))), (9, (.own 0))], [some (.row false 6 (v46.map NovateLeg.cells))])
def f28n1S (bc1 : ByteArray) (bc2 : ByteArray) (bf3 : NovateBook) : Tr × Hp := (mkS [(1, (.pl (.str bc1))), (2, (.pl (.str bc2))), (3, (.bp 0 0)), (9, (.pl (.sl .nil 0 [])))], [some (.box ((NovateBook.cells bf3).map .pl))])
def f28n1 (bc1 : ByteArray) (bc2 : ByteArray) (bf3 : NovateBook) : Option f28n1O :=
  (f28n2 FUEL bc1 bc2 bf3 0 []).bind fun o43 => match o43 with
  | .exit0 v45 => some (.norm v45)
theorem f28n1_ok (bc1 : ByteArray) (bc2 : ByteArray) (bf3 : NovateBook) {o : f28n1O} (h : (f28n1 bc1 bc2 bf3) = some o) : T Try.prog Try.f28.ntmps 0 (cL (dropC 3 c28)) (f28n1S bc1 bc2 bf3) (fun r => r = f28n1E bc1 bc2 bf3 o) := by
  unfold f28n1 at h
  refine runK_norm cfg_ok (k := 1) (rs := [([], [], [])]) (ps := []) (tds := [.mat 9 6]) (m := [0, 1]) (keep := [1, 2, 3, 9, 10]) (st' := (f28n2S bc1 bc2 bf3 0 [])) (by kernel_rfl) an ?_
  obtain ⟨o43, h44, h⟩ := bind_cases h
  cases o43 with
  | exit0 v45 =>
    obtain rfl := some_inj h
    exact T.last' (T.bl (i := 0) (by kernel_rfl) (by kernel_rfl) (f28n2_ok FUEL bc1 bc2 bf3 0 [] h44)) (tds := []) (m := [0]) (keep := [1, 2, 9]) (st2 := (f28n1E bc1 bc2 bf3 (.norm v45)).2) (by kernel_rfl) an rfl
inductive f28n0O where
  | ret (v54 : Int) (v55 : Int) (v56 : Int)
def f28n0E (a1 : NovateBook) (a2 : ByteArray) (a3 : ByteArray) : f28n0O → Ex × Tr × Hp
  | .ret v54 v55 v56 => (.ret, mkS [(6, (.pl (.int .i64 v54))), (7, (.pl (.int .i64 v55))), (8, (.pl (.int .i64 v56)))], [])
def f28n0S (a1 : NovateBook) (a2 : ByteArray) (a3 : ByteArray) : Tr × Hp := (initS [(.pl (.agg (NovateBook.cells a1))), (.pl (.str a2)), (.pl (.str a3))] 0 .leaf, [])
def f28n0 (a1 : NovateBook) (a2 : ByteArray) (a3 : ByteArray) : Option f28n0O :=
  (f30 a1).bind fun x7 =>
  bif (decide (x7 = 0)) then
    (f28n1 a2 a3 a1).bind fun o47 => match o47 with
    | .norm v49 => (f46 v49 a2 a3).bind fun x52 =>
      some (.ret x52.1 x52.2 0)
  else
    some (.ret 0 0 8)
theorem f28n0_ok (a1 : NovateBook) (a2 : ByteArray) (a3 : ByteArray) {o : f28n0O} (h : (f28n0 a1 a2 a3) = some o) : T Try.prog Try.f28.ntmps 0 c28 (f28n0S a1 a2 a3) (fun r => r = f28n0E a1 a2 a3 o) := by
  unfold f28n0 at h
  obtain ⟨x7, h8, h⟩ := bind_cases h
  rcases cond_cases h with ⟨h9, h⟩ | ⟨h9, h⟩
  · refine runK_norm cfg_ok (k := 3) (rs := [([], [], []), ([], [(1, .call (.pl (.int .i64 x7)) [])], []), ([], [], [])]) (ps := [some false]) (tds := []) (m := [0]) (keep := [1, 2, 3, 9]) (st' := (f28n1S a2 a3 a1)) (by kernel_rfl) (ap (f30_ok a1 h8) (ap (not_t h9) an)) ?_
    obtain ⟨o47, h48, h⟩ := bind_cases h
    cases o47 with
    | norm v49 =>
      refine T.oneN (by kernel_rfl) (f28n1_ok a2 a3 a1 h48) (st2 := (f28n1E a2 a3 a1 (.norm v49)).2) rfl ?_
      obtain ⟨x52, h53, h⟩ := bind_cases h
      obtain rfl := some_inj h
      exact run_end cfg_ok (rs := [([], [(3, .call (.tup [(.pl (.int .i64 x52.1)), (.pl (.int .i64 x52.2))]) [])], []), ([], [], [])]) (ps := []) (tds := []) (m := []) (keep := [6, 7, 8]) (r := (.ret, (f28n0E a1 a2 a3 (.ret x52.1 x52.2 0)).2)) (by kernel_rfl) (ap (f46_ok v49 a2 a3 h53) an) rfl
  · obtain rfl := some_inj h
    exact runK_end cfg_ok (k := 2) (rs := [([], [], []), ([], [(1, .call (.pl (.int .i64 x7)) [])], []), ([], [], [])]) (ps := [some true]) (tds := []) (m := []) (keep := [6, 7, 8]) (ex := .ret) (st' := (f28n0E a1 a2 a3 (.ret 0 0 8)).2) (by kernel_rfl) (ap (f30_ok a1 h8) (ap (not_f h9) an)) (fun h => nomatch h) rfl
def f28 (a1 : NovateBook) (a2 : ByteArray) (a3 : ByteArray) : Option (Int × Int × Int) := (f28n0 a1 a2 a3).bind fun o => match o with
  | .ret v54 v55 v56 => some (v54, v55, v56)
theorem f28_ok (a1 : NovateBook) (a2 : ByteArray) (a3 : ByteArray) {r : Int × Int × Int} (h : (f28 a1 a2 a3) = some r) : CallS Try.prog false 28 [(.pl (.agg (NovateBook.cells a1))), (.pl (.str a2)), (.pl (.str a3))] [] (.tup [(.pl (.int .i64 r.1)), (.pl (.int .i64 r.2.1)), (.pl (.int .i64 r.2.2))]) [] := by
  unfold f28 at h
  obtain ⟨o, ho, h⟩ := bind_cases h
  cases o with
  | ret v54 v55 v56 =>
    obtain rfl := some_inj h
    exact CallS.plain cfg_ok (f := Try.f28) (c := c28) (by kernel_rfl) (by kernel_rfl) (by kernel_rfl) (by kernel_rfl) ((f28n0_ok a1 a2 a3 ho).mono fun r e => by subst e; exact ⟨.inl rfl, (.tup [(.pl (.int .i64 v54)), (.pl (.int .i64 v55)), (.pl (.int .i64 v56))]), (.tup [(.pl (.int .i64 v54)), (.pl (.int .i64 v55)), (.pl (.int .i64 v56))]), by kernel_rfl, by kernel_rfl, ((Wk.refl _) : Wk (.tup [(.pl (.int .i64 v54)), (.pl (.int .i64 v55)), (.pl (.int .i64 v56))]) (.tup [(.pl (.int .i64 v54)), (.pl (.int .i64 v55)), (.pl (.int .i64 v56))]))⟩)
/-! ### novation/novationref34.Same -/
noncomputable def c22 : Code := Try.f22.body.getD .skip
inductive f22r1n2O where
  | exit0
  | ret
def f22r1n2E (ba1 : List NovateTrade) (bf2 : NovateBook) : f22r1n2O → Ex × Tr × Hp
  | .exit0 => ((.exit 0), mkS [], [none, none, none, none, none, none, some (.row false 8 (ba1.map NovateTrade.cells)), none, none])
  | .ret => (.ret, mkS [(4, (.pl (.bool false)))], [none, none, none, none, none, none, some (.row false 8 (ba1.map NovateTrade.cells)), none, none])
def f22r1n2S (ba1 : List NovateTrade) (bf2 : NovateBook) (v30 : Int) : Tr × Hp := (mkS [(2, (.bp 9 0)), (3, (.bp 10 0)), (5, (.pl (.int .i64 v30)))], [none, none, none, none, none, none, some (.row false 8 (ba1.map NovateTrade.cells)), none, none, some (.box [(.own 6)]), some (.box ((NovateBook.cells bf2).map .pl))])
def f22r1n2 : Nat → List NovateTrade → NovateBook → Int → Option f22r1n2O
  | 0, _, _, _ => none
  | f + 1, ba1, bf2, v30 =>
    bif (decide (v30 < (ba1.length : Int))) then
      (at? ba1 v30).bind fun x38 =>
      (at? bf2.Trades v30).bind fun x40 =>
      bif (NovateTrade.eqb x38 x40) then
        (f22r1n2 f ba1 bf2 (wr64 (v30 + 1)))
      else
        some .ret
    else
      some .exit0
theorem f22r1n2_ok : ∀ (f : Nat) (ba1 : List NovateTrade) (bf2 : NovateBook) (v30 : Int) {o : f22r1n2O}, (f22r1n2 f ba1 bf2 v30) = some o → TL Try.prog Try.f22.ntmps 9 f (cL (cL (dropC 1 (cL (dropC 2 c22))))) (f22r1n2S ba1 bf2 v30) (fun r => r = f22r1n2E ba1 bf2 o)
  | 0, _, _, _, o, h => by rw [f22r1n2] at h; cases h
  | f + 1, ba1, bf2, v30, o, h => by
    rw [f22r1n2] at h
    refine TL.body (K := fun s => ∃ v30 : Int, s = (f22r1n2S ba1 bf2 v30) ∧ (f22r1n2 f ba1 bf2 v30) = some o) ?_ (by rintro _ ⟨v30, rfl, hk⟩; exact f22r1n2_ok f _ _ _ hk)
    rcases cond_cases h with ⟨h32, h⟩ | ⟨h32, h⟩
    · obtain ⟨x38, h39, h⟩ := bind_cases h
      obtain ⟨x40, h41, h⟩ := bind_cases h
      rcases cond_cases h with ⟨h42, h⟩ | ⟨h42, h⟩
      · exact run_end cfg_ok (rs := [([], [], [(3, .val (.pl (.int .i64 (ba1.length : Int))))]), ([], [(3, .at_ (Int.toNat v30)), (4, .idx 0 (NovateTrade.cells x38)), (8, .idx (Int.toNat v30) (NovateTrade.cells x40)), (10, .bool (NovateTrade.eqb x38 x40))], []), ([], [], [])]) (ps := [some true, some false]) (tds := []) (m := [9, 10]) (keep := [2, 3, 5]) (r := (.norm, (f22r1n2S ba1 bf2 (wr64 (v30 + 1))))) (by kernel_rfl) (ap (len_cv (xs := ba1) (c := NovateTrade.cells)) (ap h32 (ap (at_some h39).1 (ap (lt_map NovateTrade.cells (at_some h39).2) (ap (at_map NovateTrade.cells (at_some h39).2) (ap (at_some h41).1 (ap (at_map NovateTrade.cells (at_some h41).2) (ap (NovateTrade.eqb_ok x38 x40) (ap (not_t h42) an))))))))) (LoopQ.norm ⟨(wr64 (v30 + 1)), rfl, h⟩)
      · obtain rfl := some_inj h
        exact runK_end cfg_ok (k := 2) (rs := [([], [], [(3, .val (.pl (.int .i64 (ba1.length : Int))))]), ([], [(3, .at_ (Int.toNat v30)), (4, .idx 0 (NovateTrade.cells x38)), (8, .idx (Int.toNat v30) (NovateTrade.cells x40)), (10, .bool (NovateTrade.eqb x38 x40))], []), ([], [], [])]) (ps := [some true, some true]) (tds := []) (m := []) (keep := [4]) (ex := .ret) (st' := (f22r1n2E ba1 bf2 .ret).2) (by kernel_rfl) (ap (len_cv (xs := ba1) (c := NovateTrade.cells)) (ap h32 (ap (at_some h39).1 (ap (lt_map NovateTrade.cells (at_some h39).2) (ap (at_map NovateTrade.cells (at_some h39).2) (ap (at_some h41).1 (ap (at_map NovateTrade.cells (at_some h41).2) (ap (NovateTrade.eqb_ok x38 x40) (ap (not_f h42) an))))))))) (fun h => nomatch h) (LoopQ.out rfl rfl)
    · obtain rfl := some_inj h
      exact runK_end cfg_ok (k := 1) (rs := [([], [], [(3, .val (.pl (.int .i64 (ba1.length : Int))))])]) (ps := [some false]) (tds := []) (m := []) (keep := []) (ex := (.exit 0)) (st' := (f22r1n2E ba1 bf2 .exit0).2) (by kernel_rfl) (ap (len_cv (xs := ba1) (c := NovateTrade.cells)) (ap h32 an)) (fun h => nomatch h) (LoopQ.out rfl rfl)
def f22r1n2L (ba1 : List NovateTrade) (bf2 : NovateBook) : List NovateTrade → Int → Option f22r1n2O
  | [], v30 =>
    some .exit0
  | x0 :: rest, v30 =>
    (at? bf2.Trades v30).bind fun x40 =>
    bif (NovateTrade.eqb x0 x40) then
      (f22r1n2L ba1 bf2 rest (v30 + 1))
    else
      some .ret
theorem f22r1n2L_eq (ba1 : List NovateTrade) (bf2 : NovateBook) : ∀ (rest : List NovateTrade) (f k : Nat), ba1.drop k = rest → ba1.length ≤ maxLen → rest.length < f → f22r1n2 f ba1 bf2 (k : Int) = f22r1n2L ba1 bf2 rest (k : Int)
  | _, 0, _, _, _, hf => absurd hf (Nat.not_lt_zero _)
  | [], f + 1, k, hd, hm, hf => by
    have hk : ¬ ((k : Int) < (ba1.length : Int)) := by have := drop_nil hd; omega
    rw [f22r1n2, f22r1n2L]
    simp only [decide_eq_false hk, cond_false]
  | x0 :: rest, f + 1, k, hd, hm, hf => by
    obtain ⟨hx, hlt, hd'⟩ := drop_cons hd
    have hk : (k : Int) < (ba1.length : Int) := by omega
    have hw : wr64 ((k : Int) + 1) = (k : Int) + 1 := wr64_of (by omega) (by unfold maxLen at hm; omega)
    have ih : f22r1n2 f ba1 bf2 ((k : Int) + 1) = f22r1n2L ba1 bf2 rest ((k : Int) + 1) := f22r1n2L_eq ba1 bf2 rest f (k + 1) hd' hm (by simpa using hf)
    rw [f22r1n2, f22r1n2L]
    simp only [decide_eq_true hk, cond_true, at_nat, hx, Option.bind_some, hw, ih]
theorem f22r1n2_run (ba1 : List NovateTrade) (bf2 : NovateBook) (hm : ba1.length ≤ maxLen) : f22r1n2 FUEL ba1 bf2 0 = f22r1n2L ba1 bf2 ba1 0 := f22r1n2L_eq ba1 bf2 ba1 FUEL 0 List.drop_zero hm (lt_FUEL hm)
inductive f22r1n1O where
  | norm
  | ret
def f22r1n1E (ba1 : List NovateTrade) (bf2 : NovateBook) : f22r1n1O → Ex × Tr × Hp
  | .norm => (.norm, mkS [], [none, none, none, none, none, none, some (.row false 8 (ba1.map NovateTrade.cells)), none, none])
  | .ret => (.ret, mkS [(4, (.pl (.bool false)))], [none, none, none, none, none, none, some (.row false 8 (ba1.map NovateTrade.cells)), none, none])
def f22r1n1S (ba1 : List NovateTrade) (bf2 : NovateBook) : Tr × Hp := (mkS [(2, (.bp 9 0)), (3, (.bp 10 0))], [none, none, none, none, none, none, some (.row false 8 (ba1.map NovateTrade.cells)), none, none, some (.box [(.own 6)]), some (.box ((NovateBook.cells bf2).map .pl))])
def f22r1n1 (ba1 : List NovateTrade) (bf2 : NovateBook) : Option f22r1n1O :=
  (f22r1n2 FUEL ba1 bf2 0).bind fun o43 => match o43 with
  | .exit0 => some .norm
  | .ret => some .ret
theorem f22r1n1_ok (ba1 : List NovateTrade) (bf2 : NovateBook) {o : f22r1n1O} (h : (f22r1n1 ba1 bf2) = some o) : T Try.prog Try.f22.ntmps 9 (cL (dropC 2 c22)) (f22r1n1S ba1 bf2) (fun r => r = f22r1n1E ba1 bf2 o) := by
  unfold f22r1n1 at h
  refine runK_norm cfg_ok (k := 1) (rs := [([], [], [])]) (ps := []) (tds := []) (m := [9, 10]) (keep := [2, 3, 5]) (st' := (f22r1n2S ba1 bf2 0)) (by kernel_rfl) an ?_
  obtain ⟨o43, h44, h⟩ := bind_cases h
  cases o43 with
  | exit0 =>
    obtain rfl := some_inj h
    exact T.last' (T.bl (i := 0) (by kernel_rfl) (by kernel_rfl) (f22r1n2_ok FUEL ba1 bf2 0 h44)) (tds := []) (m := []) (keep := []) (st2 := (f22r1n1E ba1 bf2 .norm).2) (by kernel_rfl) an rfl
  | ret =>
    obtain rfl := some_inj h
    exact T.last' (T.bl (i := 0) (by kernel_rfl) (by kernel_rfl) (f22r1n2_ok FUEL ba1 bf2 0 h44)) (tds := []) (m := []) (keep := [4]) (st2 := (f22r1n1E ba1 bf2 .ret).2) (by kernel_rfl) an rfl
inductive f22r1n0O where
  | ret (v47 : Bool)
def f22r1n0E (a1 : NovateBook) (a2 : List NovateTrade) : f22r1n0O → Ex × Tr × Hp
  | .ret v47 => (.ret, mkS [(4, (.pl (.bool v47)))], [none, none, none, none, none, none, some (.row false 8 (a2.map NovateTrade.cells)), none, none])
def f22r1n0S (a1 : NovateBook) (a2 : List NovateTrade) : Tr × Hp := (initS [(.agg [(.own 6)]), (.pl (.agg (NovateBook.cells a1)))] 0 .leaf, [none, none, none, none, none, none, some (.row false 8 (a2.map NovateTrade.cells)), none, none])
def f22r1n0 (a1 : NovateBook) (a2 : List NovateTrade) : Option f22r1n0O :=
  bif (decide ((a2.length : Int) = (a1.Trades.length : Int))) then
    (f22r1n1 a2 a1).bind fun o45 => match o45 with
    | .norm => some (.ret true)
    | .ret => some (.ret false)
  else
    some (.ret false)
theorem f22r1n0_ok (a1 : NovateBook) (a2 : List NovateTrade) {o : f22r1n0O} (h : (f22r1n0 a1 a2) = some o) : T Try.prog Try.f22.ntmps 9 c22 (f22r1n0S a1 a2) (fun r => r = f22r1n0E a1 a2 o) := by
  unfold f22r1n0 at h
  rcases cond_cases h with ⟨h4, h⟩ | ⟨h4, h⟩
  · refine runK_norm cfg_ok (k := 2) (rs := [([], [], []), ([], [], [(2, .val (.pl (.int .i64 (a2.length : Int)))), (5, .val (.pl (.int .i64 (a1.Trades.length : Int))))])]) (ps := [some false]) (tds := []) (m := [9, 10]) (keep := [2, 3]) (st' := (f22r1n1S a2 a1)) (by kernel_rfl) (ap (len_cv (xs := a2) (c := NovateTrade.cells)) (ap (len_cv (xs := a1.Trades) (c := NovateTrade.cells)) (ap (not_t h4) an))) ?_
    obtain ⟨o45, h46, h⟩ := bind_cases h
    cases o45 with
    | norm =>
      refine T.oneN (by kernel_rfl) (f22r1n1_ok a2 a1 h46) (st2 := (f22r1n1E a2 a1 .norm).2) rfl ?_
      obtain rfl := some_inj h
      exact run_end cfg_ok (rs := [([], [], [])]) (ps := []) (tds := []) (m := []) (keep := [4]) (r := (.ret, (f22r1n0E a1 a2 (.ret true)).2)) (by kernel_rfl) an rfl
    | ret =>
      obtain rfl := some_inj h
      exact T.oneX' (by kernel_rfl) (f22r1n1_ok a2 a1 h46) (tds := []) (m := []) (keep := [4]) (st2 := (f22r1n0E a1 a2 (.ret false)).2) (by kernel_rfl) an rfl rfl
  · obtain rfl := some_inj h
    exact runK_end cfg_ok (k := 2) (rs := [([], [], []), ([], [], [(2, .val (.pl (.int .i64 (a2.length : Int)))), (5, .val (.pl (.int .i64 (a1.Trades.length : Int))))]), ([], [], [])]) (ps := [some true]) (tds := []) (m := []) (keep := [4]) (ex := .ret) (st' := (f22r1n0E a1 a2 (.ret false)).2) (by kernel_rfl) (ap (len_cv (xs := a2) (c := NovateTrade.cells)) (ap (len_cv (xs := a1.Trades) (c := NovateTrade.cells)) (ap (not_f h4) an))) (fun h => nomatch h) rfl
def f22r1 (a1 : NovateBook) (a2 : List NovateTrade) : Option Bool := (f22r1n0 a1 a2).bind fun o => match o with
  | .ret v47 => some v47
theorem f22r1_ok (a1 : NovateBook) (a2 : List NovateTrade) {r : Bool} (h : (f22r1 a1 a2) = some r) : CallS Try.prog true 22 [(.agg [(.own 6)]), (.pl (.agg (NovateBook.cells a1)))] [none, none, none, none, none, none, some (.row false 8 (a2.map NovateTrade.cells)), none, none] (.pl (.bool r)) [none, none, none, none, none, none, some (.row false 8 (a2.map NovateTrade.cells)), none, none] := by
  unfold f22r1 at h
  obtain ⟨o, ho, h⟩ := bind_cases h
  cases o with
  | ret v47 =>
    obtain rfl := some_inj h
    exact CallS.shared cfg_ok (f := Try.f22) (c := c22) (by kernel_rfl) (by kernel_rfl) (by kernel_rfl) ((f22r1n0_ok a1 a2 ho).mono fun r e => by subst e; exact ⟨.inl rfl, by kernel_rfl, by kernel_rfl⟩)
end Go.Proofs.Ytkimdlpfbojkgaa
