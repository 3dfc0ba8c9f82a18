/- Several texts in one. No condition. -/
import Derived.Test.YtkcafackfihmiaaA3
import Derived.Test.YtkcafackfihmiaaTU
namespace Go.Proofs.Ytkcafackfihmiaa
set_option linter.unusedVariables false
set_option linter.unusedSimpArgs false
set_option maxRecDepth 100000
open Go.RowKit
noncomputable def c19 : Code := Try.f19.body.getD .skip
inductive f19n0O where
  | ret (v34 : Int) (v35 : List NettingFlow)
def f19n0E (a1 : List NettingSet) (a2 : List NettingFlow) (a3 : ByteArray) (a4 : Int) : f19n0O → Ex × Tr × Hp
  | .ret v34 v35 => (.ret, mkS [(8, (.own 0)), (9, (jI v34))], [jR 6 NettingFlow.cells v35])
def f19n0S (a1 : List NettingSet) (a2 : List NettingFlow) (a3 : ByteArray) (a4 : Int) : Tr × Hp := (initS [(jL 3 NettingSet.cells a1), (jL 6 NettingFlow.cells a2), (jS a3), (jI a4)] 0 .leaf, [])
noncomputable def f19n0 (a1 : List NettingSet) (a2 : List NettingFlow) (a3 : ByteArray) (a4 : Int) : Option f19n0O :=
  (f21 a1 a2).bind fun x8 =>
  bif (decide (x8 = 0)) then
    (f46 a1 a3).bind fun x14 =>
    bif x14.2 then
      bif (decide (a4 < 0)) then
        some (.ret 2 [])
      else
        bif (decide (99999 < a4)) then
          some (.ret 2 [])
        else
          (f32r2 a1 a2 a4 a3).bind fun x23 =>
          bif (decide (x23.1 = 0)) then
            bif (x23.2.2.isEmpty) then
              some (.ret 0 x23.2.1)
            else
              req (fit (x23.2.1.length + x23.2.2.length) 80) <|
              some (.ret 0 (x23.2.1 ++ x23.2.2))
          else
            some (.ret x23.1 [])
    else
      some (.ret 6 [])
  else
    some (.ret x8 [])
theorem f19n0_ok (a1 : List NettingSet) (a2 : List NettingFlow) (a3 : ByteArray) (a4 : Int) {o : f19n0O} (h : (f19n0 a1 a2 a3 a4) = some o) : T Try.prog Try.f19.ntmps 0 c19 (f19n0S a1 a2 a3 a4) (fun r => r = f19n0E a1 a2 a3 a4 o) := by
  unfold f19n0 at h
  obtain ⟨x8, h9, h⟩ := bind_cases h
  rcases cond_cases h with ⟨h10, h⟩ | ⟨h10, h⟩
  · obtain ⟨x14, h15, h⟩ := bind_cases h
    rcases cond_cases h with ⟨h16, h⟩ | ⟨h16, h⟩
    · rcases cond_cases h with ⟨h19, h⟩ | ⟨h19, h⟩
      · obtain rfl := some_inj h
        exact rK cfg_ok 4 [j3, ([], [jH 2 (jI x8)], []), j3, ([], [jH 2 (.tup [(jA NettingSet.cells x14.1), (jB x14.2)])], []), j3, ([(3, true), (4, true)], [(5, .bool true)], []), j3] [some false, some false, none] [.mat 8 6] [3] [8, 9] .ret ((f19n0E a1 a2 a3 a4 (.ret 2 [])).2) (ap (f21_ok a1 a2 h9) (ap (not_t h10) (ap (f46_ok a1 a3 h15) (ap (not_t h16) (ap3 h19 an))))) rfl
      · rcases cond_cases h with ⟨h20, h⟩ | ⟨h20, h⟩
        · obtain rfl := some_inj h
          exact rK cfg_ok 4 [j3, ([], [jH 2 (jI x8)], []), j3, ([], [jH 2 (.tup [(jA NettingSet.cells x14.1), (jB x14.2)])], []), j3, ([(3, false), (4, false)], [(5, .bool false)], []), j3] [some false, some false, some true] [.mat 8 6] [3] [8, 9] .ret ((f19n0E a1 a2 a3 a4 (.ret 2 [])).2) (ap (f21_ok a1 a2 h9) (ap (not_t h10) (ap (f46_ok a1 a3 h15) (ap (not_t h16) (ap3 h19 (ap h20 an)))))) rfl
        · obtain ⟨x23, h24, h⟩ := bind_cases h
          refine rN cfg_ok 5 [j3, ([], [jH 2 (jI x8)], []), j3, ([], [jH 2 (.tup [(jA NettingSet.cells x14.1), (jB x14.2)])], []), j3, ([(3, false), (4, false)], [(5, .bool false)], []), ([], [(3, .call (.tup [(.own 3), (.own 4), (jI x23.1)]) [some (.box ((cStr a3).map .pl)), some (.box (((cInt .i64) a4).map .pl)), none, jR 6 NettingFlow.cells x23.2.1, jR 6 NettingFlow.cells x23.2.2])], [])] [some false, some false, some false] [] [3, 4] [13, 14, 15] (mkS [(13, (.own 0)), (14, (.own 1)), (15, (jI x23.1))], [jR 6 NettingFlow.cells x23.2.1, jR 6 NettingFlow.cells x23.2.2]) (ap (f21_ok a1 a2 h9) (ap (not_t h10) (ap (f46_ok a1 a3 h15) (ap (not_t h16) (ap3 h19 (ap h20 (ap (CallS.rn 3 [1, 0] (f32r2_ok a1 a2 a4 a3 h24)) an))))))) ?_
          rcases cond_cases h with ⟨h29, h⟩ | ⟨h29, h⟩
          · rcases cond_cases h with ⟨h32, h⟩ | ⟨h32, h⟩
            · obtain rfl := some_inj h
              exact rE cfg_ok [j3, ([], [(2, .app false)], [])] [some false] [] [0] [8, 9] (.ret, (f19n0E a1 a2 a3 a4 (.ret 0 x23.2.1)).2) (ap (not_t h29) (ap (nil_map (c := NettingFlow.cells) h32) an)) rfl
            · obtain ⟨h33, h⟩ := req_cases h
              obtain rfl := some_inj h
              exact rE cfg_ok [j3, ([], [(2, .app true)], [(2, .row 2 ((x23.2.1 ++ x23.2.2).map NettingFlow.cells))])] [some false] [] [2] [8, 9] (.ret, (f19n0E a1 a2 a3 a4 (.ret 0 (x23.2.1 ++ x23.2.2))).2) (ap (not_t h29) (ap (fit_map2 (te := ti32) (xs := x23.2.1) (ys := x23.2.2) (c := NettingFlow.cells) (d := NettingFlow.cells) h33 rfl) (ap (ne_map (c := NettingFlow.cells) h32) (ap (len_all (c := NettingFlow.cells) (xs := x23.2.2) (n := 6) (fun _ => rfl)) (ap (app_cv (xs := x23.2.1) (ys := x23.2.2) (c := NettingFlow.cells)) an))))) rfl
          · obtain rfl := some_inj h
            exact rK cfg_ok 1 [j3, j3] [some true] [.mat 8 6] [2] [8, 9] .ret ((f19n0E a1 a2 a3 a4 (.ret x23.1 [])).2) (ap (not_f h29) an) rfl
    · obtain rfl := some_inj h
      exact rK cfg_ok 3 [j3, ([], [jH 2 (jI x8)], []), j3, ([], [jH 2 (.tup [(jA NettingSet.cells x14.1), (jB x14.2)])], []), j3, j3] [some false, some true] [.mat 8 6] [3] [8, 9] .ret ((f19n0E a1 a2 a3 a4 (.ret 6 [])).2) (ap (f21_ok a1 a2 h9) (ap (not_t h10) (ap (f46_ok a1 a3 h15) (ap (not_f h16) an)))) rfl
  · obtain rfl := some_inj h
    exact rK cfg_ok 2 [j3, ([], [jH 2 (jI x8)], []), j3, j3] [some true] [.mat 8 6] [2] [8, 9] .ret ((f19n0E a1 a2 a3 a4 (.ret x8 [])).2) (ap (f21_ok a1 a2 h9) (ap (not_f h10) an)) rfl
noncomputable def f19 (a1 : List NettingSet) (a2 : List NettingFlow) (a3 : ByteArray) (a4 : Int) : Option ((List NettingFlow) × Int) := (f19n0 a1 a2 a3 a4).bind fun o => match o with
  | .ret v34 v35 => some (v35, v34)
theorem f19_ok (a1 : List NettingSet) (a2 : List NettingFlow) (a3 : ByteArray) (a4 : Int) {r : (List NettingFlow) × Int} (h : (f19 a1 a2 a3 a4) = some r) : CallS Try.prog false 19 [(jL 3 NettingSet.cells a1), (jL 6 NettingFlow.cells a2), (jS a3), (jI a4)] [] (.tup [(jL 6 NettingFlow.cells r.1), (jI r.2)]) [] := by
  unfold f19 at h
  obtain ⟨o, ho, h⟩ := bind_cases h
  cases o with
  | ret v34 v35 =>
    obtain rfl := some_inj h
    exact CallS.plain cfg_ok (f := Try.f19) (c := c19) (by kernel_rfl) (by kernel_rfl) (by kernel_rfl) (by kernel_rfl) ((f19n0_ok a1 a2 a3 a4 ho).mono fun r e => by subst e; exact ⟨.inl rfl, (.tup [(.own 0), (jI v34)]), (.tup [(jL 6 NettingFlow.cells v35), (jI v34)]), by kernel_rfl, by kernel_rfl, ((Wk.refl _) : Wk (.tup [(jL 6 NettingFlow.cells v35), (jI v34)]) (.tup [(jL 6 NettingFlow.cells v35), (jI v34)]))⟩)

noncomputable def c6 : Code := Try.f6.body.getD .skip
inductive f6n2O where
  | exit0 (v69 : List NettingFlow)
def f6n2E (bg1 : List NettingFlow) (bb2 : ByteArray) (bd3 : Int) (bf4 : Bool) (bl5 : (List NettingFlow) × Int) : f6n2O → Ex × Tr × Hp
  | .exit0 v69 => ((.exit 0), mkS [(1, (jL 6 NettingFlow.cells bg1)), (2, (jS bb2)), (3, (jI bd3)), (9, (jB bf4)), (10, (jL 6 NettingFlow.cells bl5.1)), (12, (.own 0))], [jR 6 NettingFlow.cells v69])
def f6n2S (bg1 : List NettingFlow) (bb2 : ByteArray) (bd3 : Int) (bf4 : Bool) (bl5 : (List NettingFlow) × Int) (v53 : Int) (v54 : List NettingFlow) : Tr × Hp := (mkS [(1, (jL 6 NettingFlow.cells bg1)), (2, (jS bb2)), (3, (jI bd3)), (9, (jB bf4)), (10, (jL 6 NettingFlow.cells bl5.1)), (12, (.own 0)), (13, (jI v53))], [jR 6 NettingFlow.cells v54])
noncomputable def f6n2 : Nat → List NettingFlow → ByteArray → Int → Bool → (List NettingFlow) × Int → Int → List NettingFlow → Option f6n2O
  | 0, _, _, _, _, _, _, _ => none
  | f + 1, bg1, bb2, bd3, bf4, bl5, v53, v54 =>
    bif (decide (v53 < (bg1.length : Int))) then
      (at? bg1 v53).bind fun x63 =>
      bif (seq x63.Set bb2) then
        bif (decide (x63.Date < bd3)) then
          req (fit (v54.length + 1) 80) <|
          (f6n2 f bg1 bb2 bd3 bf4 bl5 (wr64 (v53 + 1)) (v54 ++ [x63]))
        else
          (f6n2 f bg1 bb2 bd3 bf4 bl5 (wr64 (v53 + 1)) v54)
      else
        req (fit (v54.length + 1) 80) <|
        (f6n2 f bg1 bb2 bd3 bf4 bl5 (wr64 (v53 + 1)) (v54 ++ [x63]))
    else
      some (.exit0 v54)
theorem f6n2_ok : ∀ (f : Nat) (bg1 : List NettingFlow) (bb2 : ByteArray) (bd3 : Int) (bf4 : Bool) (bl5 : (List NettingFlow) × Int) (v53 : Int) (v54 : List NettingFlow) {o : f6n2O}, (f6n2 f bg1 bb2 bd3 bf4 bl5 v53 v54) = some o → TL Try.prog Try.f6.ntmps 0 f (cL (cL (dropC 1 (cL (dropC 6 c6))))) (f6n2S bg1 bb2 bd3 bf4 bl5 v53 v54) (fun r => r = f6n2E bg1 bb2 bd3 bf4 bl5 o)
  | 0, _, _, _, _, _, _, _, o, h => by rw [f6n2] at h; cases h
  | f + 1, bg1, bb2, bd3, bf4, bl5, v53, v54, o, h => by
    rw [f6n2] at h
    refine TL.body (K := fun s => ∃ v53 : Int, ∃ v54 : List NettingFlow, s = (f6n2S bg1 bb2 bd3 bf4 bl5 v53 v54) ∧ (f6n2 f bg1 bb2 bd3 bf4 bl5 v53 v54) = some o) ?_ (by rintro _ ⟨v53, v54, rfl, hk⟩; exact f6n2_ok f _ _ _ _ _ _ _ hk)
    rcases cond_cases h with ⟨h56, h⟩ | ⟨h56, h⟩
    · obtain ⟨x63, h64, h⟩ := bind_cases h
      rcases cond_cases h with ⟨h65, h⟩ | ⟨h65, h⟩
      · rcases cond_cases h with ⟨h66, h⟩ | ⟨h66, h⟩
        · obtain ⟨h67, h⟩ := req_cases h
          exact rE cfg_ok [([], [], [(2, .val (jI (bg1.length : Int)))]), (jF [8, 9, 10, 11, 12, 13, 14], [(2, .idx (Int.toNat v53) (NettingFlow.cells x63)), (10, .idx (Int.toNat v53) (NettingFlow.cells x63)), (15, .bool false)], []), ([], [(3, .idx (Int.toNat v53) (NettingFlow.cells x63)), (6, .fits)], [(6, .row 2 ((v54 ++ [x63]).map NettingFlow.cells))]), j3] [some true, some true] [] [2] [1, 2, 3, 9, 10, 12, 13] (.norm, (f6n2S bg1 bb2 bd3 bf4 bl5 (wr64 (v53 + 1)) (v54 ++ [x63]))) (ap (len_cv (xs := bg1) (c := NettingFlow.cells)) (ap h56 (ap (at_some h64).1 (ap (at_map NettingFlow.cells (at_some h64).2) (ap3 (not_t h65) (ap (at_some h64).1 (ap (at_map NettingFlow.cells (at_some h64).2) (ap (not_t h65) (ap4 (not_t h65) (ap h66 (ap (at_some h64).1 (ap (at_map NettingFlow.cells (at_some h64).2) (ap (fit_map (te := ti32) (xs := v54) (n := 1) (c := NettingFlow.cells) h67 rfl) (ap (app_cv (xs := v54) (ys := [x63]) (c := NettingFlow.cells)) an)))))))))))))) (LoopQ.norm ⟨(wr64 (v53 + 1)), (v54 ++ [x63]), rfl, h⟩)
        · exact rE cfg_ok [([], [], [(2, .val (jI (bg1.length : Int)))]), (jF [8, 9, 10, 11, 12, 13, 14], [(2, .idx (Int.toNat v53) (NettingFlow.cells x63)), (10, .idx (Int.toNat v53) (NettingFlow.cells x63)), (15, .bool false)], []), j3] [some true, some false] [] [0] [1, 2, 3, 9, 10, 12, 13] (.norm, (f6n2S bg1 bb2 bd3 bf4 bl5 (wr64 (v53 + 1)) v54)) (ap (len_cv (xs := bg1) (c := NettingFlow.cells)) (ap h56 (ap (at_some h64).1 (ap (at_map NettingFlow.cells (at_some h64).2) (ap3 (not_t h65) (ap (at_some h64).1 (ap (at_map NettingFlow.cells (at_some h64).2) (ap (not_t h65) (ap4 (not_t h65) (ap h66 an)))))))))) (LoopQ.norm ⟨(wr64 (v53 + 1)), v54, rfl, h⟩)
      · obtain ⟨h68, h⟩ := req_cases h
        exact rE cfg_ok [([], [], [(2, .val (jI (bg1.length : Int)))]), (jT [8, 9, 10, 11, 12, 13, 14], [(2, .idx (Int.toNat v53) (NettingFlow.cells x63)), (15, .bool true)], []), ([], [(3, .idx (Int.toNat v53) (NettingFlow.cells x63)), (6, .fits)], [(6, .row 2 ((v54 ++ [x63]).map NettingFlow.cells))]), j3] [some true, none] [] [2] [1, 2, 3, 9, 10, 12, 13] (.norm, (f6n2S bg1 bb2 bd3 bf4 bl5 (wr64 (v53 + 1)) (v54 ++ [x63]))) (ap (len_cv (xs := bg1) (c := NettingFlow.cells)) (ap h56 (ap (at_some h64).1 (ap (at_map NettingFlow.cells (at_some h64).2) (ap4 (not_f h65) (ap4 (not_f h65) (ap (at_some h64).1 (ap (at_map NettingFlow.cells (at_some h64).2) (ap (fit_map (te := ti32) (xs := v54) (n := 1) (c := NettingFlow.cells) h68 rfl) (ap (app_cv (xs := v54) (ys := [x63]) (c := NettingFlow.cells)) an)))))))))) (LoopQ.norm ⟨(wr64 (v53 + 1)), (v54 ++ [x63]), rfl, h⟩)
    · obtain rfl := some_inj h
      exact rK cfg_ok 1 [([], [], [(2, .val (jI (bg1.length : Int)))])] [some false] [] [0] [1, 2, 3, 9, 10, 12] (.exit 0) ((f6n2E bg1 bb2 bd3 bf4 bl5 (.exit0 v54)).2) (ap (len_cv (xs := bg1) (c := NettingFlow.cells)) (ap h56 an)) (LoopQ.out rfl rfl)
noncomputable def f6n2L (bg1 : List NettingFlow) (bb2 : ByteArray) (bd3 : Int) (bf4 : Bool) (bl5 : (List NettingFlow) × Int) : List NettingFlow → Int → (List NettingFlow) → Option f6n2O
  | [], v53, v54 =>
    some (.exit0 v54)
  | x0 :: rest, v53, v54 =>
    bif (seq x0.Set bb2) then
      bif (decide (x0.Date < bd3)) then
        req (fit (v54.length + 1) 80) <|
        (f6n2L bg1 bb2 bd3 bf4 bl5 rest (v53 + 1) (v54 ++ [x0]))
      else
        (f6n2L bg1 bb2 bd3 bf4 bl5 rest (v53 + 1) v54)
    else
      req (fit (v54.length + 1) 80) <|
      (f6n2L bg1 bb2 bd3 bf4 bl5 rest (v53 + 1) (v54 ++ [x0]))
theorem f6n2L_eq (bg1 : List NettingFlow) (bb2 : ByteArray) (bd3 : Int) (bf4 : Bool) (bl5 : (List NettingFlow) × Int) : ∀ (rest : List NettingFlow) (f k : Nat) (v54 : List NettingFlow), bg1.drop k = rest → bg1.length ≤ maxLen → rest.length < f → f6n2 f bg1 bb2 bd3 bf4 bl5 (k : Int) v54 = f6n2L bg1 bb2 bd3 bf4 bl5 rest (k : Int) v54
  | _, 0, _, _, _, _, hf => absurd hf (Nat.not_lt_zero _)
  | [], f + 1, k, v54, hd, hm, hf => by
    have hk : ¬ ((k : Int) < (bg1.length : Int)) := by have := drop_nil hd; omega
    rw [f6n2, f6n2L]
    simp only [decide_eq_false hk, cond_false]
  | x0 :: rest, f + 1, k, v54, hd, hm, hf => by
    obtain ⟨hx, hlt, hd'⟩ := drop_cons hd
    have hk : (k : Int) < (bg1.length : Int) := by omega
    have hw : wr64 ((k : Int) + 1) = (k : Int) + 1 := wr64_of (by omega) (by unfold maxLen at hm; omega)
    have ih : ∀ (v54 : List NettingFlow), f6n2 f bg1 bb2 bd3 bf4 bl5 ((k : Int) + 1) v54 = f6n2L bg1 bb2 bd3 bf4 bl5 rest ((k : Int) + 1) v54 := fun v54 => f6n2L_eq bg1 bb2 bd3 bf4 bl5 rest f (k + 1) v54 hd' hm (by simpa using hf)
    rw [f6n2, f6n2L]
    simp only [decide_eq_true hk, cond_true, at_nat, hx, Option.bind_some, hw, ih]
theorem f6n2_run (bg1 : List NettingFlow) (bb2 : ByteArray) (bd3 : Int) (bf4 : Bool) (bl5 : (List NettingFlow) × Int) (v54 : List NettingFlow) (hm : bg1.length ≤ maxLen) : f6n2 FUEL bg1 bb2 bd3 bf4 bl5 0 v54 = f6n2L bg1 bb2 bd3 bf4 bl5 bg1 0 v54 := f6n2L_eq bg1 bb2 bd3 bf4 bl5 bg1 FUEL 0 v54 List.drop_zero hm (lt_FUEL hm)
inductive f6n1O where
  | norm (v73 : List NettingFlow)
def f6n1E (bg1 : List NettingFlow) (bb2 : ByteArray) (bd3 : Int) (bf4 : Bool) (bl5 : (List NettingFlow) × Int) : f6n1O → Ex × Tr × Hp
  | .norm v73 => (.norm, mkS [(1, (jL 6 NettingFlow.cells bg1)), (2, (jS bb2)), (3, (jI bd3)), (9, (jB bf4)), (10, (jL 6 NettingFlow.cells bl5.1)), (12, (.own 0))], [jR 6 NettingFlow.cells v73])
def f6n1S (bg1 : List NettingFlow) (bb2 : ByteArray) (bd3 : Int) (bf4 : Bool) (bl5 : (List NettingFlow) × Int) : Tr × Hp := (mkS [(1, (jL 6 NettingFlow.cells bg1)), (2, (jS bb2)), (3, (jI bd3)), (9, (jB bf4)), (10, (jL 6 NettingFlow.cells bl5.1)), (12, (.pl (.sl .nil 0 [])))], [])
noncomputable def f6n1 (bg1 : List NettingFlow) (bb2 : ByteArray) (bd3 : Int) (bf4 : Bool) (bl5 : (List NettingFlow) × Int) : Option f6n1O :=
  (f6n2 FUEL bg1 bb2 bd3 bf4 bl5 0 []).bind fun o70 => match o70 with
  | .exit0 v72 => some (.norm v72)
theorem f6n1_ok (bg1 : List NettingFlow) (bb2 : ByteArray) (bd3 : Int) (bf4 : Bool) (bl5 : (List NettingFlow) × Int) {o : f6n1O} (h : (f6n1 bg1 bb2 bd3 bf4 bl5) = some o) : T Try.prog Try.f6.ntmps 0 (cL (dropC 6 c6)) (f6n1S bg1 bb2 bd3 bf4 bl5) (fun r => r = f6n1E bg1 bb2 bd3 bf4 bl5 o) := by
  unfold f6n1 at h
  refine rN cfg_ok 1 [j3] [] [.mat 12 6] [0] [1, 2, 3, 9, 10, 12, 13] (f6n2S bg1 bb2 bd3 bf4 bl5 0 []) an ?_
  obtain ⟨o70, h71, h⟩ := bind_cases h
  cases o70 with
  | exit0 v72 =>
    obtain rfl := some_inj h
    exact T.last' (T.bl (i := 0) (by kernel_rfl) (by kernel_rfl) (f6n2_ok FUEL bg1 bb2 bd3 bf4 bl5 0 [] h71)) (tds := []) (m := [0]) (keep := [1, 2, 3, 9, 10, 12]) (st2 := (f6n1E bg1 bb2 bd3 bf4 bl5 (.norm v72)).2) (by kernel_rfl) an rfl
inductive f6n4O where
  | exit2
  | ret
def f6n4E (bg1 : List NettingFlow) (bb2 : ByteArray) (bd3 : Int) (bf4 : Bool) (bl5 : (List NettingFlow) × Int) (bg6 : List NettingFlow) : f6n4O → Ex × Tr × Hp
  | .exit2 => ((.exit 2), mkS [(1, (jL 6 NettingFlow.cells bg1)), (2, (jS bb2)), (3, (jI bd3)), (9, (jB bf4)), (14, (.pl (.sl .any 6 ((bl5.1.drop (Int.toNat (bg6.length : Int))).map NettingFlow.cells))))], [])
  | .ret => (.ret, mkS [(8, (jB false))], [])
def f6n4S (bg1 : List NettingFlow) (bb2 : ByteArray) (bd3 : Int) (bf4 : Bool) (bl5 : (List NettingFlow) × Int) (bg6 : List NettingFlow) (v118 : Int) : Tr × Hp := (mkS [(1, (jL 6 NettingFlow.cells bg1)), (2, (jS bb2)), (3, (jI bd3)), (9, (jB bf4)), (14, (.pl (.sl .any 6 ((bl5.1.drop (Int.toNat (bg6.length : Int))).map NettingFlow.cells)))), (15, (jI v118))], [])
noncomputable def f6n4 : Nat → List NettingFlow → ByteArray → Int → Bool → (List NettingFlow) × Int → List NettingFlow → Int → Option f6n4O
  | 0, _, _, _, _, _, _, _ => none
  | f + 1, bg1, bb2, bd3, bf4, bl5, bg6, v118 =>
    bif (decide (v118 < ((bl5.1.drop (Int.toNat (bg6.length : Int))).length : Int))) then
      (at? (bl5.1.drop (Int.toNat (bg6.length : Int))) v118).bind fun x129 =>
      bif (seq x129.Set bb2) then
        bif (decide (x129.Date = bd3)) then
          bif (decide (0 < v118)) then
            (at? (bl5.1.drop (Int.toNat (bg6.length : Int))) (wr64 (v118 - 1))).bind fun x134 =>
            bif (slt x134.Ccy x129.Ccy) then
              (f6n4 f bg1 bb2 bd3 bf4 bl5 bg6 (wr64 (v118 + 1)))
            else
              some .ret
          else
            (f6n4 f bg1 bb2 bd3 bf4 bl5 bg6 (wr64 (v118 + 1)))
        else
          some .ret
      else
        some .ret
    else
      some .exit2
theorem f6n4_ok : ∀ (f : Nat) (bg1 : List NettingFlow) (bb2 : ByteArray) (bd3 : Int) (bf4 : Bool) (bl5 : (List NettingFlow) × Int) (bg6 : List NettingFlow) (v118 : Int) {o : f6n4O}, (f6n4 f bg1 bb2 bd3 bf4 bl5 bg6 v118) = some o → TL Try.prog Try.f6.ntmps 0 f (cL (cL (dropC 1 (cL (dropC 1 (dropC 1 (dropC 1 (dropC 6 c6)))))))) (f6n4S bg1 bb2 bd3 bf4 bl5 bg6 v118) (fun r => r = f6n4E bg1 bb2 bd3 bf4 bl5 bg6 o)
  | 0, _, _, _, _, _, _, _, o, h => by rw [f6n4] at h; cases h
  | f + 1, bg1, bb2, bd3, bf4, bl5, bg6, v118, o, h => by
    rw [f6n4] at h
    refine TL.body (K := fun s => ∃ v118 : Int, s = (f6n4S bg1 bb2 bd3 bf4 bl5 bg6 v118) ∧ (f6n4 f bg1 bb2 bd3 bf4 bl5 bg6 v118) = some o) ?_ (by rintro _ ⟨v118, rfl, hk⟩; exact f6n4_ok f _ _ _ _ _ _ _ hk)
    rcases cond_cases h with ⟨h120, h⟩ | ⟨h120, h⟩
    · obtain ⟨x129, h130, h⟩ := bind_cases h
      rcases cond_cases h with ⟨h131, h⟩ | ⟨h131, h⟩
      · rcases cond_cases h with ⟨h132, h⟩ | ⟨h132, h⟩
        · rcases cond_cases h with ⟨h133, h⟩ | ⟨h133, h⟩
          · obtain ⟨x134, h135, h⟩ := bind_cases h
            rcases cond_cases h with ⟨h136, h⟩ | ⟨h136, h⟩
            · exact rE cfg_ok [([], [], [(2, .val (.pl (.int .i64 ((bl5.1.drop (Int.toNat (bg6.length : Int))).length : Int))))]), (jF [8, 9, 10, 11, 12, 13, 14, 17, 18, 19, 32] ++ jT [20, 21, 22, 23, 24, 25, 26, 27, 28, 29, 30, 31], [(2, .idx (Int.toNat v118) (NettingFlow.cells x129)), (10, .idx (Int.toNat v118) (NettingFlow.cells x129)), (15, .bool false), (23, .idx (Int.toNat (wr64 (v118 - 1))) (NettingFlow.cells x134)), (28, .idx (Int.toNat v118) (NettingFlow.cells x129)), (32, .bool true), (33, .bool false)], []), j3] [some true, some false] [] [] [1, 2, 3, 9, 14, 15] (.norm, (f6n4S bg1 bb2 bd3 bf4 bl5 bg6 (wr64 (v118 + 1)))) (ap (len_cv (xs := (bl5.1.drop (Int.toNat (bg6.length : Int)))) (c := NettingFlow.cells)) (ap h120 (ap (at_some h130).1 (ap (at_map NettingFlow.cells (at_some h130).2) (ap3 (not_t h131) (ap (at_some h130).1 (ap (at_map NettingFlow.cells (at_some h130).2) (ap (not_t h131) (ap4 (not_t h131) (ap3 (not_t h132) (ap4 h133 (ap (at_some h135).1 (ap (at_map NettingFlow.cells (at_some h135).2) (ap h133 (ap4 h133 (ap (at_some h130).1 (ap (at_map NettingFlow.cells (at_some h130).2) (ap3 h133 (ap (not_t h132) (ap h133 (ap (not_t h132) (ap (not_t h136) an)))))))))))))))))))))) (LoopQ.norm ⟨(wr64 (v118 + 1)), rfl, h⟩)
            · obtain rfl := some_inj h
              exact rK cfg_ok 2 [([], [], [(2, .val (.pl (.int .i64 ((bl5.1.drop (Int.toNat (bg6.length : Int))).length : Int))))]), (jF [8, 9, 10, 11, 12, 13, 14, 17, 18, 19, 32] ++ jT [20, 21, 22, 23, 24, 25, 26, 27, 28, 29, 30, 31], [(2, .idx (Int.toNat v118) (NettingFlow.cells x129)), (10, .idx (Int.toNat v118) (NettingFlow.cells x129)), (15, .bool false), (23, .idx (Int.toNat (wr64 (v118 - 1))) (NettingFlow.cells x134)), (28, .idx (Int.toNat v118) (NettingFlow.cells x129)), (32, .bool true), (33, .bool false)], []), j3] [some true, some true] [] [] [8] .ret ((f6n4E bg1 bb2 bd3 bf4 bl5 bg6 .ret).2) (ap (len_cv (xs := (bl5.1.drop (Int.toNat (bg6.length : Int)))) (c := NettingFlow.cells)) (ap h120 (ap (at_some h130).1 (ap (at_map NettingFlow.cells (at_some h130).2) (ap3 (not_t h131) (ap (at_some h130).1 (ap (at_map NettingFlow.cells (at_some h130).2) (ap (not_t h131) (ap4 (not_t h131) (ap3 (not_t h132) (ap4 h133 (ap (at_some h135).1 (ap (at_map NettingFlow.cells (at_some h135).2) (ap h133 (ap4 h133 (ap (at_some h130).1 (ap (at_map NettingFlow.cells (at_some h130).2) (ap3 h133 (ap (not_t h132) (ap h133 (ap (not_t h132) (ap (not_f h136) an)))))))))))))))))))))) (LoopQ.out rfl rfl)
          · exact rE cfg_ok [([], [], [(2, .val (.pl (.int .i64 ((bl5.1.drop (Int.toNat (bg6.length : Int))).length : Int))))]), (jF [8, 9, 10, 11, 12, 13, 14, 17, 18, 19, 20, 21, 22, 23, 24, 25, 26, 27, 28, 29, 30, 31, 32], [(2, .idx (Int.toNat v118) (NettingFlow.cells x129)), (10, .idx (Int.toNat v118) (NettingFlow.cells x129)), (15, .bool false), (32, .bool false), (33, .bool false)], []), j3] [some true, none] [] [] [1, 2, 3, 9, 14, 15] (.norm, (f6n4S bg1 bb2 bd3 bf4 bl5 bg6 (wr64 (v118 + 1)))) (ap (len_cv (xs := (bl5.1.drop (Int.toNat (bg6.length : Int)))) (c := NettingFlow.cells)) (ap h120 (ap (at_some h130).1 (ap (at_map NettingFlow.cells (at_some h130).2) (ap3 (not_t h131) (ap (at_some h130).1 (ap (at_map NettingFlow.cells (at_some h130).2) (ap (not_t h131) (ap4 (not_t h131) (ap3 (not_t h132) (ap4 h133 (ap4 h133 (ap4 h133 (ap (not_t h132) (ap h133 (ap (not_t h132) an)))))))))))))))) (LoopQ.norm ⟨(wr64 (v118 + 1)), rfl, h⟩)
        · obtain rfl := some_inj h
          exact rK cfg_ok 2 [([], [], [(2, .val (.pl (.int .i64 ((bl5.1.drop (Int.toNat (bg6.length : Int))).length : Int))))]), (jF [8, 9, 10, 11, 12, 13, 14] ++ jT [17, 18, 19, 32], [(2, .idx (Int.toNat v118) (NettingFlow.cells x129)), (10, .idx (Int.toNat v118) (NettingFlow.cells x129)), (15, .bool false), (33, .bool true)], []), j3] [some true, none] [] [] [8] .ret ((f6n4E bg1 bb2 bd3 bf4 bl5 bg6 .ret).2) (ap (len_cv (xs := (bl5.1.drop (Int.toNat (bg6.length : Int)))) (c := NettingFlow.cells)) (ap h120 (ap (at_some h130).1 (ap (at_map NettingFlow.cells (at_some h130).2) (ap3 (not_t h131) (ap (at_some h130).1 (ap (at_map NettingFlow.cells (at_some h130).2) (ap (not_t h131) (ap4 (not_t h131) (ap (not_f h132) (ap4 (not_f h132) an))))))))))) (LoopQ.out rfl rfl)
      · obtain rfl := some_inj h
        exact rK cfg_ok 2 [([], [], [(2, .val (.pl (.int .i64 ((bl5.1.drop (Int.toNat (bg6.length : Int))).length : Int))))]), (jT [8, 9, 10, 11, 12, 13, 14], [(2, .idx (Int.toNat v118) (NettingFlow.cells x129)), (15, .bool true)], []), j3] [some true, none] [] [] [8] .ret ((f6n4E bg1 bb2 bd3 bf4 bl5 bg6 .ret).2) (ap (len_cv (xs := (bl5.1.drop (Int.toNat (bg6.length : Int)))) (c := NettingFlow.cells)) (ap h120 (ap (at_some h130).1 (ap (at_map NettingFlow.cells (at_some h130).2) (ap4 (not_f h131) (ap4 (not_f h131) an)))))) (LoopQ.out rfl rfl)
    · obtain rfl := some_inj h
      exact rK cfg_ok 1 [([], [], [(2, .val (.pl (.int .i64 ((bl5.1.drop (Int.toNat (bg6.length : Int))).length : Int))))])] [some false] [] [] [1, 2, 3, 9, 14] (.exit 2) ((f6n4E bg1 bb2 bd3 bf4 bl5 bg6 .exit2).2) (ap (len_cv (xs := (bl5.1.drop (Int.toNat (bg6.length : Int)))) (c := NettingFlow.cells)) (ap h120 an)) (LoopQ.out rfl rfl)
noncomputable def f6n4L (bg1 : List NettingFlow) (bb2 : ByteArray) (bd3 : Int) (bf4 : Bool) (bl5 : (List NettingFlow) × Int) (bg6 : List NettingFlow) : List NettingFlow → Int → Option f6n4O
  | [], v118 =>
    some .exit2
  | x0 :: rest, v118 =>
    bif (seq x0.Set bb2) then
      bif (decide (x0.Date = bd3)) then
        bif (decide (0 < v118)) then
          (at? (bl5.1.drop (Int.toNat (bg6.length : Int))) (wr64 (v118 - 1))).bind fun x134 =>
          bif (slt x134.Ccy x0.Ccy) then
            (f6n4L bg1 bb2 bd3 bf4 bl5 bg6 rest (v118 + 1))
          else
            some .ret
        else
          (f6n4L bg1 bb2 bd3 bf4 bl5 bg6 rest (v118 + 1))
      else
        some .ret
    else
      some .ret
theorem f6n4L_eq (bg1 : List NettingFlow) (bb2 : ByteArray) (bd3 : Int) (bf4 : Bool) (bl5 : (List NettingFlow) × Int) (bg6 : List NettingFlow) : ∀ (rest : List NettingFlow) (f k : Nat), (bl5.1.drop (Int.toNat (bg6.length : Int))).drop k = rest → (bl5.1.drop (Int.toNat (bg6.length : Int))).length ≤ maxLen → rest.length < f → f6n4 f bg1 bb2 bd3 bf4 bl5 bg6 (k : Int) = f6n4L bg1 bb2 bd3 bf4 bl5 bg6 rest (k : Int)
  | _, 0, _, _, _, hf => absurd hf (Nat.not_lt_zero _)
  | [], f + 1, k, hd, hm, hf => by
    have hk : ¬ ((k : Int) < ((bl5.1.drop (Int.toNat (bg6.length : Int))).length : Int)) := by have := drop_nil hd; omega
    rw [f6n4, f6n4L]
    simp only [decide_eq_false hk, cond_false]
  | x0 :: rest, f + 1, k, hd, hm, hf => by
    obtain ⟨hx, hlt, hd'⟩ := drop_cons hd
    have hk : (k : Int) < ((bl5.1.drop (Int.toNat (bg6.length : Int))).length : Int) := by omega
    have hw : wr64 ((k : Int) + 1) = (k : Int) + 1 := wr64_of (by omega) (by unfold maxLen at hm; omega)
    have ih : f6n4 f bg1 bb2 bd3 bf4 bl5 bg6 ((k : Int) + 1) = f6n4L bg1 bb2 bd3 bf4 bl5 bg6 rest ((k : Int) + 1) := f6n4L_eq bg1 bb2 bd3 bf4 bl5 bg6 rest f (k + 1) hd' hm (by simpa using hf)
    rw [f6n4, f6n4L]
    simp only [decide_eq_true hk, cond_true, at_nat, hx, Option.bind_some, hw, ih]
theorem f6n4_run (bg1 : List NettingFlow) (bb2 : ByteArray) (bd3 : Int) (bf4 : Bool) (bl5 : (List NettingFlow) × Int) (bg6 : List NettingFlow) (hm : (bl5.1.drop (Int.toNat (bg6.length : Int))).length ≤ maxLen) : f6n4 FUEL bg1 bb2 bd3 bf4 bl5 bg6 0 = f6n4L bg1 bb2 bd3 bf4 bl5 bg6 (bl5.1.drop (Int.toNat (bg6.length : Int))) 0 := f6n4L_eq bg1 bb2 bd3 bf4 bl5 bg6 (bl5.1.drop (Int.toNat (bg6.length : Int))) FUEL 0 List.drop_zero hm (lt_FUEL hm)
inductive f6n3O where
  | norm
  | ret
def f6n3E (bg1 : List NettingFlow) (bb2 : ByteArray) (bd3 : Int) (bf4 : Bool) (bl5 : (List NettingFlow) × Int) (bg6 : List NettingFlow) : f6n3O → Ex × Tr × Hp
  | .norm => (.norm, mkS [(1, (jL 6 NettingFlow.cells bg1)), (2, (jS bb2)), (3, (jI bd3)), (9, (jB bf4)), (14, (.pl (.sl .any 6 ((bl5.1.drop (Int.toNat (bg6.length : Int))).map NettingFlow.cells))))], [])
  | .ret => (.ret, mkS [(8, (jB false))], [])
def f6n3S (bg1 : List NettingFlow) (bb2 : ByteArray) (bd3 : Int) (bf4 : Bool) (bl5 : (List NettingFlow) × Int) (bg6 : List NettingFlow) : Tr × Hp := (mkS [(1, (jL 6 NettingFlow.cells bg1)), (2, (jS bb2)), (3, (jI bd3)), (9, (jB bf4)), (14, (.pl (.sl .any 6 ((bl5.1.drop (Int.toNat (bg6.length : Int))).map NettingFlow.cells))))], [])
noncomputable def f6n3 (bg1 : List NettingFlow) (bb2 : ByteArray) (bd3 : Int) (bf4 : Bool) (bl5 : (List NettingFlow) × Int) (bg6 : List NettingFlow) : Option f6n3O :=
  (f6n4 FUEL bg1 bb2 bd3 bf4 bl5 bg6 0).bind fun o137 => match o137 with
  | .exit2 => some .norm
  | .ret => some .ret
theorem f6n3_ok (bg1 : List NettingFlow) (bb2 : ByteArray) (bd3 : Int) (bf4 : Bool) (bl5 : (List NettingFlow) × Int) (bg6 : List NettingFlow) {o : f6n3O} (h : (f6n3 bg1 bb2 bd3 bf4 bl5 bg6) = some o) : T Try.prog Try.f6.ntmps 0 (cL (dropC 1 (dropC 1 (dropC 1 (dropC 6 c6))))) (f6n3S bg1 bb2 bd3 bf4 bl5 bg6) (fun r => r = f6n3E bg1 bb2 bd3 bf4 bl5 bg6 o) := by
  unfold f6n3 at h
  refine rN cfg_ok 1 [j3] [] [] [] [1, 2, 3, 9, 14, 15] (f6n4S bg1 bb2 bd3 bf4 bl5 bg6 0) an ?_
  obtain ⟨o137, h138, h⟩ := bind_cases h
  cases o137 with
  | exit2 =>
    obtain rfl := some_inj h
    exact T.last' (T.bl (i := 2) (by kernel_rfl) (by kernel_rfl) (f6n4_ok FUEL bg1 bb2 bd3 bf4 bl5 bg6 0 h138)) (tds := []) (m := []) (keep := [1, 2, 3, 9, 14]) (st2 := (f6n3E bg1 bb2 bd3 bf4 bl5 bg6 .norm).2) (by kernel_rfl) an rfl
  | ret =>
    obtain rfl := some_inj h
    exact T.last' (T.bl (i := 2) (by kernel_rfl) (by kernel_rfl) (f6n4_ok FUEL bg1 bb2 bd3 bf4 bl5 bg6 0 h138)) (tds := []) (m := []) (keep := [8]) (st2 := (f6n3E bg1 bb2 bd3 bf4 bl5 bg6 .ret).2) (by kernel_rfl) an rfl
inductive f6n8O where
  | exit6 (v411 : Int)
def f6n8E (bg1 : List NettingFlow) (bb2 : ByteArray) (bd3 : Int) (bf4 : Bool) (bl5 : (List NettingFlow) × Int) (bg6 : List NettingFlow) (bd7 : Int) : f6n8O → Ex × Tr × Hp
  | .exit6 v411 => ((.exit 6), mkS [(1, (jL 6 NettingFlow.cells bg1)), (2, (jS bb2)), (3, (jI bd3)), (9, (jB bf4)), (14, (.pl (.sl .any 6 ((bl5.1.drop (Int.toNat (bg6.length : Int))).map NettingFlow.cells)))), (16, (jI bd7)), (17, (jI v411))], [])
def f6n8S (bg1 : List NettingFlow) (bb2 : ByteArray) (bd3 : Int) (bf4 : Bool) (bl5 : (List NettingFlow) × Int) (bg6 : List NettingFlow) (bd7 : Int) (v387 : Int) (v388 : Int) : Tr × Hp := (mkS [(1, (jL 6 NettingFlow.cells bg1)), (2, (jS bb2)), (3, (jI bd3)), (9, (jB bf4)), (14, (.pl (.sl .any 6 ((bl5.1.drop (Int.toNat (bg6.length : Int))).map NettingFlow.cells)))), (16, (jI bd7)), (17, (jI v387)), (18, (jI v388))], [])
noncomputable def f6n8 : Nat → List NettingFlow → ByteArray → Int → Bool → (List NettingFlow) × Int → List NettingFlow → Int → Int → Int → Option f6n8O
  | 0, _, _, _, _, _, _, _, _, _ => none
  | f + 1, bg1, bb2, bd3, bf4, bl5, bg6, bd7, v387, v388 =>
    bif (decide (v388 < (bg1.length : Int))) then
      (at? bg1 v388).bind fun x401 =>
      bif (seq x401.Set bb2) then
        bif (decide (bd3 ≤ x401.Date)) then
          (at? bg1 bd7).bind fun x405 =>
          bif (seq x401.Ccy x405.Ccy) then
            req (cutB v388 (wr64 (v388 + 1)) bg1.length) <|
            (f15 ((bg1.take (Int.toNat (wr64 (v388 + 1)))).drop (Int.toNat v388)) x405.From x405.To x401.Date x401.Ccy).bind fun x409 =>
            (f6n8 f bg1 bb2 bd3 bf4 bl5 bg6 bd7 (wr64 (v387 + x409)) (wr64 (v388 + 1)))
          else
            (f6n8 f bg1 bb2 bd3 bf4 bl5 bg6 bd7 v387 (wr64 (v388 + 1)))
        else
          (f6n8 f bg1 bb2 bd3 bf4 bl5 bg6 bd7 v387 (wr64 (v388 + 1)))
      else
        (f6n8 f bg1 bb2 bd3 bf4 bl5 bg6 bd7 v387 (wr64 (v388 + 1)))
    else
      some (.exit6 v387)
theorem f6n8_ok : ∀ (f : Nat) (bg1 : List NettingFlow) (bb2 : ByteArray) (bd3 : Int) (bf4 : Bool) (bl5 : (List NettingFlow) × Int) (bg6 : List NettingFlow) (bd7 : Int) (v387 : Int) (v388 : Int) {o : f6n8O}, (f6n8 f bg1 bb2 bd3 bf4 bl5 bg6 bd7 v387 v388) = some o → TL Try.prog Try.f6.ntmps 0 f (cL (cL (dropC 1 (cL (dropC 2 (cL (cL (dropC 1 (cL (cL (dropC 1 (cL (dropC 0 (dropC 1 (dropC 1 (dropC 1 (dropC 1 (dropC 6 c6)))))))))))))))))) (f6n8S bg1 bb2 bd3 bf4 bl5 bg6 bd7 v387 v388) (fun r => r = f6n8E bg1 bb2 bd3 bf4 bl5 bg6 bd7 o)
  | 0, _, _, _, _, _, _, _, _, _, o, h => by rw [f6n8] at h; cases h
  | f + 1, bg1, bb2, bd3, bf4, bl5, bg6, bd7, v387, v388, o, h => by
    rw [f6n8] at h
    refine TL.body (K := fun s => ∃ v387 : Int, ∃ v388 : Int, s = (f6n8S bg1 bb2 bd3 bf4 bl5 bg6 bd7 v387 v388) ∧ (f6n8 f bg1 bb2 bd3 bf4 bl5 bg6 bd7 v387 v388) = some o) ?_ (by rintro _ ⟨v387, v388, rfl, hk⟩; exact f6n8_ok f _ _ _ _ _ _ _ _ _ hk)
    rcases cond_cases h with ⟨h390, h⟩ | ⟨h390, h⟩
    · obtain ⟨x401, h402, h⟩ := bind_cases h
      rcases cond_cases h with ⟨h403, h⟩ | ⟨h403, h⟩
      · rcases cond_cases h with ⟨h404, h⟩ | ⟨h404, h⟩
        · obtain ⟨x405, h406, h⟩ := bind_cases h
          rcases cond_cases h with ⟨h407, h⟩ | ⟨h407, h⟩
          · obtain ⟨h408, h⟩ := req_cases h
            obtain ⟨x409, h410, h⟩ := bind_cases h
            exact rE cfg_ok [([], [], [(2, .val (jI (bg1.length : Int)))]), (jT [8, 9, 10, 11, 12, 13, 14, 17, 18, 19, 20, 21, 22, 23, 24, 25, 26, 27], [(2, .idx (Int.toNat v388) (NettingFlow.cells x401)), (10, .idx (Int.toNat v388) (NettingFlow.cells x401)), (15, .bool true), (19, .idx (Int.toNat v388) (NettingFlow.cells x401)), (24, .idx (Int.toNat bd7) (NettingFlow.cells x405)), (28, .bool true)], []), ([], [(5, .cut (Int.toNat v388) (Int.toNat (wr64 (v388 + 1)))), (8, .idx (Int.toNat bd7) (NettingFlow.cells x405)), (13, .idx (Int.toNat bd7) (NettingFlow.cells x405)), (18, .idx (Int.toNat v388) (NettingFlow.cells x401)), (23, .idx (Int.toNat v388) (NettingFlow.cells x401)), jH 26 (jI x409)], [(5, .val (.pl (.sl .any 6 (((bg1.take (Int.toNat (wr64 (v388 + 1)))).drop (Int.toNat v388)).map NettingFlow.cells))))]), j3] [some true, some true] [] [] [1, 2, 3, 9, 14, 16, 17, 18] (.norm, (f6n8S bg1 bb2 bd3 bf4 bl5 bg6 bd7 (wr64 (v387 + x409)) (wr64 (v388 + 1)))) (ap (len_cv (xs := bg1) (c := NettingFlow.cells)) (ap h390 (ap (at_some h402).1 (ap (at_map NettingFlow.cells (at_some h402).2) (ap3 h403 (ap (at_some h402).1 (ap (at_map NettingFlow.cells (at_some h402).2) (ap h403 (ap4 h403 (ap3 h404 (ap (at_some h402).1 (ap (at_map NettingFlow.cells (at_some h402).2) (ap h404 (ap4 h404 (ap (at_some h406).1 (ap (at_map NettingFlow.cells (at_some h406).2) (ap4 h404 (ap h407 (ap (cut_hl_1_map (c := NettingFlow.cells) h408) (ap (cut_hl_2 h408) (ap (cut_hl_3 h408) (ap (cut_hl_4_map (c := NettingFlow.cells) h408) (ap (congrArg (fun l => AV.pl (.sl .any 6 l)) (cut_cv (xs := bg1) (c := NettingFlow.cells) (n := (Int.toNat (wr64 (v388 + 1)))) (m := (Int.toNat v388)))) (ap (at_some h406).1 (ap (at_map NettingFlow.cells (at_some h406).2) (ap (at_some h406).1 (ap (at_map NettingFlow.cells (at_some h406).2) (ap (at_some h402).1 (ap (at_map NettingFlow.cells (at_some h402).2) (ap (at_some h402).1 (ap (at_map NettingFlow.cells (at_some h402).2) (ap (f15_ok ((bg1.take (Int.toNat (wr64 (v388 + 1)))).drop (Int.toNat v388)) x405.From x405.To x401.Date x401.Ccy h410) an)))))))))))))))))))))))))))))))) (LoopQ.norm ⟨(wr64 (v387 + x409)), (wr64 (v388 + 1)), rfl, h⟩)
          · exact rE cfg_ok [([], [], [(2, .val (jI (bg1.length : Int)))]), (jT [8, 9, 10, 11, 12, 13, 14, 17, 18, 19, 20, 21, 22, 23, 24, 25, 26, 27], [(2, .idx (Int.toNat v388) (NettingFlow.cells x401)), (10, .idx (Int.toNat v388) (NettingFlow.cells x401)), (15, .bool true), (19, .idx (Int.toNat v388) (NettingFlow.cells x401)), (24, .idx (Int.toNat bd7) (NettingFlow.cells x405)), (28, .bool true)], []), j3] [some true, some false] [] [] [1, 2, 3, 9, 14, 16, 17, 18] (.norm, (f6n8S bg1 bb2 bd3 bf4 bl5 bg6 bd7 v387 (wr64 (v388 + 1)))) (ap (len_cv (xs := bg1) (c := NettingFlow.cells)) (ap h390 (ap (at_some h402).1 (ap (at_map NettingFlow.cells (at_some h402).2) (ap3 h403 (ap (at_some h402).1 (ap (at_map NettingFlow.cells (at_some h402).2) (ap h403 (ap4 h403 (ap3 h404 (ap (at_some h402).1 (ap (at_map NettingFlow.cells (at_some h402).2) (ap h404 (ap4 h404 (ap (at_some h406).1 (ap (at_map NettingFlow.cells (at_some h406).2) (ap4 h404 (ap h407 an)))))))))))))))))) (LoopQ.norm ⟨v387, (wr64 (v388 + 1)), rfl, h⟩)
        · exact rE cfg_ok [([], [], [(2, .val (jI (bg1.length : Int)))]), (jF [17, 18, 19, 20, 21, 22, 23, 24, 25, 26, 27] ++ jT [8, 9, 10, 11, 12, 13, 14], [(2, .idx (Int.toNat v388) (NettingFlow.cells x401)), (10, .idx (Int.toNat v388) (NettingFlow.cells x401)), (15, .bool true), (28, .bool false)], []), j3] [some true, none] [] [] [1, 2, 3, 9, 14, 16, 17, 18] (.norm, (f6n8S bg1 bb2 bd3 bf4 bl5 bg6 bd7 v387 (wr64 (v388 + 1)))) (ap (len_cv (xs := bg1) (c := NettingFlow.cells)) (ap h390 (ap (at_some h402).1 (ap (at_map NettingFlow.cells (at_some h402).2) (ap3 h403 (ap (at_some h402).1 (ap (at_map NettingFlow.cells (at_some h402).2) (ap h403 (ap4 h403 (ap4 h404 (ap4 h404 (ap4 h404 an)))))))))))) (LoopQ.norm ⟨v387, (wr64 (v388 + 1)), rfl, h⟩)
      · exact rE cfg_ok [([], [], [(2, .val (jI (bg1.length : Int)))]), (jF [8, 9, 10, 11, 12, 13, 14], [(2, .idx (Int.toNat v388) (NettingFlow.cells x401)), (15, .bool false)], []), j3] [some true, none] [] [] [1, 2, 3, 9, 14, 16, 17, 18] (.norm, (f6n8S bg1 bb2 bd3 bf4 bl5 bg6 bd7 v387 (wr64 (v388 + 1)))) (ap (len_cv (xs := bg1) (c := NettingFlow.cells)) (ap h390 (ap (at_some h402).1 (ap (at_map NettingFlow.cells (at_some h402).2) (ap4 h403 (ap4 h403 an)))))) (LoopQ.norm ⟨v387, (wr64 (v388 + 1)), rfl, h⟩)
    · obtain rfl := some_inj h
      exact rK cfg_ok 1 [([], [], [(2, .val (jI (bg1.length : Int)))])] [some false] [] [] [1, 2, 3, 9, 14, 16, 17] (.exit 6) ((f6n8E bg1 bb2 bd3 bf4 bl5 bg6 bd7 (.exit6 v387)).2) (ap (len_cv (xs := bg1) (c := NettingFlow.cells)) (ap h390 an)) (LoopQ.out rfl rfl)
noncomputable def f6n8L (bg1 : List NettingFlow) (bb2 : ByteArray) (bd3 : Int) (bf4 : Bool) (bl5 : (List NettingFlow) × Int) (bg6 : List NettingFlow) (bd7 : Int) : List NettingFlow → Int → Int → Option f6n8O
  | [], v387, v388 =>
    some (.exit6 v387)
  | x0 :: rest, v387, v388 =>
    bif (seq x0.Set bb2) then
      bif (decide (bd3 ≤ x0.Date)) then
        (at? bg1 bd7).bind fun x405 =>
        bif (seq x0.Ccy x405.Ccy) then
          req (cutB v388 (wr64 (v388 + 1)) bg1.length) <|
          (f15 ((bg1.take (Int.toNat (wr64 (v388 + 1)))).drop (Int.toNat v388)) x405.From x405.To x0.Date x0.Ccy).bind fun x409 =>
          (f6n8L bg1 bb2 bd3 bf4 bl5 bg6 bd7 rest (wr64 (v387 + x409)) (v388 + 1))
        else
          (f6n8L bg1 bb2 bd3 bf4 bl5 bg6 bd7 rest v387 (v388 + 1))
      else
        (f6n8L bg1 bb2 bd3 bf4 bl5 bg6 bd7 rest v387 (v388 + 1))
    else
      (f6n8L bg1 bb2 bd3 bf4 bl5 bg6 bd7 rest v387 (v388 + 1))
theorem f6n8L_eq (bg1 : List NettingFlow) (bb2 : ByteArray) (bd3 : Int) (bf4 : Bool) (bl5 : (List NettingFlow) × Int) (bg6 : List NettingFlow) (bd7 : Int) : ∀ (rest : List NettingFlow) (f k : Nat) (v387 : Int), bg1.drop k = rest → bg1.length ≤ maxLen → rest.length < f → f6n8 f bg1 bb2 bd3 bf4 bl5 bg6 bd7 v387 (k : Int) = f6n8L bg1 bb2 bd3 bf4 bl5 bg6 bd7 rest v387 (k : Int)
  | _, 0, _, _, _, _, hf => absurd hf (Nat.not_lt_zero _)
  | [], f + 1, k, v387, hd, hm, hf => by
    have hk : ¬ ((k : Int) < (bg1.length : Int)) := by have := drop_nil hd; omega
    rw [f6n8, f6n8L]
    simp only [decide_eq_false hk, cond_false]
  | x0 :: rest, f + 1, k, v387, hd, hm, hf => by
    obtain ⟨hx, hlt, hd'⟩ := drop_cons hd
    have hk : (k : Int) < (bg1.length : Int) := by omega
    have hw : wr64 ((k : Int) + 1) = (k : Int) + 1 := wr64_of (by omega) (by unfold maxLen at hm; omega)
    have ih : ∀ (v387 : Int), f6n8 f bg1 bb2 bd3 bf4 bl5 bg6 bd7 v387 ((k : Int) + 1) = f6n8L bg1 bb2 bd3 bf4 bl5 bg6 bd7 rest v387 ((k : Int) + 1) := fun v387 => f6n8L_eq bg1 bb2 bd3 bf4 bl5 bg6 bd7 rest f (k + 1) v387 hd' hm (by simpa using hf)
    rw [f6n8, f6n8L]
    simp only [decide_eq_true hk, cond_true, at_nat, hx, Option.bind_some, hw, ih]
theorem f6n8_run (bg1 : List NettingFlow) (bb2 : ByteArray) (bd3 : Int) (bf4 : Bool) (bl5 : (List NettingFlow) × Int) (bg6 : List NettingFlow) (bd7 : Int) (v387 : Int) (hm : bg1.length ≤ maxLen) : f6n8 FUEL bg1 bb2 bd3 bf4 bl5 bg6 bd7 v387 0 = f6n8L bg1 bb2 bd3 bf4 bl5 bg6 bd7 bg1 v387 0 := f6n8L_eq bg1 bb2 bd3 bf4 bl5 bg6 bd7 bg1 FUEL 0 v387 List.drop_zero hm (lt_FUEL hm)
inductive f6n7O where
  | norm (v415 : Int)
def f6n7E (bg1 : List NettingFlow) (bb2 : ByteArray) (bd3 : Int) (bf4 : Bool) (bl5 : (List NettingFlow) × Int) (bg6 : List NettingFlow) (bd7 : Int) : f6n7O → Ex × Tr × Hp
  | .norm v415 => (.norm, mkS [(1, (jL 6 NettingFlow.cells bg1)), (2, (jS bb2)), (3, (jI bd3)), (9, (jB bf4)), (14, (.pl (.sl .any 6 ((bl5.1.drop (Int.toNat (bg6.length : Int))).map NettingFlow.cells)))), (16, (jI bd7)), (17, (jI v415))], [])
def f6n7S (bg1 : List NettingFlow) (bb2 : ByteArray) (bd3 : Int) (bf4 : Bool) (bl5 : (List NettingFlow) × Int) (bg6 : List NettingFlow) (bd7 : Int) : Tr × Hp := (mkS [(1, (jL 6 NettingFlow.cells bg1)), (2, (jS bb2)), (3, (jI bd3)), (9, (jB bf4)), (14, (.pl (.sl .any 6 ((bl5.1.drop (Int.toNat (bg6.length : Int))).map NettingFlow.cells)))), (16, (jI bd7)), (17, (jI 0))], [])
noncomputable def f6n7 (bg1 : List NettingFlow) (bb2 : ByteArray) (bd3 : Int) (bf4 : Bool) (bl5 : (List NettingFlow) × Int) (bg6 : List NettingFlow) (bd7 : Int) : Option f6n7O :=
  (f6n8 FUEL bg1 bb2 bd3 bf4 bl5 bg6 bd7 0 0).bind fun o412 => match o412 with
  | .exit6 v414 => some (.norm v414)
theorem f6n7_ok (bg1 : List NettingFlow) (bb2 : ByteArray) (bd3 : Int) (bf4 : Bool) (bl5 : (List NettingFlow) × Int) (bg6 : List NettingFlow) (bd7 : Int) {o : f6n7O} (h : (f6n7 bg1 bb2 bd3 bf4 bl5 bg6 bd7) = some o) : T Try.prog Try.f6.ntmps 0 (cL (dropC 2 (cL (cL (dropC 1 (cL (cL (dropC 1 (cL (dropC 0 (dropC 1 (dropC 1 (dropC 1 (dropC 1 (dropC 6 c6))))))))))))))) (f6n7S bg1 bb2 bd3 bf4 bl5 bg6 bd7) (fun r => r = f6n7E bg1 bb2 bd3 bf4 bl5 bg6 bd7 o) := by
  unfold f6n7 at h
  refine rN cfg_ok 1 [j3] [] [] [] [1, 2, 3, 9, 14, 16, 17, 18] (f6n8S bg1 bb2 bd3 bf4 bl5 bg6 bd7 0 0) an ?_
  obtain ⟨o412, h413, h⟩ := bind_cases h
  cases o412 with
  | exit6 v414 =>
    obtain rfl := some_inj h
    exact T.last' (T.bl (i := 6) (by kernel_rfl) (by kernel_rfl) (f6n8_ok FUEL bg1 bb2 bd3 bf4 bl5 bg6 bd7 0 0 h413)) (tds := []) (m := []) (keep := [1, 2, 3, 9, 14, 16, 17]) (st2 := (f6n7E bg1 bb2 bd3 bf4 bl5 bg6 bd7 (.norm v414)).2) (by kernel_rfl) an rfl
inductive f6n6O where
  | norm
  | ret
def f6n6E (bg1 : List NettingFlow) (bb2 : ByteArray) (bd3 : Int) (bf4 : Bool) (bl5 : (List NettingFlow) × Int) (bg6 : List NettingFlow) (bd7 : Int) : f6n6O → Ex × Tr × Hp
  | .norm => (.norm, mkS [(1, (jL 6 NettingFlow.cells bg1)), (2, (jS bb2)), (3, (jI bd3)), (9, (jB bf4)), (14, (.pl (.sl .any 6 ((bl5.1.drop (Int.toNat (bg6.length : Int))).map NettingFlow.cells)))), (16, (jI bd7))], [])
  | .ret => (.ret, mkS [(8, (jB false))], [])
def f6n6S (bg1 : List NettingFlow) (bb2 : ByteArray) (bd3 : Int) (bf4 : Bool) (bl5 : (List NettingFlow) × Int) (bg6 : List NettingFlow) (bd7 : Int) : Tr × Hp := (mkS [(1, (jL 6 NettingFlow.cells bg1)), (2, (jS bb2)), (3, (jI bd3)), (9, (jB bf4)), (14, (.pl (.sl .any 6 ((bl5.1.drop (Int.toNat (bg6.length : Int))).map NettingFlow.cells)))), (16, (jI bd7))], [])
noncomputable def f6n6 (bg1 : List NettingFlow) (bb2 : ByteArray) (bd3 : Int) (bf4 : Bool) (bl5 : (List NettingFlow) × Int) (bg6 : List NettingFlow) (bd7 : Int) : Option f6n6O :=
  (at? bg1 bd7).bind fun x337 =>
  bif (seq x337.Set bb2) then
    bif (decide (x337.Date < bd3)) then
      some .norm
    else
      (f6n7 bg1 bb2 bd3 bf4 bl5 bg6 bd7).bind fun o416 => match o416 with
      | .norm v418 => (f15 (bl5.1.drop (Int.toNat (bg6.length : Int))) x337.From x337.To bd3 x337.Ccy).bind fun x421 =>
        bif (decide (v418 = x421)) then
          some .norm
        else
          some .ret
  else
    some .norm
theorem f6n6_ok (bg1 : List NettingFlow) (bb2 : ByteArray) (bd3 : Int) (bf4 : Bool) (bl5 : (List NettingFlow) × Int) (bg6 : List NettingFlow) (bd7 : Int) {o : f6n6O} (h : (f6n6 bg1 bb2 bd3 bf4 bl5 bg6 bd7) = some o) : T Try.prog Try.f6.ntmps 0 (cL (dropC 1 (cL (cL (dropC 1 (cL (dropC 0 (dropC 1 (dropC 1 (dropC 1 (dropC 1 (dropC 6 c6)))))))))))) (f6n6S bg1 bb2 bd3 bf4 bl5 bg6 bd7) (fun r => r = f6n6E bg1 bb2 bd3 bf4 bl5 bg6 bd7 o) := by
  unfold f6n6 at h
  refine T.block' (i := 5) (by kernel_rfl) ?_
  obtain ⟨x337, h338, h⟩ := bind_cases h
  rcases cond_cases h with ⟨h339, h⟩ | ⟨h339, h⟩
  · rcases cond_cases h with ⟨h340, h⟩ | ⟨h340, h⟩
    · obtain rfl := some_inj h
      exact rK cfg_ok 1 [(jF [8, 9, 10, 11, 12, 13, 14], [(2, .idx (Int.toNat bd7) (NettingFlow.cells x337)), (10, .idx (Int.toNat bd7) (NettingFlow.cells x337)), (15, .bool false)], [])] [some true] [] [] [1, 2, 3, 9, 14, 16] (.exit 5) ((f6n6E bg1 bb2 bd3 bf4 bl5 bg6 bd7 .norm).2) (ap (at_some h338).1 (ap (at_map NettingFlow.cells (at_some h338).2) (ap3 (not_t h339) (ap (at_some h338).1 (ap (at_map NettingFlow.cells (at_some h338).2) (ap (not_t h339) (ap4 (not_t h339) (ap h340 an)))))))) rfl
    · refine rN cfg_ok 2 [(jF [8, 9, 10, 11, 12, 13, 14], [(2, .idx (Int.toNat bd7) (NettingFlow.cells x337)), (10, .idx (Int.toNat bd7) (NettingFlow.cells x337)), (15, .bool false)], []), j3] [some false] [] [] [1, 2, 3, 9, 14, 16, 17] (f6n7S bg1 bb2 bd3 bf4 bl5 bg6 bd7) (ap (at_some h338).1 (ap (at_map NettingFlow.cells (at_some h338).2) (ap3 (not_t h339) (ap (at_some h338).1 (ap (at_map NettingFlow.cells (at_some h338).2) (ap (not_t h339) (ap4 (not_t h339) (ap h340 an)))))))) ?_
      obtain ⟨o416, h417, h⟩ := bind_cases h
      cases o416 with
      | norm v418 =>
        refine T.oneN (by kernel_rfl) (f6n7_ok bg1 bb2 bd3 bf4 bl5 bg6 bd7 h417) (st2 := (f6n7E bg1 bb2 bd3 bf4 bl5 bg6 bd7 (.norm v418)).2) rfl ?_
        obtain ⟨x421, h422, h⟩ := bind_cases h
        rcases cond_cases h with ⟨h424, h⟩ | ⟨h424, h⟩
        · obtain rfl := some_inj h
          exact rE cfg_ok [([], [(4, .idx (Int.toNat bd7) (NettingFlow.cells x337)), (9, .idx (Int.toNat bd7) (NettingFlow.cells x337)), (15, .idx (Int.toNat bd7) (NettingFlow.cells x337)), jH 18 (jI x421)], [])] [some false] [] [] [1, 2, 3, 9, 14, 16] (.norm, (f6n6E bg1 bb2 bd3 bf4 bl5 bg6 bd7 .norm).2) (ap (at_some h338).1 (ap (at_map NettingFlow.cells (at_some h338).2) (ap (at_some h338).1 (ap (at_map NettingFlow.cells (at_some h338).2) (ap (at_some h338).1 (ap (at_map NettingFlow.cells (at_some h338).2) (ap (f15_ok (bl5.1.drop (Int.toNat (bg6.length : Int))) x337.From x337.To bd3 x337.Ccy h422) (ap (not_t h424) an)))))))) rfl
        · obtain rfl := some_inj h
          exact rE cfg_ok [([], [(4, .idx (Int.toNat bd7) (NettingFlow.cells x337)), (9, .idx (Int.toNat bd7) (NettingFlow.cells x337)), (15, .idx (Int.toNat bd7) (NettingFlow.cells x337)), jH 18 (jI x421)], []), j3] [some true] [] [] [8] (.ret, (f6n6E bg1 bb2 bd3 bf4 bl5 bg6 bd7 .ret).2) (ap (at_some h338).1 (ap (at_map NettingFlow.cells (at_some h338).2) (ap (at_some h338).1 (ap (at_map NettingFlow.cells (at_some h338).2) (ap (at_some h338).1 (ap (at_map NettingFlow.cells (at_some h338).2) (ap (f15_ok (bl5.1.drop (Int.toNat (bg6.length : Int))) x337.From x337.To bd3 x337.Ccy h422) (ap (not_f h424) an)))))))) rfl
  · obtain rfl := some_inj h
    exact rK cfg_ok 1 [(jT [8, 9, 10, 11, 12, 13, 14], [(2, .idx (Int.toNat bd7) (NettingFlow.cells x337)), (15, .bool true)], [])] [none] [] [] [1, 2, 3, 9, 14, 16] (.exit 5) ((f6n6E bg1 bb2 bd3 bf4 bl5 bg6 bd7 .norm).2) (ap (at_some h338).1 (ap (at_map NettingFlow.cells (at_some h338).2) (ap4 (not_f h339) (ap4 (not_f h339) an)))) rfl
inductive f6n9O where
  | exit4
  | ret
def f6n9E (bg1 : List NettingFlow) (bb2 : ByteArray) (bd3 : Int) (bf4 : Bool) (bl5 : (List NettingFlow) × Int) (bg6 : List NettingFlow) : f6n9O → Ex × Tr × Hp
  | .exit4 => ((.exit 4), mkS [(9, (jB bf4))], [])
  | .ret => (.ret, mkS [(8, (jB false))], [])
def f6n9S (bg1 : List NettingFlow) (bb2 : ByteArray) (bd3 : Int) (bf4 : Bool) (bl5 : (List NettingFlow) × Int) (bg6 : List NettingFlow) (v330 : Int) : Tr × Hp := (mkS [(1, (jL 6 NettingFlow.cells bg1)), (2, (jS bb2)), (3, (jI bd3)), (9, (jB bf4)), (14, (.pl (.sl .any 6 ((bl5.1.drop (Int.toNat (bg6.length : Int))).map NettingFlow.cells)))), (16, (jI v330))], [])
noncomputable def f6n9 : Nat → List NettingFlow → ByteArray → Int → Bool → (List NettingFlow) × Int → List NettingFlow → Int → Option f6n9O
  | 0, _, _, _, _, _, _, _ => none
  | f + 1, bg1, bb2, bd3, bf4, bl5, bg6, v330 =>
    bif (decide (v330 < (bg1.length : Int))) then
      (f6n6 bg1 bb2 bd3 bf4 bl5 bg6 v330).bind fun o425 => match o425 with
      | .norm => (f6n9 f bg1 bb2 bd3 bf4 bl5 bg6 (wr64 (v330 + 1)))
      | .ret => some .ret
    else
      some .exit4
theorem f6n9_ok : ∀ (f : Nat) (bg1 : List NettingFlow) (bb2 : ByteArray) (bd3 : Int) (bf4 : Bool) (bl5 : (List NettingFlow) × Int) (bg6 : List NettingFlow) (v330 : Int) {o : f6n9O}, (f6n9 f bg1 bb2 bd3 bf4 bl5 bg6 v330) = some o → TL Try.prog Try.f6.ntmps 0 f (cL (cL (dropC 1 (cL (dropC 0 (dropC 1 (dropC 1 (dropC 1 (dropC 1 (dropC 6 c6)))))))))) (f6n9S bg1 bb2 bd3 bf4 bl5 bg6 v330) (fun r => r = f6n9E bg1 bb2 bd3 bf4 bl5 bg6 o)
  | 0, _, _, _, _, _, _, _, o, h => by rw [f6n9] at h; cases h
  | f + 1, bg1, bb2, bd3, bf4, bl5, bg6, v330, o, h => by
    rw [f6n9] at h
    refine TL.body (K := fun s => ∃ v330 : Int, s = (f6n9S bg1 bb2 bd3 bf4 bl5 bg6 v330) ∧ (f6n9 f bg1 bb2 bd3 bf4 bl5 bg6 v330) = some o) ?_ (by rintro _ ⟨v330, rfl, hk⟩; exact f6n9_ok f _ _ _ _ _ _ _ hk)
    rcases cond_cases h with ⟨h332, h⟩ | ⟨h332, h⟩
    · refine rN cfg_ok 1 [([], [], [(2, .val (jI (bg1.length : Int)))])] [some true] [] [] [1, 2, 3, 9, 14, 16] (f6n6S bg1 bb2 bd3 bf4 bl5 bg6 v330) (ap (len_cv (xs := bg1) (c := NettingFlow.cells)) (ap h332 an)) ?_
      obtain ⟨o425, h426, h⟩ := bind_cases h
      cases o425 with
      | norm =>
        refine T.oneN (by kernel_rfl) (f6n6_ok bg1 bb2 bd3 bf4 bl5 bg6 v330 h426) (st2 := (f6n6E bg1 bb2 bd3 bf4 bl5 bg6 v330 .norm).2) rfl ?_
        exact rE cfg_ok [j3] [] [] [] [1, 2, 3, 9, 14, 16] (.norm, (f6n9S bg1 bb2 bd3 bf4 bl5 bg6 (wr64 (v330 + 1)))) an (LoopQ.norm ⟨(wr64 (v330 + 1)), rfl, h⟩)
      | ret =>
        obtain rfl := some_inj h
        exact T.oneX' (by kernel_rfl) (f6n6_ok bg1 bb2 bd3 bf4 bl5 bg6 v330 h426) (tds := []) (m := []) (keep := [8]) (st2 := (f6n9E bg1 bb2 bd3 bf4 bl5 bg6 .ret).2) (by kernel_rfl) an rfl (LoopQ.out rfl rfl)
    · obtain rfl := some_inj h
      exact rK cfg_ok 1 [([], [], [(2, .val (jI (bg1.length : Int)))])] [some false] [] [] [9] (.exit 4) ((f6n9E bg1 bb2 bd3 bf4 bl5 bg6 .exit4).2) (ap (len_cv (xs := bg1) (c := NettingFlow.cells)) (ap h332 an)) (LoopQ.out rfl rfl)
inductive f6n5O where
  | norm
  | ret
def f6n5E (bg1 : List NettingFlow) (bb2 : ByteArray) (bd3 : Int) (bf4 : Bool) (bl5 : (List NettingFlow) × Int) (bg6 : List NettingFlow) : f6n5O → Ex × Tr × Hp
  | .norm => (.norm, mkS [(9, (jB bf4))], [])
  | .ret => (.ret, mkS [(8, (jB false))], [])
def f6n5S (bg1 : List NettingFlow) (bb2 : ByteArray) (bd3 : Int) (bf4 : Bool) (bl5 : (List NettingFlow) × Int) (bg6 : List NettingFlow) : Tr × Hp := (mkS [(1, (jL 6 NettingFlow.cells bg1)), (2, (jS bb2)), (3, (jI bd3)), (9, (jB bf4)), (14, (.pl (.sl .any 6 ((bl5.1.drop (Int.toNat (bg6.length : Int))).map NettingFlow.cells))))], [])
noncomputable def f6n5 (bg1 : List NettingFlow) (bb2 : ByteArray) (bd3 : Int) (bf4 : Bool) (bl5 : (List NettingFlow) × Int) (bg6 : List NettingFlow) : Option f6n5O :=
  (f6n9 FUEL bg1 bb2 bd3 bf4 bl5 bg6 0).bind fun o427 => match o427 with
  | .exit4 => some .norm
  | .ret => some .ret
theorem f6n5_ok (bg1 : List NettingFlow) (bb2 : ByteArray) (bd3 : Int) (bf4 : Bool) (bl5 : (List NettingFlow) × Int) (bg6 : List NettingFlow) {o : f6n5O} (h : (f6n5 bg1 bb2 bd3 bf4 bl5 bg6) = some o) : T Try.prog Try.f6.ntmps 0 (cL (dropC 0 (dropC 1 (dropC 1 (dropC 1 (dropC 1 (dropC 6 c6))))))) (f6n5S bg1 bb2 bd3 bf4 bl5 bg6) (fun r => r = f6n5E bg1 bb2 bd3 bf4 bl5 bg6 o) := by
  unfold f6n5 at h
  refine rN cfg_ok 1 [j3] [] [] [] [1, 2, 3, 9, 14, 16] (f6n9S bg1 bb2 bd3 bf4 bl5 bg6 0) an ?_
  obtain ⟨o427, h428, h⟩ := bind_cases h
  cases o427 with
  | exit4 =>
    obtain rfl := some_inj h
    exact T.last' (T.bl (i := 4) (by kernel_rfl) (by kernel_rfl) (f6n9_ok FUEL bg1 bb2 bd3 bf4 bl5 bg6 0 h428)) (tds := []) (m := []) (keep := [9]) (st2 := (f6n5E bg1 bb2 bd3 bf4 bl5 bg6 .norm).2) (by kernel_rfl) an rfl
  | ret =>
    obtain rfl := some_inj h
    exact T.last' (T.bl (i := 4) (by kernel_rfl) (by kernel_rfl) (f6n9_ok FUEL bg1 bb2 bd3 bf4 bl5 bg6 0 h428)) (tds := []) (m := []) (keep := [8]) (st2 := (f6n5E bg1 bb2 bd3 bf4 bl5 bg6 .ret).2) (by kernel_rfl) an rfl
inductive f6n0O where
  | ret (v431 : Bool)
def f6n0E (a1 : List NettingSet) (a2 : List NettingFlow) (a3 : ByteArray) (a4 : Int) : f6n0O → Ex × Tr × Hp
  | .ret v431 => (.ret, mkS [(8, (jB v431))], [])
def f6n0S (a1 : List NettingSet) (a2 : List NettingFlow) (a3 : ByteArray) (a4 : Int) : Tr × Hp := (initS [(jL 3 NettingSet.cells a1), (jL 6 NettingFlow.cells a2), (jS a3), (jI a4)] 0 .leaf, [])
noncomputable def f6n0 (a1 : List NettingSet) (a2 : List NettingFlow) (a3 : ByteArray) (a4 : Int) : Option f6n0O :=
  f11.bind fun x7 =>
  (f12 a1 a2).bind fun x13 =>
  bif x13 then
    some (.ret x7)
  else
    bif x7 then
      (f14r1 a2).bind fun x21 =>
      (f19 a1 x21 a3 a4).bind fun x23 =>
      bif (decide (x23.2 = 0)) then
        (f6n1 a2 a3 a4 x7 x23).bind fun o74 => match o74 with
        | .norm v76 => bif (decide ((x23.1.length : Int) < (v76.length : Int))) then
            some (.ret false)
          else
            req (cutB 0 (v76.length : Int) x23.1.length) <|
            (f17 ((x23.1.take (Int.toNat (v76.length : Int))).drop 0) v76).bind fun x84 =>
            bif x84 then
              req (cutB (v76.length : Int) (x23.1.length : Int) x23.1.length) <|
              (f6n3 a2 a3 a4 x7 x23 v76).bind fun o139 => match o139 with
              | .norm => (f6n5 a2 a3 a4 x7 x23 v76).bind fun o429 => match o429 with
                | .norm => some (.ret x7)
                | .ret => some (.ret false)
              | .ret => some (.ret false)
            else
              some (.ret false)
      else
        some (.ret (decide ((x23.1.length : Int) = 0)))
    else
      some (.ret x7)
theorem f6n0_ok (a1 : List NettingSet) (a2 : List NettingFlow) (a3 : ByteArray) (a4 : Int) {o : f6n0O} (h : (f6n0 a1 a2 a3 a4) = some o) : T Try.prog Try.f6.ntmps 0 c6 (f6n0S a1 a2 a3 a4) (fun r => r = f6n0E a1 a2 a3 a4 o) := by
  unfold f6n0 at h
  obtain ⟨x7, h8, h⟩ := bind_cases h
  obtain ⟨x13, h14, h⟩ := bind_cases h
  rcases cond_cases h with ⟨h15, h⟩ | ⟨h15, h⟩
  · obtain rfl := some_inj h
    exact rK cfg_ok 3 [j3, ([], [jH 0 (jB x7)], []), ([(4, true), (5, true)], [jH 2 (jB x13), (6, .bool true)], []), j3] [none] [] [] [8] .ret ((f6n0E a1 a2 a3 a4 (.ret x7)).2) (ap (f11_ok h8) (ap3 h15 (ap (f12_ok a1 a2 h14) an))) rfl
  · rcases cond_cases h with ⟨h16, h⟩ | ⟨h16, h⟩
    · obtain ⟨x21, h22, h⟩ := bind_cases h
      obtain ⟨x23, h24, h⟩ := bind_cases h
      rcases cond_cases h with ⟨h26, h⟩ | ⟨h26, h⟩
      · refine rN cfg_ok 6 [j3, ([], [jH 0 (jB x7)], []), ([(4, false), (5, false)], [jH 2 (jB x13), (6, .bool false)], []), ([], [(2, .call (.own 0) [jR 6 NettingFlow.cells x21]), jH 5 (.tup [(jL 6 NettingFlow.cells x23.1), (jI x23.2)])], []), j3, j3] [some false, some false] [] [] [1, 2, 3, 9, 10, 12] (f6n1S a2 a3 a4 x7 x23) (ap (f11_ok h8) (ap3 h15 (ap (f12_ok a1 a2 h14) (ap (not_t h16) (ap (f14r1_ok a2 h22) (ap (f19_ok a1 x21 a3 a4 h24) (ap (not_t h26) an))))))) ?_
        obtain ⟨o74, h75, h⟩ := bind_cases h
        cases o74 with
        | norm v76 =>
          refine T.oneN (by kernel_rfl) (f6n1_ok a2 a3 a4 x7 x23 h75) (st2 := (f6n1E a2 a3 a4 x7 x23 (.norm v76)).2) rfl ?_
          rcases cond_cases h with ⟨h82, h⟩ | ⟨h82, h⟩
          · obtain rfl := some_inj h
            exact rK cfg_ok 1 [(jT [6, 7, 8, 9, 10, 11, 12], [(13, .bool true)], [(1, .val (jI (x23.1.length : Int))), (3, .val (jI (v76.length : Int)))]), j3] [none] [] [] [8] .ret ((f6n0E a1 a2 a3 a4 (.ret false)).2) (ap (len_cv (xs := x23.1) (c := NettingFlow.cells)) (ap (len_cv (xs := v76) (c := NettingFlow.cells)) (ap4 h82 (ap4 h82 an)))) rfl
          · obtain ⟨h83, h⟩ := req_cases h
            obtain ⟨x84, h85, h⟩ := bind_cases h
            rcases cond_cases h with ⟨h86, h⟩ | ⟨h86, h⟩
            · refine rN cfg_ok 1 [(jF [6, 7, 8, 9, 10, 11, 12], [(9, .cut 0 (Int.toNat (v76.length : Int))), jH 11 (jB x84), (13, .bool false)], [(1, .val (jI (x23.1.length : Int))), (3, .val (jI (v76.length : Int))), (8, .val (jI (v76.length : Int))), (9, .val (.pl (.sl .any 6 (((x23.1.take (Int.toNat (v76.length : Int))).drop 0).map NettingFlow.cells))))])] [some false] [] [0] [1, 2, 3, 9, 10, 12] (mkS [(1, (jL 6 NettingFlow.cells a2)), (2, (jS a3)), (3, (jI a4)), (9, (jB x7)), (10, (jL 6 NettingFlow.cells x23.1)), (12, (.own 0))], [jR 6 NettingFlow.cells v76]) (ap (len_cv (xs := x23.1) (c := NettingFlow.cells)) (ap (len_cv (xs := v76) (c := NettingFlow.cells)) (ap3 h82 (ap (len_cv (xs := v76) (c := NettingFlow.cells)) (ap h82 (ap (cut_hn_1_map (c := NettingFlow.cells) h83) (ap (cut_hn_2 h83) (ap (cut_hn_3 h83) (ap (cut_hn_4_map (c := NettingFlow.cells) h83) (ap (congrArg (fun l => AV.pl (.sl .any 6 l)) (cut_cv (xs := x23.1) (c := NettingFlow.cells) (n := (Int.toNat (v76.length : Int))) (m := 0))) (ap4 h82 (ap (f17_ok ((x23.1.take (Int.toNat (v76.length : Int))).drop 0) v76 h85) (ap (not_t h86) an))))))))))))) ?_
              obtain ⟨h88, h⟩ := req_cases h
              refine rN cfg_ok 1 [([], [(3, .cut (Int.toNat (v76.length : Int)) x23.1.length)], [(2, .val (jI (v76.length : Int))), (3, .val (.pl (.sl .any 6 ((x23.1.drop (Int.toNat (v76.length : Int))).map NettingFlow.cells))))])] [] [] [] [1, 2, 3, 9, 14] (f6n3S a2 a3 a4 x7 x23 v76) (ap (len_cv (xs := v76) (c := NettingFlow.cells)) (ap (cut_nl_1_map (c := NettingFlow.cells) h88) (ap (cut_nl_2 h88) (ap (cut_nl_3 h88) (ap (cut_nl_4_map (c := NettingFlow.cells) h88) (ap (congrArg (fun l => AV.pl (.sl .any 6 l)) (drop_cv (xs := x23.1) (c := NettingFlow.cells) (m := (Int.toNat (v76.length : Int))))) an)))))) ?_
              obtain ⟨o139, h140, h⟩ := bind_cases h
              cases o139 with
              | norm =>
                refine T.oneN (by kernel_rfl) (f6n3_ok a2 a3 a4 x7 x23 v76 h140) (st2 := (f6n3E a2 a3 a4 x7 x23 v76 .norm).2) rfl ?_
                refine rN cfg_ok 0 [] [] [] [] [1, 2, 3, 9, 14] (f6n5S a2 a3 a4 x7 x23 v76) an ?_
                obtain ⟨o429, h430, h⟩ := bind_cases h
                cases o429 with
                | norm =>
                  refine T.oneN (by kernel_rfl) (f6n5_ok a2 a3 a4 x7 x23 v76 h430) (st2 := (f6n5E a2 a3 a4 x7 x23 v76 .norm).2) rfl ?_
                  obtain rfl := some_inj h
                  exact rE cfg_ok [j3] [] [] [] [8] (.ret, (f6n0E a1 a2 a3 a4 (.ret x7)).2) an rfl
                | ret =>
                  obtain rfl := some_inj h
                  exact T.oneX' (by kernel_rfl) (f6n5_ok a2 a3 a4 x7 x23 v76 h430) (tds := []) (m := []) (keep := [8]) (st2 := (f6n0E a1 a2 a3 a4 (.ret false)).2) (by kernel_rfl) an rfl rfl
              | ret =>
                obtain rfl := some_inj h
                exact T.oneX' (by kernel_rfl) (f6n3_ok a2 a3 a4 x7 x23 v76 h140) (tds := []) (m := []) (keep := [8]) (st2 := (f6n0E a1 a2 a3 a4 (.ret false)).2) (by kernel_rfl) an rfl rfl
            · obtain rfl := some_inj h
              exact rK cfg_ok 1 [(jF [6, 7, 8, 9, 10, 11, 12], [(9, .cut 0 (Int.toNat (v76.length : Int))), jH 11 (jB x84), (13, .bool false)], [(1, .val (jI (x23.1.length : Int))), (3, .val (jI (v76.length : Int))), (8, .val (jI (v76.length : Int))), (9, .val (.pl (.sl .any 6 (((x23.1.take (Int.toNat (v76.length : Int))).drop 0).map NettingFlow.cells))))]), j3] [some true] [] [] [8] .ret ((f6n0E a1 a2 a3 a4 (.ret false)).2) (ap (len_cv (xs := x23.1) (c := NettingFlow.cells)) (ap (len_cv (xs := v76) (c := NettingFlow.cells)) (ap3 h82 (ap (len_cv (xs := v76) (c := NettingFlow.cells)) (ap h82 (ap (cut_hn_1_map (c := NettingFlow.cells) h83) (ap (cut_hn_2 h83) (ap (cut_hn_3 h83) (ap (cut_hn_4_map (c := NettingFlow.cells) h83) (ap (congrArg (fun l => AV.pl (.sl .any 6 l)) (cut_cv (xs := x23.1) (c := NettingFlow.cells) (n := (Int.toNat (v76.length : Int))) (m := 0))) (ap4 h82 (ap (f17_ok ((x23.1.take (Int.toNat (v76.length : Int))).drop 0) v76 h85) (ap (not_f h86) an))))))))))))) rfl
      · obtain rfl := some_inj h
        exact rK cfg_ok 5 [j3, ([], [jH 0 (jB x7)], []), ([(4, false), (5, false)], [jH 2 (jB x13), (6, .bool false)], []), ([], [(2, .call (.own 0) [jR 6 NettingFlow.cells x21]), jH 5 (.tup [(jL 6 NettingFlow.cells x23.1), (jI x23.2)])], []), j3, (jT [2, 3, 4], [(5, .bool true)], [(3, .val (jI (x23.1.length : Int)))])] [some false, some true] [] [] [8] .ret ((f6n0E a1 a2 a3 a4 (.ret (decide ((x23.1.length : Int) = 0)))).2) (ap (f11_ok h8) (ap3 h15 (ap (f12_ok a1 a2 h14) (ap (not_t h16) (ap (f14r1_ok a2 h22) (ap (f19_ok a1 x21 a3 a4 h24) (ap (not_f h26) (ap2 h16 (ap (len_cv (xs := x23.1) (c := NettingFlow.cells)) (ap2 h16 an)))))))))) rfl
    · obtain rfl := some_inj h
      exact rK cfg_ok 3 [j3, ([], [jH 0 (jB x7)], []), ([(4, false), (5, false)], [jH 2 (jB x13), (6, .bool false)], []), j3] [some true] [] [] [8] .ret ((f6n0E a1 a2 a3 a4 (.ret x7)).2) (ap (f11_ok h8) (ap3 h15 (ap (f12_ok a1 a2 h14) (ap (not_f h16) an)))) rfl
noncomputable def f6 (a1 : List NettingSet) (a2 : List NettingFlow) (a3 : ByteArray) (a4 : Int) : Option Bool := (f6n0 a1 a2 a3 a4).bind fun o => match o with
  | .ret v431 => some v431
theorem f6_ok (a1 : List NettingSet) (a2 : List NettingFlow) (a3 : ByteArray) (a4 : Int) {r : Bool} (h : (f6 a1 a2 a3 a4) = some r) : CallS Try.prog false 6 [(jL 3 NettingSet.cells a1), (jL 6 NettingFlow.cells a2), (jS a3), (jI a4)] [] (jB r) [] := by
  unfold f6 at h
  obtain ⟨o, ho, h⟩ := bind_cases h
  cases o with
  | ret v431 =>
    obtain rfl := some_inj h
    exact CallS.plain cfg_ok (f := Try.f6) (c := c6) (by kernel_rfl) (by kernel_rfl) (by kernel_rfl) (by kernel_rfl) ((f6n0_ok a1 a2 a3 a4 ho).mono fun r e => by subst e; exact ⟨.inl rfl, (jB v431), (jB v431), by kernel_rfl, by kernel_rfl, ((Wk.refl _) : Wk (jB v431) (jB v431))⟩)



noncomputable def c7 : Code := Try.f7.body.getD .skip

end Go.Proofs.Ytkcafackfihmiaa
namespace Go.Proofs.Ytkcafackfihmiaa
set_option linter.unusedVariables false
set_option linter.unusedSimpArgs false
set_option maxRecDepth 100000
open Go.RowKit
end Go.Proofs.Ytkcafackfihmiaa
namespace Go.Proofs.Ytkcafackfihmiaa
set_option linter.unusedVariables false
set_option linter.unusedSimpArgs false
open Go.RowKit
section
variable {c : NettingFlow → NettingFlow → Int} (hc : ∀ x y, f55 x y = some (c x y)) (o : SWo fun x y => decide (c x y < 0))
abbrev st_lt (c : NettingFlow → NettingFlow → Int) : NettingFlow → NettingFlow → Bool := fun x y => decide (c x y < 0)
include hc o in
theorem st_ins_in (a b i : Int) : ∀ (n : Nat) (S P R : List NettingFlow) (x : NettingFlow) (f : Nat), S.length = n → n < f → P.length + n ≤ 1000000 → Sd (st_lt c) S →
    ∃ S', f81r1n2 f a b i ((P.length + n : Nat) : Int) (P ++ (S ++ x :: R)) = some (.exit2 (P ++ (S' ++ R))) ∧ Sd (st_lt c) S' ∧ Cl (st_lt c) (S ++ [x]) S' ∨ a ≠ (P.length : Int)
  | _, S, P, R, x, 0, _, h, _, _ => absurd h (Nat.not_lt_zero _)
  | n, S, P, R, x, f + 1, hn, hf, hb, hs => by
    by_cases ha : a = (P.length : Int)
    · subst ha
      rcases List.eq_nil_or_concat S with rfl | ⟨S0, y, rfl⟩
      · refine ⟨[x], .inl ⟨?_, by simp, Cl.refl _⟩⟩
        have : n = 0 := by simpa using hn.symm
        subst this
        rw [f81r1n2, decide_eq_false (by omega), cond_false]; simp
      · rw [List.concat_eq_append] at hn hs ⊢
        have hn' : n = S0.length + 1 := by simpa using hn.symm
        subst hn'
        have e1 : P ++ ((S0 ++ [y]) ++ x :: R) = (P ++ S0) ++ y :: x :: R := by simp
        have e2 : P ++ ((S0 ++ [y]) ++ x :: R) = ((P ++ S0) ++ [y]) ++ x :: R := by simp
        have k1 : wr64 (((P.length + (S0.length + 1) : Nat) : Int) - 1) = ((P.length + S0.length : Nat) : Int) := by rw [wrIn (by omega) (by omega)]; omega
        rw [f81r1n2, decide_eq_true (by omega), cond_true, k1, at_len (k := P.length + (S0.length + 1)) e2 (by simp <;> omega), at_len (k := P.length + S0.length) e1 (by simp)]
        simp only [Option.bind_some, hc]
        rw [show (Int.toNat ((P.length + (S0.length + 1) : Nat) : Int)) = P.length + (S0.length + 1) from rfl, show (Int.toNat ((P.length + S0.length : Nat) : Int)) = P.length + S0.length from rfl, set_len (k := P.length + (S0.length + 1)) (y := y) e2 (by simp <;> omega)]
        have e3 : ((P ++ S0) ++ [y]) ++ y :: R = (P ++ S0) ++ y :: y :: R := by simp
        rw [at_len (k := P.length + S0.length) e3 (by simp), set_len (k := P.length + S0.length) (y := x) e3 (by simp)]
        cases hlt : decide (c x y < 0) with
        | true =>
          have hs' := List.pairwise_append.1 hs
          rcases st_ins_in (P.length : Int) b i S0.length S0 P (y :: R) x f rfl (by omega) (by omega) hs'.1 with ⟨S', h | h⟩
          · obtain ⟨h1, h2, h3⟩ := h
            simp only [cond_true, Option.bind_some]
            rw [show (P ++ S0) ++ x :: y :: R = P ++ (S0 ++ x :: (y :: R)) by simp, h1]
            refine ⟨S' ++ [y], .inl ⟨by simp, h2.app (by simp) fun z hz w hw => ?_, ?_⟩⟩
            · rw [List.mem_singleton.1 hw]
              rcases List.mem_append.1 (h3.mem.1 hz) with hz | hz
              · exact hs'.2.2 z hz y (by simp)
              · rw [List.mem_singleton.1 hz]; exact o.asym hlt
            · have e := (Cl.refl (lt := st_lt c) S0).app (Cl.swap (lt := st_lt c) (u := [y]) (v := [x]) o (fun a ha b hb => by rw [List.mem_singleton.1 ha, List.mem_singleton.1 hb]; exact hlt))
              have e' := e.trans (by simpa using h3.app (Cl.refl (lt := st_lt c) [y]) : Cl (st_lt c) (S0 ++ ([x] ++ [y])) (S' ++ [y]))
              simpa using e'
          · exact absurd rfl h
        | false =>
          refine ⟨(S0 ++ [y]) ++ [x], .inl ⟨by simp, hs.app (by simp) fun z hz w hw => ?_, Cl.refl _⟩⟩
          rw [List.mem_singleton.1 hw]
          rcases List.mem_append.1 hz with hz | hz
          · exact o.nt hlt ((List.pairwise_append.1 hs).2.2 z hz y (by simp))
          · rw [List.mem_singleton.1 hz]; exact hlt
    · exact ⟨[], .inr ha⟩
include hc o in
theorem st_ins_out : ∀ (X S P R : List NettingFlow) (f : Nat), X.length < f → P.length + S.length + X.length ≤ 1000000 → Sd (st_lt c) S →
    ∃ S', f81r1n3 f (P.length : Int) ((P.length + S.length + X.length : Nat) : Int) ((P.length + S.length : Nat) : Int) (P ++ (S ++ (X ++ R))) = some (.exit0 (P ++ (S' ++ R))) ∧ Sd (st_lt c) S' ∧ Cl (st_lt c) (S ++ X) S'
  | _, S, P, R, 0, h, _, _ => absurd h (Nat.not_lt_zero _)
  | [], S, P, R, f + 1, _, _, hs => ⟨S, by rw [f81r1n3, decide_eq_false (by simp), cond_false]; simp, hs, by simpa using Cl.refl _⟩
  | x :: X, S, P, R, f + 1, hf, hb, hs => by
    simp only [List.length_cons] at hf hb
    rcases st_ins_in hc o (P.length : Int) ((P.length + S.length + (x :: X).length : Nat) : Int) ((P.length + S.length : Nat) : Int) S.length S P (X ++ R) x FUEL rfl (lt_FUEL (Nat.le_trans (by omega : S.length ≤ 1000000) (by unfold maxLen; decide))) (by omega) hs with ⟨S1, h | h⟩
    · obtain ⟨h1, h2, h3⟩ := h
      have hl := h3.len
      simp only [List.length_append, List.length_cons, List.length_nil] at hl
      obtain ⟨S', k1, k2, k3⟩ := st_ins_out X S1 P R f (by omega) (by omega) h2
      refine ⟨S', ?_, k2, ?_⟩
      · rw [f81r1n3, decide_eq_true (by simp only [List.length_cons]; omega), cond_true]
        unfold f81r1n1
        rw [show P ++ (S ++ (x :: X ++ R)) = P ++ (S ++ x :: (X ++ R)) by simp, h1]
        simp only [Option.bind_some]
        rw [show wr64 (((P.length + S.length : Nat) : Int) + 1) = ((P.length + S1.length : Nat) : Int) by rw [wrIn (by omega) (by omega)]; omega]
        rw [show ((P.length + S.length + (x :: X).length : Nat) : Int) = ((P.length + S1.length + X.length : Nat) : Int) by simp only [List.length_cons]; omega]
        exact k1
      · have := (h3.app (Cl.refl (lt := st_lt c) X)).trans k3
        simpa using this
    · exact absurd rfl h
include hc o in
theorem st_ins_ok (P X R : List NettingFlow) (hb : P.length + X.length ≤ 1000000) : f81r1 (P.length : Int) ((P.length + X.length : Nat) : Int) (P ++ (X ++ R)) = some (P ++ (sortS (st_lt c) X ++ R)) := by
  have main : f81r1n3 FUEL (P.length : Int) ((P.length + X.length : Nat) : Int) (wr64 ((P.length : Int) + 1)) (P ++ (X ++ R)) = some (.exit0 (P ++ (sortS (st_lt c) X ++ R))) := by
    rw [show wr64 ((P.length : Int) + 1) = ((P.length + 1 : Nat) : Int) by rw [wrIn (by omega) (by omega)]; omega]
    have hF : ∀ n : Nat, n ≤ 1000000 → n < FUEL := fun n hn => lt_FUEL (Nat.le_trans hn (by unfold maxLen; decide))
    cases X with
    | nil =>
      have : FUEL = (FUEL - 1) + 1 := by decide
      rw [this, f81r1n3, decide_eq_false (by simp <;> omega), cond_false]; rfl
    | cons x X =>
      simp only [List.length_cons] at hb
      obtain ⟨S', k1, k2, k3⟩ := st_ins_out hc o X [x] P R FUEL (hF _ (by omega)) (by simp <;> omega) (by simp)
      rw [sortS_of o k2 k3] at k1
      simp only [List.length_cons, List.length_nil, List.cons_append, List.nil_append] at k1 ⊢
      rw [show P.length + (X.length + 1) = P.length + (0 + 1) + X.length by omega, show P.length + 1 = P.length + (0 + 1) by omega]
      exact k1
  unfold f81r1 f81r1n0
  rw [main]; rfl
end
theorem st_swp_at : ∀ (X Y A M S : List NettingFlow) (a b i n : Nat) (f : Nat), X.length = Y.length → X.length < f → a + i = A.length → b + i = A.length + X.length + M.length → n = i + X.length → A.length + X.length + M.length + Y.length ≤ 1000000 →
    f90r1n1 f (a : Int) (b : Int) (n : Int) (i : Int) (A ++ (X ++ (M ++ (Y ++ S)))) = some (.exit0 (A ++ (Y ++ (M ++ (X ++ S)))))
  | _, _, _, _, _, _, _, _, _, 0, _, h, _, _, _, _ => absurd h (Nat.not_lt_zero _)
  | [], [], A, M, S, a, b, i, n, f + 1, _, _, _, _, hn, _ => by rw [f90r1n1, decide_eq_false (by simp at hn; omega), cond_false]
  | [], y :: Y, _, _, _, _, _, _, _, _ + 1, h, _, _, _, _, _ => absurd h (by simp)
  | x :: X, [], _, _, _, _, _, _, _, _ + 1, h, _, _, _, _, _ => absurd h (by simp)
  | x :: X, y :: Y, A, M, S, a, b, i, n, f + 1, h, hf, ha, hb, hn, hl => by
    simp only [List.length_cons] at h hf hb hn hl
    have e1 : A ++ (x :: X ++ (M ++ (y :: Y ++ S))) = A ++ x :: (X ++ (M ++ (y :: Y ++ S))) := by simp
    have e2 : A ++ (x :: X ++ (M ++ (y :: Y ++ S))) = (A ++ (x :: X ++ M)) ++ y :: (Y ++ S) := by simp
    have e3 : A ++ y :: (X ++ (M ++ (y :: Y ++ S))) = (A ++ (y :: X ++ M)) ++ y :: (Y ++ S) := by simp
    have k1 : wr64 ((a : Int) + (i : Int)) = ((a + i : Nat) : Int) := by rw [wrIn (by omega) (by omega)]; omega
    have k2 : wr64 ((b : Int) + (i : Int)) = ((b + i : Nat) : Int) := by rw [wrIn (by omega) (by omega)]; omega
    have k3 : wr64 ((i : Int) + 1) = ((i + 1 : Nat) : Int) := by rw [wrIn (by omega) (by omega)]; omega
    rw [f90r1n1, decide_eq_true (by omega), cond_true, k1, k2, k3, at_len e2 (by simp <;> omega), at_len e1 ha]
    simp only [Option.bind_some]
    rw [show (Int.toNat ((a + i : Nat) : Int)) = a + i from rfl, show (Int.toNat ((b + i : Nat) : Int)) = b + i from rfl, set_len (y := y) e1 ha, at_len e3 (by simp <;> omega), set_len (y := x) e3 (by simp <;> omega)]
    simp only [Option.bind_some]
    have ih := st_swp_at X Y (A ++ [y]) (M ++ [x]) S a b (i + 1) n f (by omega) (by omega) (by simp <;> omega) (by simp <;> omega) (by omega) (by simp <;> omega)
    rw [show (A ++ (y :: X ++ M)) ++ x :: (Y ++ S) = (A ++ [y]) ++ (X ++ ((M ++ [x]) ++ (Y ++ S))) by simp, ih]
    simp
theorem st_swp_ok (P X M Y S : List NettingFlow) {a b n : Nat} (h : X.length = Y.length) (ha : a = P.length) (hb : b = P.length + X.length + M.length) (hn : n = X.length) (hl : P.length + X.length + M.length + Y.length ≤ 1000000) :
    f90r1 (a : Int) (b : Int) (n : Int) (P ++ (X ++ (M ++ (Y ++ S)))) = some (P ++ (Y ++ (M ++ (X ++ S)))) := by
  have k := st_swp_at X Y P M S a b 0 n FUEL h (lt_FUEL (Nat.le_trans (by omega : X.length ≤ 1000000) (by unfold maxLen; decide))) (by omega) (by omega) (by omega) hl
  unfold f90r1 f90r1n0
  rw [show (0 : Int) = ((0 : Nat) : Int) from rfl, k]; rfl

theorem st_rot_at : ∀ (n : Nat) (P U V S : List NettingFlow) (f m : Nat), U.length + V.length ≤ n → n < f → 0 < U.length → 0 < V.length → m = P.length + U.length → P.length + U.length + V.length ≤ 1000000 →
    ∃ i l, f88r1n1 f (m : Int) (U.length : Int) (V.length : Int) (P ++ (U ++ (V ++ S))) = some (.exit0 i l) ∧ f90r1 (wr64 ((m : Int) - i)) (m : Int) i l = some (P ++ (V ++ (U ++ S)))
  | _, _, _, _, _, 0, _, _, h, _, _, _, _ => absurd h (Nat.not_lt_zero _)
  | 0, _, _, _, _, _ + 1, _, h, _, hu, _, _, _ => by omega
  | n + 1, P, U, V, S, f + 1, m, h, hf, hu, hv, hm, hl => by
    rw [f88r1n1]
    by_cases he : U.length = V.length
    · rw [decide_eq_true (by omega), cond_true]
      refine ⟨_, _, rfl, ?_⟩
      rw [show wr64 ((m : Int) - (U.length : Int)) = ((P.length : Nat) : Int) by rw [wrIn (by omega) (by omega)]; omega]
      have := st_swp_ok P U [] V S (a := P.length) (b := m) (n := U.length) he rfl (by simp <;> omega) rfl (by simp <;> omega)
      simpa using this
    · rw [decide_eq_false (by omega), cond_false]
      by_cases hlt : V.length < U.length
      · rw [decide_eq_true (by omega), cond_true]
        obtain ⟨U1, U2, rfl, hU1⟩ := cutL_ (l := U) (n := V.length) (by omega)
        simp only [List.length_append] at *
        rw [show wr64 ((m : Int) - ((U1.length + U2.length : Nat) : Int)) = ((P.length : Nat) : Int) by rw [wrIn (by omega) (by omega)]; omega]
        have k := st_swp_ok P U1 U2 V S (a := P.length) (b := m) (n := V.length) hU1 rfl (by omega) hU1.symm (by omega)
        rw [show P ++ ((U1 ++ U2) ++ (V ++ S)) = P ++ (U1 ++ (U2 ++ (V ++ S))) by simp, k]
        simp only [Option.bind_some]
        obtain ⟨i, l, q1, q2⟩ := st_rot_at n (P ++ V) U2 U1 S f m (by omega) (by omega) (by omega) (by omega) (by simp <;> omega) (by simp <;> omega)
        refine ⟨i, l, ?_, by rw [q2]; simp⟩
        rw [show wr64 (((U1.length + U2.length : Nat) : Int) - (V.length : Int)) = ((U2.length : Nat) : Int) by rw [wrIn (by omega) (by omega)]; omega, ← hU1]
        rw [show P ++ (V ++ (U2 ++ (U1 ++ S))) = (P ++ V) ++ (U2 ++ (U1 ++ S)) by simp]
        exact q1
      · rw [decide_eq_false (by omega), cond_false]
        obtain ⟨V1, V2, rfl, hV2⟩ := cutR_ (l := V) (n := U.length) (by omega)
        simp only [List.length_append] at *
        rw [show wr64 ((m : Int) - (U.length : Int)) = ((P.length : Nat) : Int) by rw [wrIn (by omega) (by omega)]; omega]
        rw [show wr64 (wr64 ((m : Int) + ((V1.length + V2.length : Nat) : Int)) - (U.length : Int)) = ((m + V1.length : Nat) : Int) by rw [wrIn (n := (m : Int) + ((V1.length + V2.length : Nat) : Int)) (by omega) (by omega), wrIn (by omega) (by omega)]; omega]
        have k := st_swp_ok P U V1 V2 S (a := P.length) (b := m + V1.length) (n := U.length) hV2.symm rfl (by omega) rfl (by omega)
        rw [show P ++ (U ++ ((V1 ++ V2) ++ S)) = P ++ (U ++ (V1 ++ (V2 ++ S))) by simp, k]
        simp only [Option.bind_some]
        obtain ⟨i, l, q1, q2⟩ := st_rot_at n P V2 V1 (U ++ S) f m (by omega) (by omega) (by omega) (by omega) (by omega) (by omega)
        refine ⟨i, l, ?_, by rw [q2]; simp⟩
        rw [show wr64 (((V1.length + V2.length : Nat) : Int) - (U.length : Int)) = ((V1.length : Nat) : Int) by rw [wrIn (by omega) (by omega)]; omega, ← hV2]
        exact q1
theorem st_rot_ok (P U V S : List NettingFlow) {a m b : Nat} (ha : a = P.length) (hm : m = P.length + U.length) (hb : b = P.length + U.length + V.length) (hu : 0 < U.length) (hv : 0 < V.length) (hl : P.length + U.length + V.length ≤ 1000000) :
    f88r1 (a : Int) (m : Int) (b : Int) (P ++ (U ++ (V ++ S))) = some (P ++ (V ++ (U ++ S))) := by
  obtain ⟨i, l, q1, q2⟩ := st_rot_at (U.length + V.length) P U V S FUEL m (Nat.le_refl _) (lt_FUEL (Nat.le_trans (by omega : U.length + V.length ≤ 1000000) (by unfold maxLen; decide))) hu hv hm hl
  unfold f88r1 f88r1n0
  rw [show wr64 ((m : Int) - (a : Int)) = ((U.length : Nat) : Int) by rw [wrIn (by omega) (by omega)]; omega, show wr64 ((b : Int) - (m : Int)) = ((V.length : Nat) : Int) by rw [wrIn (by omega) (by omega)]; omega, q1]
  simp only [Option.bind_some, q2]
end Go.Proofs.Ytkcafackfihmiaa
namespace Go.Proofs.Ytkcafackfihmiaa
set_option linter.unusedVariables false
set_option linter.unusedSimpArgs false
open Go.RowKit
abbrev st_self := Int → Int → Int → List NettingFlow → Option (List NettingFlow)
theorem st_half {a b : Nat} (h : a + b ≤ 1000000000) : wr64 (shrK .u64 (wru64 (wr64 ((a : Int) + (b : Int)))) 1) = (((a + b) / 2 : Nat) : Int) := by
  rw [show (a : Int) + (b : Int) = ((a + b : Nat) : Int) by omega]; exact half_eq h
section
variable {c : NettingFlow → NettingFlow → Int} (hc : ∀ x y, f55 x y = some (c x y)) (self : st_self)
include hc
theorem st_n3 {l : List NettingFlow} {x : NettingFlow} {a : Int} (hx : at? l a = some x) (hl : l.length ≤ 1000000) : ∀ (f lo hi : Nat), hi ≤ l.length → lo ≤ 1000000 → f82r1n3 self f a l (lo : Int) (hi : Int) = (bsN (pq (fun y => decide (c y x < 0)) l) f lo hi).map fun r => .exit0 (r : Int)
  | 0, lo, hi, _, _ => rfl
  | f + 1, lo, hi, h, h0 => by
    rw [f82r1n3, bsN]
    by_cases hlt : lo < hi
    · have hk : (lo + hi) / 2 < l.length := by omega
      rw [decide_eq_true hlt, decide_eq_true (by omega : (lo : Int) < (hi : Int)), st_half (by omega), at_in hk, hx]
      simp only [cond_true, Option.bind_some, hc]
      have ep : pq (fun y => decide (c y x < 0)) l ((lo + hi) / 2) = decide (c l[(lo + hi) / 2] x < 0) := by unfold pq; rw [List.getElem?_eq_getElem hk]
      rw [ep]
      cases decide (c l[(lo + hi) / 2] x < 0) with
      | true => rw [cond_true, cond_true, show wr64 ((((lo + hi) / 2 : Nat) : Int) + 1) = (((lo + hi) / 2 + 1 : Nat) : Int) by rw [wrIn (by omega) (by omega)]; omega]; exact st_n3 hx hl f _ _ h (by omega)
      | false => rw [cond_false, cond_false]; exact st_n3 hx hl f _ _ (by omega) h0
    · rw [decide_eq_false hlt, decide_eq_false (by omega : ¬ (lo : Int) < (hi : Int))]; rfl
theorem st_n8 {l : List NettingFlow} {x : NettingFlow} {a : Int} (hx : at? l a = some x) (hl : l.length ≤ 1000000) : ∀ (f lo hi : Nat), hi ≤ l.length → lo ≤ 1000000 → f82r1n8 self f a l (lo : Int) (hi : Int) = (bsN (pq (fun y => !decide (c x y < 0)) l) f lo hi).map fun r => .exit4 (r : Int)
  | 0, lo, hi, _, _ => rfl
  | f + 1, lo, hi, h, h0 => by
    rw [f82r1n8, bsN]
    by_cases hlt : lo < hi
    · have hk : (lo + hi) / 2 < l.length := by omega
      rw [decide_eq_true hlt, decide_eq_true (by omega : (lo : Int) < (hi : Int)), st_half (by omega), at_in hk, hx]
      simp only [cond_true, Option.bind_some, hc]
      have ep : pq (fun y => !decide (c x y < 0)) l ((lo + hi) / 2) = !decide (c x l[(lo + hi) / 2] < 0) := by unfold pq; rw [List.getElem?_eq_getElem hk]
      rw [ep]
      cases decide (c x l[(lo + hi) / 2] < 0) with
      | true => simp only [cond_true, Bool.not_true, cond_false]; exact st_n8 hx hl f _ _ (by omega) h0
      | false => simp only [cond_true, Bool.not_false, cond_false]; rw [show wr64 ((((lo + hi) / 2 : Nat) : Int) + 1) = (((lo + hi) / 2 + 1 : Nat) : Int) by rw [wrIn (by omega) (by omega)]; omega]; exact st_n8 hx hl f _ _ h (by omega)
    · rw [decide_eq_false hlt, decide_eq_false (by omega : ¬ (lo : Int) < (hi : Int))]; rfl
def st_pr (c : NettingFlow → NettingFlow → Int) (l : List NettingFlow) (n h : Nat) : Bool := match l[n - 1 - h]?, l[h]? with | some y, some x => !decide (c y x < 0) | _, _ => false
theorem st_n12 {l : List NettingFlow} {a m b : Nat} (hl : l.length ≤ 1000000) (hb : b ≤ l.length) (ham : a ≤ m) (hmb : m ≤ b) : ∀ (f lo hi : Nat), (∀ h, lo ≤ h → h < hi → h + 1 ≤ (a + b) / 2 + m ∧ (a + b) / 2 + m - 1 - h < l.length ∧ h < l.length) → lo ≤ 1000000 → hi ≤ 1000000 →
    f82r1n12 self f (a : Int) (m : Int) (b : Int) l (lo : Int) (hi : Int) = (bsN (st_pr c l ((a + b) / 2 + m)) f lo hi).map fun r => .exit8 (r : Int)
  | 0, lo, hi, _, _, _ => rfl
  | f + 1, lo, hi, h, h0, h00 => by
    rw [f82r1n12, bsN]
    by_cases hlt : lo < hi
    · obtain ⟨k1, k2, k3⟩ := h ((lo + hi) / 2) (by omega) (by omega)
      rw [decide_eq_true hlt, decide_eq_true (by omega : (lo : Int) < (hi : Int)), st_half (a := lo) (b := hi) (by omega), st_half (a := a) (b := b) (by omega), at_in k3]
      rw [wrIn (n := (((a + b) / 2 : Nat) : Int) + (m : Int)) (by omega) (by omega), wrIn (n := (((a + b) / 2 : Nat) : Int) + (m : Int) - 1) (by omega) (by omega), wrIn (by omega) (by omega)]
      rw [show (((a + b) / 2 : Nat) : Int) + (m : Int) - 1 - (((lo + hi) / 2 : Nat) : Int) = (((a + b) / 2 + m - 1 - (lo + hi) / 2 : Nat) : Int) by omega, at_in k2]
      simp only [cond_true, Option.bind_some, hc]
      have ep : st_pr c l ((a + b) / 2 + m) ((lo + hi) / 2) = !decide (c l[(a + b) / 2 + m - 1 - (lo + hi) / 2] l[(lo + hi) / 2] < 0) := by unfold st_pr; rw [List.getElem?_eq_getElem k3, List.getElem?_eq_getElem k2]
      rw [ep]
      cases decide (c l[(a + b) / 2 + m - 1 - (lo + hi) / 2] l[(lo + hi) / 2] < 0) with
      | true => simp only [cond_true, Bool.not_true, cond_false]; exact st_n12 hl hb ham hmb f _ _ (fun i hi1 hi2 => h i hi1 (by omega)) h0 (by omega)
      | false =>
        simp only [cond_true, Bool.not_false, cond_false]
        rw [show wr64 ((((lo + hi) / 2 : Nat) : Int) + 1) = (((lo + hi) / 2 + 1 : Nat) : Int) by rw [wrIn (by omega) (by omega)]; omega]
        exact st_n12 hl hb ham hmb f _ _ (fun i hi1 hi2 => h i (by omega) hi2) (by omega) h00
    · rw [decide_eq_false hlt, decide_eq_false (by omega : ¬ (lo : Int) < (hi : Int))]; rfl
omit hc
theorem st_n5 : ∀ (Z A R : List NettingFlow) (x : NettingFlow) (f i : Nat), Z.length < f → i = A.length + Z.length + 1 → i ≤ 1000000 → f82r1n5 self f (i : Int) (A.length : Int) (A ++ x :: (Z ++ R)) = some (.exit2 (A ++ (Z ++ x :: R)))
  | _, _, _, _, 0, _, h, _, _ => absurd h (Nat.not_lt_zero _)
  | [], A, R, x, f + 1, i, _, hi, hl => by
    simp only [List.length_nil] at hi
    rw [f82r1n5, wrIn (by omega) (by omega), decide_eq_false (by omega), cond_false]; rfl
  | z :: Z, A, R, x, f + 1, i, hf, hi, hl => by
    simp only [List.length_cons] at hf hi
    have e1 : A ++ x :: (z :: Z ++ R) = (A ++ [x]) ++ z :: (Z ++ R) := by simp
    have e2 : A ++ x :: (z :: Z ++ R) = A ++ x :: (z :: Z ++ R) := rfl
    have e3 : A ++ z :: (z :: Z ++ R) = (A ++ [z]) ++ z :: (Z ++ R) := by simp
    rw [f82r1n5, wrIn (n := (i : Int) - 1) (by omega) (by omega), decide_eq_true (by omega), cond_true, show wr64 ((A.length : Int) + 1) = ((A.length + 1 : Nat) : Int) by rw [wrIn (by omega) (by omega)]; omega]
    rw [at_len e1 (by simp), at_len e2 rfl]
    simp only [Option.bind_some]
    rw [show (Int.toNat (A.length : Int)) = A.length from rfl, show (Int.toNat ((A.length + 1 : Nat) : Int)) = A.length + 1 from rfl, set_len (y := z) e2 rfl, at_len e3 (by simp), set_len (y := x) e3 (by simp)]
    simp only [Option.bind_some]
    have ih := st_n5 Z (A ++ [z]) R x f i (by omega) (by simp <;> omega) hl
    rw [List.length_append] at ih
    simp only [List.length_cons, List.length_nil] at ih
    rw [show A.length + 1 = A.length + (0 + 1) by omega, ih]
    simp
theorem st_n10 : ∀ (n : Nat) (Z A R : List NettingFlow) (x : NettingFlow) (f : Nat), Z.length = n → n < f → A.length + n ≤ 1000000 → f82r1n10 self f (A.length : Int) ((A.length + n : Nat) : Int) (A ++ (Z ++ x :: R)) = some (.exit6 (A ++ x :: (Z ++ R)))
  | _, _, _, _, _, 0, _, h, _ => absurd h (Nat.not_lt_zero _)
  | n, Z, A, R, x, f + 1, hz, hf, hl => by
    rcases List.eq_nil_or_concat Z with rfl | ⟨Z0, z, rfl⟩
    · have : n = 0 := by simpa using hz.symm
      subst this
      rw [f82r1n10, decide_eq_false (by omega), cond_false]; rfl
    · rw [List.concat_eq_append] at hz ⊢
      have hz' : n = Z0.length + 1 := by simpa using hz.symm
      subst hz'
      have e1 : A ++ ((Z0 ++ [z]) ++ x :: R) = (A ++ Z0) ++ z :: (x :: R) := by simp
      have e2 : A ++ ((Z0 ++ [z]) ++ x :: R) = ((A ++ Z0) ++ [z]) ++ x :: R := by simp
      have e3 : ((A ++ Z0) ++ [z]) ++ z :: R = (A ++ Z0) ++ z :: (z :: R) := by simp
      rw [f82r1n10, decide_eq_true (by omega), cond_true, show wr64 (((A.length + (Z0.length + 1) : Nat) : Int) - 1) = ((A.length + Z0.length : Nat) : Int) by rw [wrIn (by omega) (by omega)]; omega]
      rw [at_len e1 (by simp), at_len e2 (by simp <;> omega)]
      simp only [Option.bind_some]
      rw [show (Int.toNat ((A.length + Z0.length : Nat) : Int)) = A.length + Z0.length from rfl, show (Int.toNat ((A.length + (Z0.length + 1) : Nat) : Int)) = A.length + (Z0.length + 1) from rfl, set_len (y := z) e2 (by simp <;> omega), at_len e3 (by simp), set_len (y := x) e3 (by simp)]
      simp only [Option.bind_some]
      rw [show (A ++ Z0) ++ x :: (z :: R) = A ++ (Z0 ++ x :: (z :: R)) by simp, st_n10 Z0.length Z0 A (z :: R) x f rfl (by omega) (by omega)]
      simp
end
section
variable {c : NettingFlow → NettingFlow → Int} (hc : ∀ x y, f55 x y = some (c x y)) (o : SWo (st_lt c)) (self : st_self)
include hc o
theorem st_one (P B S : List NettingFlow) (x : NettingFlow) (hb : Sd (st_lt c) B) (hl : P.length + 1 + B.length + S.length ≤ 500000) :
    f82r1n2 self (P.length : Int) ((P.length + 1 : Nat) : Int) ((P.length + 1 + B.length : Nat) : Int) (P ++ x :: (B ++ S)) = some (.ret (P ++ (sortS (st_lt c) (x :: B) ++ S))) := by
  have e0 : P ++ x :: (B ++ S) = (P ++ [x]) ++ (B ++ S) := by simp
  have hlen : (P ++ x :: (B ++ S)).length = P.length + 1 + B.length + S.length := by simp <;> omega
  have h3 := st_n3 hc self (l := P ++ x :: (B ++ S)) (a := (P.length : Int)) (at_len rfl rfl) (by omega) FUEL (P.length + 1) (P.length + 1 + B.length) (by omega) (by omega)
  obtain ⟨r, q1, q2, q3, q4, q5⟩ := bsN_ok (p := pq (fun y => decide (c y x < 0)) (P ++ x :: (B ++ S))) FUEL (P.length + 1) (P.length + 1 + B.length) (by omega) (lt_FUEL (Nat.le_trans (by omega : P.length + 1 + B.length - (P.length + 1) ≤ 1000000) (by unfold maxLen; decide))) fun i j a1 a2 a3 a4 => by
    rw [e0] at a4 ⊢
    exact pq_mono (X := P ++ [x]) (B := B) (R := S) (hb.imp fun {u w} huw hq => o.le_lt huw hq) i j (by simp <;> omega) a2 (by simp <;> omega) a4
  obtain ⟨B1, B2, rfl, hB1⟩ := cutL_ (l := B) (n := r - (P.length + 1)) (by omega)
  simp only [List.length_append] at *
  have hb' := List.pairwise_append.1 hb
  have f1 : ∀ y ∈ B1, decide (c y x < 0) = true := pq_seg (X := P ++ [x]) (R := B2 ++ S) fun i a1 a2 => by
    have := q4 i (by simp at a1; omega) (by simp at a2; omega)
    simpa using this
  have f2 : ∀ y ∈ B2, decide (c y x < 0) = false := pq_seg (X := P ++ [x] ++ B1) (R := S) fun i a1 a2 => by
    have := q5 i (by simp at a1; omega) (by simp at a2; omega)
    simpa using this
  unfold f82r1n2 f82r1n4
  rw [show wr64 (((P.length + 1 : Nat) : Int) - (P.length : Int)) = 1 by rw [wrIn (by omega) (by omega)]; omega, h3, q1]
  simp only [decide_true, cond_true, Option.map_some, Option.bind_some]
  have h5 := st_n5 self B1 P (B2 ++ S) x FUEL r (lt_FUEL (Nat.le_trans (by omega : B1.length ≤ 1000000) (by unfold maxLen; decide))) (by omega) (by omega)
  rw [show P ++ x :: (B1 ++ B2 ++ S) = P ++ x :: (B1 ++ (B2 ++ S)) by simp, h5]
  simp only [Option.bind_some]
  have hS : B1 ++ x :: B2 = sortS (st_lt c) (x :: (B1 ++ B2)) := by
    refine sortS_of o ?_ ?_
    · refine Sd.app hb'.1 (List.pairwise_cons.2 ⟨fun y hy => f2 y hy, hb'.2.1⟩) fun u hu w hw => ?_
      rcases List.mem_cons.1 hw with rfl | hw
      · exact o.asym (f1 u hu)
      · exact hb'.2.2 u hu w hw
    · have := (Cl.swap (lt := st_lt c) (u := [x]) (v := B1) o (fun a ha b hb => by rw [List.mem_singleton.1 ha]; exact f1 b hb)).app (Cl.refl (lt := st_lt c) B2)
      simpa using this
  rw [← hS]; simp
theorem st_last (P A S : List NettingFlow) (y : NettingFlow) (ha : Sd (st_lt c) A) (hl : P.length + A.length + 1 + S.length ≤ 500000) :
    f82r1n7 self (P.length : Int) ((P.length + A.length : Nat) : Int) ((P.length + A.length + 1 : Nat) : Int) (P ++ (A ++ y :: S)) = some (.ret (P ++ (sortS (st_lt c) (A ++ [y]) ++ S))) := by
  have hlen : (P ++ (A ++ y :: S)).length = P.length + A.length + 1 + S.length := by simp <;> omega
  have h3 := st_n8 hc self (l := P ++ (A ++ y :: S)) (x := y) (a := ((P.length + A.length : Nat) : Int)) (at_len (a := P ++ A) (b := S) (by simp) (by simp)) (by omega) FUEL P.length (P.length + A.length) (by omega) (by omega)
  obtain ⟨r, q1, q2, q3, q4, q5⟩ := bsN_ok (p := pq (fun z => !decide (c y z < 0)) (P ++ (A ++ y :: S))) FUEL P.length (P.length + A.length) (by omega) (lt_FUEL (Nat.le_trans (by omega : P.length + A.length - P.length ≤ 1000000) (by unfold maxLen; decide))) fun i j a1 a2 a3 a4 => by
    refine pq_mono (X := P) (B := A) (R := y :: S) (ha.imp fun {u w} huw hq => ?_) i j a1 a2 a3 a4
    simp only [Bool.not_eq_true'] at hq ⊢
    exact o.nt hq huw
  obtain ⟨A1, A2, rfl, hA1⟩ := cutL_ (l := A) (n := r - P.length) (by omega)
  simp only [List.length_append] at *
  have ha' := List.pairwise_append.1 ha
  have f1 : ∀ z ∈ A1, (!decide (c y z < 0)) = true := pq_seg (X := P) (R := A2 ++ y :: S) fun i a1 a2 => by
    have := q4 i a1 (by omega)
    simpa using this
  have f2 : ∀ z ∈ A2, (!decide (c y z < 0)) = false := pq_seg (X := P ++ A1) (R := y :: S) fun i a1 a2 => by
    have := q5 i (by simp at a1; omega) (by simp at a2; omega)
    simpa using this
  unfold f82r1n7 f82r1n9
  rw [show wr64 (((P.length + (A1.length + A2.length) + 1 : Nat) : Int) - ((P.length + (A1.length + A2.length) : Nat) : Int)) = 1 by rw [wrIn (by omega) (by omega)]; omega, h3, q1]
  simp only [decide_true, cond_true, Option.map_some, Option.bind_some]
  have h5 := st_n10 self A2.length A2 (P ++ A1) S y FUEL rfl (lt_FUEL (Nat.le_trans (by omega : A2.length ≤ 1000000) (by unfold maxLen; decide))) (by simp <;> omega)
  rw [List.length_append] at h5
  rw [show P ++ (A1 ++ A2 ++ y :: S) = (P ++ A1) ++ (A2 ++ y :: S) by simp, show P.length + (A1.length + A2.length) = P.length + A1.length + A2.length by omega, show r = P.length + A1.length by omega, h5]
  simp only [Option.bind_some]
  have hS : A1 ++ y :: A2 = sortS (st_lt c) ((A1 ++ A2) ++ [y]) := by
    refine sortS_of o ?_ ?_
    · refine Sd.app ha'.1 (List.pairwise_cons.2 ⟨fun z hz => ?_, ha'.2.1⟩) fun u hu w hw => ?_
      · have := f2 z hz
        simp only [Bool.not_eq_false'] at this
        exact o.asym this
      · rcases List.mem_cons.1 hw with rfl | hw
        · have := f1 u hu
          simpa using this
        · exact ha'.2.2 u hu w hw
    · have := (Cl.refl (lt := st_lt c) A1).app (Cl.swap (lt := st_lt c) (u := A2) (v := [y]) o (fun a ha b hb => by
        rw [List.mem_singleton.1 hb]
        have := f2 a ha
        simpa using this))
      simpa using this
  rw [← hS]; simp
end
end Go.Proofs.Ytkcafackfihmiaa
namespace Go.Proofs.Ytkcafackfihmiaa
set_option linter.unusedVariables false
set_option linter.unusedSimpArgs false
open Go.RowKit
section
variable {c : NettingFlow → NettingFlow → Int} (hc : ∀ x y, f55 x y = some (c x y)) (o : SWo (st_lt c))
theorem st_sdg {l : List NettingFlow} (h : Sd (st_lt c) l) {i j : Nat} {x y : NettingFlow} (hij : i ≤ j) (hx : l[i]? = some x) (hy : l[j]? = some y) (o : SWo (st_lt c)) : decide (c y x < 0) = false := by
  rcases Nat.lt_or_ge i j with hlt | hge
  · obtain ⟨h1, rfl⟩ := List.getElem?_eq_some_iff.1 hx
    obtain ⟨h2, rfl⟩ := List.getElem?_eq_some_iff.1 hy
    exact List.pairwise_iff_getElem.1 h i j h1 h2 hlt
  · have : i = j := by omega
    subst this
    rw [hx] at hy; obtain rfl := Option.some.inj hy
    exact o.irr x
include hc o in
theorem st_round (self : st_self) (K : Nat) (hs : ∀ (P A B S : List NettingFlow), 0 < A.length → 0 < B.length → A.length + B.length ≤ K → Sd (st_lt c) A → Sd (st_lt c) B → P.length + A.length + B.length + S.length ≤ 500000 →
      self (P.length : Int) ((P.length + A.length : Nat) : Int) ((P.length + A.length + B.length : Nat) : Int) (P ++ (A ++ (B ++ S))) = some (P ++ (sortS (st_lt c) (A ++ B) ++ S)))
    (P A B S : List NettingFlow) (ha0 : 1 < A.length) (hb0 : 1 < B.length) (hK : A.length + B.length ≤ 2 * K) (ha : Sd (st_lt c) A) (hb : Sd (st_lt c) B) (hl : P.length + A.length + B.length + S.length ≤ 500000) :
    f82r1n0 self (P.length : Int) ((P.length + A.length : Nat) : Int) ((P.length + A.length + B.length : Nat) : Int) (P ++ (A ++ (B ++ S))) = some (.norm (P ++ (sortS (st_lt c) (A ++ B) ++ S))) := by
  have hlen : (P ++ (A ++ (B ++ S))).length = P.length + A.length + B.length + S.length := by simp <;> omega
  -- the numbers
  obtain ⟨a, ea⟩ : ∃ a, a = P.length := ⟨_, rfl⟩
  obtain ⟨m, em⟩ : ∃ m, m = P.length + A.length := ⟨_, rfl⟩
  obtain ⟨b, eb⟩ : ∃ b, b = P.length + A.length + B.length := ⟨_, rfl⟩
  obtain ⟨mid, emid⟩ : ∃ mid, mid = (a + b) / 2 := ⟨_, rfl⟩
  obtain ⟨s0, r0, e11, hs0, hr0, hrm, hrmid, hsb, hsa, hse, hre⟩ : ∃ s0 r0 : Nat, f82r1n11 self (a : Int) (m : Int) (b : Int) (P ++ (A ++ (B ++ S))) = some (.norm (s0 : Int) (r0 : Int)) ∧ a ≤ s0 ∧ s0 ≤ r0 ∧ r0 ≤ m ∧ r0 ≤ mid ∧ mid + m ≤ b + s0 ∧ s0 ≤ m ∧ (s0 = a ∨ mid + m = b + s0) ∧ (r0 = m ∨ r0 = mid) := by
    unfold f82r1n11
    rw [st_half (by omega), ← emid]
    by_cases h : mid < m
    · rw [decide_eq_true (by omega), cond_true]
      refine ⟨mid + m - b, mid, ?_, by omega, by omega, by omega, by omega, by omega, by omega, by omega, by omega⟩
      rw [wrIn (n := (mid : Int) + (m : Int)) (by omega) (by omega), wrIn (by omega) (by omega)]
      congr 2; omega
    · rw [decide_eq_false (by omega), cond_false]
      exact ⟨a, m, rfl, by omega, by omega, by omega, by omega, by omega, by omega, by omega, by omega⟩
  -- where to cut
  have gA : ∀ i, a ≤ i → i < m → (P ++ (A ++ (B ++ S)))[i]? = A[i - a]? := fun i h1 h2 => by rw [get_seg (by omega) (by omega), ea]
  have gB : ∀ i, m ≤ i → i < b → (P ++ (A ++ (B ++ S)))[i]? = B[i - m]? := fun i h1 h2 => by
    rw [show P ++ (A ++ (B ++ S)) = (P ++ A) ++ (B ++ S) by simp, get_seg (by simp <;> omega) (by simp <;> omega), List.length_append, em]
  have h12 := st_n12 hc self (l := P ++ (A ++ (B ++ S))) (a := a) (m := m) (b := b) (by omega) (by omega) (by omega) (by omega) FUEL s0 r0 (fun h h1 h2 => ⟨by omega, by omega, by omega⟩) (by omega) (by omega)
  rw [← emid] at h12
  obtain ⟨s, q1, q2, q3, q4, q5⟩ := bsN_ok (p := st_pr c (P ++ (A ++ (B ++ S))) (mid + m)) FUEL s0 r0 hr0 (lt_FUEL (Nat.le_trans (by omega : r0 - s0 ≤ 1000000) (by unfold maxLen; decide))) fun i j a1 a2 a3 a4 => by
    unfold st_pr at a4 ⊢
    have iA : i - a < A.length := by omega
    have jA : j - a < A.length := by omega
    have iB : mid + m - 1 - i - m < B.length := by omega
    have jB : mid + m - 1 - j - m < B.length := by omega
    rw [gA j (by omega) (by omega), gB (mid + m - 1 - j) (by omega) (by omega), List.getElem?_eq_getElem jA, List.getElem?_eq_getElem jB] at a4
    rw [gA i (by omega) (by omega), gB (mid + m - 1 - i) (by omega) (by omega), List.getElem?_eq_getElem iA, List.getElem?_eq_getElem iB]
    simp only [Bool.not_eq_true'] at a4 ⊢
    have k1 := st_sdg ha (i := i - a) (j := j - a) (by omega) (List.getElem?_eq_getElem iA) (List.getElem?_eq_getElem jA) o
    have k2 := st_sdg hb (i := mid + m - 1 - j - m) (j := mid + m - 1 - i - m) (by omega) (List.getElem?_eq_getElem jB) (List.getElem?_eq_getElem iB) o
    exact o.nt (o.nt k2 a4) k1
  obtain ⟨A1, A2, eA, hA1⟩ := cutL_ (l := A) (n := s - a) (by omega)
  obtain ⟨B1, B2, eB, hB1⟩ := cutL_ (l := B) (n := mid - s) (by omega)
  have lA : A.length = A1.length + A2.length := by rw [eA]; simp
  have lB : B.length = B1.length + B2.length := by rw [eB]; simp
  have h1 : ∀ x ∈ A1, ∀ y ∈ B2, decide (c y x < 0) = false := by
    rcases List.eq_nil_or_concat A1 with e | ⟨A0, u, e⟩
    · rw [e]; simp
    · cases hB2 : B2 with
      | nil => simp
      | cons v B3 =>
        rw [List.concat_eq_append] at e
        have l1 : A1.length = A0.length + 1 := by rw [e]; simp
        have l2 : B2.length = B3.length + 1 := by rw [hB2]; simp
        have hp := q4 (s - 1) (by omega) (by omega)
        unfold st_pr at hp
        rw [gA (s - 1) (by omega) (by omega), gB (mid + m - 1 - (s - 1)) (by omega) (by omega)] at hp
        rw [get_len (l := A) (k := s - 1 - a) (x := u) (a := A0) (b := A2) (by rw [eA, e]; simp) (by omega), get_len (l := B) (k := mid + m - 1 - (s - 1) - m) (x := v) (a := B1) (b := B3) (by rw [eB, hB2]) (by omega)] at hp
        simp only [Bool.not_eq_true'] at hp
        intro x hx y hy
        have hx' : decide (c u x < 0) = false := by
          rw [e] at hx
          have hsA := List.pairwise_append.1 (by rw [eA, e] at ha; exact (List.pairwise_append.1 ha).1 : Sd (st_lt c) (A0 ++ [u]))
          rcases List.mem_append.1 hx with hx | hx
          · exact hsA.2.2 x hx u (by simp)
          · rw [List.mem_singleton.1 hx]; exact o.irr u
        have hy' : decide (c y v < 0) = false := by
          have hsB := List.pairwise_cons.1 (by rw [eB, hB2] at hb; exact (List.pairwise_append.1 hb).2.1 : Sd (st_lt c) (v :: B3))
          rcases List.mem_cons.1 hy with rfl | hy
          · exact o.irr _
          · exact hsB.1 y hy
        exact o.nt (o.nt hy' hp) hx'
  have h2 : ∀ x ∈ A2, ∀ y ∈ B1, decide (c y x < 0) = true := by
    rcases List.eq_nil_or_concat B1 with e | ⟨B0, v, e⟩
    · rw [e]; simp
    · cases hA2 : A2 with
      | nil => simp
      | cons u A3 =>
        rw [List.concat_eq_append] at e
        have l1 : B1.length = B0.length + 1 := by rw [e]; simp
        have l2 : A2.length = A3.length + 1 := by rw [hA2]; simp
        have hp := q5 s (by omega) (by omega)
        unfold st_pr at hp
        rw [gA s (by omega) (by omega), gB (mid + m - 1 - s) (by omega) (by omega)] at hp
        rw [get_len (l := A) (k := s - a) (x := u) (a := A1) (b := A3) (by rw [eA, hA2]) (by omega), get_len (l := B) (k := mid + m - 1 - s - m) (x := v) (a := B0) (b := B2) (by rw [eB, e]; simp) (by omega)] at hp
        simp only [Bool.not_eq_false'] at hp
        intro x hx y hy
        have hx' : decide (c x u < 0) = false := by
          have hsA := List.pairwise_cons.1 (by rw [eA, hA2] at ha; exact (List.pairwise_append.1 ha).2.1 : Sd (st_lt c) (u :: A3))
          rcases List.mem_cons.1 hx with rfl | hx
          · exact o.irr _
          · exact hsA.1 x hx
        have hy' : decide (c v y < 0) = false := by
          rw [e] at hy
          have hsB := List.pairwise_append.1 (by rw [eB, e] at hb; exact (List.pairwise_append.1 hb).1 : Sd (st_lt c) (B0 ++ [v]))
          rcases List.mem_append.1 hy with hy | hy
          · exact hsB.2.2 y hy v (by simp)
          · rw [List.mem_singleton.1 hy]; exact o.irr v
        exact o.lt_le (o.le_lt hy' hp) hx'
  have hcut := merge_cut o (a1 := A1) (a2 := A2) (b1 := B1) (b2 := B2) (by rw [← eA]; exact ha) (by rw [← eB]; exact hb) h1 h2
  rw [← eA, ← eB] at hcut
  have sA := List.pairwise_append.1 (by rw [← eA]; exact ha : Sd (st_lt c) (A1 ++ A2))
  have sB := List.pairwise_append.1 (by rw [← eB]; exact hb : Sd (st_lt c) (B1 ++ B2))
  -- the rotation
  have e_end : wr64 (wr64 ((mid : Int) + (m : Int)) - (s : Int)) = ((mid + m - s : Nat) : Int) := by rw [wrIn (n := (mid : Int) + (m : Int)) (by omega) (by omega), wrIn (by omega) (by omega)]; omega
  have h13 : f82r1n13 self (a : Int) (m : Int) (b : Int) (s : Int) (P ++ (A ++ (B ++ S))) = some (.norm (P ++ ((A1 ++ B1) ++ ((A2 ++ B2) ++ S)))) := by
    unfold f82r1n13 f82r1n14
    rw [st_half (by omega), ← emid, e_end]
    by_cases c1 : s < m
    · by_cases c2 : m < mid + m - s
      · rw [decide_eq_true (by omega : (s : Int) < (m : Int)), decide_eq_true (by omega : (m : Int) < ((mid + m - s : Nat) : Int))]
        simp only [cond_true, Option.bind_some]
        have k := st_rot_ok (P ++ A1) A2 B1 (B2 ++ S) (a := s) (m := m) (b := mid + m - s) (by simp <;> omega) (by simp <;> omega) (by simp <;> omega) (by omega) (by omega) (by simp <;> omega)
        rw [show P ++ (A ++ (B ++ S)) = (P ++ A1) ++ (A2 ++ (B1 ++ (B2 ++ S))) by rw [eA, eB]; simp, k]
        simp
      · rw [decide_eq_true (by omega : (s : Int) < (m : Int)), decide_eq_false (by omega : ¬ (m : Int) < ((mid + m - s : Nat) : Int))]
        have : B1 = [] := List.eq_nil_of_length_eq_zero (by omega)
        simp only [cond_true, cond_false, Option.bind_some]
        rw [eA, eB, this]; simp
    · rw [decide_eq_false (by omega : ¬ (s : Int) < (m : Int))]
      have : A2 = [] := List.eq_nil_of_length_eq_zero (by omega)
      simp only [cond_false, Option.bind_some]
      rw [eA, eB, this]; simp
  -- the left half
  have h15 : f82r1n15 self (a : Int) (b : Int) (s : Int) (m : Int) (P ++ ((A1 ++ B1) ++ ((A2 ++ B2) ++ S))) = some (.norm (P ++ (sortS (st_lt c) (A1 ++ B1) ++ ((A2 ++ B2) ++ S)))) := by
    unfold f82r1n15 f82r1n16
    rw [st_half (by omega), ← emid]
    by_cases c1 : a < s
    · by_cases c2 : s < mid
      · rw [decide_eq_true (by omega : (a : Int) < (s : Int)), decide_eq_true (by omega : (s : Int) < (mid : Int))]
        simp only [cond_true, Option.bind_some]
        have k := hs P A1 B1 ((A2 ++ B2) ++ S) (by omega) (by omega) (by omega) sA.1 sB.1 (by simp <;> omega)
        rw [show P.length = a by omega, show a + A1.length = s by omega, show s + B1.length = mid by omega] at k
        rw [show P ++ ((A1 ++ B1) ++ ((A2 ++ B2) ++ S)) = P ++ (A1 ++ (B1 ++ ((A2 ++ B2) ++ S))) by simp, k]
        rfl
      · rw [decide_eq_true (by omega : (a : Int) < (s : Int)), decide_eq_false (by omega : ¬ (s : Int) < (mid : Int))]
        have : B1 = [] := List.eq_nil_of_length_eq_zero (by omega)
        simp only [cond_true, cond_false, Option.bind_some]
        rw [this, List.append_nil, ← sortS_of o sA.1 (Cl.refl _)]
    · rw [decide_eq_false (by omega : ¬ (a : Int) < (s : Int))]
      have : A1 = [] := List.eq_nil_of_length_eq_zero (by omega)
      simp only [cond_false, Option.bind_some]
      rw [this, List.nil_append, ← sortS_of o sB.1 (Cl.refl _)]
  have lS1 : (sortS (st_lt c) (A1 ++ B1)).length = A1.length + B1.length := by rw [sortS_len o]; simp
  -- the right half
  have hfin : f82r1n17 self (b : Int) (a : Int) (m : Int) (s : Int) (P ++ (sortS (st_lt c) (A1 ++ B1) ++ ((A2 ++ B2) ++ S))) = some (.norm (decide (mid < mid + m - s) && decide (mid + m - s < b))) := by
    unfold f82r1n17
    rw [st_half (by omega), ← emid, e_end]
    by_cases c1 : mid < mid + m - s
    · rw [decide_eq_true (by omega : (mid : Int) < ((mid + m - s : Nat) : Int)), decide_eq_true c1]
      simp only [cond_true, Bool.true_and]
      congr 2
      exact decide_eq_decide.2 (by omega)
    · rw [decide_eq_false (by omega : ¬ (mid : Int) < ((mid + m - s : Nat) : Int)), decide_eq_false c1]; rfl
  have n1 : f82r1n1 self (a : Int) (m : Int) (b : Int) (P ++ (A ++ (B ++ S))) = some .norm := by
    unfold f82r1n1 f82r1n2
    rw [wrIn (n := (m : Int) - (a : Int)) (by omega) (by omega), decide_eq_false (by omega)]; rfl
  have n6 : f82r1n6 self (a : Int) (m : Int) (b : Int) (P ++ (A ++ (B ++ S))) = some .norm := by
    unfold f82r1n6 f82r1n7
    rw [wrIn (n := (b : Int) - (m : Int)) (by omega) (by omega), decide_eq_false (by omega)]; rfl
  unfold f82r1n0
  rw [← ea, show a + A.length = m by omega, show m + B.length = b by omega, n1]
  simp only [Option.bind_some, n6, e11, h12, q1, Option.map_some, h13, h15, hfin]
  rw [st_half (by omega), ← emid, e_end, hcut]
  by_cases c3 : mid < mid + m - s ∧ mid + m - s < b
  · rw [decide_eq_true c3.1, decide_eq_true c3.2]
    simp only [Bool.and_self, cond_true]
    have k := hs (P ++ sortS (st_lt c) (A1 ++ B1)) A2 B2 S (by omega) (by omega) (by omega) sA.2.1 sB.2.1 (by simp [lS1] <;> omega)
    rw [List.length_append, lS1, show P.length + (A1.length + B1.length) = mid by omega, show mid + A2.length = mid + m - s by omega, show mid + m - s + B2.length = b by omega] at k
    rw [show P ++ (sortS (st_lt c) (A1 ++ B1) ++ ((A2 ++ B2) ++ S)) = (P ++ sortS (st_lt c) (A1 ++ B1)) ++ (A2 ++ (B2 ++ S)) by simp, k]
    simp
  · have e1 : (decide (mid < mid + m - s) && decide (mid + m - s < b)) = false := by
      rw [Bool.and_eq_false_iff, decide_eq_false_iff_not, decide_eq_false_iff_not]
      omega
    rw [e1]
    have : sortS (st_lt c) (A2 ++ B2) = A2 ++ B2 := by
      rcases (by omega : A2.length = 0 ∨ B2.length = 0) with h | h
      · rw [List.eq_nil_of_length_eq_zero h, List.nil_append, ← sortS_of o sB.2.1 (Cl.refl _)]
      · rw [List.eq_nil_of_length_eq_zero h, List.append_nil, ← sortS_of o sA.2.1 (Cl.refl _)]
    rw [this]
    simp
include hc o in
theorem st_sym_ok : ∀ (k : Nat) (P A B S : List NettingFlow), 0 < A.length → 0 < B.length → A.length + B.length ≤ 2 ^ k → Sd (st_lt c) A → Sd (st_lt c) B → P.length + A.length + B.length + S.length ≤ 500000 →
    f82r1F k (P.length : Int) ((P.length + A.length : Nat) : Int) ((P.length + A.length + B.length : Nat) : Int) (P ++ (A ++ (B ++ S))) = some (P ++ (sortS (st_lt c) (A ++ B) ++ S))
  | 0, P, A, B, S, h1, h2, h3, _, _, _ => by simp at h3; omega
  | k + 1, P, A, B, S, h1, h2, h3, ha, hb, hl => by
    rw [f82r1F]
    by_cases hA : A.length = 1
    · obtain ⟨x, rfl⟩ := List.length_eq_one_iff.1 hA
      have := st_one hc o (f82r1F k) P B S x hb (by simp at hl; omega)
      unfold f82r1n0 f82r1n1
      simp only [List.length_cons, List.length_nil, List.cons_append, List.nil_append] at this ⊢
      rw [this]; rfl
    · by_cases hB : B.length = 1
      · obtain ⟨y, rfl⟩ := List.length_eq_one_iff.1 hB
        have := st_last hc o (f82r1F k) P A S y ha (by simp at hl; omega)
        have n1 : f82r1n1 (f82r1F k) (P.length : Int) ((P.length + A.length : Nat) : Int) ((P.length + A.length + 1 : Nat) : Int) (P ++ (A ++ y :: S)) = some .norm := by
          unfold f82r1n1 f82r1n2
          rw [wrIn (n := ((P.length + A.length : Nat) : Int) - (P.length : Int)) (by omega) (by simp at hl; omega), decide_eq_false (by omega)]; rfl
        unfold f82r1n0 f82r1n6
        simp only [List.length_cons, List.length_nil, List.cons_append, List.nil_append] at this ⊢
        rw [n1]
        simp only [Option.bind_some]
        rw [this]; rfl
      · rw [st_round hc o (f82r1F k) (2 ^ k) (fun P A B S a1 a2 a3 a4 a5 a6 => st_sym_ok k P A B S a1 a2 a3 a4 a5 a6) P A B S (by omega) (by omega) (by rw [Nat.pow_succ] at h3; omega) ha hb hl]
        rfl
include hc o in
theorem st_mrg (P A B S : List NettingFlow) (h1 : 0 < A.length) (h2 : 0 < B.length) (ha : Sd (st_lt c) A) (hb : Sd (st_lt c) B) (hl : P.length + A.length + B.length + S.length ≤ 500000) :
    f82r1 (P.length : Int) ((P.length + A.length : Nat) : Int) ((P.length + A.length + B.length : Nat) : Int) (P ++ (A ++ (B ++ S))) = some (P ++ (sortS (st_lt c) (A ++ B) ++ S)) :=
  st_sym_ok hc o 200 P A B S h1 h2 (Nat.le_trans (by omega : A.length + B.length ≤ 500000) (by decide)) ha hb hl
end
end Go.Proofs.Ytkcafackfihmiaa
namespace Go.Proofs.Ytkcafackfihmiaa
set_option linter.unusedVariables false
set_option linter.unusedSimpArgs false
open Go.RowKit
section
variable {c : NettingFlow → NettingFlow → Int} (hc : ∀ x y, f55 x y = some (c x y)) (o : SWo (st_lt c))
include hc o
theorem st_blocks : ∀ (f : Nat) (D R : List NettingFlow), R.length < f → D.length + R.length ≤ 500000 → D.length % 20 = 0 → Bl (st_lt c) 20 D →
    ∃ D' R', f69r1n1 f ((D.length + R.length : Nat) : Int) (D.length : Int) ((D.length + 20 : Nat) : Int) (D ++ R) = some (.exit0 (D'.length : Int) (D' ++ R')) ∧ D'.length % 20 = 0 ∧ Bl (st_lt c) 20 D' ∧ R'.length < 20 ∧ Cl (st_lt c) (D ++ R) (D' ++ R') ∧ D'.length + R'.length = D.length + R.length
  | 0, _, _, h, _, _, _ => absurd h (Nat.not_lt_zero _)
  | f + 1, D, R, hf, hl, hm, hD => by
    rw [f69r1n1]
    by_cases h : 20 ≤ R.length
    · obtain ⟨X, R1, rfl, hX⟩ := cutL_ (l := R) (n := 20) h
      simp only [List.length_append] at *
      have k := st_ins_ok hc o D X R1 (by omega)
      rw [hX] at k
      have lS : (sortS (st_lt c) X).length = 20 := by rw [sortS_len o, hX]
      rw [decide_eq_true (by omega : ((D.length + 20 : Nat) : Int) ≤ ((D.length + (X.length + R1.length) : Nat) : Int)), cond_true, show D ++ (X ++ R1) = D ++ (X ++ R1) from rfl, k]
      simp only [Option.bind_some]
      obtain ⟨D', R', q1, q2, q3, q4, q5, q6⟩ := st_blocks f (D ++ sortS (st_lt c) X) R1 (by omega) (by simp <;> omega) (by simp <;> omega) (hD.snoc hm (by decide) (sortS_sd o X) (by omega))
      rw [List.length_append, lS] at q1 q6
      refine ⟨D', R', ?_, q2, q3, q4, ?_, by omega⟩
      · rw [show wr64 (((D.length + 20 : Nat) : Int) + 20) = ((D.length + 20 + 20 : Nat) : Int) by rw [wrIn (by omega) (by omega)]; omega, show D ++ (sortS (st_lt c) X ++ R1) = (D ++ sortS (st_lt c) X) ++ R1 by simp, show D.length + (X.length + R1.length) = D.length + 20 + R1.length by omega]
        exact q1
      · have := (((Cl.refl (lt := st_lt c) D).app (sortS_cl o X)).app (Cl.refl (lt := st_lt c) R1)).trans q5
        simpa using this
    · rw [decide_eq_false (by omega : ¬ ((D.length + 20 : Nat) : Int) ≤ ((D.length + R.length : Nat) : Int)), cond_false]
      exact ⟨D, R, rfl, hm, hD, by omega, Cl.refl _, rfl⟩
theorem st_pairs (s : Nat) (hs : 0 < s) (hs1 : s ≤ 1000000) : ∀ (f : Nat) (D R : List NettingFlow), R.length < f → D.length + R.length ≤ 500000 → D.length % (2 * s) = 0 → Bl (st_lt c) (2 * s) D → Bl (st_lt c) s R →
    ∃ D' R', f69r1n3 f ((D.length + R.length : Nat) : Int) (s : Int) (D.length : Int) ((D.length + 2 * s : Nat) : Int) (D ++ R) = some (.exit4 (D'.length : Int) (D' ++ R')) ∧ D'.length % (2 * s) = 0 ∧ Bl (st_lt c) (2 * s) D' ∧ Bl (st_lt c) s R' ∧ R'.length < 2 * s ∧ Cl (st_lt c) (D ++ R) (D' ++ R') ∧ D'.length + R'.length = D.length + R.length
  | 0, _, _, h, _, _, _, _ => absurd h (Nat.not_lt_zero _)
  | f + 1, D, R, hf, hl, hm, hD, hR => by
    rw [f69r1n3]
    by_cases h : 2 * s ≤ R.length
    · obtain ⟨X, R1, rfl, hX, sX, hR1⟩ := hR.uncons (by omega)
      simp only [List.length_append] at *
      obtain ⟨Y, R2, rfl, hY, sY, hR2⟩ := hR1.uncons (by omega)
      simp only [List.length_append] at *
      have k := st_mrg hc o D X Y R2 (by omega) (by omega) sX sY (by omega)
      rw [hX, hY] at k
      have lS : (sortS (st_lt c) (X ++ Y)).length = 2 * s := by rw [sortS_len o, List.length_append]; omega
      rw [decide_eq_true (by omega : ((D.length + 2 * s : Nat) : Int) ≤ ((D.length + (X.length + (Y.length + R2.length)) : Nat) : Int)), cond_true, show wr64 ((D.length : Int) + (s : Int)) = ((D.length + s : Nat) : Int) by rw [wrIn (by omega) (by omega)]; omega, show D.length + 2 * s = D.length + s + s by omega, k]
      simp only [Option.bind_some]
      obtain ⟨D', R', q1, q2, q3, q4, q5, q6, q7⟩ := st_pairs s hs hs1 f (D ++ sortS (st_lt c) (X ++ Y)) R2 (by omega) (by simp [lS] <;> omega) (by rw [List.length_append, lS, Nat.add_mod_right]; exact hm) (hD.snoc hm (by omega) (sortS_sd o _) (by omega)) hR2
      rw [List.length_append, lS] at q1 q7
      refine ⟨D', R', ?_, q2, q3, q4, q5, ?_, by omega⟩
      · rw [show wr64 ((2 : Int) * (s : Int)) = ((2 * s : Nat) : Int) by rw [wrIn (by omega) (by omega)]; omega, show wr64 (((D.length + s + s : Nat) : Int) + ((2 * s : Nat) : Int)) = ((D.length + 2 * s + 2 * s : Nat) : Int) by rw [wrIn (by omega) (by omega)]; omega, show D.length + s + s = D.length + 2 * s by omega, show D ++ (sortS (st_lt c) (X ++ Y) ++ R2) = (D ++ sortS (st_lt c) (X ++ Y)) ++ R2 by simp, show D.length + (X.length + (Y.length + R2.length)) = D.length + 2 * s + R2.length by omega]
        exact q1
      · have := (((Cl.refl (lt := st_lt c) D).app (sortS_cl o (X ++ Y))).app (Cl.refl (lt := st_lt c) R2)).trans q6
        simpa using this
    · rw [decide_eq_false (by omega : ¬ ((D.length + 2 * s : Nat) : Int) ≤ ((D.length + R.length : Nat) : Int)), cond_false]
      exact ⟨D, R, rfl, hm, hD, hR, by omega, Cl.refl _, rfl⟩
theorem st_pass (s : Nat) (hs : 0 < s) (hs1 : s ≤ 1000000) (l : List NettingFlow) (hl : l.length ≤ 500000) (hb : Bl (st_lt c) s l) : ∃ l', f69r1n2 (l.length : Int) (s : Int) l = some (.norm l') ∧ Bl (st_lt c) (2 * s) l' ∧ Cl (st_lt c) l l' := by
  obtain ⟨D, R, q1, q2, q3, q4, q5, q6, q7⟩ := st_pairs hc o s hs hs1 FUEL [] l (lt_FUEL (Nat.le_trans (by omega : l.length ≤ 1000000) (by unfold maxLen; decide))) (by simpa using hl) (by simp) (.last List.Pairwise.nil (by simp)) hb
  simp only [List.length_nil, Nat.zero_add, List.nil_append] at q1 q6 q7
  unfold f69r1n2
  rw [show wr64 ((2 : Int) * (s : Int)) = ((2 * s : Nat) : Int) by rw [wrIn (by omega) (by omega)]; omega, show (0 : Int) = ((0 : Nat) : Int) from rfl, q1]
  simp only [Option.bind_some]
  rw [show wr64 ((D.length : Int) + (s : Int)) = ((D.length + s : Nat) : Int) by rw [wrIn (by omega) (by omega)]; omega]
  by_cases h : D.length + s < l.length
  · obtain ⟨X, Y, rfl, hX, sX, hY⟩ := q4.uncons (by omega)
    simp only [List.length_append] at *
    have sY := hY.whole (by omega) hs
    have k := st_mrg hc o D X Y [] (by omega) (by omega) sX sY (by simp <;> omega)
    rw [hX] at k
    rw [decide_eq_true (by omega), cond_true, show l.length = D.length + s + Y.length by omega, show D ++ (X ++ Y) = D ++ (X ++ (Y ++ [])) by simp, k]
    refine ⟨_, rfl, ?_, ?_⟩
    · rw [List.append_nil]
      exact q3.snoc q2 (by omega) (sortS_sd o _) (by rw [sortS_len o, List.length_append]; omega)
    · rw [List.append_nil]
      exact q6.trans ((Cl.refl _).app (sortS_cl o _))
  · rw [decide_eq_false (by omega), cond_false]
    exact ⟨_, rfl, q3.snoc q2 (by omega) (q4.whole (by omega) hs) (by omega), q6⟩
theorem st_passes : ∀ (n f s : Nat) (l : List NettingFlow), l.length - s ≤ n → n < f → 0 < s → s ≤ 1000000 → l.length ≤ 500000 → Bl (st_lt c) s l → ∃ l', f69r1n4 f (l.length : Int) (s : Int) l = some (.exit2 l') ∧ Sd (st_lt c) l' ∧ Cl (st_lt c) l l'
  | _, 0, _, _, _, h, _, _, _, _ => absurd h (Nat.not_lt_zero _)
  | n, f + 1, s, l, hn, hf, hs, hs1, hl, hb => by
    rw [f69r1n4]
    by_cases h : s < l.length
    · obtain ⟨l1, k1, k2, k3⟩ := st_pass hc o s hs hs1 l hl hb
      have hlen := k3.len
      obtain ⟨l', q1, q2, q3⟩ := st_passes (n - 1) f (2 * s) l1 (by omega) (by omega) (by omega) (by omega) (by omega) k2
      rw [decide_eq_true (by omega), cond_true, k1]
      simp only [Option.bind_some]
      rw [show wr64 ((s : Int) * 2) = ((2 * s : Nat) : Int) by rw [wrIn (by omega) (by omega)]; omega, ← hlen, q1]
      exact ⟨l', rfl, q2, k3.trans q3⟩
    · rw [decide_eq_false (by omega), cond_false]
      exact ⟨l, rfl, hb.whole (by omega) hs, Cl.refl _⟩
theorem st_sorted (l : List NettingFlow) (hl : l.length ≤ 500000) : f54r1 l = some (sortS (st_lt c) l) := by
  obtain ⟨D, R, q1, q2, q3, q4, q5, q6⟩ := st_blocks hc o FUEL [] l (lt_FUEL (Nat.le_trans (by omega : l.length ≤ 1000000) (by unfold maxLen; decide))) (by simpa using hl) (by simp) (.last List.Pairwise.nil (by simp))
  simp only [List.length_nil, Nat.zero_add, List.nil_append] at q1 q5 q6
  have k := st_ins_ok hc o D R [] (by omega)
  simp only [List.append_nil] at k
  rw [q6] at k
  have hb : Bl (st_lt c) 20 (D ++ sortS (st_lt c) R) := q3.snoc q2 (by decide) (sortS_sd o R) (by rw [sortS_len o]; omega)
  have hcl : Cl (st_lt c) l (D ++ sortS (st_lt c) R) := q5.trans ((Cl.refl _).app (sortS_cl o R))
  have hlen := hcl.len
  obtain ⟨l', k1, k2, k3⟩ := st_passes hc o (D ++ sortS (st_lt c) R).length FUEL 20 (D ++ sortS (st_lt c) R) (by omega) (lt_FUEL (Nat.le_trans (by omega : (D ++ sortS (st_lt c) R).length ≤ 1000000) (by unfold maxLen; decide))) (by decide) (by decide) (by omega) hb
  have e : f69r1 (l.length : Int) l = some l' := by
    unfold f69r1 f69r1n0
    rw [show (0 : Int) = ((0 : Nat) : Int) from rfl, show (20 : Int) = ((20 : Nat) : Int) from rfl, q1]
    simp only [Option.bind_some, k]
    rw [← hlen, k1]; rfl
  unfold f54r1 f54r1n0
  rw [e]
  simp only [Option.bind_some]
  rw [sortS_of o k2 (hcl.trans k3)]
end
end Go.Proofs.Ytkcafackfihmiaa
namespace Go.Proofs.Ytkcafackfihmiaa
set_option linter.unusedVariables false
set_option linter.unusedSimpArgs false
open Go.RowKit
abbrev NF := NettingFlow
abbrev NS := NettingSet

theorem f59_eq (c : Int) : f59 c = some (ltrI c) := by
  unfold f59 f59n0 ltrI
  cases decide (97 ≤ c) <;> cases decide (c ≤ 122) <;> cases decide (65 ≤ c) <;> cases decide (c ≤ 90) <;> rfl
theorem f36n2_eq {s : ByteArray} {k : Int} {b : UInt8} (h : at? s.data.toList k = some b) : f36n2 s k = some (bif chB b then .norm else .ret) := by
  have h3 : f36n3 s b k = some (.norm (!(chB b))) := by
    unfold f36n3 chB othI
    rw [f59_eq, ltNot, ltNot]
    simp only [Option.bind_some]
    cases ltrI b.toNat <;> cases decide ((48 : Int) ≤ (b.toNat : Int)) <;> cases decide ((b.toNat : Int) ≤ 57) <;> cases decide ((b.toNat : Int) = 95) <;> cases decide ((b.toNat : Int) = 45) <;> rfl
  unfold f36n2
  rw [h]
  simp only [Option.bind_some, h3]
  cases chB b <;> rfl
theorem f36n4_at (s : ByteArray) (hs : s.data.toList.length ≤ 1000) : ∀ (r : List UInt8) (f k : Nat), s.data.toList.drop k = r → r.length < f → f36n4 f s (k : Int) = some (bif r.all chB then .exit0 else .ret)
  | _, 0, _, _, h => absurd h (Nat.not_lt_zero _)
  | [], f + 1, k, hd, _ => by
    have := drop_nil hd
    rw [f36n4, sizeList, decide_eq_false (by omega), cond_false]; rfl
  | b :: r, f + 1, k, hd, hf => by
    obtain ⟨h1, h2, h3⟩ := dropAt hd
    rw [f36n4, sizeList, decide_eq_true (by omega), cond_true, f36n2_eq h1, List.all_cons]
    cases chB b with
    | false => rfl
    | true =>
      simp only [cond_true, Option.bind_some, Bool.true_and]
      rw [wrSucc (by omega)]
      exact f36n4_at s hs r f (k + 1) h3 (by simpa using hf)
theorem f36_eq (s : ByteArray) : f36 s = some (nmB s) := by
  unfold f36 f36n0 nmB
  rw [sizeList]
  by_cases hs : s.data.toList.length ≤ 40
  · have h1 : f36n1 s = some (bif s.data.toList.all chB then .norm else .ret) := by
      unfold f36n1
      have := f36n4_at s (by omega) s.data.toList FUEL 0 List.drop_zero (fuelSmall (by omega))
      rw [show ((0 : Nat) : Int) = 0 from rfl] at this
      rw [this]
      cases s.data.toList.all chB <;> rfl
    rw [h1]
    generalize s.data.toList = l at hs
    rw [decide_eq_false (by omega : ¬ (40 : Int) < (l.length : Int))]
    cases l with
    | nil => rfl
    | cons b r =>
      have h0 : at? (b :: r) 0 = some b := rfl
      rw [decide_eq_false (by simp; omega : ¬ (((b :: r).length : Nat) : Int) < 1), h0]
      simp only [cond_false, Option.bind_some, f59_eq, isNm, decide_eq_true hs, Bool.true_and, List.all_cons, chB]
      cases ltrI b.toNat <;> cases othI b.toNat <;> cases r.all chB <;> rfl
  · rw [decide_eq_false (by omega : ¬ ((s.data.toList.length : Nat) : Int) < 1), decide_eq_true (by omega : (40 : Int) < ((s.data.toList.length : Nat) : Int))]
    have : isNm s.data.toList = false := by
      generalize s.data.toList = l at hs
      cases l with
      | nil => rfl
      | cons b r => simp only [isNm, decide_eq_false hs, Bool.false_and]
    rw [this]; rfl
theorem nm_ne {s : ByteArray} (h : nmB s = true) : s ≠ str_x := fun e => by
  rw [e] at h
  have : nmB str_x = false := by decide
  rw [this] at h; cases h

theorem f62_eq (a : Int) : f62 a = some false := by unfold f62 f62n0; simp
theorem f63_eq (a : ByteArray) : f63 a = some false := by unfold f63 f63n0; simp [seq_refl]
theorem f41_eq (a b : Int) : f41 a b = some (cmpI a b) := by
  unfold f41 f41n0 cmpI
  rw [f62_eq, f62_eq]
  simp only [Option.bind_some, cond_false]
  cases decide (a < b) <;> cases decide (b < a) <;> rfl
theorem f42_eq (a b : ByteArray) : f42 a b = some (cmpB a b) := by
  unfold f42 f42n0 cmpB
  rw [f63_eq, f63_eq]
  simp only [Option.bind_some, cond_false]
  cases slt a b <;> cases seq a b <;> rfl
theorem f40_eq (x y z : Int) : f40 [x, y, z] = some (cmpOr x (cmpOr y z)) := by
  unfold f40 f40n0 f40n1 cmpOr
  rw [f40n2_run [x, y, z] (maxSmall (by simp))]
  by_cases hx : x = 0
  · by_cases hy : y = 0
    · by_cases hz : z = 0
      · subst hx hy hz; rfl
      · subst hx hy; simp only [f40n2L, decide_eq_false hz, decide_true, cond_true, cond_false, Option.bind_some]
    · subst hx; simp only [f40n2L, decide_eq_false hy, decide_true, cond_true, cond_false, Option.bind_some]
  · simp only [f40n2L, decide_eq_false hx, cond_false, Option.bind_some]
def cO (a b : NF) : Int := cmpOr (cmpI a.Date b.Date) (cmpOr (cmpB a.Set b.Set) (cmpB a.Ccy b.Ccy))
theorem cO_cmp : Cmp cO := (Cmp.int NettingFlow.Date).lex ((Cmp.str NettingFlow.Set).lex (Cmp.str NettingFlow.Ccy))
theorem f55_eq (a b : NF) : f55 a b = some (cO a b) := by
  unfold f55 f55n0
  rw [f41_eq, f42_eq, f42_eq]
  simp only [Option.bind_some, f40_eq]
  rfl
theorem cmpOr_zero {a b : Int} : cmpOr a b = 0 ↔ a = 0 ∧ b = 0 := by
  unfold cmpOr
  by_cases h : a = 0
  · rw [decide_eq_true h]; simp [h]
  · rw [decide_eq_false h]; simp [h]
theorem cO_zero {a b : NF} : cO a b = 0 ↔ a.Date = b.Date ∧ a.Set = b.Set ∧ a.Ccy = b.Ccy := by
  unfold cO
  rw [cmpOr_zero, cmpOr_zero, cmpI_zero, cmpB_zero, cmpB_zero]
abbrev ltO : NF → NF → Bool := fun x y => decide (cO x y < 0)
theorem swo_O : SWo ltO := cO_cmp.swo
def sortO (l : List NF) : List NF := sortS ltO l
theorem f34_eq {l : List NF} (h : l.length ≤ 500000) : f34r1 l = some (sortO l) := by
  unfold f34r1 f34r1n0
  rw [st_sorted f55_eq swo_O l h]; rfl

def namesB (x : NF) : Bool := (seq x.Set str_x || nmB x.Set) && (nmB x.Ccy && (nmB x.From && (nmB x.To && !(seq x.From x.To))))
def goodF (x : NF) : Bool := namesB x && (decide (0 ≤ x.Date) && (decide (x.Date ≤ 99999) && (decide (1 ≤ x.Amount) && decide (x.Amount ≤ 1125899906842624))))
theorem f57_eq (x : NF) : f57 x = some (goodF x) := by
  have h1 : f57n1 x = some (.norm (namesB x)) := by
    unfold f57n1 namesB
    rw [f36_eq, f36_eq, f36_eq, f36_eq]
    cases seq x.Set str_x <;> cases nmB x.Set <;> cases nmB x.Ccy <;> cases nmB x.From <;> cases nmB x.To <;> cases seq x.From x.To <;> rfl
  unfold f57 f57n0 goodF
  rw [h1]
  cases namesB x <;> cases decide (0 ≤ x.Date) <;> cases decide (x.Date ≤ 99999) <;> cases decide (1 ≤ x.Amount) <;> cases decide (x.Amount ≤ 1125899906842624) <;> rfl
theorem f70n2L_eq (bg : List NF) : ∀ (l : List NF) (v : Int), 0 ≤ v → ∃ o, f70_56n2L bg l v = some o ∧ (l.all goodF = true → o = .exit0) ∧ (l.all goodF = false → ∃ w, 0 ≤ w ∧ o = .ret w)
  | [], v, _ => ⟨.exit0, rfl, fun _ => rfl, fun h => by cases h⟩
  | x :: r, v, hv => by
    have e56 : f56 x = some (!(goodF x)) := by unfold f56 f56n0; rw [f57_eq]; rfl
    obtain ⟨o, h1, h2, h3⟩ := f70n2L_eq bg r (v + 1) (by omega)
    rw [f70_56n2L, e56, List.all_cons]
    simp only [Option.bind_some]
    cases goodF x with
    | true => exact ⟨o, h1, by simpa using h2, by simpa using h3⟩
    | false => exact ⟨.ret v, rfl, fun h => by simp at h, fun _ => ⟨v, hv, rfl⟩⟩
def listB (l : List NF) : Bool := decide (l.length ≤ 500) && l.all goodF
theorem f35_eq {l : List NF} (hm : l.length ≤ maxLen) : f35 l = some (bif listB l then 0 else 8) := by
  have hc : f58_56 l = some (!(l.all goodF)) := by
    obtain ⟨o, h1, h2, h3⟩ := f70n2L_eq l l 0 (by omega)
    unfold f58_56 f58_56n0 f70_56 f70_56n0 f70_56n1
    rw [f70_56n2_run l hm, h1]
    cases ha : l.all goodF with
    | true => rw [h2 ha]; rfl
    | false =>
      obtain ⟨w, hw, e⟩ := h3 ha
      rw [e]
      simp only [Option.bind_some]
      rw [decide_eq_true hw]; rfl
  unfold f35 f35n0 listB
  rw [ltNot, show decide ((l.length : Int) ≤ 500) = decide (l.length ≤ 500) by congr 1; apply propext; omega, hc]
  cases decide (l.length ≤ 500) <;> cases l.all goodF <;> rfl
def goodS (x : NS) : Bool := nmB x.Name && (nmB x.First && (nmB x.Second && slt x.First x.Second))
def ordS : Option NS → NS → Bool
  | none, _ => true
  | some y, x => slt y.Name x.Name
def okS : Option NS → List NS → Bool
  | _, [] => true
  | p, x :: r => goodS x && (ordS p x && okS (some x) r)
theorem f23n2_eq {s pre r : List NS} {x : NS} (h : s = pre ++ x :: r) (hl : s.length ≤ 1000) : f23n2 s ((pre.length : Nat) : Int) = some (bif goodS x && ordS pre.getLast? x then .norm else .ret) := by
  have h3 : f23n3 s ((pre.length : Nat) : Int) x = some (.norm (goodS x)) := by
    unfold f23n3 goodS
    rw [f36_eq, f36_eq, f36_eq]
    cases nmB x.Name <;> cases nmB x.First <;> cases nmB x.Second <;> rfl
  have h4 : f23n4 s ((pre.length : Nat) : Int) (goodS x) x = some (.norm (!(goodS x && ordS pre.getLast? x))) := by
    unfold f23n4
    rcases List.eq_nil_or_concat pre with rfl | ⟨q, y, rfl⟩
    · simp only [List.length_nil, Int.natCast_zero, List.getLast?_nil, ordS]
      rw [decide_eq_false (by omega : ¬ (0 : Int) < 0)]
      cases goodS x <;> rfl
    · rw [List.concat_eq_append] at h ⊢
      have hq : q.length + 1 ≤ 1000 := by rw [h] at hl; simp at hl; omega
      rw [decide_eq_true (by simp : (0 : Int) < (((q ++ [y]).length : Nat) : Int)), show wr64 ((((q ++ [y]).length : Nat) : Int) - 1) = ((q.length : Nat) : Int) by rw [wrIn (by simp <;> omega) (by simp <;> omega)]; simp, at_len (k := q.length) (a := q) (x := y) (b := x :: r) (by rw [h]; simp) rfl, List.getLast?_concat]
      simp only [cond_true, Option.bind_some, ordS]
      cases goodS x <;> cases slt y.Name x.Name <;> rfl
  unfold f23n2
  rw [at_len h rfl]
  simp only [Option.bind_some, h3, h4]
  cases goodS x && ordS pre.getLast? x <;> rfl
theorem f23n5_at {s : List NS} (hl : s.length ≤ 1000) : ∀ (r pre : List NS) (f : Nat), s = pre ++ r → r.length < f → f23n5 f s ((pre.length : Nat) : Int) = some (bif okS pre.getLast? r then .exit0 else .ret)
  | _, _, 0, _, h => absurd h (Nat.not_lt_zero _)
  | [], pre, f + 1, h, _ => by rw [f23n5, decide_eq_false (by rw [h]; simp), cond_false]; rfl
  | x :: r, pre, f + 1, h, hf => by
    have hp : pre.length < s.length := by rw [h]; simp
    have ih := f23n5_at hl r (pre ++ [x]) f (by rw [h]; simp) (by simpa using hf)
    rw [List.length_append, List.getLast?_concat] at ih
    rw [f23n5, decide_eq_true (by omega), cond_true, f23n2_eq h hl, okS]
    cases goodS x with
    | false => rfl
    | true =>
      cases ordS pre.getLast? x with
      | false => rfl
      | true =>
        simp only [Bool.and_self, cond_true, Option.bind_some, Bool.true_and]
        rw [wrSucc (by omega)]
        exact ih
def setsB (s : List NS) : Bool := decide (s.length ≤ 64) && okS none s
theorem f23_eq (s : List NS) : f23 s = some (bif setsB s then 0 else 8) := by
  unfold f23 f23n0 setsB
  rw [ltNot, show decide ((s.length : Int) ≤ 64) = decide (s.length ≤ 64) by congr 1; apply propext; omega]
  by_cases hl : s.length ≤ 64
  · have h1 : f23n1 s = some (bif okS none s then .norm else .ret) := by
      unfold f23n1
      have := f23n5_at (s := s) (by omega) s [] FUEL rfl (fuelSmall (by omega))
      rw [show (((([] : List NS).length : Nat)) : Int) = 0 from rfl, List.getLast?_nil] at this
      rw [this]
      cases okS none s <;> rfl
    rw [h1, decide_eq_true hl]
    cases okS none s <;> rfl
  · rw [decide_eq_false hl]; rfl
abbrev SSrt (l : List NS) : Prop := l.Pairwise fun a b => slt a.Name b.Name = true
theorem okS_some : ∀ {l : List NS} {p : NS}, okS (some p) l = true → (p :: l).Pairwise (fun a b => slt a.Name b.Name = true) ∧ ∀ x ∈ l, goodS x = true
  | [], p, _ => by simp
  | y :: r, p, h => by
    rw [okS, ordS, Bool.and_eq_true, Bool.and_eq_true] at h
    obtain ⟨h1, h2, h3⟩ := h
    obtain ⟨h4, h5⟩ := okS_some h3
    refine ⟨List.pairwise_cons.2 ⟨fun z hz => ?_, h4⟩, fun z hz => ?_⟩
    · rcases List.mem_cons.1 hz with rfl | hz
      · exact h2
      · exact slt_trans h2 ((List.pairwise_cons.1 h4).1 z hz)
    · rcases List.mem_cons.1 hz with rfl | hz
      · exact h1
      · exact h5 z hz
theorem sets_ok {s : List NS} (h : setsB s = true) : s.length ≤ 64 ∧ SSrt s ∧ ∀ x ∈ s, goodS x = true := by
  unfold setsB at h
  rw [Bool.and_eq_true, decide_eq_true_eq] at h
  refine ⟨h.1, ?_⟩
  cases s with
  | nil => simp
  | cons y r =>
    have := h.2
    rw [okS, Bool.and_eq_true, Bool.and_eq_true] at this
    obtain ⟨h1, _, h3⟩ := this
    obtain ⟨h4, h5⟩ := okS_some h3
    exact ⟨h4, fun z hz => by
      rcases List.mem_cons.1 hz with rfl | hz
      · exact h1
      · exact h5 z hz⟩

def agr (n : ByteArray) : List NS → Option NS
  | [] => none
  | x :: r => bif seq x.Name n then some x else agr n r
theorem agr_none {n : ByteArray} : ∀ {l : List NS}, (∀ x ∈ l, x.Name ≠ n) → agr n l = none
  | [], _ => rfl
  | x :: r, h => by rw [agr, seqF (h x List.mem_cons_self), cond_false, agr_none fun y hy => h y (List.mem_cons_of_mem _ hy)]
theorem agr_app {n : ByteArray} : ∀ {pre post : List NS}, (∀ x ∈ pre, x.Name ≠ n) → agr n (pre ++ post) = agr n post
  | [], _, _ => rfl
  | x :: r, post, h => by rw [List.cons_append, agr, seqF (h x List.mem_cons_self), cond_false, agr_app fun y hy => h y (List.mem_cons_of_mem _ hy)]
theorem agr_mem {n : ByteArray} {x : NS} : ∀ {l : List NS}, agr n l = some x → x ∈ l ∧ x.Name = n
  | y :: r, h => by
    rw [agr] at h
    cases k : seq y.Name n with
    | true => rw [k] at h; obtain rfl := Option.some.inj h; exact ⟨List.mem_cons_self, seq_iff.1 k⟩
    | false =>
      rw [k] at h
      obtain ⟨h1, h2⟩ := agr_mem h
      exact ⟨List.mem_cons_of_mem _ h1, h2⟩
theorem f66_eq (x : NS) (n : ByteArray) : f66 x n = some (cmpB x.Name n) := by unfold f66 f66n0; rw [f42_eq]; rfl
theorem f65n1_eq {l : List NS} (n : ByteArray) (hl : l.length ≤ 1000000) : ∀ (f lo hi : Nat), hi ≤ l.length → lo ≤ 1000000 → f65_66n1 f l n (lo : Int) (hi : Int) = (bsN (pq (fun y => decide (cmpB y.Name n < 0)) l) f lo hi).map fun r => .exit0 (r : Int)
  | 0, lo, hi, _, _ => rfl
  | f + 1, lo, hi, h, h0 => by
    rw [f65_66n1, bsN]
    by_cases hlt : lo < hi
    · have hk : (lo + hi) / 2 < l.length := by omega
      rw [decide_eq_true hlt, decide_eq_true (by omega : (lo : Int) < (hi : Int)), st_half (by omega), at_in hk]
      simp only [cond_true, Option.bind_some, f66_eq]
      have ep : pq (fun y => decide (cmpB y.Name n < 0)) l ((lo + hi) / 2) = decide (cmpB l[(lo + hi) / 2].Name n < 0) := by unfold pq; rw [List.getElem?_eq_getElem hk]
      rw [ep]
      cases decide (cmpB l[(lo + hi) / 2].Name n < 0) with
      | true => rw [cond_true, cond_true, show wr64 ((((lo + hi) / 2 : Nat) : Int) + 1) = (((lo + hi) / 2 + 1 : Nat) : Int) by rw [wrIn (by omega) (by omega)]; omega]; exact f65n1_eq n hl f _ _ h (by omega)
      | false => rw [cond_false, cond_false]; exact f65n1_eq n hl f _ _ (by omega) h0
    · rw [decide_eq_false hlt, decide_eq_false (by omega : ¬ (lo : Int) < (hi : Int))]; rfl
def noS : NS := ⟨str_x, str_x, str_x⟩
def agrE (s : List NS) (n : ByteArray) : NS × Bool := match agr n s with | some x => (x, true) | none => (noS, false)
theorem f46_eq {s : List NS} (hs : SSrt s) (hl : s.length ≤ 1000) (n : ByteArray) : f46 s n = some (agrE s n) := by
  obtain ⟨r, q1, q2, q3, q4, q5⟩ := bsN_ok (p := pq (fun y => decide (cmpB y.Name n < 0)) s) FUEL 0 s.length (by omega) (fuelSmall (by omega)) fun i j a1 a2 a3 a4 => by
    have := pq_mono (X := []) (B := s) (R := []) (q := fun y => decide (cmpB y.Name n < 0)) (hs.imp fun {u w} huw hq => by
      rw [decide_eq_true_eq, cmpB_neg] at *
      exact slt_trans huw hq) i j (by simp) a2 (by simpa using a3) (by simpa using a4)
    simpa using this
  have h1 : f65_66n1 FUEL s n 0 (s.length : Int) = some (.exit0 (r : Int)) := by
    have := f65n1_eq (l := s) n (by omega) FUEL 0 s.length (Nat.le_refl _) (by omega)
    rw [q1] at this
    exact this
  obtain ⟨s1, s2, rfl, hs1⟩ := cutL_ (l := s) (n := r) q3
  rw [List.length_append] at q5
  have f1 : ∀ y ∈ s1, decide (cmpB y.Name n < 0) = true := pq_seg (X := []) (R := s2) fun i a1 a2 => by
    have := q4 i (by omega) (by simpa [hs1] using a2)
    simpa using this
  have f2 : ∀ y ∈ s2, decide (cmpB y.Name n < 0) = false := pq_seg (X := s1) (R := []) fun i a1 a2 => by
    have := q5 i (by omega) a2
    simpa using this
  have hn1 : ∀ y ∈ s1, y.Name ≠ n := fun y hy => sltNe (cmpB_neg.1 (of_decide_eq_true (f1 y hy)))
  have h65 : f65_66 (s1 ++ s2) n = some ((r : Int), match s2 with | [] => false | y :: _ => decide (cmpB y.Name n = 0)) := by
    unfold f65_66 f65_66n0
    rw [h1]
    simp only [Option.bind_some]
    cases s2 with
    | nil => rw [decide_eq_false (by rw [List.append_nil]; omega)]; rfl
    | cons y t =>
      rw [decide_eq_true (by simp; omega), at_len (k := r) (a := s1) (x := y) (b := t) rfl hs1.symm]
      simp only [cond_true, Option.bind_some, f66_eq]
  unfold f46 f46n0 agrE
  rw [h65, agr_app hn1]
  simp only [Option.bind_some]
  cases s2 with
  | nil => rfl
  | cons y t =>
    by_cases hk : cmpB y.Name n = 0
    · simp only [decide_eq_true hk, cond_true]
      rw [at_len (k := r) (a := s1) (x := y) (b := t) rfl hs1.symm, agr, seq_iff.2 (cmpB_zero.1 hk)]; rfl
    · simp only [decide_eq_false hk, cond_false]
      have hs' := List.pairwise_cons.1 (List.pairwise_append.1 hs).2.1
      have hy : slt n y.Name = true := cmpB_pos.1 (by have := of_decide_eq_false (f2 y List.mem_cons_self); omega)
      rw [agr_none fun z hz => ?_]
      · rfl
      · rcases List.mem_cons.1 hz with rfl | hz
        · exact (sltNe hy).symm
        · exact (sltNe (slt_trans hy (hs'.1 z hz))).symm

def fitsS (s : List NS) (x : NF) : Bool := seq x.Set str_x || (match agr x.Set s with | some y => (seq y.First x.From && seq y.Second x.To) || (seq y.First x.To && seq y.Second x.From) | none => false)
theorem f21w_eq {s : List NS} (hs : SSrt s) (hl : s.length ≤ 1000) (bg : List NF) : ∀ (l : List NF) (v : Int), f21n2L s bg l v = some (bif l.all (fitsS s) then .exit0 else .ret)
  | [], v => rfl
  | x :: r, v => by
    rw [f21n2L, f46_eq hs hl, f21w_eq hs hl bg r, List.all_cons, fitsS, agrE]
    simp only [Option.bind_some]
    cases seq x.Set str_x with
    | true => rfl
    | false =>
      cases h : agr x.Set s with
      | none => rfl
      | some y =>
        have hn : seq y.Name x.Set = true := seq_iff.2 (agr_mem h).2
        simp only [cond_false, cond_true, NettingSet.eqb, hn, Bool.true_and, Bool.false_or]
        cases seq y.First x.From <;> cases seq y.Second x.To <;> cases seq y.First x.To <;> cases seq y.Second x.From <;> cases r.all (fitsS s) <;> rfl
def checkN (s : List NS) (l : List NF) : Bool := setsB s && (listB l && l.all (fitsS s))
theorem f21_eq (s : List NS) {l : List NF} (hm : l.length ≤ maxLen) : f21 s l = some (bif checkN s l then 0 else 8) := by
  unfold f21 f21n0 checkN
  rw [f23_eq, f35_eq hm]
  cases hs : setsB s with
  | false => rfl
  | true =>
    obtain ⟨h1, h2, h3⟩ := sets_ok hs
    cases listB l with
    | false => rfl
    | true =>
      have h4 : f21n1 s l = some (bif l.all (fitsS s) then .norm else .ret) := by
        unfold f21n1
        rw [f21n2_run s l hm, f21w_eq h2 (by omega)]
        cases l.all (fitsS s) <;> rfl
      simp only [cond_true, Option.bind_some, decide_true, h4, Bool.true_and]
      cases l.all (fitsS s) <;> rfl
structure OkN (s : List NS) (l : List NF) : Prop where
  ss : SSrt s
  sl : s.length ≤ 64
  sg : ∀ x ∈ s, goodS x = true
  len : l.length ≤ 500
  good : ∀ x ∈ l, goodF x = true
  fits : ∀ x ∈ l, fitsS s x = true
theorem checkN_iff {s : List NS} {l : List NF} : checkN s l = true → OkN s l := by
  unfold checkN listB
  simp only [Bool.and_eq_true, decide_eq_true_eq, List.all_eq_true]
  rintro ⟨h1, ⟨h2, h3⟩, h4⟩
  obtain ⟨k1, k2, k3⟩ := sets_ok h1
  exact ⟨k2, k1, k3, h2, h3, h4⟩
theorem alive_t : f11 = some true := rfl
end Go.Proofs.Ytkcafackfihmiaa
namespace Go.Proofs.Ytkcafackfihmiaa
set_option linter.unusedVariables false
set_option linter.unusedSimpArgs false
open Go.RowKit
theorem key_iff (a b : Key_) : Key_.eqb a b = true ↔ a = b := ⟨Key_.eqb_eq, fun h => by subst h; simp [Key_.eqb, seq_refl]⟩
abbrev KM := List (Key_ × Int)
def gK (k : Key_) (m : KM) : Int := mGet Key_.eqb 0 k m

def sF (w : NF → Int) : List NF → Int
  | [] => 0
  | x :: r => w x + sF w r
theorem sF_app (w : NF → Int) : ∀ a b : List NF, sF w (a ++ b) = sF w a + sF w b
  | [], b => by simp [sF]
  | x :: a, b => by simp only [List.cons_append, sF, sF_app w a b]; omega
theorem sF_perm {w : NF → Int} {a b : List NF} (h : a.Perm b) : sF w a = sF w b := by
  induction h with
  | nil => rfl
  | cons x _ ih => rw [sF, sF, ih]
  | swap x y l => simp only [sF]; omega
  | trans _ _ i1 i2 => exact i1.trans i2
theorem sF_ext {w v : NF → Int} : ∀ {l : List NF}, (∀ x ∈ l, w x = v x) → sF w l = sF v l
  | [], _ => rfl
  | x :: r, h => by rw [sF, sF, h x List.mem_cons_self, sF_ext fun y hy => h y (List.mem_cons_of_mem _ hy)]
theorem sF_bound (w : NF → Int) (b : Int) : ∀ l : List NF, (∀ x ∈ l, -b ≤ w x ∧ w x ≤ b) → -(b * l.length) ≤ sF w l ∧ sF w l ≤ b * l.length
  | [], _ => by simp [sF]
  | x :: r, h => by
    have h1 := h x List.mem_cons_self
    have h2 := sF_bound w b r fun y hy => h y (List.mem_cons_of_mem _ hy)
    simp only [sF, List.length_cons, Int.natCast_add, Int.mul_add]
    simp only [Int.natCast_one, Int.mul_one]
    omega
theorem goodF_amt {x : NF} (h : goodF x = true) : 1 ≤ x.Amount ∧ x.Amount ≤ 1125899906842624 := by
  unfold goodF at h
  simp only [Bool.and_eq_true, decide_eq_true_eq] at h
  exact h.2.2.2
section
variable (of : NF → Key_) (sel : NF → Bool)
def sgn (x : NF) : Int := bif slt x.From x.To then x.Amount else -x.Amount
def addN : List NF → KM → KM
  | [], m => m
  | x :: r, m => bif sel x then addN r (mPut Key_.eqb (of x) (gK (of x) m + sgn x) m) else addN r m
def restN : List NF → List NF
  | [] => []
  | x :: r => bif sel x then restN r else x :: restN r
def wK (k : Key_) (x : NF) : Int := bif sel x && Key_.eqb (of x) k then sgn x else 0
theorem sgn_bd {x : NF} (h : goodF x = true) : -1125899906842624 ≤ sgn x ∧ sgn x ≤ 1125899906842624 := by
  have := goodF_amt h
  unfold sgn
  cases slt x.From x.To <;> simp only [cond_true, cond_false] <;> omega
theorem addN_get (k : Key_) : ∀ (l : List NF) (m : KM), gK k (addN of sel l m) = gK k m + sF (wK of sel k) l
  | [], m => by simp [addN, sF]
  | x :: r, m => by
    rw [addN, sF, wK]
    cases hs : sel x with
    | false => simp only [cond_false, Bool.false_and]; rw [addN_get k r m]; omega
    | true =>
      simp only [cond_true, Bool.true_and]
      rw [addN_get k r]
      unfold gK
      rw [mgetPut key_iff]
      cases hk : Key_.eqb k (of x) with
      | true =>
        have := (key_iff _ _).1 hk; subst this
        rw [eRefl key_iff]; simp only [cond_true]; omega
      | false =>
        rw [eF key_iff (a := of x) (b := k) fun e => by rw [e, eRefl key_iff] at hk; cases hk]
        simp only [cond_false]; omega
theorem addN_nd : ∀ (l : List NF) {m : KM}, ndK m → ndK (addN of sel l m)
  | [], m, h => h
  | x :: r, m, h => by
    rw [addN]
    cases sel x with
    | false => exact addN_nd r h
    | true => exact addN_nd r (mputNd key_iff h)
theorem addN_len : ∀ (l : List NF) (m : KM), (addN of sel l m).length ≤ m.length + (l.filter sel).length
  | [], m => by simp [addN]
  | x :: r, m => by
    rw [addN, List.filter_cons]
    cases sel x with
    | false => simpa using addN_len r m
    | true =>
      have h1 := addN_len r (mPut Key_.eqb (of x) (gK (of x) m + sgn x) m)
      have h2 := mputLen (E := Key_.eqb) (of x) (gK (of x) m + sgn x) m
      simp only [cond_true, if_true, List.length_cons]
      omega
theorem addN_key {k : Key_} : ∀ {l : List NF} {m : KM}, (∃ e ∈ addN of sel l m, e.1 = k) → (∃ e ∈ m, e.1 = k) ∨ ∃ x ∈ l, sel x = true ∧ of x = k
  | [], m, h => .inl h
  | x :: r, m, h => by
    rw [addN] at h
    cases hs : sel x with
    | false =>
      rw [hs, cond_false] at h
      rcases addN_key h with h | ⟨y, h1, h2⟩
      · exact .inl h
      · exact .inr ⟨y, List.mem_cons_of_mem _ h1, h2⟩
    | true =>
      rw [hs, cond_true] at h
      rcases addN_key h with h | ⟨y, h1, h2⟩
      · rcases mputKeys key_iff h with e | h
        · exact .inr ⟨x, List.mem_cons_self, hs, e.symm⟩
        · exact .inl h
      · exact .inr ⟨y, List.mem_cons_of_mem _ h1, h2⟩
theorem restN_eq : ∀ l : List NF, restN sel l = l.filter fun x => !sel x
  | [] => rfl
  | x :: r => by
    rw [restN, List.filter_cons, restN_eq r]
    cases sel x <;> rfl
end
theorem addN_bd {of : NF → Key_} {sel : NF → Bool} (k : Key_) {l : List NF} (hg : ∀ x ∈ l, goodF x = true) (hl : l.length ≤ 500) : -562949953421312000 ≤ sF (wK of sel k) l ∧ sF (wK of sel k) l ≤ 562949953421312000 := by
  have := sF_bound (wK of sel k) 1125899906842624 l fun x hx => by
    have := sgn_bd (hg x hx)
    unfold wK
    cases sel x && Key_.eqb (of x) k <;> simp only [cond_true, cond_false] <;> omega
  omega

def kP (x : NF) : Key_ := ⟨x.Date, x.Set, x.Ccy⟩
def selP (x : NF) : Bool := !(seq x.Set str_x)
theorem gK_bd {of : NF → Key_} {sel : NF → Bool} {pre : List NF} (hg : ∀ x ∈ pre, goodF x = true) (hl : pre.length ≤ 500) (k : Key_) : -562949953421312000 ≤ gK k (addN of sel pre []) ∧ gK k (addN of sel pre []) ≤ 562949953421312000 := by
  rw [addN_get]
  have := addN_bd (of := of) (sel := sel) k hg hl
  have e : gK k [] = 0 := rfl
  omega
theorem addN_app (of : NF → Key_) (sel : NF → Bool) : ∀ (a b : List NF) (m : KM), addN of sel (a ++ b) m = addN of sel b (addN of sel a m)
  | [], b, m => rfl
  | x :: a, b, m => by
    rw [List.cons_append, addN, addN]
    cases sel x with
    | false => exact addN_app of sel a b m
    | true => exact addN_app of sel a b _
theorem restN_app (sel : NF → Bool) (a b : List NF) : restN sel (a ++ b) = restN sel a ++ restN sel b := by
  rw [restN_eq, restN_eq, restN_eq, List.filter_append]
theorem restN_len (sel : NF → Bool) (l : List NF) : (restN sel l).length ≤ l.length := by
  rw [restN_eq]; exact List.length_filter_le _ _
def mk1 (k : Key_) (a b : ByteArray) (n : Int) : NF := bif decide (n < 0) then ⟨k.date, k.set, k.ccy, b, a, -n⟩ else ⟨k.date, k.set, k.ccy, a, b, n⟩
theorem f37_eq {k : Key_} {a b : ByteArray} {n : Int} (h1 : -4611686018427387904 ≤ n) : f37 k a b n = some (mk1 k a b n, !decide (n = 0)) := by
  unfold f37 f37n0 mk1
  rw [show wr64 (0 - n) = wr64 (-n) by rw [Int.zero_sub]]
  by_cases h : n < 0
  · rw [decide_eq_true h, cond_true, cond_true, wrIn (by omega) (by omega)]; rfl
  · rw [decide_eq_false h]; rfl
def agrD (s : List NS) (n : ByteArray) : NS := (agr n s).getD noS
def mkP (s : List NS) (e : Key_ × Int) : NF := mk1 e.1 (agrD s e.1.set).First (agrD s e.1.set).Second e.2
def okAmt (n : Int) : Bool := decide (-1125899906842624 ≤ n) && decide (n ≤ 1125899906842624)
def made (mk : Key_ × Int → NF) (p : KM) : List NF := (p.filter fun e => !decide (e.2 = 0)).map mk
theorem made_cons (mk : Key_ × Int → NF) (e : Key_ × Int) (p : KM) : made mk (e :: p) = (bif decide (e.2 = 0) then [] else [mk e]) ++ made mk p := by
  unfold made
  rw [List.filter_cons]
  cases decide (e.2 = 0) <;> simp
theorem made_len (mk : Key_ × Int → NF) (p : KM) : (made mk p).length ≤ p.length := by
  unfold made; rw [List.length_map]; exact List.length_filter_le _ _
theorem mx_eq {n : Int} (h1 : -4611686018427387904 ≤ n) (h2 : n ≤ 4611686018427387904) : decide ((1125899906842624 : Int) < mxI n (wr64 (0 - n))) = !okAmt n := by
  rw [wrIn (n := 0 - n) (by omega) (by omega)]
  unfold okAmt
  have e : mxI n (0 - n) = if 0 ≤ n then n else -n := by
    unfold mxI
    by_cases h : 0 ≤ n
    · rw [if_pos h, decide_eq_false (by omega)]; rfl
    · rw [if_neg h, decide_eq_true (by omega), cond_true]; omega
  rw [e, ← Bool.decide_and, ← decide_not]
  apply decide_eq_decide.2
  split <;> omega
theorem made_key (mk : Key_ × Int → NF) (hk : ∀ e, kP (mk e) = e.1) {m : KM} (h : ndK m) : (made mk m).Pairwise fun x y => eqv ltO x y = false := by
  unfold made
  rw [List.pairwise_map]
  refine (h.sublist List.filter_sublist).imp fun {a b} hab => ?_
  cases e : eqv ltO (mk a) (mk b) with
  | false => rfl
  | true =>
    obtain ⟨h1, h2, h3⟩ := cO_zero.1 (cO_cmp.eqv.1 e)
    exact absurd (by rw [← hk a, ← hk b]; unfold kP; rw [h1, h2, h3]) hab
theorem made_perm (mk : Key_ × Int → NF) {p m : KM} (h : p.Perm m) : (made mk p).Perm (made mk m) := (h.filter _).map _
theorem mk1_key (k : Key_) (a b : ByteArray) (n : Int) : kP (mk1 k a b n) = k := by
  unfold mk1
  cases decide (n < 0) <;> rfl
theorem sums_bd {of : NF → Key_} {sel : NF → Bool} {l : List NF} (hg : ∀ x ∈ l, goodF x = true) (hl : l.length ≤ 500) : ∀ e ∈ addN of sel l [], -562949953421312000 ≤ e.2 ∧ e.2 ≤ 562949953421312000 := fun e he => by
  have h1 := mgetMem key_iff (z := (0 : Int)) (k := e.1) (v := e.2) (addN_nd of sel l List.Pairwise.nil) he
  have := gK_bd (of := of) (sel := sel) hg hl e.1
  unfold gK at this
  rw [h1] at this
  exact this
end Go.Proofs.Ytkcafackfihmiaa
namespace Go.Proofs.Ytkcafackfihmiaa
set_option linter.unusedVariables false
set_option linter.unusedSimpArgs false
open Go.RowKit
def btw (a b : ByteArray) (d : Int) (c : ByteArray) (x : NF) : Int :=
  bif decide (x.Date = d) && seq x.Ccy c then (bif seq x.From a && seq x.To b then x.Amount else 0) - (bif seq x.From b && seq x.To a then x.Amount else 0) else 0
theorem f15n2_eq {l : List NF} {k : Int} {x : NF} (hx : at? l k = some x) (a b : ByteArray) (d : Int) (c : ByteArray) (n : Int) : f15n2 l a b d c (wr64 n) k = some (.norm (wr64 (n + btw a b d c x))) := by
  unfold f15n2 btw
  rw [hx]
  simp only [Option.bind_some]
  cases decide (x.Date = d) with
  | false => simp
  | true =>
    cases seq x.Ccy c with
    | false => simp
    | true =>
      simp only [cond_true, Bool.and_self]
      unfold f15n3 f15n4 f15n5
      rw [hx]
      simp only [Option.bind_some]
      cases seq x.From a <;> cases seq x.To b <;> cases seq x.From b <;> cases seq x.To a <;> first | (simp [wrL, wrLs, Int.add_sub_assoc]; done) | (simp [wrL, wrLs]; rw [Int.sub_eq_add_neg])
theorem f15n6_at (l : List NF) (hl : l.length ≤ 1000000) (a b : ByteArray) (d : Int) (c : ByteArray) : ∀ (r : List NF) (f k : Nat) (n : Int), l.drop k = r → r.length < f → f15n6 f l a b d c (wr64 n) (k : Int) = some (.exit0 (wr64 (n + sF (btw a b d c) r)))
  | _, 0, _, _, _, h => absurd h (Nat.not_lt_zero _)
  | [], f + 1, k, n, hd, _ => by
    have := drop_nil hd
    rw [f15n6, decide_eq_false (by omega), cond_false]; simp [sF]
  | x :: r, f + 1, k, n, hd, hf => by
    obtain ⟨h1, h2, h3⟩ := dropAt hd
    rw [f15n6, decide_eq_true (by omega), cond_true, f15n2_eq h1]
    simp only [Option.bind_some]
    rw [wrSucc (by omega), f15n6_at l hl a b d c r f (k + 1) _ h3 (by simpa using hf), sF, Int.add_assoc]
theorem f15_eq {l : List NF} (hl : l.length ≤ 1000000) (a b : ByteArray) (d : Int) (c : ByteArray) : f15 l a b d c = some (wr64 (sF (btw a b d c) l)) := by
  have h := f15n6_at l hl a b d c l FUEL 0 0 List.drop_zero (fuelSmall hl)
  rw [Int.zero_add] at h
  have h' : f15n6 FUEL l a b d c 0 0 = some (.exit0 (wr64 (sF (btw a b d c) l))) := h
  unfold f15 f15n0 f15n1
  rw [h']; rfl

def tw (φ : Key_ → Int) : KM → Int
  | [] => 0
  | e :: r => φ e.1 * e.2 + tw φ r
theorem tw_put (φ : Key_ → Int) (k : Key_) (v : Int) : ∀ m : KM, tw φ (mPut Key_.eqb k v m) = tw φ m - φ k * gK k m + φ k * v
  | [] => by simp [mPut, tw, gK, mGet]
  | (a, w) :: r => by
    unfold gK
    rw [mPut, mGet]
    cases h : Key_.eqb k a with
    | true =>
      have := (key_iff _ _).1 h; subst this
      simp only [cond_true, tw]; omega
    | false =>
      have := tw_put φ k v r
      unfold gK at this
      simp only [cond_false, tw, this]; omega
theorem tw_add (φ : Key_ → Int) (of : NF → Key_) (sel : NF → Bool) : ∀ (l : List NF) (m : KM), tw φ (addN of sel l m) = tw φ m + sF (fun x => bif sel x then φ (of x) * sgn x else 0) l
  | [], m => by simp [addN, sF]
  | x :: r, m => by
    rw [addN, sF]
    cases sel x with
    | false => rw [cond_false, cond_false, tw_add φ of sel r]; omega
    | true =>
      rw [cond_true, cond_true, tw_add φ of sel r, tw_put, Int.mul_add]; omega
theorem sF_made {w : NF → Int} {φ : Key_ → Int} {mk : Key_ × Int → NF} : ∀ {m : KM}, (∀ e ∈ m, ¬ e.2 = 0 → w (mk e) = φ e.1 * e.2) → sF w (made mk m) = tw φ m
  | [], _ => rfl
  | e :: r, h => by
    rw [made_cons, sF_app, sF_made fun x hx => h x (List.mem_cons_of_mem _ hx), tw]
    by_cases h0 : e.2 = 0
    · rw [decide_eq_true h0, h0]; simp [sF]
    · rw [decide_eq_false h0, cond_false, sF, sF, h e List.mem_cons_self h0]; omega

def ori (s : List NS) (a b : ByteArray) (d : Int) (c : ByteArray) (k : Key_) : Int :=
  bif decide (k.date = d) && seq k.ccy c then (bif seq (agrD s k.set).First a && seq (agrD s k.set).Second b then 1 else 0) - (bif seq (agrD s k.set).First b && seq (agrD s k.set).Second a then 1 else 0) else 0
theorem mk1_btw {s : List NS} {a b : ByteArray} {d : Int} {c : ByteArray} (e : Key_ × Int) : btw a b d c (mkP s e) = ori s a b d c e.1 * e.2 := by
  unfold mkP mk1 btw ori
  by_cases h : e.2 < 0
  · rw [decide_eq_true h, cond_true]
    simp only
    cases decide (e.1.date = d) && seq e.1.ccy c with
    | false => simp
    | true =>
      simp only [cond_true]
      rw [Bool.and_comm (seq (agrD s e.1.set).Second a), Bool.and_comm (seq (agrD s e.1.set).Second b)]
      cases seq (agrD s e.1.set).First a && seq (agrD s e.1.set).Second b <;> cases seq (agrD s e.1.set).First b && seq (agrD s e.1.set).Second a <;> simp
  · rw [decide_eq_false h, cond_false]
    simp only
    cases decide (e.1.date = d) && seq e.1.ccy c with
    | false => simp
    | true =>
      simp only [cond_true]
      cases seq (agrD s e.1.set).First a && seq (agrD s e.1.set).Second b <;> cases seq (agrD s e.1.set).First b && seq (agrD s e.1.set).Second a <;> simp
theorem fits_cases {s : List NS} {l : List NF} (h : OkN s l) {x : NF} (hx : x ∈ l) (hs : selP x = true) : ∃ y, agr x.Set s = some y ∧ slt y.First y.Second = true ∧ ((x.From = y.First ∧ x.To = y.Second ∧ sgn x = x.Amount) ∨ (x.From = y.Second ∧ x.To = y.First ∧ sgn x = -x.Amount)) := by
  have hf := h.fits x hx
  unfold selP at hs
  rw [Bool.not_eq_true'] at hs
  unfold fitsS at hf
  rw [hs, Bool.false_or] at hf
  cases ha : agr x.Set s with
  | none => rw [ha] at hf; cases hf
  | some y =>
    rw [ha] at hf
    have hg := h.sg y (agr_mem ha).1
    unfold goodS at hg
    simp only [Bool.and_eq_true] at hg
    have hlt := hg.2.2.2
    refine ⟨y, rfl, hlt, ?_⟩
    simp only [Bool.or_eq_true, Bool.and_eq_true] at hf
    rcases hf with ⟨h1, h2⟩ | ⟨h1, h2⟩
    · have e1 := seq_iff.1 h1
      have e2 := seq_iff.1 h2
      refine .inl ⟨e1.symm, e2.symm, ?_⟩
      unfold sgn; rw [← e1, ← e2, hlt]; rfl
    · have e1 := seq_iff.1 h1
      have e2 := seq_iff.1 h2
      refine .inr ⟨e2.symm, e1.symm, ?_⟩
      unfold sgn; rw [← e1, ← e2, slt_asymm hlt]; rfl
theorem sel_btw {s : List NS} {l : List NF} (h : OkN s l) {x : NF} (hx : x ∈ l) (hs : selP x = true) (a b : ByteArray) (d : Int) (c : ByteArray) : btw a b d c x = ori s a b d c (kP x) * sgn x := by
  obtain ⟨y, h1, h2, h3⟩ := fits_cases h hx hs
  have e : agrD s (kP x).set = y := by unfold agrD; show (agr x.Set s).getD noS = y; rw [h1]; rfl
  unfold btw ori
  rw [e]
  show (bif decide (x.Date = d) && seq x.Ccy c then _ else _) = (bif decide (x.Date = d) && seq x.Ccy c then _ else _) * sgn x
  cases decide (x.Date = d) && seq x.Ccy c with
  | false => simp
  | true =>
    simp only [cond_true]
    rcases h3 with ⟨k1, k2, k3⟩ | ⟨k1, k2, k3⟩
    · rw [k1, k2, k3]
      cases seq y.First a && seq y.Second b <;> cases seq y.First b && seq y.Second a <;> simp
    · rw [k1, k2, k3, Bool.and_comm (seq y.Second a), Bool.and_comm (seq y.Second b)]
      cases seq y.First a && seq y.Second b <;> cases seq y.First b && seq y.Second a <;> simp
theorem f14_eq {l : List NF} (hl : l.length ≤ 1000000) : f14r1 l = some l := by
  unfold f14r1 f14r1n0
  cases h : l with
  | nil => rfl
  | cons x r =>
    rw [h] at hl
    rw [req, fitSmall hl (by omega)]; rfl
theorem f12_eq (s : List NS) (l : List NF) : ∃ b, f12 s l = some b ∧ (b = false → s.length ≤ 80 ∧ l.length ≤ 520) := by
  unfold f12 f12n0
  by_cases h : (80 : Int) < (s.length : Int)
  · rw [decide_eq_true h]; exact ⟨true, rfl, fun h => by cases h⟩
  · rw [decide_eq_false h]
    refine ⟨_, rfl, fun k => ?_⟩
    have := of_decide_eq_false k
    omega
end Go.Proofs.Ytkcafackfihmiaa
namespace Go.Proofs.Ytkcafackfihmiaa
set_option linter.unusedVariables false
set_option linter.unusedSimpArgs false
open Go.RowKit
section
variable {s : List NS} {l : List NF} (h : OkN s l)
include h
omit h in
omit h in
omit h in
omit h in
end
theorem stay {x : List NF} {y : List NF} (hx : Sd ltO x) (hy : y.Perm (x.filter selP)) (hn : y.Pairwise fun a b => eqv ltO a b = false) : sortO (restN selP x ++ y) = x := by
  have sel_eq : ∀ {k z : NF}, eqv ltO k z = true → selP z = selP k := fun {k z} e => by
    obtain ⟨_, h2, _⟩ := cO_zero.1 (cO_cmp.eqv.1 e)
    unfold selP; rw [h2]
  refine (sortS_of swo_O hx ⟨?_, fun k => ?_⟩).symm
  · rw [restN_eq]
    have := (List.filter_append_perm selP x).symm
    refine this.trans (List.perm_append_comm.trans ((List.Perm.refl _).append hy.symm))
  · rw [List.filter_append, restN_eq, List.filter_filter]
    cases hk : selP k with
    | false =>
      have e1 : y.filter (eqv ltO k) = [] := List.filter_eq_nil_iff.2 fun z hz e => by
        have := (List.mem_filter.1 (hy.mem_iff.1 hz)).2
        rw [sel_eq e, hk] at this; cases this
      rw [e1, List.append_nil]
      refine List.filter_congr fun z hz => ?_
      cases e : eqv ltO k z with
      | false => rfl
      | true => rw [sel_eq e, hk]; rfl
    | true =>
      have e1 : x.filter (fun a => eqv ltO k a && !selP a) = [] := List.filter_eq_nil_iff.2 fun z hz e => by
        rw [Bool.and_eq_true] at e
        rw [sel_eq e.1, hk] at e; cases e.2
      rw [e1, List.nil_append]
      have e2 : x.filter (eqv ltO k) = (x.filter selP).filter (eqv ltO k) := by
        rw [List.filter_filter]
        refine List.filter_congr fun z hz => ?_
        cases e : eqv ltO k z with
        | false => rfl
        | true => rw [sel_eq e, hk]; rfl
      rw [e2]
      exact (Cl.of_perm hy.symm hn swo_O).2 k
section
variable {s : List NS} {l : List NF} (h : OkN s l)
include h
end
end Go.Proofs.Ytkcafackfihmiaa
namespace Go.Proofs.Ytkcafackfihmiaa
set_option linter.unusedVariables false
set_option linter.unusedSimpArgs false
open Go.RowKit
theorem eqb_refl (x : NF) : NettingFlow.eqb x x = true := by unfold NettingFlow.eqb; simp [seq_refl]
theorem f17n2L_same (a b : List NF) : ∀ (l pre : List NF), b = pre ++ l → f17n2L a b l ((pre.length : Nat) : Int) = some .exit0
  | [], pre, _ => rfl
  | x :: r, pre, h => by
    have ih := f17n2L_same a b r (pre ++ [x]) (by rw [h]; simp)
    rw [List.length_append, show (((pre.length + [x].length : Nat)) : Int) = (pre.length : Int) + 1 from by simp] at ih
    rw [f17n2L, at_len (a := pre) (x := x) (b := r) h rfl]
    simp only [Option.bind_some, eqb_refl, cond_true]
    exact ih
theorem f17_same {a b : List NF} (h : a = b) (hl : a.length ≤ 1000000) : f17 a b = some true := by
  subst h
  have : f17n1 a a = some .norm := by
    unfold f17n1
    rw [f17n2_run a a (maxSmall hl)]
    have := f17n2L_same a a a [] rfl
    have this' : f17n2L a a a 0 = _ := this
    rw [this']; rfl
  unfold f17 f17n0
  rw [this, decide_eq_true rfl]; rfl



end Go.Proofs.Ytkcafackfihmiaa
namespace Go.Proofs.Ytkcafackfihmiaa
set_option linter.unusedVariables false
set_option linter.unusedSimpArgs false
open Go.RowKit
def kC (d : Int) (t : ByteArray) (x : NF) : Key_ := ⟨d, t, x.Ccy⟩
def selC (d : Int) (t : ByteArray) (x : NF) : Bool := seq x.Set t && decide (d ≤ x.Date)
def sumsC (d : Int) (t : ByteArray) (l : List NF) : KM := addN (kC d t) (selC d t) l []
theorem f47_eq (x : NF) (d : Int) (t : ByteArray) : f47r1 x d t = some (selC d t x) := by
  unfold f47r1 f47r1n0 selC
  cases seq x.Set t <;> rfl
theorem f32c2_eq (s : List NS) (d : Int) (t : ByteArray) {bg : List NF} (hg : ∀ x ∈ bg, goodF x = true) (hl : bg.length ≤ 500) : ∀ (l pre : List NF) (v : Int), bg = pre ++ l → f32r2n2L s bg d t l v (restN (selC d t) pre) (addN (kC d t) (selC d t) pre []) = some (.exit0 (restN (selC d t) bg) (sumsC d t bg))
  | [], pre, v, h => by rw [List.append_nil] at h; subst h; rfl
  | x :: r, pre, v, h => by
    have ih := f32c2_eq s d t hg hl r (pre ++ [x]) (v + 1) (by rw [h]; simp)
    have hx : goodF x = true := hg x (by rw [h]; simp)
    have hp : ∀ y ∈ pre, goodF y = true := fun y hy => hg y (by rw [h]; simp [hy])
    have hpl : pre.length + 1 ≤ 500 := by rw [h] at hl; simp at hl; omega
    have hb := gK_bd (of := kC d t) (sel := selC d t) hp (by omega) (kC d t x)
    have ha := goodF_amt hx
    have hr := restN_len (selC d t) pre
    rw [addN_app, restN_app, addN, restN] at ih
    rw [f32r2n2L, f47_eq]
    simp only [Option.bind_some]
    cases hs : selC d t x with
    | false =>
      rw [hs] at ih
      simp only [cond_false, restN, addN] at ih ⊢
      rw [req, fitSmall (by omega) (by omega), cond_true]
      exact ih
    | true =>
      rw [hs] at ih
      simp only [cond_true, restN, addN, List.append_nil] at ih ⊢
      unfold sgn at ih
      unfold gK at ih hb
      have ek : Key_.mk d t x.Ccy = kC d t x := rfl
      rw [ek]
      cases hlt : slt x.From x.To with
      | true =>
        rw [hlt, cond_true] at ih
        rw [cond_true, wrIn (by omega) (by omega)]
        exact ih
      | false =>
        rw [hlt, cond_false] at ih
        rw [cond_false, wrIn (n := mGet Key_.eqb 0 (kC d t x) (addN (kC d t) (selC d t) pre []) - x.Amount) (by omega) (by omega)]
        rw [show mGet Key_.eqb 0 (kC d t x) (addN (kC d t) (selC d t) pre []) - x.Amount = mGet Key_.eqb 0 (kC d t x) (addN (kC d t) (selC d t) pre []) + -x.Amount by omega]
        exact ih
theorem f32c4_eq {s : List NS} (hs : SSrt s) (hl : s.length ≤ 1000) (d : Int) (t : ByteArray) (rest : List NF) (bi : KM) : ∀ (p : KM) (o : List NF), (∀ e ∈ p, -562949953421312000 ≤ e.2 ∧ e.2 ≤ 562949953421312000) → o.length + p.length ≤ 1000 →
    f32r2n4 s d t rest bi p o = some (bif p.all (fun e => okAmt e.2) then .exit2 (o ++ made (mkP s) p) else .ret)
  | [], o, _, _ => by simp [f32r2n4, made]
  | e :: p, o, hb, hn => by
    simp only [List.length_cons] at hn
    have he := hb e List.mem_cons_self
    have ih := fun o' => f32c4_eq hs hl d t rest bi p o' fun x hx => hb x (List.mem_cons_of_mem _ hx)
    rw [f32r2n4, mx_eq (by omega) (by omega), List.all_cons, f46_eq hs hl]
    cases okAmt e.2 with
    | false => rfl
    | true =>
      simp only [Bool.not_true, cond_false, Option.bind_some, Bool.true_and]
      have e1 : (agrE s e.1.set).1 = agrD s e.1.set := by unfold agrD agrE; cases agr e.1.set s <;> rfl
      rw [e1, f37_eq (by omega), made_cons]
      simp only [Option.bind_some]
      cases h0 : decide (e.2 = 0) with
      | true => simp only [Bool.not_true, cond_false, cond_true, List.nil_append]; exact ih o (by omega)
      | false =>
        simp only [Bool.not_false, cond_true, cond_false]
        rw [req, fitSmall (by omega) (by omega), cond_true]
        have := ih (o ++ [mkP s e]) (by simp; omega)
        simpa [mkP] using this
def okC (d : Int) (t : ByteArray) (l : List NF) : Bool := (sumsC d t l).all fun e => okAmt e.2
def madeC (s : List NS) (d : Int) (t : ByteArray) (l : List NF) : List NF := sortO (made (mkP s) (sumsC d t l))
theorem sumsC_len (d : Int) (t : ByteArray) (l : List NF) : (sumsC d t l).length ≤ l.length := by
  have := addN_len (kC d t) (selC d t) l []
  have := List.length_filter_le (selC d t) l
  unfold sumsC
  simp only [List.length_nil] at *
  omega
theorem f32c_eq {s : List NS} {l : List NF} (h : OkN s l) (d : Int) (t : ByteArray) : f32r2 s l d t = some (bif okC d t l then (0, restN (selC d t) l, madeC s d t l) else (14, [], [])) := by
  have hlen : (sumsC d t l).length ≤ 500 := Nat.le_trans (sumsC_len d t l) h.len
  have h1 : f32r2n1 s l d t = some (.norm (restN (selC d t) l) (sumsC d t l)) := by
    unfold f32r2n1
    rw [f32r2n2_run s l d t [] [] (maxSmall (by have := h.len; omega))]
    have := f32c2_eq s d t h.good h.len l [] 0 rfl
    have this' : f32r2n2L s l d t l 0 [] [] = _ := this
    rw [this']; rfl
  have h3 : ∀ p, p.Perm (sumsC d t l) → f32r2n3 s d t (restN (selC d t) l) (sumsC d t l) p = some (bif okC d t l then .norm (made (mkP s) p) else .ret) := fun p hp => by
    unfold f32r2n3
    rw [f32c4_eq h.ss (by have := h.sl; omega) d t _ _ p [] (fun e he => sums_bd h.good h.len e (hp.mem_iff.1 he)) (by rw [hp.length_eq]; simp; omega), hp.all_eq]
    unfold okC
    cases (sumsC d t l).all fun e => okAmt e.2 <;> rfl
  unfold f32r2 f32r2n0
  rw [h1]
  simp only [Option.bind_some]
  cases ho : okC d t l with
  | false =>
    rw [anyOrder_of (o := f32r2n0O.ret 14 [] []) fun p hp => ?_]
    · rfl
    · rw [h3 p hp, ho]; rfl
  | true =>
    rw [anyOrder_of (o := f32r2n0O.ret 0 (restN (selC d t) l) (madeC s d t l)) fun p hp => ?_]
    · rfl
    · have hp2 := made_perm (mkP s) hp
      rw [h3 p hp, ho]
      simp only [cond_true, Option.bind_some]
      rw [f34_eq (by have := made_len (mkP s) p; rw [hp.length_eq] at this; omega)]
      simp only [Option.bind_some]
      have : sortO (made (mkP s) p) = madeC s d t l := sort_perm hp2 (made_key (mkP s) (fun e => mk1_key _ _ _ _) (addN_nd (kC d t) (selC d t) l List.Pairwise.nil)) swo_O
      rw [this]
def closeS (s : List NS) (l : List NF) (t : ByteArray) (d : Int) : List NF × Int :=
  bif checkN s l then bif (agrE s t).2 then bif decide (0 ≤ d) && decide (d ≤ 99999) then bif okC d t l then (restN (selC d t) l ++ madeC s d t l, 0) else ([], 14) else ([], 2) else ([], 6) else ([], 8)
theorem madeC_len (s : List NS) (d : Int) (t : ByteArray) (l : List NF) : (madeC s d t l).length ≤ l.length := by
  unfold madeC sortO
  rw [sortS_len swo_O]
  exact Nat.le_trans (made_len _ _) (sumsC_len d t l)
theorem f19_eq (s : List NS) {l : List NF} (hm : l.length ≤ maxLen) (t : ByteArray) (d : Int) : f19 s l t d = some (closeS s l t d) := by
  unfold f19 f19n0 closeS
  rw [f21_eq s hm, ltNot, ltNot]
  cases hc : checkN s l with
  | false => rfl
  | true =>
    have h := checkN_iff hc
    rw [f46_eq h.ss (by have := h.sl; omega)]
    simp only [cond_true, Option.bind_some, decide_true]
    cases (agrE s t).2 with
    | false => rfl
    | true =>
      cases decide (0 ≤ d) with
      | false => rfl
      | true =>
        cases decide (d ≤ 99999) with
        | false => rfl
        | true =>
          have hl := h.len
          have h1 := madeC_len s d t l
          have h2 := restN_len (selC d t) l
          rw [f32c_eq h]
          cases okC d t l with
          | false => rfl
          | true =>
            simp only [cond_true, Bool.not_true, cond_false, Option.bind_some, decide_true, Bool.and_self]
            cases hp : madeC s d t l with
            | nil => simp
            | cons y r =>
              rw [hp] at h1
              simp only [List.isEmpty_cons, cond_false]
              rw [req, fitSmall (by omega) (by omega), cond_true]
              rfl

theorem f6n2L_eq' (bg : List NF) (t : ByteArray) (d : Int) (x : (List NF) × Int) : ∀ (l : List NF) (v : Int) (o : List NF), o.length + l.length ≤ 1000 → f6n2L bg t d true x l v o = some (.exit0 (o ++ restN (selC d t) l))
  | [], v, o, _ => by simp [f6n2L, restN]
  | y :: r, v, o, hl => by
    simp only [List.length_cons] at hl
    have ih := fun o' => f6n2L_eq' bg t d x r (v + 1) o'
    rw [f6n2L, restN, selC]
    simp only [req, fitSmall (n := o.length + 1) (by omega) (by omega : 80 ≤ 1000000), cond_true, ltNot]
    rw [ih (o ++ [y]) (by simp; omega), ih o (by omega)]
    cases seq y.Set t <;> cases decide (d ≤ y.Date) <;> simp
theorem drop_app {α : Type} (a b : List α) : (a ++ b).drop (Int.toNat (a.length : Int)) = b := by
  rw [show Int.toNat (a.length : Int) = a.length from rfl]; simp
section
variable {s : List NS} {l : List NF} (h : OkN s l) (t : ByteArray) (d : Int)
theorem madeC_mem {x : NF} (hx : x ∈ madeC s d t l) : ∃ e ∈ sumsC d t l, ¬ e.2 = 0 ∧ x = mkP s e := by
  have := (sortS_cl swo_O _).mem.1 hx
  unfold made at this
  obtain ⟨e, he, rfl⟩ := List.mem_map.1 this
  obtain ⟨h1, h2⟩ := List.mem_filter.1 he
  exact ⟨e, h1, by simpa using h2, rfl⟩
theorem sumsC_key {e : Key_ × Int} (he : e ∈ sumsC d t l) : e.1.date = d ∧ e.1.set = t := by
  rcases addN_key (kC d t) (selC d t) (l := l) (m := []) ⟨e, he, rfl⟩ with ⟨y, hy, _⟩ | ⟨x, _, _, hk⟩
  · cases hy
  · rw [← hk]; exact ⟨rfl, rfl⟩
theorem madeC_kp {x : NF} (hx : x ∈ madeC s d t l) : x.Set = t ∧ x.Date = d := by
  obtain ⟨e, he, _, rfl⟩ := madeC_mem t d hx
  obtain ⟨h1, h2⟩ := sumsC_key t d he
  have := mk1_key e.1 (agrD s e.1.set).First (agrD s e.1.set).Second e.2
  unfold kP at this
  exact ⟨by rw [← h2]; exact congrArg Key_.set this, by rw [← h1]; exact congrArg Key_.date this⟩
theorem madeC_srt : (madeC s d t l).Pairwise fun a b => slt a.Ccy b.Ccy = true := by
  have hk : (made (mkP s) (sumsC d t l)).Pairwise fun a b => eqv ltO a b = false := made_key (mkP s) (fun e => mk1_key _ _ _ _) (addN_nd (kC d t) (selC d t) _ List.Pairwise.nil)
  have hk' : (madeC s d t l).Pairwise fun a b => eqv ltO a b = false := ((sortS_cl swo_O _).1.symm.pairwise_iff (fun {a b} e => by
    cases f : eqv ltO b a with
    | false => rfl
    | true => rw [eqv_symm f] at e; cases e)).1 hk
  refine List.Pairwise.imp_of_mem (fun {a b} ha hb ⟨h1, h2⟩ => ?_) ((sortS_sd swo_O _ : Sd ltO (madeC s d t l)).and hk')
  obtain ⟨a1, a2⟩ := madeC_kp t d ha
  obtain ⟨b1, b2⟩ := madeC_kp t d hb
  cases k : slt a.Ccy b.Ccy with
  | true => rfl
  | false =>
    cases k2 : slt b.Ccy a.Ccy with
    | true =>
      have : cO b a < 0 := by
        unfold cO cmpOr
        rw [decide_eq_true (cmpI_zero.2 (by rw [a2, b2] : b.Date = a.Date)), cond_true, decide_eq_true (cmpB_zero.2 (by rw [a1, b1] : b.Set = a.Set)), cond_true]
        exact cmpB_neg.2 k2
      have e : ltO b a = true := decide_eq_true this
      rw [e] at h1; cases h1
    | false =>
      have : cO a b = 0 := cO_zero.2 ⟨by rw [a2, b2], by rw [a1, b1], slt_total k k2⟩
      rw [cO_cmp.eqv.2 this] at h2; cases h2
theorem f6n4L_at (e : Int) (st : List NF) (hl : (madeC s d t l).length ≤ 1000) : ∀ (r pre : List NF), madeC s d t l = pre ++ r → f6n4L l t d true (st ++ madeC s d t l, e) st r ((pre.length : Nat) : Int) = some .exit2
  | [], pre, _ => rfl
  | y :: r, pre, hp => by
    have ih := f6n4L_at e st hl r (pre ++ [y]) (by rw [hp]; simp)
    rw [List.length_append, show (((pre.length + [y].length : Nat)) : Int) = (pre.length : Int) + 1 from by simp] at ih
    have hy : y ∈ madeC s d t l := by rw [hp]; simp
    obtain ⟨y1, y2⟩ := madeC_kp t d hy
    rw [f6n4L, seq_iff.2 y1, cond_true, decide_eq_true y2, cond_true]
    rcases List.eq_nil_or_concat pre with rfl | ⟨q, z, rfl⟩
    · rw [show (decide ((0 : Int) < ((([] : List NF).length : Nat) : Int))) = false from rfl, cond_false]
      exact ih
    · rw [List.concat_eq_append] at hp ih ⊢
      have hq : q.length + 1 ≤ 1000 := by rw [hp] at hl; simp at hl; omega
      have hsrt := madeC_srt (s := s) (l := l) t d
      rw [hp] at hsrt
      have hlt : slt z.Ccy y.Ccy = true := (List.pairwise_append.1 hsrt).2.2 z (by simp) y (by simp)
      rw [decide_eq_true (by simp : (0 : Int) < (((q ++ [z]).length : Nat) : Int)), cond_true]
      simp only [drop_app]
      rw [show wr64 ((((q ++ [z]).length : Nat) : Int) - 1) = ((q.length : Nat) : Int) by rw [wrIn (by simp <;> omega) (by simp <;> omega)]; simp, at_len (a := q) (x := z) (b := y :: r) (by rw [hp]; simp) rfl]
      simp only [Option.bind_some, hlt, cond_true]
      exact ih
def clo (t : ByteArray) (d : Int) (a b c : ByteArray) (x : NF) : Int := bif selC d t x && seq x.Ccy c then btw a b x.Date x.Ccy x else 0
include h in
theorem close_btw (ht : seq t str_x = false) (a b c : ByteArray) : sF (btw a b d c) (madeC s d t l) = sF (clo t d a b c) l := by
  have hp : (madeC s d t l).Perm (made (mkP s) (sumsC d t l)) := (sortS_cl swo_O _).1
  rw [sF_perm hp, sF_made (φ := ori s a b d c) (fun e _ _ => mk1_btw e)]
  unfold sumsC
  rw [tw_add]
  show 0 + _ = _
  rw [Int.zero_add]
  refine sF_ext fun x hx => ?_
  unfold clo
  cases hs : selC d t x with
  | false => rfl
  | true =>
    have hset : x.Set = t := by
      unfold selC at hs
      rw [Bool.and_eq_true] at hs
      exact seq_iff.1 hs.1
    have hsel : selP x = true := by unfold selP; rw [hset, ht]; rfl
    rw [cond_true, Bool.true_and, sel_btw h hx hsel]
    unfold ori kC kP
    rw [hset]
    simp only [decide_true, seq_refl, Bool.true_and, Bool.and_self, cond_true]
    cases seq x.Ccy c <;> simp
theorem cut_one {l pre r : List NF} {x : NF} (h : l = pre ++ x :: r) (hl : l.length ≤ 1000000) : cutB ((pre.length : Nat) : Int) (wr64 (((pre.length : Nat) : Int) + 1)) l.length = true ∧ (l.take (Int.toNat (wr64 (((pre.length : Nat) : Int) + 1)))).drop (Int.toNat ((pre.length : Nat) : Int)) = [x] := by
  have hpl : pre.length < l.length := by rw [h]; simp
  rw [wrSucc (by omega)]
  constructor
  · unfold cutB
    simp only [Bool.and_eq_true, decide_eq_true_eq]
    omega
  · rw [show Int.toNat ((pre.length + 1 : Nat) : Int) = pre.length + 1 from rfl, show Int.toNat ((pre.length : Nat) : Int) = pre.length from rfl, h]
    rw [List.take_append, List.take_of_length_le (by omega : pre.length ≤ pre.length + 1), List.drop_append, List.drop_length]
    simp
theorem f6n8L_at (hl : l.length ≤ 1000) (x : (List NF) × Int) (st : List NF) {k : Int} {y : NF} (hy : at? l k = some y) : ∀ (r pre : List NF) (n : Int), l = pre ++ r → f6n8L l t d true x st k r (wr64 n) ((pre.length : Nat) : Int) = some (.exit6 (wr64 (n + sF (clo t d y.From y.To y.Ccy) r)))
  | [], pre, n, _ => by simp [f6n8L, sF]
  | z :: r, pre, n, hp => by
    have ih := fun n' => f6n8L_at hl x st hy r (pre ++ [z]) n' (by rw [hp]; simp)
    simp only [List.length_append, show ∀ (a : Nat), (((a + [z].length : Nat)) : Int) = (a : Int) + 1 from fun a => by simp] at ih
    obtain ⟨c1, c2⟩ := cut_one hp (by omega)
    rw [f6n8L, hy, sF, clo, selC]
    simp only [Option.bind_some]
    cases seq z.Set t with
    | false => simp only [cond_false, Bool.false_and]; rw [ih, Int.zero_add]
    | true =>
      cases decide (d ≤ z.Date) with
      | false => simp only [cond_true, cond_false, Bool.and_false, Bool.false_and]; rw [ih, Int.zero_add]
      | true =>
        cases hc : seq z.Ccy y.Ccy with
        | false => simp only [cond_true, cond_false, Bool.and_self, Bool.and_false]; rw [ih, Int.zero_add]
        | true =>
          simp only [cond_true, Bool.and_self]
          rw [req, c1, cond_true, c2, f15_eq (by simp)]
          simp only [Option.bind_some]
          rw [show sF (btw y.From y.To z.Date z.Ccy) [z] = btw y.From y.To z.Date z.Ccy z by simp [sF]]
          rw [wrL, Int.add_comm n, wrL, Int.add_comm _ n, ih, Int.add_assoc]
include h in
theorem f6n6_eq (ht : seq t str_x = false) (e : Int) (st : List NF) {k : Nat} {y : NF} (hy : l[k]? = some y) : f6n6 l t d true (st ++ madeC s d t l, e) st (k : Int) = some .norm := by
  have hat : at? l (k : Int) = some y := by rw [at_nat]; exact hy
  have hl := h.len
  have hM := madeC_len s d t l
  have h8 := f6n8L_at (l := l) t d (by omega) (st ++ madeC s d t l, e) st hat l [] 0 rfl
  rw [Int.zero_add] at h8
  have h8' : f6n8L l t d true (st ++ madeC s d t l, e) st (k : Int) l 0 0 = _ := h8
  have h7 : f6n7 l t d true (st ++ madeC s d t l, e) st (k : Int) = some (.norm (wr64 (sF (clo t d y.From y.To y.Ccy) l))) := by
    unfold f6n7
    rw [f6n8_run l t d true (st ++ madeC s d t l, e) st (k : Int) 0 (maxSmall (by omega)), h8']; rfl
  unfold f6n6
  rw [hat]
  simp only [Option.bind_some, h7, drop_app]
  rw [f15_eq (by omega), close_btw h t d ht]
  cases seq y.Set t <;> cases decide (y.Date < d) <;> simp
include h in
theorem f6n9_at (ht : seq t str_x = false) (e : Int) (st : List NF) : ∀ (r : List NF) (f k : Nat), l.drop k = r → r.length < f → f6n9 f l t d true (st ++ madeC s d t l, e) st (k : Int) = some .exit4
  | _, 0, _, _, h => absurd h (Nat.not_lt_zero _)
  | [], f + 1, k, hd, _ => by
    have := drop_nil hd
    rw [f6n9, decide_eq_false (by omega), cond_false]
  | x :: r, f + 1, k, hd, hf => by
    obtain ⟨h1, h2, h3⟩ := dropAt hd
    have := h.len
    rw [f6n9, decide_eq_true (by omega), cond_true, f6n6_eq h t d ht e st (by rw [← at_nat]; exact h1)]
    simp only [Option.bind_some]
    rw [wrSucc (by omega)]
    exact f6n9_at ht e st r f (k + 1) h3 (by simpa using hf)
end
theorem lawClose (s : List NettingSet) (l : List NettingFlow) (t : ByteArray) (d : Int) (_ : s.length ≤ maxLen ∧ ∀ x ∈ s, NettingSet.ok x) (hm : l.length ≤ maxLen ∧ ∀ x ∈ l, NettingFlow.ok x) (_ : t.size ≤ maxLen) (_ : okInt .i64 d) : f6 s l t d = some true := by
  unfold f6 f6n0
  rw [alive_t]
  obtain ⟨b, h1, h2⟩ := f12_eq s l
  rw [h1]
  simp only [Option.bind_some]
  cases b with
  | true => rfl
  | false =>
    obtain ⟨h3, h4⟩ := h2 rfl
    rw [f14_eq (by omega)]
    simp only [cond_false, cond_true, Option.bind_some, f19_eq s hm.1, closeS]
    cases hc : checkN s l with
    | false => rfl
    | true =>
      have ok := checkN_iff hc
      cases ha : (agrE s t).2 with
      | false => rfl
      | true =>
        cases decide (0 ≤ d) && decide (d ≤ 99999) with
        | false => rfl
        | true =>
          cases okC d t l with
          | false => rfl
          | true =>
            have ht : seq t str_x = false := by
              unfold agrE at ha
              cases hg : agr t s with
              | none => rw [hg] at ha; cases ha
              | some y =>
                obtain ⟨g1, g2⟩ := agr_mem hg
                have := ok.sg y g1
                unfold goodS at this
                rw [Bool.and_eq_true, g2] at this
                exact seqF (nm_ne this.1)
            have hM := madeC_len s d t l
            have hR := restN_len (selC d t) l
            have k1 : f6n1 l t d true (restN (selC d t) l ++ madeC s d t l, 0) = some (.norm (restN (selC d t) l)) := by
              unfold f6n1
              rw [f6n2_run l t d true (restN (selC d t) l ++ madeC s d t l, 0) [] hm.1, f6n2L_eq' l t d _ l 0 [] (by simp; omega)]; rfl
            have k3 : f6n3 l t d true (restN (selC d t) l ++ madeC s d t l, 0) (restN (selC d t) l) = some .norm := by
              unfold f6n3
              have hr := f6n4_run l t d true (restN (selC d t) l ++ madeC s d t l, 0) (restN (selC d t) l)
              simp only [drop_app] at hr
              rw [hr (maxSmall (by omega))]
              have := f6n4L_at (s := s) (l := l) t d 0 (restN (selC d t) l) (by omega) (madeC s d t l) [] rfl
              have this' : f6n4L l t d true (restN (selC d t) l ++ madeC s d t l, 0) (restN (selC d t) l) (madeC s d t l) 0 = _ := this
              rw [this']; rfl
            have k5 : f6n5 l t d true (restN (selC d t) l ++ madeC s d t l, 0) (restN (selC d t) l) = some .norm := by
              unfold f6n5
              have := f6n9_at ok t d ht 0 (restN (selC d t) l) l FUEL 0 List.drop_zero (fuelSmall (by omega))
              rw [show ((0 : Nat) : Int) = 0 from rfl] at this
              rw [this]; rfl
            have c1 : cutB 0 ((restN (selC d t) l).length : Int) (restN (selC d t) l ++ madeC s d t l).length = true := by
              unfold cutB
              simp only [Bool.and_eq_true, decide_eq_true_eq, List.length_append]
              omega
            have c2 : cutB ((restN (selC d t) l).length : Int) ((restN (selC d t) l ++ madeC s d t l).length : Int) (restN (selC d t) l ++ madeC s d t l).length = true := by
              unfold cutB
              simp only [Bool.and_eq_true, decide_eq_true_eq, List.length_append]
              omega
            have c3 : ((restN (selC d t) l ++ madeC s d t l).take (Int.toNat ((restN (selC d t) l).length : Int))).drop 0 = restN (selC d t) l := by
              rw [show Int.toNat ((restN (selC d t) l).length : Int) = (restN (selC d t) l).length from rfl]; simp
            simp only [cond_true, decide_true, k1, Option.bind_some]
            rw [decide_eq_false (by rw [List.length_append]; omega : ¬ (((restN (selC d t) l ++ madeC s d t l).length : Nat) : Int) < ((restN (selC d t) l).length : Int)), cond_false, req, c1, cond_true, c3, f17_same rfl (by omega)]
            simp only [Option.bind_some, cond_true]
            rw [req, c2, cond_true, k3]
            simp only [Option.bind_some, k5]
end Go.Proofs.Ytkcafackfihmiaa
