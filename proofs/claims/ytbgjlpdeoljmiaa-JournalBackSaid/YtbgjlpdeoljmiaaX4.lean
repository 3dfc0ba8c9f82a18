/- Functions of the program, plainly, and that the machine computes them. No condition. -/
import Derived.Test.YtbgjlpdeoljmiaaX3
namespace Go.Proofs.Ytbgjlpdeoljmiaa
set_option linter.unusedVariables false
set_option linter.unusedSimpArgs false
set_option maxRecDepth 100000
open Go.RowKit
/-! ### novation/journal.put -/
noncomputable def c40 : Code := Try.f40.body.getD .skip
inductive f40r1n3O where
  | exit2 (v99 : List Int)
def f40r1n3E (bf1 : Int) (x77 : Int) (bj2 : List Int) (bf3 : Int) : f40r1n3O → Ex × Tr × Hp
  | .exit2 v99 => ((.exit 2), mkS [(0, (.own 1)), (1, (.pl (.int .i64 bf1))), (10, (.own 0)), (11, (.pl (.int .i64 (bj2.length : Int)))), (12, (.pl (.int .i64 bf3)))], [some (.row false 1 (bj2.map (cInt .u64))), some (.row false 1 (v99.map (cInt .u8)))])
def f40r1n3S (bf1 : Int) (x77 : Int) (bj2 : List Int) (bf3 : Int) (v91 : Int) (v92 : List Int) : Tr × Hp := (mkS [(0, (.own 1)), (1, (.pl (.int .i64 bf1))), (8, (.pl (.int .u64 x77))), (10, (.own 0)), (11, (.pl (.int .i64 (bj2.length : Int)))), (12, (.pl (.int .i64 bf3))), (16, (.pl (.int .i64 bf1))), (17, (.pl (.int .i64 v91)))], [some (.row false 1 (bj2.map (cInt .u64))), some (.row false 1 (v92.map (cInt .u8)))])
noncomputable def f40r1n3 : Nat → Int → Int → List Int → Int → Int → List Int → Option f40r1n3O
  | 0, _, _, _, _, _, _ => none
  | f + 1, bf1, x77, bj2, bf3, v91, v92 =>
    bif (decide (v91 < bf1)) then
      req (decide (0 ≤ (wr64 (8 * v91)))) <|
      req (fit (v92.length + 1) 1) <|
      (f40r1n3 f bf1 x77 bj2 bf3 (wr64 (v91 + 1)) (v92 ++ [(wru8 (shrK .u64 x77 (wr64 (8 * v91))))]))
    else
      some (.exit2 v92)
theorem f40r1n3_ok : ∀ (f : Nat) (bf1 : Int) (x77 : Int) (bj2 : List Int) (bf3 : Int) (v91 : Int) (v92 : List Int) {o : f40r1n3O}, (f40r1n3 f bf1 x77 bj2 bf3 v91 v92) = some o → TL Try.prog Try.f40.ntmps 1 f (cL (cL (dropC 2 (cL (cL (dropC 2 (cL (cL (dropC 1 (cL (dropC 1 c40))))))))))) (f40r1n3S bf1 x77 bj2 bf3 v91 v92) (fun r => r = f40r1n3E bf1 x77 bj2 bf3 o)
  | 0, _, _, _, _, _, _, o, h => by rw [f40r1n3] at h; cases h
  | f + 1, bf1, x77, bj2, bf3, v91, v92, o, h => by
    rw [f40r1n3] at h
    refine TL.body (K := fun s => ∃ v91 : Int, ∃ v92 : List Int, s = (f40r1n3S bf1 x77 bj2 bf3 v91 v92) ∧ (f40r1n3 f bf1 x77 bj2 bf3 v91 v92) = some o) ?_ (by rintro _ ⟨v91, v92, rfl, hk⟩; exact f40r1n3_ok f _ _ _ _ _ _ hk)
    rcases cond_cases h with ⟨h94, h⟩ | ⟨h94, h⟩
    · obtain ⟨h97, h⟩ := req_cases h
      obtain ⟨h98, h⟩ := req_cases h
      exact run_end cfg_ok (rs := [([], [], []), ([], [], []), ([], [(4, .fits), (7, .fits)], [(7, .row 3 ((v92 ++ [(wru8 (shrK .u64 x77 (wr64 (8 * v91))))]).map (cInt .u8)))]), ([], [], [])]) (ps := [some true]) (tds := []) (m := [3]) (keep := [0, 1, 8, 10, 11, 12, 16, 17]) (r := (.norm, (f40r1n3S bf1 x77 bj2 bf3 (wr64 (v91 + 1)) (v92 ++ [(wru8 (shrK .u64 x77 (wr64 (8 * v91))))])))) (by kernel_rfl) (ap h94 (ap (le_of h97) (ap (fit_map (te := ti5) (xs := v92) (n := 1) (c := (cInt .u8)) h98 rfl) (ap (app_cv (xs := v92) (ys := [(wru8 (shrK .u64 x77 (wr64 (8 * v91))))]) (c := (cInt .u8))) an)))) (LoopQ.norm ⟨(wr64 (v91 + 1)), (v92 ++ [(wru8 (shrK .u64 x77 (wr64 (8 * v91))))]), rfl, h⟩)
    · obtain rfl := some_inj h
      exact runK_end cfg_ok (k := 2) (rs := [([], [], [])]) (ps := [some false]) (tds := []) (m := [1]) (keep := [0, 1, 10, 11, 12]) (ex := (.exit 2)) (st' := (f40r1n3E bf1 x77 bj2 bf3 (.exit2 v92)).2) (by kernel_rfl) (ap h94 an) (fun h => nomatch h) (LoopQ.out rfl rfl)
inductive f40r1n2O where
  | norm (v103 : List Int)
def f40r1n2E (bf1 : Int) (bj2 : List Int) (bf3 : Int) (bj4 : List Int) : f40r1n2O → Ex × Tr × Hp
  | .norm v103 => (.norm, mkS [(0, (.own 1)), (1, (.pl (.int .i64 bf1))), (10, (.own 0)), (11, (.pl (.int .i64 (bj2.length : Int)))), (12, (.pl (.int .i64 bf3)))], [some (.row false 1 (bj2.map (cInt .u64))), some (.row false 1 (v103.map (cInt .u8)))])
def f40r1n2S (bf1 : Int) (bj2 : List Int) (bf3 : Int) (bj4 : List Int) : Tr × Hp := (mkS [(0, (.own 1)), (1, (.pl (.int .i64 bf1))), (10, (.own 0)), (11, (.pl (.int .i64 (bj2.length : Int)))), (12, (.pl (.int .i64 bf3)))], [some (.row false 1 (bj2.map (cInt .u64))), some (.row false 1 (bj4.map (cInt .u8)))])
noncomputable def f40r1n2 (bf1 : Int) (bj2 : List Int) (bf3 : Int) (bj4 : List Int) : Option f40r1n2O :=
  (at? bj2 bf3).bind fun x77 =>
  (f40r1n3 FUEL bf1 x77 bj2 bf3 0 bj4).bind fun o100 => match o100 with
  | .exit2 v102 => some (.norm v102)
theorem f40r1n2_ok (bf1 : Int) (bj2 : List Int) (bf3 : Int) (bj4 : List Int) {o : f40r1n2O} (h : (f40r1n2 bf1 bj2 bf3 bj4) = some o) : T Try.prog Try.f40.ntmps 1 (cL (dropC 2 (cL (cL (dropC 1 (cL (dropC 1 c40))))))) (f40r1n2S bf1 bj2 bf3 bj4) (fun r => r = f40r1n2E bf1 bj2 bf3 bj4 o) := by
  unfold f40r1n2 at h
  refine T.block' (i := 1) (by kernel_rfl) ?_
  obtain ⟨x77, h78, h⟩ := bind_cases h
  refine runK_norm cfg_ok (k := 2) (rs := [([], [(0, .at_ (Int.toNat bf3)), (1, .idx 0 ((cInt .u64) x77))], []), ([], [], [])]) (ps := []) (tds := []) (m := [1]) (keep := [0, 1, 8, 10, 11, 12, 16, 17]) (st' := (f40r1n3S bf1 x77 bj2 bf3 0 bj4)) (by kernel_rfl) (ap (at_some h78).1 (ap (lt_map (cInt .u64) (at_some h78).2) (ap (at_map (cInt .u64) (at_some h78).2) an))) ?_
  obtain ⟨o100, h101, h⟩ := bind_cases h
  cases o100 with
  | exit2 v102 =>
    obtain rfl := some_inj h
    exact T.last' (T.bl (i := 2) (by kernel_rfl) (by kernel_rfl) (f40r1n3_ok FUEL bf1 x77 bj2 bf3 0 bj4 h101)) (tds := []) (m := [1]) (keep := [0, 1, 10, 11, 12]) (st2 := (f40r1n2E bf1 bj2 bf3 bj4 (.norm v102)).2) (by kernel_rfl) an rfl
inductive f40r1n4O where
  | exit0 (v107 : List Int)
def f40r1n4E (bf1 : Int) (bj2 : List Int) : f40r1n4O → Ex × Tr × Hp
  | .exit0 v107 => ((.exit 0), mkS [(0, (.own 1))], [some (.row false 1 (bj2.map (cInt .u64))), some (.row false 1 (v107.map (cInt .u8)))])
def f40r1n4S (bf1 : Int) (bj2 : List Int) (v71 : Int) (v72 : List Int) : Tr × Hp := (mkS [(0, (.own 1)), (1, (.pl (.int .i64 bf1))), (10, (.own 0)), (11, (.pl (.int .i64 (bj2.length : Int)))), (12, (.pl (.int .i64 v71)))], [some (.row false 1 (bj2.map (cInt .u64))), some (.row false 1 (v72.map (cInt .u8)))])
noncomputable def f40r1n4 : Nat → Int → List Int → Int → List Int → Option f40r1n4O
  | 0, _, _, _, _ => none
  | f + 1, bf1, bj2, v71, v72 =>
    bif (decide (v71 < (bj2.length : Int))) then
      (f40r1n2 bf1 bj2 v71 v72).bind fun o104 => match o104 with
      | .norm v106 => (f40r1n4 f bf1 bj2 (wr64 (v71 + 1)) v106)
    else
      some (.exit0 v72)
theorem f40r1n4_ok : ∀ (f : Nat) (bf1 : Int) (bj2 : List Int) (v71 : Int) (v72 : List Int) {o : f40r1n4O}, (f40r1n4 f bf1 bj2 v71 v72) = some o → TL Try.prog Try.f40.ntmps 1 f (cL (cL (dropC 1 (cL (dropC 1 c40))))) (f40r1n4S bf1 bj2 v71 v72) (fun r => r = f40r1n4E bf1 bj2 o)
  | 0, _, _, _, _, o, h => by rw [f40r1n4] at h; cases h
  | f + 1, bf1, bj2, v71, v72, o, h => by
    rw [f40r1n4] at h
    refine TL.body (K := fun s => ∃ v71 : Int, ∃ v72 : List Int, s = (f40r1n4S bf1 bj2 v71 v72) ∧ (f40r1n4 f bf1 bj2 v71 v72) = some o) ?_ (by rintro _ ⟨v71, v72, rfl, hk⟩; exact f40r1n4_ok f _ _ _ _ hk)
    rcases cond_cases h with ⟨h74, h⟩ | ⟨h74, h⟩
    · refine runK_norm cfg_ok (k := 2) (rs := [([], [], [])]) (ps := [some true]) (tds := []) (m := [1]) (keep := [0, 1, 10, 11, 12]) (st' := (f40r1n2S bf1 bj2 v71 v72)) (by kernel_rfl) (ap h74 an) ?_
      obtain ⟨o104, h105, h⟩ := bind_cases h
      cases o104 with
      | norm v106 =>
        refine T.oneN (by kernel_rfl) (f40r1n2_ok bf1 bj2 v71 v72 h105) (st2 := (f40r1n2E bf1 bj2 v71 v72 (.norm v106)).2) rfl ?_
        exact run_end cfg_ok (rs := [([], [], [])]) (ps := []) (tds := []) (m := [1]) (keep := [0, 1, 10, 11, 12]) (r := (.norm, (f40r1n4S bf1 bj2 (wr64 (v71 + 1)) v106))) (by kernel_rfl) an (LoopQ.norm ⟨(wr64 (v71 + 1)), v106, rfl, h⟩)
    · obtain rfl := some_inj h
      exact runK_end cfg_ok (k := 2) (rs := [([], [], [])]) (ps := [some false]) (tds := []) (m := [1]) (keep := [0]) (ex := (.exit 0)) (st' := (f40r1n4E bf1 bj2 (.exit0 v72)).2) (by kernel_rfl) (ap h74 an) (fun h => nomatch h) (LoopQ.out rfl rfl)
inductive f40r1n1O where
  | norm (v111 : List Int)
def f40r1n1E (bf1 : Int) (bj2 : List Int) : f40r1n1O → Ex × Tr × Hp
  | .norm v111 => (.norm, mkS [(0, (.own 1))], [some (.row false 1 (bj2.map (cInt .u64))), some (.row false 1 (v111.map (cInt .u8)))])
def f40r1n1S (bf1 : Int) (bj2 : List Int) : Tr × Hp := (mkS [(0, (.pl (.sl .nil 0 []))), (1, (.pl (.int .i64 bf1))), (2, (.own 0))], [some (.row false 1 (bj2.map (cInt .u64)))])
noncomputable def f40r1n1 (bf1 : Int) (bj2 : List Int) : Option f40r1n1O :=
  (f40r1n4 FUEL bf1 bj2 0 []).bind fun o108 => match o108 with
  | .exit0 v110 => some (.norm v110)
theorem f40r1n1_ok (bf1 : Int) (bj2 : List Int) {o : f40r1n1O} (h : (f40r1n1 bf1 bj2) = some o) : T Try.prog Try.f40.ntmps 1 (cL (dropC 1 c40)) (f40r1n1S bf1 bj2) (fun r => r = f40r1n1E bf1 bj2 o) := by
  unfold f40r1n1 at h
  refine runK_norm cfg_ok (k := 1) (rs := [([], [], [(1, .val (.pl (.int .i64 (bj2.length : Int))))])]) (ps := []) (tds := [.mat 0 1]) (m := [1]) (keep := [0, 1, 10, 11, 12]) (st' := (f40r1n4S bf1 bj2 0 [])) (by kernel_rfl) (ap (len_cv (xs := bj2) (c := (cInt .u64))) an) ?_
  obtain ⟨o108, h109, h⟩ := bind_cases h
  cases o108 with
  | exit0 v110 =>
    obtain rfl := some_inj h
    exact T.last' (T.bl (i := 0) (by kernel_rfl) (by kernel_rfl) (f40r1n4_ok FUEL bf1 bj2 0 [] h109)) (tds := []) (m := [1]) (keep := [0]) (st2 := (f40r1n1E bf1 bj2 (.norm v110)).2) (by kernel_rfl) an rfl
inductive f40r1n0O where
  | ret (v115 : List Int)
def f40r1n0E (a1 : Int) (a2 : List Int) : f40r1n0O → Ex × Tr × Hp
  | .ret v115 => (.ret, mkS [(6, (.own 1))], [some (.row false 1 (a2.map (cInt .u64))), some (.row false 1 (v115.map (cInt .u8)))])
def f40r1n0S (a1 : Int) (a2 : List Int) : Tr × Hp := (initS [(.pl (.sl .nil 0 [])), (.pl (.int .i64 a1)), (.own 0)] 0 .leaf, [some (.row false 1 (a2.map (cInt .u64)))])
noncomputable def f40r1n0 (a1 : Int) (a2 : List Int) : Option f40r1n0O :=
  (f40r1n1 a1 a2).bind fun o112 => match o112 with
  | .norm v114 => some (.ret v114)
theorem f40r1n0_ok (a1 : Int) (a2 : List Int) {o : f40r1n0O} (h : (f40r1n0 a1 a2) = some o) : T Try.prog Try.f40.ntmps 1 c40 (f40r1n0S a1 a2) (fun r => r = f40r1n0E a1 a2 o) := by
  unfold f40r1n0 at h
  refine runK_norm cfg_ok (k := 1) (rs := [([], [], [])]) (ps := []) (tds := []) (m := []) (keep := [0, 1, 2]) (st' := (f40r1n1S a1 a2)) (by kernel_rfl) an ?_
  obtain ⟨o112, h113, h⟩ := bind_cases h
  cases o112 with
  | norm v114 =>
    refine T.oneN (by kernel_rfl) (f40r1n1_ok a1 a2 h113) (st2 := (f40r1n1E a1 a2 (.norm v114)).2) rfl ?_
    obtain rfl := some_inj h
    exact run_end cfg_ok (rs := [([], [], [])]) (ps := []) (tds := []) (m := [1]) (keep := [6]) (r := (.ret, (f40r1n0E a1 a2 (.ret v114)).2)) (by kernel_rfl) an rfl
noncomputable def f40r1 (a1 : Int) (a2 : List Int) : Option (List Int) := (f40r1n0 a1 a2).bind fun o => match o with
  | .ret v115 => some v115
theorem f40r1_ok (a1 : Int) (a2 : List Int) {r : List Int} (h : (f40r1 a1 a2) = some r) : CallS Try.prog true 40 [(.pl (.sl .nil 0 [])), (.pl (.int .i64 a1)), (.own 0)] [some (.row false 1 (a2.map (cInt .u64)))] (.own 1) [some (.row false 1 (a2.map (cInt .u64))), some (.row false 1 (r.map (cInt .u8)))] := by
  unfold f40r1 at h
  obtain ⟨o, ho, h⟩ := bind_cases h
  cases o with
  | ret v115 =>
    obtain rfl := some_inj h
    exact CallS.shared cfg_ok (f := Try.f40) (c := c40) (by kernel_rfl) (by kernel_rfl) (by kernel_rfl) ((f40r1n0_ok a1 a2 ho).mono fun r e => by subst e; exact ⟨.inl rfl, by kernel_rfl, by kernel_rfl⟩)
/-! ### novation/journal.text -/
noncomputable def c56 : Code := Try.f56.body.getD .skip
inductive f56r1n0O where
  | ret (v9 : List Int)
def f56r1n0E (a1 : ByteArray) (a2 : List Int) : f56r1n0O → Ex × Tr × Hp
  | .ret v9 => (.ret, mkS [(4, (.own 1))], [none, some (.row false 1 (v9.map (cInt .u8)))])
def f56r1n0S (a1 : ByteArray) (a2 : List Int) : Tr × Hp := (initS [(.own 0), (.pl (.str a1))] 0 .leaf, [some (.row false 1 (a2.map (cInt .u8)))])
noncomputable def f56r1n0 (a1 : ByteArray) (a2 : List Int) : Option f56r1n0O :=
  req (fit (a2.length + 1) 1) <|
  bif ((ofB a1).isEmpty) then
    some (.ret (a2 ++ [(wru8 (a1.size : Int))]))
  else
    req (fit ((a2 ++ [(wru8 (a1.size : Int))]).length + (ofB a1).length) 1) <|
    some (.ret ((a2 ++ [(wru8 (a1.size : Int))]) ++ (ofB a1)))
theorem f56r1n0_ok (a1 : ByteArray) (a2 : List Int) {o : f56r1n0O} (h : (f56r1n0 a1 a2) = some o) : T Try.prog Try.f56.ntmps 1 c56 (f56r1n0S a1 a2) (fun r => r = f56r1n0E a1 a2 o) := by
  unfold f56r1n0 at h
  obtain ⟨h6, h⟩ := req_cases h
  rcases cond_cases h with ⟨h7, h⟩ | ⟨h7, h⟩
  · obtain rfl := some_inj h
    exact run_end cfg_ok (rs := [([], [], []), ([], [(5, .fits), (7, .app false)], [(5, .row 2 ((a2 ++ [(wru8 (a1.size : Int))]).map (cInt .u8)))])]) (ps := []) (tds := []) (m := [2]) (keep := [4]) (r := (.ret, (f56r1n0E a1 a2 (.ret (a2 ++ [(wru8 (a1.size : Int))]))).2)) (by kernel_rfl) (ap (fit_map (te := ti5) (xs := a2) (n := 1) (c := (cInt .u8)) h6 rfl) (ap (app_cv (xs := a2) (ys := [(wru8 (a1.size : Int))]) (c := (cInt .u8))) (ap (nil_str h7) an))) rfl
  · obtain ⟨h8, h⟩ := req_cases h
    obtain rfl := some_inj h
    exact run_end cfg_ok (rs := [([], [], []), ([], [(5, .fits), (7, .app true)], [(5, .row 2 ((a2 ++ [(wru8 (a1.size : Int))]).map (cInt .u8))), (7, .row 3 (((a2 ++ [(wru8 (a1.size : Int))]) ++ (ofB a1)).map (cInt .u8)))])]) (ps := []) (tds := []) (m := [3]) (keep := [4]) (r := (.ret, (f56r1n0E a1 a2 (.ret ((a2 ++ [(wru8 (a1.size : Int))]) ++ (ofB a1)))).2)) (by kernel_rfl) (ap (fit_map (te := ti5) (xs := a2) (n := 1) (c := (cInt .u8)) h6 rfl) (ap (app_cv (xs := a2) (ys := [(wru8 (a1.size : Int))]) (c := (cInt .u8))) (ap (fit_str2 (te := ti5) (xs := (a2 ++ [(wru8 (a1.size : Int))])) (c := (cInt .u8)) (s := a1) h8 rfl) (ap (ne_str h7) (ap (len_str (s := a1)) (ap (app_str (xs := (a2 ++ [(wru8 (a1.size : Int))])) (s := a1)) an)))))) rfl
noncomputable def f56r1 (a1 : ByteArray) (a2 : List Int) : Option (List Int) := (f56r1n0 a1 a2).bind fun o => match o with
  | .ret v9 => some v9
theorem f56r1_ok (a1 : ByteArray) (a2 : List Int) {r : List Int} (h : (f56r1 a1 a2) = some r) : CallS Try.prog true 56 [(.own 0), (.pl (.str a1))] [some (.row false 1 (a2.map (cInt .u8)))] (.own 1) [none, some (.row false 1 (r.map (cInt .u8)))] := by
  unfold f56r1 at h
  obtain ⟨o, ho, h⟩ := bind_cases h
  cases o with
  | ret v9 =>
    obtain rfl := some_inj h
    exact CallS.shared cfg_ok (f := Try.f56) (c := c56) (by kernel_rfl) (by kernel_rfl) (by kernel_rfl) ((f56r1n0_ok a1 a2 ho).mono fun r e => by subst e; exact ⟨.inl rfl, by kernel_rfl, by kernel_rfl⟩)
/-! ### novation/journal.put -/
inductive f40r2n3O where
  | exit2 (v102 : List Int)
def f40r2n3E (bf1 : Int) (x80 : Int) (bj2 : List Int) (bf3 : Int) : f40r2n3O → Ex × Tr × Hp
  | .exit2 v102 => ((.exit 2), mkS [(0, (.own 2)), (1, (.pl (.int .i64 bf1))), (10, (.own 1)), (11, (.pl (.int .i64 (bj2.length : Int)))), (12, (.pl (.int .i64 bf3)))], [none, some (.row false 1 (bj2.map (cInt .u64))), some (.row false 1 (v102.map (cInt .u8)))])
def f40r2n3S (bf1 : Int) (x80 : Int) (bj2 : List Int) (bf3 : Int) (v94 : Int) (v95 : List Int) : Tr × Hp := (mkS [(0, (.own 2)), (1, (.pl (.int .i64 bf1))), (8, (.pl (.int .u64 x80))), (10, (.own 1)), (11, (.pl (.int .i64 (bj2.length : Int)))), (12, (.pl (.int .i64 bf3))), (16, (.pl (.int .i64 bf1))), (17, (.pl (.int .i64 v94)))], [none, some (.row false 1 (bj2.map (cInt .u64))), some (.row false 1 (v95.map (cInt .u8)))])
noncomputable def f40r2n3 : Nat → Int → Int → List Int → Int → Int → List Int → Option f40r2n3O
  | 0, _, _, _, _, _, _ => none
  | f + 1, bf1, x80, bj2, bf3, v94, v95 =>
    bif (decide (v94 < bf1)) then
      req (decide (0 ≤ (wr64 (8 * v94)))) <|
      req (fit (v95.length + 1) 1) <|
      (f40r2n3 f bf1 x80 bj2 bf3 (wr64 (v94 + 1)) (v95 ++ [(wru8 (shrK .u64 x80 (wr64 (8 * v94))))]))
    else
      some (.exit2 v95)
theorem f40r2n3_ok : ∀ (f : Nat) (bf1 : Int) (x80 : Int) (bj2 : List Int) (bf3 : Int) (v94 : Int) (v95 : List Int) {o : f40r2n3O}, (f40r2n3 f bf1 x80 bj2 bf3 v94 v95) = some o → TL Try.prog Try.f40.ntmps 2 f (cL (cL (dropC 2 (cL (cL (dropC 2 (cL (cL (dropC 1 (cL (dropC 1 c40))))))))))) (f40r2n3S bf1 x80 bj2 bf3 v94 v95) (fun r => r = f40r2n3E bf1 x80 bj2 bf3 o)
  | 0, _, _, _, _, _, _, o, h => by rw [f40r2n3] at h; cases h
  | f + 1, bf1, x80, bj2, bf3, v94, v95, o, h => by
    rw [f40r2n3] at h
    refine TL.body (K := fun s => ∃ v94 : Int, ∃ v95 : List Int, s = (f40r2n3S bf1 x80 bj2 bf3 v94 v95) ∧ (f40r2n3 f bf1 x80 bj2 bf3 v94 v95) = some o) ?_ (by rintro _ ⟨v94, v95, rfl, hk⟩; exact f40r2n3_ok f _ _ _ _ _ _ hk)
    rcases cond_cases h with ⟨h97, h⟩ | ⟨h97, h⟩
    · obtain ⟨h100, h⟩ := req_cases h
      obtain ⟨h101, h⟩ := req_cases h
      exact run_end cfg_ok (rs := [([], [], []), ([], [], []), ([], [(4, .fits), (7, .fits)], [(7, .row 4 ((v95 ++ [(wru8 (shrK .u64 x80 (wr64 (8 * v94))))]).map (cInt .u8)))]), ([], [], [])]) (ps := [some true]) (tds := []) (m := [4]) (keep := [0, 1, 8, 10, 11, 12, 16, 17]) (r := (.norm, (f40r2n3S bf1 x80 bj2 bf3 (wr64 (v94 + 1)) (v95 ++ [(wru8 (shrK .u64 x80 (wr64 (8 * v94))))])))) (by kernel_rfl) (ap h97 (ap (le_of h100) (ap (fit_map (te := ti5) (xs := v95) (n := 1) (c := (cInt .u8)) h101 rfl) (ap (app_cv (xs := v95) (ys := [(wru8 (shrK .u64 x80 (wr64 (8 * v94))))]) (c := (cInt .u8))) an)))) (LoopQ.norm ⟨(wr64 (v94 + 1)), (v95 ++ [(wru8 (shrK .u64 x80 (wr64 (8 * v94))))]), rfl, h⟩)
    · obtain rfl := some_inj h
      exact runK_end cfg_ok (k := 2) (rs := [([], [], [])]) (ps := [some false]) (tds := []) (m := [2]) (keep := [0, 1, 10, 11, 12]) (ex := (.exit 2)) (st' := (f40r2n3E bf1 x80 bj2 bf3 (.exit2 v95)).2) (by kernel_rfl) (ap h97 an) (fun h => nomatch h) (LoopQ.out rfl rfl)
inductive f40r2n2O where
  | norm (v106 : List Int)
def f40r2n2E (bf1 : Int) (bj2 : List Int) (bf3 : Int) (bj4 : List Int) : f40r2n2O → Ex × Tr × Hp
  | .norm v106 => (.norm, mkS [(0, (.own 2)), (1, (.pl (.int .i64 bf1))), (10, (.own 1)), (11, (.pl (.int .i64 (bj2.length : Int)))), (12, (.pl (.int .i64 bf3)))], [none, some (.row false 1 (bj2.map (cInt .u64))), some (.row false 1 (v106.map (cInt .u8)))])
def f40r2n2S (bf1 : Int) (bj2 : List Int) (bf3 : Int) (bj4 : List Int) : Tr × Hp := (mkS [(0, (.own 2)), (1, (.pl (.int .i64 bf1))), (10, (.own 1)), (11, (.pl (.int .i64 (bj2.length : Int)))), (12, (.pl (.int .i64 bf3)))], [none, some (.row false 1 (bj2.map (cInt .u64))), some (.row false 1 (bj4.map (cInt .u8)))])
noncomputable def f40r2n2 (bf1 : Int) (bj2 : List Int) (bf3 : Int) (bj4 : List Int) : Option f40r2n2O :=
  (at? bj2 bf3).bind fun x80 =>
  (f40r2n3 FUEL bf1 x80 bj2 bf3 0 bj4).bind fun o103 => match o103 with
  | .exit2 v105 => some (.norm v105)
theorem f40r2n2_ok (bf1 : Int) (bj2 : List Int) (bf3 : Int) (bj4 : List Int) {o : f40r2n2O} (h : (f40r2n2 bf1 bj2 bf3 bj4) = some o) : T Try.prog Try.f40.ntmps 2 (cL (dropC 2 (cL (cL (dropC 1 (cL (dropC 1 c40))))))) (f40r2n2S bf1 bj2 bf3 bj4) (fun r => r = f40r2n2E bf1 bj2 bf3 bj4 o) := by
  unfold f40r2n2 at h
  refine T.block' (i := 1) (by kernel_rfl) ?_
  obtain ⟨x80, h81, h⟩ := bind_cases h
  refine runK_norm cfg_ok (k := 2) (rs := [([], [(0, .at_ (Int.toNat bf3)), (1, .idx 0 ((cInt .u64) x80))], []), ([], [], [])]) (ps := []) (tds := []) (m := [2]) (keep := [0, 1, 8, 10, 11, 12, 16, 17]) (st' := (f40r2n3S bf1 x80 bj2 bf3 0 bj4)) (by kernel_rfl) (ap (at_some h81).1 (ap (lt_map (cInt .u64) (at_some h81).2) (ap (at_map (cInt .u64) (at_some h81).2) an))) ?_
  obtain ⟨o103, h104, h⟩ := bind_cases h
  cases o103 with
  | exit2 v105 =>
    obtain rfl := some_inj h
    exact T.last' (T.bl (i := 2) (by kernel_rfl) (by kernel_rfl) (f40r2n3_ok FUEL bf1 x80 bj2 bf3 0 bj4 h104)) (tds := []) (m := [2]) (keep := [0, 1, 10, 11, 12]) (st2 := (f40r2n2E bf1 bj2 bf3 bj4 (.norm v105)).2) (by kernel_rfl) an rfl
inductive f40r2n4O where
  | exit0 (v110 : List Int)
def f40r2n4E (bf1 : Int) (bj3 : List Int) : f40r2n4O → Ex × Tr × Hp
  | .exit0 v110 => ((.exit 0), mkS [(0, (.own 2))], [none, some (.row false 1 (bj3.map (cInt .u64))), some (.row false 1 (v110.map (cInt .u8)))])
def f40r2n4S (bf1 : Int) (bj3 : List Int) (v74 : Int) (v75 : List Int) : Tr × Hp := (mkS [(0, (.own 2)), (1, (.pl (.int .i64 bf1))), (10, (.own 1)), (11, (.pl (.int .i64 (bj3.length : Int)))), (12, (.pl (.int .i64 v74)))], [none, some (.row false 1 (bj3.map (cInt .u64))), some (.row false 1 (v75.map (cInt .u8)))])
noncomputable def f40r2n4 : Nat → Int → List Int → Int → List Int → Option f40r2n4O
  | 0, _, _, _, _ => none
  | f + 1, bf1, bj3, v74, v75 =>
    bif (decide (v74 < (bj3.length : Int))) then
      (f40r2n2 bf1 bj3 v74 v75).bind fun o107 => match o107 with
      | .norm v109 => (f40r2n4 f bf1 bj3 (wr64 (v74 + 1)) v109)
    else
      some (.exit0 v75)
theorem f40r2n4_ok : ∀ (f : Nat) (bf1 : Int) (bj3 : List Int) (v74 : Int) (v75 : List Int) {o : f40r2n4O}, (f40r2n4 f bf1 bj3 v74 v75) = some o → TL Try.prog Try.f40.ntmps 2 f (cL (cL (dropC 1 (cL (dropC 1 c40))))) (f40r2n4S bf1 bj3 v74 v75) (fun r => r = f40r2n4E bf1 bj3 o)
  | 0, _, _, _, _, o, h => by rw [f40r2n4] at h; cases h
  | f + 1, bf1, bj3, v74, v75, o, h => by
    rw [f40r2n4] at h
    refine TL.body (K := fun s => ∃ v74 : Int, ∃ v75 : List Int, s = (f40r2n4S bf1 bj3 v74 v75) ∧ (f40r2n4 f bf1 bj3 v74 v75) = some o) ?_ (by rintro _ ⟨v74, v75, rfl, hk⟩; exact f40r2n4_ok f _ _ _ _ hk)
    rcases cond_cases h with ⟨h77, h⟩ | ⟨h77, h⟩
    · refine runK_norm cfg_ok (k := 2) (rs := [([], [], [])]) (ps := [some true]) (tds := []) (m := [2]) (keep := [0, 1, 10, 11, 12]) (st' := (f40r2n2S bf1 bj3 v74 v75)) (by kernel_rfl) (ap h77 an) ?_
      obtain ⟨o107, h108, h⟩ := bind_cases h
      cases o107 with
      | norm v109 =>
        refine T.oneN (by kernel_rfl) (f40r2n2_ok bf1 bj3 v74 v75 h108) (st2 := (f40r2n2E bf1 bj3 v74 v75 (.norm v109)).2) rfl ?_
        exact run_end cfg_ok (rs := [([], [], [])]) (ps := []) (tds := []) (m := [2]) (keep := [0, 1, 10, 11, 12]) (r := (.norm, (f40r2n4S bf1 bj3 (wr64 (v74 + 1)) v109))) (by kernel_rfl) an (LoopQ.norm ⟨(wr64 (v74 + 1)), v109, rfl, h⟩)
    · obtain rfl := some_inj h
      exact runK_end cfg_ok (k := 2) (rs := [([], [], [])]) (ps := [some false]) (tds := []) (m := [2]) (keep := [0]) (ex := (.exit 0)) (st' := (f40r2n4E bf1 bj3 (.exit0 v75)).2) (by kernel_rfl) (ap h77 an) (fun h => nomatch h) (LoopQ.out rfl rfl)
inductive f40r2n1O where
  | norm (v114 : List Int)
def f40r2n1E (bf1 : Int) (bj2 : List Int) (bj3 : List Int) : f40r2n1O → Ex × Tr × Hp
  | .norm v114 => (.norm, mkS [(0, (.own 2))], [none, some (.row false 1 (bj3.map (cInt .u64))), some (.row false 1 (v114.map (cInt .u8)))])
def f40r2n1S (bf1 : Int) (bj2 : List Int) (bj3 : List Int) : Tr × Hp := (mkS [(0, (.own 0)), (1, (.pl (.int .i64 bf1))), (2, (.own 1))], [some (.row false 1 (bj2.map (cInt .u8))), some (.row false 1 (bj3.map (cInt .u64)))])
noncomputable def f40r2n1 (bf1 : Int) (bj2 : List Int) (bj3 : List Int) : Option f40r2n1O :=
  (f40r2n4 FUEL bf1 bj3 0 bj2).bind fun o111 => match o111 with
  | .exit0 v113 => some (.norm v113)
theorem f40r2n1_ok (bf1 : Int) (bj2 : List Int) (bj3 : List Int) {o : f40r2n1O} (h : (f40r2n1 bf1 bj2 bj3) = some o) : T Try.prog Try.f40.ntmps 2 (cL (dropC 1 c40)) (f40r2n1S bf1 bj2 bj3) (fun r => r = f40r2n1E bf1 bj2 bj3 o) := by
  unfold f40r2n1 at h
  refine runK_norm cfg_ok (k := 1) (rs := [([], [], [(1, .val (.pl (.int .i64 (bj3.length : Int))))])]) (ps := []) (tds := [.mov 0]) (m := [2]) (keep := [0, 1, 10, 11, 12]) (st' := (f40r2n4S bf1 bj3 0 bj2)) (by kernel_rfl) (ap (len_cv (xs := bj3) (c := (cInt .u64))) an) ?_
  obtain ⟨o111, h112, h⟩ := bind_cases h
  cases o111 with
  | exit0 v113 =>
    obtain rfl := some_inj h
    exact T.last' (T.bl (i := 0) (by kernel_rfl) (by kernel_rfl) (f40r2n4_ok FUEL bf1 bj3 0 bj2 h112)) (tds := []) (m := [2]) (keep := [0]) (st2 := (f40r2n1E bf1 bj2 bj3 (.norm v113)).2) (by kernel_rfl) an rfl
inductive f40r2n0O where
  | ret (v118 : List Int)
def f40r2n0E (a1 : Int) (a2 : List Int) (a3 : List Int) : f40r2n0O → Ex × Tr × Hp
  | .ret v118 => (.ret, mkS [(6, (.own 2))], [none, some (.row false 1 (a3.map (cInt .u64))), some (.row false 1 (v118.map (cInt .u8)))])
def f40r2n0S (a1 : Int) (a2 : List Int) (a3 : List Int) : Tr × Hp := (initS [(.own 0), (.pl (.int .i64 a1)), (.own 1)] 0 .leaf, [some (.row false 1 (a2.map (cInt .u8))), some (.row false 1 (a3.map (cInt .u64)))])
noncomputable def f40r2n0 (a1 : Int) (a2 : List Int) (a3 : List Int) : Option f40r2n0O :=
  (f40r2n1 a1 a2 a3).bind fun o115 => match o115 with
  | .norm v117 => some (.ret v117)
theorem f40r2n0_ok (a1 : Int) (a2 : List Int) (a3 : List Int) {o : f40r2n0O} (h : (f40r2n0 a1 a2 a3) = some o) : T Try.prog Try.f40.ntmps 2 c40 (f40r2n0S a1 a2 a3) (fun r => r = f40r2n0E a1 a2 a3 o) := by
  unfold f40r2n0 at h
  refine runK_norm cfg_ok (k := 1) (rs := [([], [], [])]) (ps := []) (tds := []) (m := []) (keep := [0, 1, 2]) (st' := (f40r2n1S a1 a2 a3)) (by kernel_rfl) an ?_
  obtain ⟨o115, h116, h⟩ := bind_cases h
  cases o115 with
  | norm v117 =>
    refine T.oneN (by kernel_rfl) (f40r2n1_ok a1 a2 a3 h116) (st2 := (f40r2n1E a1 a2 a3 (.norm v117)).2) rfl ?_
    obtain rfl := some_inj h
    exact run_end cfg_ok (rs := [([], [], [])]) (ps := []) (tds := []) (m := [2]) (keep := [6]) (r := (.ret, (f40r2n0E a1 a2 a3 (.ret v117)).2)) (by kernel_rfl) an rfl
noncomputable def f40r2 (a1 : Int) (a2 : List Int) (a3 : List Int) : Option (List Int) := (f40r2n0 a1 a2 a3).bind fun o => match o with
  | .ret v118 => some v118
theorem f40r2_ok (a1 : Int) (a2 : List Int) (a3 : List Int) {r : List Int} (h : (f40r2 a1 a2 a3) = some r) : CallS Try.prog true 40 [(.own 0), (.pl (.int .i64 a1)), (.own 1)] [some (.row false 1 (a2.map (cInt .u8))), some (.row false 1 (a3.map (cInt .u64)))] (.own 2) [none, some (.row false 1 (a3.map (cInt .u64))), some (.row false 1 (r.map (cInt .u8)))] := by
  unfold f40r2 at h
  obtain ⟨o, ho, h⟩ := bind_cases h
  cases o with
  | ret v118 =>
    obtain rfl := some_inj h
    exact CallS.shared cfg_ok (f := Try.f40) (c := c40) (by kernel_rfl) (by kernel_rfl) (by kernel_rfl) ((f40r2n0_ok a1 a2 a3 ho).mono fun r e => by subst e; exact ⟨.inl rfl, by kernel_rfl, by kernel_rfl⟩)
/-! ### novation/journal.payload -/
noncomputable def c39 : Code := Try.f39.body.getD .skip
inductive f39r1n2O where
  | exit0 (v71 : List Int)
def f39r1n2E (bb1 : JournalRecord) : f39r1n2O → Ex × Tr × Hp
  | .exit0 v71 => ((.exit 0), mkS [(5, (.own 0))], [some (.row false 1 (v71.map (cInt .u8)))])
def f39r1n2S (bb1 : JournalRecord) (v51 : Int) (v52 : List Int) : Tr × Hp := (mkS [(5, (.own 0)), (26, (.pl (.sl .any 3 (bb1.Lines.map JournalLine.cells)))), (27, (.pl (.int .i64 (bb1.Lines.length : Int)))), (28, (.pl (.int .i64 v51)))], [some (.row false 1 (v52.map (cInt .u8)))])
noncomputable def f39r1n2 : Nat → JournalRecord → Int → List Int → Option f39r1n2O
  | 0, _, _, _ => none
  | f + 1, bb1, v51, v52 =>
    bif (decide (v51 < (bb1.Lines.length : Int))) then
      (at? bb1.Lines v51).bind fun x63 =>
      (f56r1 x63.Account v52).bind fun x65 =>
      (f56r1 x63.Ccy x65).bind fun x67 =>
      (f40r2 8 x67 [(wru64 x63.Amount)]).bind fun x69 =>
      (f39r1n2 f bb1 (wr64 (v51 + 1)) x69)
    else
      some (.exit0 v52)
theorem f39r1n2_ok : ∀ (f : Nat) (bb1 : JournalRecord) (v51 : Int) (v52 : List Int) {o : f39r1n2O}, (f39r1n2 f bb1 v51 v52) = some o → TL Try.prog Try.f39.ntmps 0 f (cL (cL (dropC 1 (cL (dropC 3 c39))))) (f39r1n2S bb1 v51 v52) (fun r => r = f39r1n2E bb1 o)
  | 0, _, _, _, o, h => by rw [f39r1n2] at h; cases h
  | f + 1, bb1, v51, v52, o, h => by
    rw [f39r1n2] at h
    refine TL.body (K := fun s => ∃ v51 : Int, ∃ v52 : List Int, s = (f39r1n2S bb1 v51 v52) ∧ (f39r1n2 f bb1 v51 v52) = some o) ?_ (by rintro _ ⟨v51, v52, rfl, hk⟩; exact f39r1n2_ok f _ _ _ hk)
    rcases cond_cases h with ⟨h54, h⟩ | ⟨h54, h⟩
    · obtain ⟨x63, h64, h⟩ := bind_cases h
      obtain ⟨x65, h66, h⟩ := bind_cases h
      obtain ⟨x67, h68, h⟩ := bind_cases h
      obtain ⟨x69, h70, h⟩ := bind_cases h
      exact run_end cfg_ok (rs := [([], [], []), ([], [(0, .idx (Int.toNat v51) (JournalLine.cells x63))], []), ([], [(3, .call (.own 4) [none, none, none, none, some (.row false 1 (x65.map (cInt .u8)))]), (6, .call (.own 5) [none, none, none, none, none, some (.row false 1 (x67.map (cInt .u8)))]), (11, .call (.own 6) [none, none, some (.row false 1 ([(wru64 x63.Amount)].map (cInt .u64))), none, none, none, some (.row false 1 (x69.map (cInt .u8)))])], []), ([], [], [])]) (ps := [some true]) (tds := []) (m := [6]) (keep := [5, 26, 27, 28]) (r := (.norm, (f39r1n2S bb1 (wr64 (v51 + 1)) x69))) (by kernel_rfl) (ap h54 (ap (at_some h64).1 (ap (at_map JournalLine.cells (at_some h64).2) (ap (same_refs (e := ⟨true, 56, [(.own 0), (.pl (.str x63.Account))], [some (.row false 1 (v52.map (cInt .u8))), none, none, none], (.own 4), [none, none, none, none, some (.row false 1 (x65.map (cInt .u8)))]⟩) (f := ⟨true, 56, [(.own 4), (.pl (.str x63.Ccy))], [none, none, none, none, some (.row false 1 (x65.map (cInt .u8)))], (.own 5), [none, none, none, none, none, some (.row false 1 (x67.map (cInt .u8)))]⟩) (by kernel_rfl)) (ap (CallS.ren (args' := [(.own 0), (.pl (.str x63.Account))]) (v' := (.own 4)) (B := [some (.row false 1 (v52.map (cInt .u8))), none, none, none]) (B' := [none, none, none, none, some (.row false 1 (x65.map (cInt .u8)))]) 4 [0] (f56r1_ok x63.Account v52 h66) (by kernel_rfl) (by kernel_rfl) (by kernel_rfl) (by kernel_rfl) (by kernel_rfl) (by kernel_rfl)) (ap (CallS.ren (args' := [(.own 4), (.pl (.str x63.Ccy))]) (v' := (.own 5)) (B := [none, none, none, none, some (.row false 1 (x65.map (cInt .u8)))]) (B' := [none, none, none, none, none, some (.row false 1 (x67.map (cInt .u8)))]) 5 [4] (f56r1_ok x63.Ccy x65 h68) (by kernel_rfl) (by kernel_rfl) (by kernel_rfl) (by kernel_rfl) (by kernel_rfl) (by kernel_rfl)) (ap (CallS.ren (args' := [(.own 5), (.pl (.int .i64 8)), (.own 2)]) (v' := (.own 6)) (B := [none, none, some (.row false 1 ([(wru64 x63.Amount)].map (cInt .u64))), none, none, some (.row false 1 (x67.map (cInt .u8)))]) (B' := [none, none, some (.row false 1 ([(wru64 x63.Amount)].map (cInt .u64))), none, none, none, some (.row false 1 (x69.map (cInt .u8)))]) 6 [5, 2] (f40r2_ok 8 x67 [(wru64 x63.Amount)] h70) (by kernel_rfl) (by kernel_rfl) (by kernel_rfl) (by kernel_rfl) (by kernel_rfl) (by kernel_rfl)) an))))))) (LoopQ.norm ⟨(wr64 (v51 + 1)), x69, rfl, h⟩)
    · obtain rfl := some_inj h
      exact runK_end cfg_ok (k := 2) (rs := [([], [], [])]) (ps := [some false]) (tds := []) (m := [0]) (keep := [5]) (ex := (.exit 0)) (st' := (f39r1n2E bb1 (.exit0 v52)).2) (by kernel_rfl) (ap h54 an) (fun h => nomatch h) (LoopQ.out rfl rfl)
noncomputable def f39r1n2L (bb1 : JournalRecord) : List JournalLine → Int → (List Int) → Option f39r1n2O
  | [], v51, v52 =>
    some (.exit0 v52)
  | x0 :: rest, v51, v52 =>
    (f56r1 x0.Account v52).bind fun x65 =>
    (f56r1 x0.Ccy x65).bind fun x67 =>
    (f40r2 8 x67 [(wru64 x0.Amount)]).bind fun x69 =>
    (f39r1n2L bb1 rest (v51 + 1) x69)
theorem f39r1n2L_eq (bb1 : JournalRecord) : ∀ (rest : List JournalLine) (f k : Nat) (v52 : List Int), bb1.Lines.drop k = rest → bb1.Lines.length ≤ maxLen → rest.length < f → f39r1n2 f bb1 (k : Int) v52 = f39r1n2L bb1 rest (k : Int) v52
  | _, 0, _, _, _, _, hf => absurd hf (Nat.not_lt_zero _)
  | [], f + 1, k, v52, hd, hm, hf => by
    have hk : ¬ ((k : Int) < (bb1.Lines.length : Int)) := by have := drop_nil hd; omega
    rw [f39r1n2, f39r1n2L]
    simp only [decide_eq_false hk, cond_false]
  | x0 :: rest, f + 1, k, v52, hd, hm, hf => by
    obtain ⟨hx, hlt, hd'⟩ := drop_cons hd
    have hk : (k : Int) < (bb1.Lines.length : Int) := by omega
    have hw : wr64 ((k : Int) + 1) = (k : Int) + 1 := wr64_of (by omega) (by unfold maxLen at hm; omega)
    have ih : ∀ (v52 : List Int), f39r1n2 f bb1 ((k : Int) + 1) v52 = f39r1n2L bb1 rest ((k : Int) + 1) v52 := fun v52 => f39r1n2L_eq bb1 rest f (k + 1) v52 hd' hm (by simpa using hf)
    rw [f39r1n2, f39r1n2L]
    simp only [decide_eq_true hk, cond_true, at_nat, hx, Option.bind_some, hw, ih]
theorem f39r1n2_run (bb1 : JournalRecord) (v52 : List Int) (hm : bb1.Lines.length ≤ maxLen) : f39r1n2 FUEL bb1 0 v52 = f39r1n2L bb1 bb1.Lines 0 v52 := f39r1n2L_eq bb1 bb1.Lines FUEL 0 v52 List.drop_zero hm (lt_FUEL hm)
inductive f39r1n1O where
  | norm (v75 : List Int)
def f39r1n1E (bb1 : JournalRecord) (bj2 : List Int) : f39r1n1O → Ex × Tr × Hp
  | .norm v75 => (.norm, mkS [(5, (.own 0))], [some (.row false 1 (v75.map (cInt .u8)))])
def f39r1n1S (bb1 : JournalRecord) (bj2 : List Int) : Tr × Hp := (mkS [(3, (.bp 0 0)), (5, (.own 1))], [some (.box ((JournalRecord.cells bb1).map .pl)), some (.row false 1 ((bj2 ++ [(wru8 (bb1.Lines.length : Int))]).map (cInt .u8)))])
noncomputable def f39r1n1 (bb1 : JournalRecord) (bj2 : List Int) : Option f39r1n1O :=
  (f39r1n2 FUEL bb1 0 (bj2 ++ [(wru8 (bb1.Lines.length : Int))])).bind fun o72 => match o72 with
  | .exit0 v74 => some (.norm v74)
theorem f39r1n1_ok (bb1 : JournalRecord) (bj2 : List Int) {o : f39r1n1O} (h : (f39r1n1 bb1 bj2) = some o) : T Try.prog Try.f39.ntmps 0 (cL (dropC 3 c39)) (f39r1n1S bb1 bj2) (fun r => r = f39r1n1E bb1 bj2 o) := by
  unfold f39r1n1 at h
  refine runK_norm cfg_ok (k := 1) (rs := [([], [], [(2, .val (.pl (.int .i64 (bb1.Lines.length : Int))))])]) (ps := []) (tds := []) (m := [1]) (keep := [5, 26, 27, 28]) (st' := (f39r1n2S bb1 0 (bj2 ++ [(wru8 (bb1.Lines.length : Int))]))) (by kernel_rfl) (ap (len_cv (xs := bb1.Lines) (c := JournalLine.cells)) an) ?_
  obtain ⟨o72, h73, h⟩ := bind_cases h
  cases o72 with
  | exit0 v74 =>
    obtain rfl := some_inj h
    exact T.last' (T.bl (i := 0) (by kernel_rfl) (by kernel_rfl) (f39r1n2_ok FUEL bb1 0 (bj2 ++ [(wru8 (bb1.Lines.length : Int))]) h73)) (tds := []) (m := [0]) (keep := [5]) (st2 := (f39r1n1E bb1 bj2 (.norm v74)).2) (by kernel_rfl) an rfl
inductive f39r1n0O where
  | ret (v79 : List Int)
def f39r1n0E (a1 : Int) (a2 : JournalRecord) : f39r1n0O → Ex × Tr × Hp
  | .ret v79 => (.ret, mkS [(4, (.own 0))], [some (.row false 1 (v79.map (cInt .u8)))])
def f39r1n0S (a1 : Int) (a2 : JournalRecord) : Tr × Hp := (initS [(.pl (.int .i64 a1)), (.pl (.agg (JournalRecord.cells a2)))] 0 .leaf, [])
noncomputable def f39r1n0 (a1 : Int) (a2 : JournalRecord) : Option f39r1n0O :=
  (f40r1 4 [(wru64 a1), (wru64 a2.Day)]).bind fun x7 =>
  (f56r1 a2.Text x7).bind fun x9 =>
  req (fit (x9.length + 1) 1) <|
  (f39r1n1 a2 x9).bind fun o76 => match o76 with
  | .norm v78 => some (.ret v78)
theorem f39r1n0_ok (a1 : Int) (a2 : JournalRecord) {o : f39r1n0O} (h : (f39r1n0 a1 a2) = some o) : T Try.prog Try.f39.ntmps 0 c39 (f39r1n0S a1 a2) (fun r => r = f39r1n0E a1 a2 o) := by
  unfold f39r1n0 at h
  obtain ⟨x7, h8, h⟩ := bind_cases h
  obtain ⟨x9, h10, h⟩ := bind_cases h
  obtain ⟨h12, h⟩ := req_cases h
  refine runK_norm cfg_ok (k := 3) (rs := [([], [], []), ([], [(6, .call (.own 3) [none, some (.row false 1 ([(wru64 a1), (wru64 a2.Day)].map (cInt .u64))), none, some (.row false 1 (x7.map (cInt .u8)))]), (9, .call (.own 4) [none, none, none, none, some (.row false 1 (x9.map (cInt .u8)))])], []), ([], [(6, .fits)], [(3, .val (.pl (.int .i64 (a2.Lines.length : Int)))), (6, .row 6 ((x9 ++ [(wru8 (a2.Lines.length : Int))]).map (cInt .u8)))])]) (ps := []) (tds := []) (m := [0, 6]) (keep := [3, 5]) (st' := (f39r1n1S a2 x9)) (by kernel_rfl) (ap (CallS.ren (args' := [(.pl (.sl .nil 0 [])), (.pl (.int .i64 4)), (.own 1)]) (v' := (.own 3)) (B := [none, some (.row false 1 ([(wru64 a1), (wru64 a2.Day)].map (cInt .u64))), none]) (B' := [none, some (.row false 1 ([(wru64 a1), (wru64 a2.Day)].map (cInt .u64))), none, some (.row false 1 (x7.map (cInt .u8)))]) 3 [1] (f40r1_ok 4 [(wru64 a1), (wru64 a2.Day)] h8) (by kernel_rfl) (by kernel_rfl) (by kernel_rfl) (by kernel_rfl) (by kernel_rfl) (by kernel_rfl)) (ap (CallS.ren (args' := [(.own 3), (.pl (.str a2.Text))]) (v' := (.own 4)) (B := [none, none, none, some (.row false 1 (x7.map (cInt .u8)))]) (B' := [none, none, none, none, some (.row false 1 (x9.map (cInt .u8)))]) 4 [3] (f56r1_ok a2.Text x7 h10) (by kernel_rfl) (by kernel_rfl) (by kernel_rfl) (by kernel_rfl) (by kernel_rfl) (by kernel_rfl)) (ap (len_cv (xs := a2.Lines) (c := JournalLine.cells)) (ap (fit_map (te := ti5) (xs := x9) (n := 1) (c := (cInt .u8)) h12 rfl) (ap (app_cv (xs := x9) (ys := [(wru8 (a2.Lines.length : Int))]) (c := (cInt .u8))) an))))) ?_
  obtain ⟨o76, h77, h⟩ := bind_cases h
  cases o76 with
  | norm v78 =>
    refine T.oneN (by kernel_rfl) (f39r1n1_ok a2 x9 h77) (st2 := (f39r1n1E a2 x9 (.norm v78)).2) rfl ?_
    obtain rfl := some_inj h
    exact run_end cfg_ok (rs := [([], [], [])]) (ps := []) (tds := []) (m := [0]) (keep := [4]) (r := (.ret, (f39r1n0E a1 a2 (.ret v78)).2)) (by kernel_rfl) an rfl
noncomputable def f39r1 (a1 : Int) (a2 : JournalRecord) : Option (List Int) := (f39r1n0 a1 a2).bind fun o => match o with
  | .ret v79 => some v79
theorem f39r1_ok (a1 : Int) (a2 : JournalRecord) {r : List Int} (h : (f39r1 a1 a2) = some r) : CallS Try.prog true 39 [(.pl (.int .i64 a1)), (.pl (.agg (JournalRecord.cells a2)))] [] (.own 0) [some (.row false 1 (r.map (cInt .u8)))] := by
  unfold f39r1 at h
  obtain ⟨o, ho, h⟩ := bind_cases h
  cases o with
  | ret v79 =>
    obtain rfl := some_inj h
    exact CallS.shared cfg_ok (f := Try.f39) (c := c39) (by kernel_rfl) (by kernel_rfl) (by kernel_rfl) ((f39r1n0_ok a1 a2 ho).mono fun r e => by subst e; exact ⟨.inl rfl, by kernel_rfl, by kernel_rfl⟩)
/-! ### novation/journal.Stamp -/
noncomputable def c20 : Code := Try.f20.body.getD .skip
inductive f20n2O where
  | exit0 (v15 : Int)
def f20n2E (bf1 : Int) (bj2 : List Int) : f20n2O → Ex × Tr × Hp
  | .exit0 v15 => ((.exit 0), mkS [(1, (.pl (.sl .any 1 (bj2.map (cInt .u8))))), (5, (.pl (.int .u64 v15)))], [])
def f20n2S (bf1 : Int) (bj2 : List Int) (v9 : Int) (v10 : Int) : Tr × Hp := (mkS [(0, (.pl (.int .u64 bf1))), (1, (.pl (.sl .any 1 (bj2.map (cInt .u8))))), (5, (.pl (.int .u64 v9))), (9, (.pl (.int .i64 v10)))], [])
noncomputable def f20n2 : Nat → Int → List Int → Int → Int → Option f20n2O
  | 0, _, _, _, _ => none
  | f + 1, bf1, bj2, v9, v10 =>
    bif (decide (v10 < 8)) then
      req (decide (0 ≤ (wr64 (8 * v10)))) <|
      (f20n2 f bf1 bj2 (wru64 ((IntKind.u64.wrap (BitVec.ofInt IntKind.u64.bits v9 ^^^ BitVec.ofInt IntKind.u64.bits (IntKind.u64.wrap (BitVec.ofInt IntKind.u64.bits (shrK .u64 bf1 (wr64 (8 * v10))) &&& BitVec.ofInt IntKind.u64.bits 255).toNat)).toNat) * 1099511628211)) (wr64 (v10 + 1)))
    else
      some (.exit0 v9)
theorem f20n2_ok : ∀ (f : Nat) (bf1 : Int) (bj2 : List Int) (v9 : Int) (v10 : Int) {o : f20n2O}, (f20n2 f bf1 bj2 v9 v10) = some o → TL Try.prog Try.f20.ntmps 0 f (cL (cL (dropC 1 (cL (dropC 2 c20))))) (f20n2S bf1 bj2 v9 v10) (fun r => r = f20n2E bf1 bj2 o)
  | 0, _, _, _, _, o, h => by rw [f20n2] at h; cases h
  | f + 1, bf1, bj2, v9, v10, o, h => by
    rw [f20n2] at h
    refine TL.body (K := fun s => ∃ v9 : Int, ∃ v10 : Int, s = (f20n2S bf1 bj2 v9 v10) ∧ (f20n2 f bf1 bj2 v9 v10) = some o) ?_ (by rintro _ ⟨v9, v10, rfl, hk⟩; exact f20n2_ok f _ _ _ _ hk)
    rcases cond_cases h with ⟨h12, h⟩ | ⟨h12, h⟩
    · obtain ⟨h14, h⟩ := req_cases h
      exact run_end cfg_ok (rs := [([], [], []), ([], [], []), ([], [(4, .fits)], []), ([], [], [])]) (ps := [some true]) (tds := []) (m := []) (keep := [0, 1, 5, 9]) (r := (.norm, (f20n2S bf1 bj2 (wru64 ((IntKind.u64.wrap (BitVec.ofInt IntKind.u64.bits v9 ^^^ BitVec.ofInt IntKind.u64.bits (IntKind.u64.wrap (BitVec.ofInt IntKind.u64.bits (shrK .u64 bf1 (wr64 (8 * v10))) &&& BitVec.ofInt IntKind.u64.bits 255).toNat)).toNat) * 1099511628211)) (wr64 (v10 + 1))))) (by kernel_rfl) (ap h12 (ap (le_of h14) an)) (LoopQ.norm ⟨(wru64 ((IntKind.u64.wrap (BitVec.ofInt IntKind.u64.bits v9 ^^^ BitVec.ofInt IntKind.u64.bits (IntKind.u64.wrap (BitVec.ofInt IntKind.u64.bits (shrK .u64 bf1 (wr64 (8 * v10))) &&& BitVec.ofInt IntKind.u64.bits 255).toNat)).toNat) * 1099511628211)), (wr64 (v10 + 1)), rfl, h⟩)
    · obtain rfl := some_inj h
      exact runK_end cfg_ok (k := 2) (rs := [([], [], [])]) (ps := [some false]) (tds := []) (m := []) (keep := [1, 5]) (ex := (.exit 0)) (st' := (f20n2E bf1 bj2 (.exit0 v9)).2) (by kernel_rfl) (ap h12 an) (fun h => nomatch h) (LoopQ.out rfl rfl)
inductive f20n1O where
  | norm (v19 : Int)
def f20n1E (bf1 : Int) (bj2 : List Int) : f20n1O → Ex × Tr × Hp
  | .norm v19 => (.norm, mkS [(1, (.pl (.sl .any 1 (bj2.map (cInt .u8))))), (5, (.pl (.int .u64 v19)))], [])
def f20n1S (bf1 : Int) (bj2 : List Int) : Tr × Hp := (mkS [(0, (.pl (.int .u64 bf1))), (1, (.pl (.sl .any 1 (bj2.map (cInt .u8))))), (5, (.pl (.int .u64 14695981039346656037)))], [])
noncomputable def f20n1 (bf1 : Int) (bj2 : List Int) : Option f20n1O :=
  (f20n2 FUEL bf1 bj2 14695981039346656037 0).bind fun o16 => match o16 with
  | .exit0 v18 => some (.norm v18)
theorem f20n1_ok (bf1 : Int) (bj2 : List Int) {o : f20n1O} (h : (f20n1 bf1 bj2) = some o) : T Try.prog Try.f20.ntmps 0 (cL (dropC 2 c20)) (f20n1S bf1 bj2) (fun r => r = f20n1E bf1 bj2 o) := by
  unfold f20n1 at h
  refine runK_norm cfg_ok (k := 1) (rs := [([], [], [])]) (ps := []) (tds := []) (m := []) (keep := [0, 1, 5, 9]) (st' := (f20n2S bf1 bj2 14695981039346656037 0)) (by kernel_rfl) an ?_
  obtain ⟨o16, h17, h⟩ := bind_cases h
  cases o16 with
  | exit0 v18 =>
    obtain rfl := some_inj h
    exact T.last' (T.bl (i := 0) (by kernel_rfl) (by kernel_rfl) (f20n2_ok FUEL bf1 bj2 14695981039346656037 0 h17)) (tds := []) (m := []) (keep := [1, 5]) (st2 := (f20n1E bf1 bj2 (.norm v18)).2) (by kernel_rfl) an rfl
inductive f20n4O where
  | exit2 (v45 : Int)
def f20n4E (bj1 : List Int) : f20n4O → Ex × Tr × Hp
  | .exit2 v45 => ((.exit 2), mkS [(5, (.pl (.int .u64 v45)))], [])
def f20n4S (bj1 : List Int) (v37 : Int) (v38 : Int) : Tr × Hp := (mkS [(5, (.pl (.int .u64 v37))), (21, (.pl (.sl .any 1 (bj1.map (cInt .u8))))), (22, (.pl (.int .i64 (bj1.length : Int)))), (23, (.pl (.int .i64 v38)))], [])
noncomputable def f20n4 : Nat → List Int → Int → Int → Option f20n4O
  | 0, _, _, _ => none
  | f + 1, bj1, v37, v38 =>
    bif (decide (v38 < (bj1.length : Int))) then
      (at? bj1 v38).bind fun x43 =>
      (f20n4 f bj1 (wru64 ((IntKind.u64.wrap (BitVec.ofInt IntKind.u64.bits v37 ^^^ BitVec.ofInt IntKind.u64.bits (wru64 x43)).toNat) * 1099511628211)) (wr64 (v38 + 1)))
    else
      some (.exit2 v37)
theorem f20n4_ok : ∀ (f : Nat) (bj1 : List Int) (v37 : Int) (v38 : Int) {o : f20n4O}, (f20n4 f bj1 v37 v38) = some o → TL Try.prog Try.f20.ntmps 0 f (cL (cL (dropC 1 (cL (dropC 0 (dropC 1 (dropC 2 c20))))))) (f20n4S bj1 v37 v38) (fun r => r = f20n4E bj1 o)
  | 0, _, _, _, o, h => by rw [f20n4] at h; cases h
  | f + 1, bj1, v37, v38, o, h => by
    rw [f20n4] at h
    refine TL.body (K := fun s => ∃ v37 : Int, ∃ v38 : Int, s = (f20n4S bj1 v37 v38) ∧ (f20n4 f bj1 v37 v38) = some o) ?_ (by rintro _ ⟨v37, v38, rfl, hk⟩; exact f20n4_ok f _ _ _ hk)
    rcases cond_cases h with ⟨h40, h⟩ | ⟨h40, h⟩
    · obtain ⟨x43, h44, h⟩ := bind_cases h
      exact run_end cfg_ok (rs := [([], [], []), ([], [(0, .idx (Int.toNat v38) ((cInt .u8) x43))], []), ([], [], []), ([], [], [])]) (ps := [some true]) (tds := []) (m := []) (keep := [5, 21, 22, 23]) (r := (.norm, (f20n4S bj1 (wru64 ((IntKind.u64.wrap (BitVec.ofInt IntKind.u64.bits v37 ^^^ BitVec.ofInt IntKind.u64.bits (wru64 x43)).toNat) * 1099511628211)) (wr64 (v38 + 1))))) (by kernel_rfl) (ap h40 (ap (at_some h44).1 (ap (at_map (cInt .u8) (at_some h44).2) an))) (LoopQ.norm ⟨(wru64 ((IntKind.u64.wrap (BitVec.ofInt IntKind.u64.bits v37 ^^^ BitVec.ofInt IntKind.u64.bits (wru64 x43)).toNat) * 1099511628211)), (wr64 (v38 + 1)), rfl, h⟩)
    · obtain rfl := some_inj h
      exact runK_end cfg_ok (k := 2) (rs := [([], [], [])]) (ps := [some false]) (tds := []) (m := []) (keep := [5]) (ex := (.exit 2)) (st' := (f20n4E bj1 (.exit2 v37)).2) (by kernel_rfl) (ap h40 an) (fun h => nomatch h) (LoopQ.out rfl rfl)
noncomputable def f20n4L (bj1 : List Int) : List Int → Int → Int → Option f20n4O
  | [], v37, v38 =>
    some (.exit2 v37)
  | x0 :: rest, v37, v38 =>
    (f20n4L bj1 rest (wru64 ((IntKind.u64.wrap (BitVec.ofInt IntKind.u64.bits v37 ^^^ BitVec.ofInt IntKind.u64.bits (wru64 x0)).toNat) * 1099511628211)) (v38 + 1))
theorem f20n4L_eq (bj1 : List Int) : ∀ (rest : List Int) (f k : Nat) (v37 : Int), bj1.drop k = rest → bj1.length ≤ maxLen → rest.length < f → f20n4 f bj1 v37 (k : Int) = f20n4L bj1 rest v37 (k : Int)
  | _, 0, _, _, _, _, hf => absurd hf (Nat.not_lt_zero _)
  | [], f + 1, k, v37, hd, hm, hf => by
    have hk : ¬ ((k : Int) < (bj1.length : Int)) := by have := drop_nil hd; omega
    rw [f20n4, f20n4L]
    simp only [decide_eq_false hk, cond_false]
  | x0 :: rest, f + 1, k, v37, hd, hm, hf => by
    obtain ⟨hx, hlt, hd'⟩ := drop_cons hd
    have hk : (k : Int) < (bj1.length : Int) := by omega
    have hw : wr64 ((k : Int) + 1) = (k : Int) + 1 := wr64_of (by omega) (by unfold maxLen at hm; omega)
    have ih : ∀ (v37 : Int), f20n4 f bj1 v37 ((k : Int) + 1) = f20n4L bj1 rest v37 ((k : Int) + 1) := fun v37 => f20n4L_eq bj1 rest f (k + 1) v37 hd' hm (by simpa using hf)
    rw [f20n4, f20n4L]
    simp only [decide_eq_true hk, cond_true, at_nat, hx, Option.bind_some, hw, ih]
theorem f20n4_run (bj1 : List Int) (v37 : Int) (hm : bj1.length ≤ maxLen) : f20n4 FUEL bj1 v37 0 = f20n4L bj1 bj1 v37 0 := f20n4L_eq bj1 bj1 FUEL 0 v37 List.drop_zero hm (lt_FUEL hm)
inductive f20n3O where
  | norm (v49 : Int)
def f20n3E (bj1 : List Int) (bf2 : Int) : f20n3O → Ex × Tr × Hp
  | .norm v49 => (.norm, mkS [(5, (.pl (.int .u64 v49)))], [])
def f20n3S (bj1 : List Int) (bf2 : Int) : Tr × Hp := (mkS [(1, (.pl (.sl .any 1 (bj1.map (cInt .u8))))), (5, (.pl (.int .u64 bf2)))], [])
noncomputable def f20n3 (bj1 : List Int) (bf2 : Int) : Option f20n3O :=
  (f20n4 FUEL bj1 bf2 0).bind fun o46 => match o46 with
  | .exit2 v48 => some (.norm v48)
theorem f20n3_ok (bj1 : List Int) (bf2 : Int) {o : f20n3O} (h : (f20n3 bj1 bf2) = some o) : T Try.prog Try.f20.ntmps 0 (cL (dropC 0 (dropC 1 (dropC 2 c20)))) (f20n3S bj1 bf2) (fun r => r = f20n3E bj1 bf2 o) := by
  unfold f20n3 at h
  refine runK_norm cfg_ok (k := 1) (rs := [([], [], [(1, .val (.pl (.int .i64 (bj1.length : Int))))])]) (ps := []) (tds := []) (m := []) (keep := [5, 21, 22, 23]) (st' := (f20n4S bj1 bf2 0)) (by kernel_rfl) (ap (len_cv (xs := bj1) (c := (cInt .u8))) an) ?_
  obtain ⟨o46, h47, h⟩ := bind_cases h
  cases o46 with
  | exit2 v48 =>
    obtain rfl := some_inj h
    exact T.last' (T.bl (i := 2) (by kernel_rfl) (by kernel_rfl) (f20n4_ok FUEL bj1 bf2 0 h47)) (tds := []) (m := []) (keep := [5]) (st2 := (f20n3E bj1 bf2 (.norm v48)).2) (by kernel_rfl) an rfl
inductive f20n0O where
  | ret (v53 : Int)
def f20n0E (a1 : Int) (a2 : List Int) : f20n0O → Ex × Tr × Hp
  | .ret v53 => (.ret, mkS [(4, (.pl (.int .u64 v53)))], [])
def f20n0S (a1 : Int) (a2 : List Int) : Tr × Hp := (initS [(.pl (.int .u64 a1)), (.pl (.sl .any 1 (a2.map (cInt .u8))))] 0 .leaf, [])
noncomputable def f20n0 (a1 : Int) (a2 : List Int) : Option f20n0O :=
  (f20n1 a1 a2).bind fun o20 => match o20 with
  | .norm v22 => (f20n3 a2 v22).bind fun o50 => match o50 with
    | .norm v52 => some (.ret v52)
theorem f20n0_ok (a1 : Int) (a2 : List Int) {o : f20n0O} (h : (f20n0 a1 a2) = some o) : T Try.prog Try.f20.ntmps 0 c20 (f20n0S a1 a2) (fun r => r = f20n0E a1 a2 o) := by
  unfold f20n0 at h
  refine runK_norm cfg_ok (k := 2) (rs := [([], [], []), ([], [], [])]) (ps := []) (tds := []) (m := []) (keep := [0, 1, 5]) (st' := (f20n1S a1 a2)) (by kernel_rfl) an ?_
  obtain ⟨o20, h21, h⟩ := bind_cases h
  cases o20 with
  | norm v22 =>
    refine T.oneN (by kernel_rfl) (f20n1_ok a1 a2 h21) (st2 := (f20n1E a1 a2 (.norm v22)).2) rfl ?_
    refine runK_norm cfg_ok (k := 0) (rs := []) (ps := []) (tds := []) (m := []) (keep := [1, 5]) (st' := (f20n3S a2 v22)) (by kernel_rfl) an ?_
    obtain ⟨o50, h51, h⟩ := bind_cases h
    cases o50 with
    | norm v52 =>
      refine T.oneN (by kernel_rfl) (f20n3_ok a2 v22 h51) (st2 := (f20n3E a2 v22 (.norm v52)).2) rfl ?_
      obtain rfl := some_inj h
      exact run_end cfg_ok (rs := [([], [], [])]) (ps := []) (tds := []) (m := []) (keep := [4]) (r := (.ret, (f20n0E a1 a2 (.ret v52)).2)) (by kernel_rfl) an rfl
noncomputable def f20 (a1 : Int) (a2 : List Int) : Option Int := (f20n0 a1 a2).bind fun o => match o with
  | .ret v53 => some v53
theorem f20_ok (a1 : Int) (a2 : List Int) {r : Int} (h : (f20 a1 a2) = some r) : CallS Try.prog false 20 [(.pl (.int .u64 a1)), (.pl (.sl .any 1 (a2.map (cInt .u8))))] [] (.pl (.int .u64 r)) [] := by
  unfold f20 at h
  obtain ⟨o, ho, h⟩ := bind_cases h
  cases o with
  | ret v53 =>
    obtain rfl := some_inj h
    exact CallS.plain cfg_ok (f := Try.f20) (c := c20) (by kernel_rfl) (by kernel_rfl) (by kernel_rfl) (by kernel_rfl) ((f20n0_ok a1 a2 ho).mono fun r e => by subst e; exact ⟨.inl rfl, (.pl (.int .u64 v53)), (.pl (.int .u64 v53)), by kernel_rfl, by kernel_rfl, ((Wk.refl _) : Wk (.pl (.int .u64 v53)) (.pl (.int .u64 v53)))⟩)
/-! ### novation/journal.Encode -/
noncomputable def c13 : Code := Try.f13.body.getD .skip
inductive f13n2O where
  | exit0 (v104 : List Int)
def f13n2E (ba1 : Journal) : f13n2O → Ex × Tr × Hp
  | .exit0 v104 => ((.exit 0), mkS [(5, (.own 0))], [some (.row false 1 (v104.map (cInt .u8)))])
def f13n2S (ba1 : Journal) (v71 : Int) (v72 : Int) (v73 : List Int) : Tr × Hp := (mkS [(5, (.own 0)), (6, (.pl (.int .u64 v71))), (16, (.pl (.sl .any 3 (ba1.Records.map JournalRecord.cells)))), (17, (.pl (.int .i64 (ba1.Records.length : Int)))), (18, (.pl (.int .i64 v72)))], [some (.row false 1 (v73.map (cInt .u8)))])
noncomputable def f13n2 : Nat → Journal → Int → Int → List Int → Option f13n2O
  | 0, _, _, _, _ => none
  | f + 1, ba1, v71, v72, v73 =>
    bif (decide (v72 < (ba1.Records.length : Int))) then
      (at? ba1.Records v72).bind fun x90 =>
      (f39r1 (wr64 (v72 + 1)) x90).bind fun x92 =>
      (f20 v71 x92).bind fun x94 =>
      (f40r2 4 v73 [(wru64 (x92.length : Int))]).bind fun x96 =>
      bif (x92.isEmpty) then
        (f40r2 8 x96 [x94]).bind fun x99 =>
        (f13n2 f ba1 x94 (wr64 (v72 + 1)) x99)
      else
        req (fit (x96.length + x92.length) 1) <|
        (f40r2 8 (x96 ++ x92) [x94]).bind fun x102 =>
        (f13n2 f ba1 x94 (wr64 (v72 + 1)) x102)
    else
      some (.exit0 v73)
theorem f13n2_ok : ∀ (f : Nat) (ba1 : Journal) (v71 : Int) (v72 : Int) (v73 : List Int) {o : f13n2O}, (f13n2 f ba1 v71 v72 v73) = some o → TL Try.prog Try.f13.ntmps 0 f (cL (cL (dropC 1 (cL (dropC 4 c13))))) (f13n2S ba1 v71 v72 v73) (fun r => r = f13n2E ba1 o)
  | 0, _, _, _, _, o, h => by rw [f13n2] at h; cases h
  | f + 1, ba1, v71, v72, v73, o, h => by
    rw [f13n2] at h
    refine TL.body (K := fun s => ∃ v71 : Int, ∃ v72 : Int, ∃ v73 : List Int, s = (f13n2S ba1 v71 v72 v73) ∧ (f13n2 f ba1 v71 v72 v73) = some o) ?_ (by rintro _ ⟨v71, v72, v73, rfl, hk⟩; exact f13n2_ok f _ _ _ _ hk)
    rcases cond_cases h with ⟨h75, h⟩ | ⟨h75, h⟩
    · obtain ⟨x90, h91, h⟩ := bind_cases h
      obtain ⟨x92, h93, h⟩ := bind_cases h
      obtain ⟨x94, h95, h⟩ := bind_cases h
      obtain ⟨x96, h97, h⟩ := bind_cases h
      rcases cond_cases h with ⟨h98, h⟩ | ⟨h98, h⟩
      · obtain ⟨x99, h100, h⟩ := bind_cases h
        exact run_end cfg_ok (rs := [([], [], []), ([], [(1, .idx (Int.toNat v72) (JournalRecord.cells x90))], []), ([], [(3, .call (.own 2) [none, none, some (.row false 1 (x92.map (cInt .u8)))])], []), ([], [(2, .call (.pl (.int .u64 x94)) [])], []), ([], [(5, .call (.own 4) [none, none, none, some (.row false 1 ([(wru64 (x92.length : Int))].map (cInt .u64))), some (.row false 1 (x96.map (cInt .u8)))]), (7, .app false), (10, .call (.own 6) [none, none, none, none, none, some (.row false 1 ([x94].map (cInt .u64))), some (.row false 1 (x99.map (cInt .u8)))])], [(2, .val (.pl (.int .i64 (x92.length : Int))))]), ([], [], [])]) (ps := [some true]) (tds := []) (m := [6]) (keep := [5, 6, 16, 17, 18]) (r := (.norm, (f13n2S ba1 x94 (wr64 (v72 + 1)) x99))) (by kernel_rfl) (ap h75 (ap (at_some h91).1 (ap (at_map JournalRecord.cells (at_some h91).2) (ap (CallS.ren (args' := [(.pl (.int .i64 (wr64 (v72 + 1)))), (.pl (.agg (JournalRecord.cells x90)))]) (v' := (.own 2)) (B := [none, none]) (B' := [none, none, some (.row false 1 (x92.map (cInt .u8)))]) 2 [] (f39r1_ok (wr64 (v72 + 1)) x90 h93) (by kernel_rfl) (by kernel_rfl) (by kernel_rfl) (by kernel_rfl) (by kernel_rfl) (by kernel_rfl)) (ap (f20_ok v71 x92 h95) (ap (len_cv (xs := x92) (c := (cInt .u8))) (ap (nil_map (c := (cInt .u8)) h98) (ap (CallS.ren (args' := [(.own 0), (.pl (.int .i64 4)), (.own 3)]) (v' := (.own 4)) (B := [some (.row false 1 (v73.map (cInt .u8))), none, none, some (.row false 1 ([(wru64 (x92.length : Int))].map (cInt .u64)))]) (B' := [none, none, none, some (.row false 1 ([(wru64 (x92.length : Int))].map (cInt .u64))), some (.row false 1 (x96.map (cInt .u8)))]) 4 [0, 3] (f40r2_ok 4 v73 [(wru64 (x92.length : Int))] h97) (by kernel_rfl) (by kernel_rfl) (by kernel_rfl) (by kernel_rfl) (by kernel_rfl) (by kernel_rfl)) (ap (CallS.ren (args' := [(.own 4), (.pl (.int .i64 8)), (.own 5)]) (v' := (.own 6)) (B := [none, none, none, none, some (.row false 1 (x96.map (cInt .u8))), some (.row false 1 ([x94].map (cInt .u64)))]) (B' := [none, none, none, none, none, some (.row false 1 ([x94].map (cInt .u64))), some (.row false 1 (x99.map (cInt .u8)))]) 6 [4, 5] (f40r2_ok 8 x96 [x94] h100) (by kernel_rfl) (by kernel_rfl) (by kernel_rfl) (by kernel_rfl) (by kernel_rfl) (by kernel_rfl)) an))))))))) (LoopQ.norm ⟨x94, (wr64 (v72 + 1)), x99, rfl, h⟩)
      · obtain ⟨h101, h⟩ := req_cases h
        obtain ⟨x102, h103, h⟩ := bind_cases h
        exact run_end cfg_ok (rs := [([], [], []), ([], [(1, .idx (Int.toNat v72) (JournalRecord.cells x90))], []), ([], [(3, .call (.own 2) [none, none, some (.row false 1 (x92.map (cInt .u8)))])], []), ([], [(2, .call (.pl (.int .u64 x94)) [])], []), ([], [(5, .call (.own 4) [none, none, none, some (.row false 1 ([(wru64 (x92.length : Int))].map (cInt .u64))), some (.row false 1 (x96.map (cInt .u8)))]), (7, .app true), (10, .call (.own 7) [none, none, none, none, none, none, some (.row false 1 ([x94].map (cInt .u64))), some (.row false 1 (x102.map (cInt .u8)))])], [(2, .val (.pl (.int .i64 (x92.length : Int)))), (7, .row 5 ((x96 ++ x92).map (cInt .u8)))]), ([], [], [])]) (ps := [some true]) (tds := []) (m := [7]) (keep := [5, 6, 16, 17, 18]) (r := (.norm, (f13n2S ba1 x94 (wr64 (v72 + 1)) x102))) (by kernel_rfl) (ap h75 (ap (at_some h91).1 (ap (at_map JournalRecord.cells (at_some h91).2) (ap (CallS.ren (args' := [(.pl (.int .i64 (wr64 (v72 + 1)))), (.pl (.agg (JournalRecord.cells x90)))]) (v' := (.own 2)) (B := [none, none]) (B' := [none, none, some (.row false 1 (x92.map (cInt .u8)))]) 2 [] (f39r1_ok (wr64 (v72 + 1)) x90 h93) (by kernel_rfl) (by kernel_rfl) (by kernel_rfl) (by kernel_rfl) (by kernel_rfl) (by kernel_rfl)) (ap (f20_ok v71 x92 h95) (ap (len_cv (xs := x92) (c := (cInt .u8))) (ap (fit_map2 (te := ti5) (xs := x96) (ys := x92) (c := (cInt .u8)) (d := (cInt .u8)) h101 rfl) (ap (ne_map (c := (cInt .u8)) h98) (ap (len_all (c := (cInt .u8)) (xs := x92) (n := 1) (fun _ => rfl)) (ap (app_cv (xs := x96) (ys := x92) (c := (cInt .u8))) (ap (CallS.ren (args' := [(.own 0), (.pl (.int .i64 4)), (.own 3)]) (v' := (.own 4)) (B := [some (.row false 1 (v73.map (cInt .u8))), none, none, some (.row false 1 ([(wru64 (x92.length : Int))].map (cInt .u64)))]) (B' := [none, none, none, some (.row false 1 ([(wru64 (x92.length : Int))].map (cInt .u64))), some (.row false 1 (x96.map (cInt .u8)))]) 4 [0, 3] (f40r2_ok 4 v73 [(wru64 (x92.length : Int))] h97) (by kernel_rfl) (by kernel_rfl) (by kernel_rfl) (by kernel_rfl) (by kernel_rfl) (by kernel_rfl)) (ap (CallS.ren (args' := [(.own 5), (.pl (.int .i64 8)), (.own 6)]) (v' := (.own 7)) (B := [none, none, none, none, none, some (.row false 1 ((x96 ++ x92).map (cInt .u8))), some (.row false 1 ([x94].map (cInt .u64)))]) (B' := [none, none, none, none, none, none, some (.row false 1 ([x94].map (cInt .u64))), some (.row false 1 (x102.map (cInt .u8)))]) 7 [5, 6] (f40r2_ok 8 (x96 ++ x92) [x94] h103) (by kernel_rfl) (by kernel_rfl) (by kernel_rfl) (by kernel_rfl) (by kernel_rfl) (by kernel_rfl)) an)))))))))))) (LoopQ.norm ⟨x94, (wr64 (v72 + 1)), x102, rfl, h⟩)
    · obtain rfl := some_inj h
      exact runK_end cfg_ok (k := 2) (rs := [([], [], [])]) (ps := [some false]) (tds := []) (m := [0]) (keep := [5]) (ex := (.exit 0)) (st' := (f13n2E ba1 (.exit0 v73)).2) (by kernel_rfl) (ap h75 an) (fun h => nomatch h) (LoopQ.out rfl rfl)
noncomputable def f13n2L (ba1 : Journal) : List JournalRecord → Int → Int → (List Int) → Option f13n2O
  | [], v71, v72, v73 =>
    some (.exit0 v73)
  | x0 :: rest, v71, v72, v73 =>
    (f39r1 (wr64 (v72 + 1)) x0).bind fun x92 =>
    (f20 v71 x92).bind fun x94 =>
    (f40r2 4 v73 [(wru64 (x92.length : Int))]).bind fun x96 =>
    bif (x92.isEmpty) then
      (f40r2 8 x96 [x94]).bind fun x99 =>
      (f13n2L ba1 rest x94 (v72 + 1) x99)
    else
      req (fit (x96.length + x92.length) 1) <|
      (f40r2 8 (x96 ++ x92) [x94]).bind fun x102 =>
      (f13n2L ba1 rest x94 (v72 + 1) x102)
theorem f13n2L_eq (ba1 : Journal) : ∀ (rest : List JournalRecord) (f k : Nat) (v71 : Int) (v73 : List Int), ba1.Records.drop k = rest → ba1.Records.length ≤ maxLen → rest.length < f → f13n2 f ba1 v71 (k : Int) v73 = f13n2L ba1 rest v71 (k : Int) v73
  | _, 0, _, _, _, _, _, hf => absurd hf (Nat.not_lt_zero _)
  | [], f + 1, k, v71, v73, hd, hm, hf => by
    have hk : ¬ ((k : Int) < (ba1.Records.length : Int)) := by have := drop_nil hd; omega
    rw [f13n2, f13n2L]
    simp only [decide_eq_false hk, cond_false]
  | x0 :: rest, f + 1, k, v71, v73, hd, hm, hf => by
    obtain ⟨hx, hlt, hd'⟩ := drop_cons hd
    have hk : (k : Int) < (ba1.Records.length : Int) := by omega
    have hw : wr64 ((k : Int) + 1) = (k : Int) + 1 := wr64_of (by omega) (by unfold maxLen at hm; omega)
    have ih : ∀ (v71 : Int) (v73 : List Int), f13n2 f ba1 v71 ((k : Int) + 1) v73 = f13n2L ba1 rest v71 ((k : Int) + 1) v73 := fun v71 v73 => f13n2L_eq ba1 rest f (k + 1) v71 v73 hd' hm (by simpa using hf)
    rw [f13n2, f13n2L]
    simp only [decide_eq_true hk, cond_true, at_nat, hx, Option.bind_some, hw, ih]
theorem f13n2_run (ba1 : Journal) (v71 : Int) (v73 : List Int) (hm : ba1.Records.length ≤ maxLen) : f13n2 FUEL ba1 v71 0 v73 = f13n2L ba1 ba1.Records v71 0 v73 := f13n2L_eq ba1 ba1.Records FUEL 0 v71 v73 List.drop_zero hm (lt_FUEL hm)
inductive f13n1O where
  | norm (v108 : List Int)
def f13n1E (ba1 : Journal) : f13n1O → Ex × Tr × Hp
  | .norm v108 => (.norm, mkS [(5, (.own 0))], [some (.row false 1 (v108.map (cInt .u8)))])
def f13n1S (ba1 : Journal) : Tr × Hp := (mkS [(1, (.bp 0 0)), (5, (.pl (.sl .nil 0 []))), (6, (.pl (.int .u64 0)))], [some (.box ((Journal.cells ba1).map .pl))])
noncomputable def f13n1 (ba1 : Journal) : Option f13n1O :=
  (f13n2 FUEL ba1 0 0 []).bind fun o105 => match o105 with
  | .exit0 v107 => some (.norm v107)
theorem f13n1_ok (ba1 : Journal) {o : f13n1O} (h : (f13n1 ba1) = some o) : T Try.prog Try.f13.ntmps 0 (cL (dropC 4 c13)) (f13n1S ba1) (fun r => r = f13n1E ba1 o) := by
  unfold f13n1 at h
  refine runK_norm cfg_ok (k := 1) (rs := [([], [], [(2, .val (.pl (.int .i64 (ba1.Records.length : Int))))])]) (ps := []) (tds := [.mat 5 1]) (m := [1]) (keep := [5, 6, 16, 17, 18]) (st' := (f13n2S ba1 0 0 [])) (by kernel_rfl) (ap (len_cv (xs := ba1.Records) (c := JournalRecord.cells)) an) ?_
  obtain ⟨o105, h106, h⟩ := bind_cases h
  cases o105 with
  | exit0 v107 =>
    obtain rfl := some_inj h
    exact T.last' (T.bl (i := 0) (by kernel_rfl) (by kernel_rfl) (f13n2_ok FUEL ba1 0 0 [] h106)) (tds := []) (m := [0]) (keep := [5]) (st2 := (f13n1E ba1 (.norm v107)).2) (by kernel_rfl) an rfl
inductive f13n0O where
  | ret (v112 : Int) (v113 : List Int)
def f13n0E (a1 : Journal) : f13n0O → Ex × Tr × Hp
  | .ret v112 v113 => (.ret, mkS [(2, (.own 0)), (3, (.pl (.int .i64 v112)))], [some (.row false 1 (v113.map (cInt .u8)))])
def f13n0S (a1 : Journal) : Tr × Hp := (initS [(.pl (.agg (Journal.cells a1)))] 0 .leaf, [])
noncomputable def f13n0 (a1 : Journal) : Option f13n0O :=
  (f28 a1).bind fun x5 =>
  bif (decide (x5 = 0)) then
    (f13n1 a1).bind fun o109 => match o109 with
    | .norm v111 => some (.ret 0 v111)
  else
    some (.ret x5 [])
theorem f13n0_ok (a1 : Journal) {o : f13n0O} (h : (f13n0 a1) = some o) : T Try.prog Try.f13.ntmps 0 c13 (f13n0S a1) (fun r => r = f13n0E a1 o) := by
  unfold f13n0 at h
  obtain ⟨x5, h6, h⟩ := bind_cases h
  rcases cond_cases h with ⟨h7, h⟩ | ⟨h7, h⟩
  · refine runK_norm cfg_ok (k := 4) (rs := [([], [], []), ([], [(1, .call (.pl (.int .i64 x5)) [])], []), ([], [], []), ([], [], []), ([], [], [])]) (ps := [some false]) (tds := []) (m := [0]) (keep := [1, 5, 6]) (st' := (f13n1S a1)) (by kernel_rfl) (ap (f28_ok a1 h6) (ap (not_t h7) an)) ?_
    obtain ⟨o109, h110, h⟩ := bind_cases h
    cases o109 with
    | norm v111 =>
      refine T.oneN (by kernel_rfl) (f13n1_ok a1 h110) (st2 := (f13n1E a1 (.norm v111)).2) rfl ?_
      obtain rfl := some_inj h
      exact run_end cfg_ok (rs := [([], [], [])]) (ps := []) (tds := []) (m := [0]) (keep := [2, 3]) (r := (.ret, (f13n0E a1 (.ret 0 v111)).2)) (by kernel_rfl) an rfl
  · obtain rfl := some_inj h
    exact runK_end cfg_ok (k := 2) (rs := [([], [], []), ([], [(1, .call (.pl (.int .i64 x5)) [])], []), ([], [], []), ([], [], [])]) (ps := [some true]) (tds := [.mat 2 1]) (m := [1]) (keep := [2, 3]) (ex := .ret) (st' := (f13n0E a1 (.ret x5 [])).2) (by kernel_rfl) (ap (f28_ok a1 h6) (ap (not_f h7) an)) (fun h => nomatch h) rfl
noncomputable def f13 (a1 : Journal) : Option ((List Int) × Int) := (f13n0 a1).bind fun o => match o with
  | .ret v112 v113 => some (v113, v112)
theorem f13_ok (a1 : Journal) {r : (List Int) × Int} (h : (f13 a1) = some r) : CallS Try.prog false 13 [(.pl (.agg (Journal.cells a1)))] [] (.tup [(.pl (.sl .any 1 (r.1.map (cInt .u8)))), (.pl (.int .i64 r.2))]) [] := by
  unfold f13 at h
  obtain ⟨o, ho, h⟩ := bind_cases h
  cases o with
  | ret v112 v113 =>
    obtain rfl := some_inj h
    exact CallS.plain cfg_ok (f := Try.f13) (c := c13) (by kernel_rfl) (by kernel_rfl) (by kernel_rfl) (by kernel_rfl) ((f13n0_ok a1 ho).mono fun r e => by subst e; exact ⟨.inl rfl, (.tup [(.own 0), (.pl (.int .i64 v112))]), (.tup [(.pl (.sl .any 1 (v113.map (cInt .u8)))), (.pl (.int .i64 v112))]), by kernel_rfl, by kernel_rfl, ((Wk.refl _) : Wk (.tup [(.pl (.sl .any 1 (v113.map (cInt .u8)))), (.pl (.int .i64 v112))]) (.tup [(.pl (.sl .any 1 (v113.map (cInt .u8)))), (.pl (.int .i64 v112))]))⟩)
end Go.Proofs.Ytbgjlpdeoljmiaa
