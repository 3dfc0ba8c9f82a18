/- Functions of the program, plainly, and that the machine computes them. No condition. -/
import Derived.Test.YtbgjlpdeoljmiaaM2
namespace Go.Proofs.Ytbgjlpdeoljmiaa
set_option linter.unusedVariables false
set_option linter.unusedSimpArgs false
set_option maxRecDepth 100000
open Go.RowKit
noncomputable def c20 : Code := Try.f20.body.getD .skip
inductive f20n2O where
  | exit0 (v15 : Int)
def f20n2E (bf1 : Int) (bj2 : List Int) : f20n2O → Ex × Tr × Hp
  | .exit0 v15 => ((.exit 0), mkS [(1, (.pl (.sl .any 1 (bj2.map (cInt .u8))))), (5, (.pl (.int .u64 v15)))], [])
def f20n2S (bf1 : Int) (bj2 : List Int) (v9 : Int) (v10 : Int) : Tr × Hp := (mkS [(0, (.pl (.int .u64 bf1))), (1, (.pl (.sl .any 1 (bj2.map (cInt .u8))))), (5, (.pl (.int .u64 v9))), (9, (.pl (.int .i64 v10)))], [])
noncomputable def f20n2 : Nat → Int → List Int → Int → Int → Option f20n2O
  | 0, _, _, _, _ => none
  | f + 1, bf1, bj2, v9, v10 =>
    bif (decide (v10 < 8)) then
      req (decide (0 ≤ (wr64 (8 * v10)))) <|
      (f20n2 f bf1 bj2 (wru64 ((IntKind.u64.wrap (BitVec.ofInt IntKind.u64.bits v9 ^^^ BitVec.ofInt IntKind.u64.bits (IntKind.u64.wrap (BitVec.ofInt IntKind.u64.bits (shrK .u64 bf1 (wr64 (8 * v10))) &&& BitVec.ofInt IntKind.u64.bits 255).toNat)).toNat) * 1099511628211)) (wr64 (v10 + 1)))
    else
      some (.exit0 v9)
theorem f20n2_ok : ∀ (f : Nat) (bf1 : Int) (bj2 : List Int) (v9 : Int) (v10 : Int) {o : f20n2O}, (f20n2 f bf1 bj2 v9 v10) = some o → TL Try.prog Try.f20.ntmps 0 f (cL (cL (dropC 1 (cL (dropC 2 c20))))) (f20n2S bf1 bj2 v9 v10) (fun r => r = f20n2E bf1 bj2 o)
  | 0, _, _, _, _, o, h => by rw [f20n2] at h; cases h
  | f + 1, bf1, bj2, v9, v10, o, h => by
    rw [f20n2] at h
    refine TL.body (K := fun s => ∃ v9 : Int, ∃ v10 : Int, s = (f20n2S bf1 bj2 v9 v10) ∧ (f20n2 f bf1 bj2 v9 v10) = some o) ?_ (by rintro _ ⟨v9, v10, rfl, hk⟩; exact f20n2_ok f _ _ _ _ hk)
    rcases cond_cases h with ⟨h12, h⟩ | ⟨h12, h⟩
    · obtain ⟨h14, h⟩ := req_cases h
      exact run_end cfg_ok (rs := [([], [], []), ([], [], []), ([], [(4, .fits)], []), ([], [], [])]) (ps := [some true]) (tds := []) (m := []) (keep := [0, 1, 5, 9]) (r := (.norm, (f20n2S bf1 bj2 (wru64 ((IntKind.u64.wrap (BitVec.ofInt IntKind.u64.bits v9 ^^^ BitVec.ofInt IntKind.u64.bits (IntKind.u64.wrap (BitVec.ofInt IntKind.u64.bits (shrK .u64 bf1 (wr64 (8 * v10))) &&& BitVec.ofInt IntKind.u64.bits 255).toNat)).toNat) * 1099511628211)) (wr64 (v10 + 1))))) (by kernel_rfl) (ap h12 (ap (le_of h14) an)) (LoopQ.norm ⟨(wru64 ((IntKind.u64.wrap (BitVec.ofInt IntKind.u64.bits v9 ^^^ BitVec.ofInt IntKind.u64.bits (IntKind.u64.wrap (BitVec.ofInt IntKind.u64.bits (shrK .u64 bf1 (wr64 (8 * v10))) &&& BitVec.ofInt IntKind.u64.bits 255).toNat)).toNat) * 1099511628211)), (wr64 (v10 + 1)), rfl, h⟩)
    · obtain rfl := some_inj h
      exact runK_end cfg_ok (k := 2) (rs := [([], [], [])]) (ps := [some false]) (tds := []) (m := []) (keep := [1, 5]) (ex := (.exit 0)) (st' := (f20n2E bf1 bj2 (.exit0 v9)).2) (by kernel_rfl) (ap h12 an) (fun h => nomatch h) (LoopQ.out rfl rfl)
inductive f20n1O where
  | norm (v19 : Int)
def f20n1E (bf1 : Int) (bj2 : List Int) : f20n1O → Ex × Tr × Hp
  | .norm v19 => (.norm, mkS [(1, (.pl (.sl .any 1 (bj2.map (cInt .u8))))), (5, (.pl (.int .u64 v19)))], [])
def f20n1S (bf1 : Int) (bj2 : List Int) : Tr × Hp := (mkS [(0, (.pl (.int .u64 bf1))), (1, (.pl (.sl .any 1 (bj2.map (cInt .u8))))), (5, (.pl (.int .u64 14695981039346656037)))], [])
noncomputable def f20n1 (bf1 : Int) (bj2 : List Int) : Option f20n1O :=
  (f20n2 FUEL bf1 bj2 14695981039346656037 0).bind fun o16 => match o16 with
  | .exit0 v18 => some (.norm v18)
theorem f20n1_ok (bf1 : Int) (bj2 : List Int) {o : f20n1O} (h : (f20n1 bf1 bj2) = some o) : T Try.prog Try.f20.ntmps 0 (cL (dropC 2 c20)) (f20n1S bf1 bj2) (fun r => r = f20n1E bf1 bj2 o) := by
  unfold f20n1 at h
  refine runK_norm cfg_ok (k := 1) (rs := [([], [], [])]) (ps := []) (tds := []) (m := []) (keep := [0, 1, 5, 9]) (st' := (f20n2S bf1 bj2 14695981039346656037 0)) (by kernel_rfl) an ?_
  obtain ⟨o16, h17, h⟩ := bind_cases h
  cases o16 with
  | exit0 v18 =>
    obtain rfl := some_inj h
    exact T.last' (T.bl (i := 0) (by kernel_rfl) (by kernel_rfl) (f20n2_ok FUEL bf1 bj2 14695981039346656037 0 h17)) (tds := []) (m := []) (keep := [1, 5]) (st2 := (f20n1E bf1 bj2 (.norm v18)).2) (by kernel_rfl) an rfl
inductive f20n4O where
  | exit2 (v45 : Int)
def f20n4E (bj1 : List Int) : f20n4O → Ex × Tr × Hp
  | .exit2 v45 => ((.exit 2), mkS [(5, (.pl (.int .u64 v45)))], [])
def f20n4S (bj1 : List Int) (v37 : Int) (v38 : Int) : Tr × Hp := (mkS [(5, (.pl (.int .u64 v37))), (21, (.pl (.sl .any 1 (bj1.map (cInt .u8))))), (22, (.pl (.int .i64 (bj1.length : Int)))), (23, (.pl (.int .i64 v38)))], [])
noncomputable def f20n4 : Nat → List Int → Int → Int → Option f20n4O
  | 0, _, _, _ => none
  | f + 1, bj1, v37, v38 =>
    bif (decide (v38 < (bj1.length : Int))) then
      (at? bj1 v38).bind fun x43 =>
      (f20n4 f bj1 (wru64 ((IntKind.u64.wrap (BitVec.ofInt IntKind.u64.bits v37 ^^^ BitVec.ofInt IntKind.u64.bits (wru64 x43)).toNat) * 1099511628211)) (wr64 (v38 + 1)))
    else
      some (.exit2 v37)
theorem f20n4_ok : ∀ (f : Nat) (bj1 : List Int) (v37 : Int) (v38 : Int) {o : f20n4O}, (f20n4 f bj1 v37 v38) = some o → TL Try.prog Try.f20.ntmps 0 f (cL (cL (dropC 1 (cL (dropC 0 (dropC 1 (dropC 2 c20))))))) (f20n4S bj1 v37 v38) (fun r => r = f20n4E bj1 o)
  | 0, _, _, _, o, h => by rw [f20n4] at h; cases h
  | f + 1, bj1, v37, v38, o, h => by
    rw [f20n4] at h
    refine TL.body (K := fun s => ∃ v37 : Int, ∃ v38 : Int, s = (f20n4S bj1 v37 v38) ∧ (f20n4 f bj1 v37 v38) = some o) ?_ (by rintro _ ⟨v37, v38, rfl, hk⟩; exact f20n4_ok f _ _ _ hk)
    rcases cond_cases h with ⟨h40, h⟩ | ⟨h40, h⟩
    · obtain ⟨x43, h44, h⟩ := bind_cases h
      exact run_end cfg_ok (rs := [([], [], []), ([], [(0, .idx (Int.toNat v38) ((cInt .u8) x43))], []), ([], [], []), ([], [], [])]) (ps := [some true]) (tds := []) (m := []) (keep := [5, 21, 22, 23]) (r := (.norm, (f20n4S bj1 (wru64 ((IntKind.u64.wrap (BitVec.ofInt IntKind.u64.bits v37 ^^^ BitVec.ofInt IntKind.u64.bits (wru64 x43)).toNat) * 1099511628211)) (wr64 (v38 + 1))))) (by kernel_rfl) (ap h40 (ap (at_some h44).1 (ap (at_map (cInt .u8) (at_some h44).2) an))) (LoopQ.norm ⟨(wru64 ((IntKind.u64.wrap (BitVec.ofInt IntKind.u64.bits v37 ^^^ BitVec.ofInt IntKind.u64.bits (wru64 x43)).toNat) * 1099511628211)), (wr64 (v38 + 1)), rfl, h⟩)
    · obtain rfl := some_inj h
      exact runK_end cfg_ok (k := 2) (rs := [([], [], [])]) (ps := [some false]) (tds := []) (m := []) (keep := [5]) (ex := (.exit 2)) (st' := (f20n4E bj1 (.exit2 v37)).2) (by kernel_rfl) (ap h40 an) (fun h => nomatch h) (LoopQ.out rfl rfl)
noncomputable def f20n4L (bj1 : List Int) : List Int → Int → Int → Option f20n4O
  | [], v37, v38 =>
    some (.exit2 v37)
  | x0 :: rest, v37, v38 =>
    (f20n4L bj1 rest (wru64 ((IntKind.u64.wrap (BitVec.ofInt IntKind.u64.bits v37 ^^^ BitVec.ofInt IntKind.u64.bits (wru64 x0)).toNat) * 1099511628211)) (v38 + 1))
theorem f20n4L_eq (bj1 : List Int) : ∀ (rest : List Int) (f k : Nat) (v37 : Int), bj1.drop k = rest → bj1.length ≤ maxLen → rest.length < f → f20n4 f bj1 v37 (k : Int) = f20n4L bj1 rest v37 (k : Int)
  | _, 0, _, _, _, _, hf => absurd hf (Nat.not_lt_zero _)
  | [], f + 1, k, v37, hd, hm, hf => by
    have hk : ¬ ((k : Int) < (bj1.length : Int)) := by have := drop_nil hd; omega
    rw [f20n4, f20n4L]
    simp only [decide_eq_false hk, cond_false]
  | x0 :: rest, f + 1, k, v37, hd, hm, hf => by
    obtain ⟨hx, hlt, hd'⟩ := drop_cons hd
    have hk : (k : Int) < (bj1.length : Int) := by omega
    have hw : wr64 ((k : Int) + 1) = (k : Int) + 1 := wr64_of (by omega) (by unfold maxLen at hm; omega)
    have ih : ∀ (v37 : Int), f20n4 f bj1 v37 ((k : Int) + 1) = f20n4L bj1 rest v37 ((k : Int) + 1) := fun v37 => f20n4L_eq bj1 rest f (k + 1) v37 hd' hm (by simpa using hf)
    rw [f20n4, f20n4L]
    simp only [decide_eq_true hk, cond_true, at_nat, hx, Option.bind_some, hw, ih]
theorem f20n4_run (bj1 : List Int) (v37 : Int) (hm : bj1.length ≤ maxLen) : f20n4 FUEL bj1 v37 0 = f20n4L bj1 bj1 v37 0 := f20n4L_eq bj1 bj1 FUEL 0 v37 List.drop_zero hm (lt_FUEL hm)
inductive f20n3O where
  | norm (v49 : Int)
def f20n3E (bj1 : List Int) (bf2 : Int) : f20n3O → Ex × Tr × Hp
  | .norm v49 => (.norm, mkS [(5, (.pl (.int .u64 v49)))], [])
def f20n3S (bj1 : List Int) (bf2 : Int) : Tr × Hp := (mkS [(1, (.pl (.sl .any 1 (bj1.map (cInt .u8))))), (5, (.pl (.int .u64 bf2)))], [])
noncomputable def f20n3 (bj1 : List Int) (bf2 : Int) : Option f20n3O :=
  (f20n4 FUEL bj1 bf2 0).bind fun o46 => match o46 with
  | .exit2 v48 => some (.norm v48)
theorem f20n3_ok (bj1 : List Int) (bf2 : Int) {o : f20n3O} (h : (f20n3 bj1 bf2) = some o) : T Try.prog Try.f20.ntmps 0 (cL (dropC 0 (dropC 1 (dropC 2 c20)))) (f20n3S bj1 bf2) (fun r => r = f20n3E bj1 bf2 o) := by
  unfold f20n3 at h
  refine runK_norm cfg_ok (k := 1) (rs := [([], [], [(1, .val (.pl (.int .i64 (bj1.length : Int))))])]) (ps := []) (tds := []) (m := []) (keep := [5, 21, 22, 23]) (st' := (f20n4S bj1 bf2 0)) (by kernel_rfl) (ap (len_cv (xs := bj1) (c := (cInt .u8))) an) ?_
  obtain ⟨o46, h47, h⟩ := bind_cases h
  cases o46 with
  | exit2 v48 =>
    obtain rfl := some_inj h
    exact T.last' (T.bl (i := 2) (by kernel_rfl) (by kernel_rfl) (f20n4_ok FUEL bj1 bf2 0 h47)) (tds := []) (m := []) (keep := [5]) (st2 := (f20n3E bj1 bf2 (.norm v48)).2) (by kernel_rfl) an rfl
inductive f20n0O where
  | ret (v53 : Int)
def f20n0E (a1 : Int) (a2 : List Int) : f20n0O → Ex × Tr × Hp
  | .ret v53 => (.ret, mkS [(4, (.pl (.int .u64 v53)))], [])
def f20n0S (a1 : Int) (a2 : List Int) : Tr × Hp := (initS [(.pl (.int .u64 a1)), (.pl (.sl .any 1 (a2.map (cInt .u8))))] 0 .leaf, [])
noncomputable def f20n0 (a1 : Int) (a2 : List Int) : Option f20n0O :=
  (f20n1 a1 a2).bind fun o20 => match o20 with
  | .norm v22 => (f20n3 a2 v22).bind fun o50 => match o50 with
    | .norm v52 => some (.ret v52)
theorem f20n0_ok (a1 : Int) (a2 : List Int) {o : f20n0O} (h : (f20n0 a1 a2) = some o) : T Try.prog Try.f20.ntmps 0 c20 (f20n0S a1 a2) (fun r => r = f20n0E a1 a2 o) := by
  unfold f20n0 at h
  refine runK_norm cfg_ok (k := 2) (rs := [([], [], []), ([], [], [])]) (ps := []) (tds := []) (m := []) (keep := [0, 1, 5]) (st' := (f20n1S a1 a2)) (by kernel_rfl) an ?_
  obtain ⟨o20, h21, h⟩ := bind_cases h
  cases o20 with
  | norm v22 =>
    refine T.oneN (by kernel_rfl) (f20n1_ok a1 a2 h21) (st2 := (f20n1E a1 a2 (.norm v22)).2) rfl ?_
    refine runK_norm cfg_ok (k := 0) (rs := []) (ps := []) (tds := []) (m := []) (keep := [1, 5]) (st' := (f20n3S a2 v22)) (by kernel_rfl) an ?_
    obtain ⟨o50, h51, h⟩ := bind_cases h
    cases o50 with
    | norm v52 =>
      refine T.oneN (by kernel_rfl) (f20n3_ok a2 v22 h51) (st2 := (f20n3E a2 v22 (.norm v52)).2) rfl ?_
      obtain rfl := some_inj h
      exact run_end cfg_ok (rs := [([], [], [])]) (ps := []) (tds := []) (m := []) (keep := [4]) (r := (.ret, (f20n0E a1 a2 (.ret v52)).2)) (by kernel_rfl) an rfl
noncomputable def f20 (a1 : Int) (a2 : List Int) : Option Int := (f20n0 a1 a2).bind fun o => match o with
  | .ret v53 => some v53
theorem f20_ok (a1 : Int) (a2 : List Int) {r : Int} (h : (f20 a1 a2) = some r) : CallS Try.prog false 20 [(.pl (.int .u64 a1)), (.pl (.sl .any 1 (a2.map (cInt .u8))))] [] (.pl (.int .u64 r)) [] := by
  unfold f20 at h
  obtain ⟨o, ho, h⟩ := bind_cases h
  cases o with
  | ret v53 =>
    obtain rfl := some_inj h
    exact CallS.plain cfg_ok (f := Try.f20) (c := c20) (by kernel_rfl) (by kernel_rfl) (by kernel_rfl) (by kernel_rfl) ((f20n0_ok a1 a2 ho).mono fun r e => by subst e; exact ⟨.inl rfl, (.pl (.int .u64 v53)), (.pl (.int .u64 v53)), by kernel_rfl, by kernel_rfl, ((Wk.refl _) : Wk (.pl (.int .u64 v53)) (.pl (.int .u64 v53)))⟩)

noncomputable def c13 : Code := Try.f13.body.getD .skip
inductive f13r1n2O where
  | exit0 (v104 : List Int)
def f13r1n2E (ba1 : Journal) : f13r1n2O → Ex × Tr × Hp
  | .exit0 v104 => ((.exit 0), mkS [(5, (.own 0))], [some (.row false 1 (v104.map (cInt .u8)))])
def f13r1n2S (ba1 : Journal) (v71 : Int) (v72 : Int) (v73 : List Int) : Tr × Hp := (mkS [(5, (.own 0)), (6, (.pl (.int .u64 v71))), (16, (.pl (.sl .any 3 (ba1.Records.map JournalRecord.cells)))), (17, (.pl (.int .i64 (ba1.Records.length : Int)))), (18, (.pl (.int .i64 v72)))], [some (.row false 1 (v73.map (cInt .u8)))])
noncomputable def f13r1n2 : Nat → Journal → Int → Int → List Int → Option f13r1n2O
  | 0, _, _, _, _ => none
  | f + 1, ba1, v71, v72, v73 =>
    bif (decide (v72 < (ba1.Records.length : Int))) then
      (at? ba1.Records v72).bind fun x90 =>
      (f39r1 (wr64 (v72 + 1)) x90).bind fun x92 =>
      (f20 v71 x92).bind fun x94 =>
      (f40r2 4 v73 [(wru64 (x92.length : Int))]).bind fun x96 =>
      bif (x92.isEmpty) then
        (f40r2 8 x96 [x94]).bind fun x99 =>
        (f13r1n2 f ba1 x94 (wr64 (v72 + 1)) x99)
      else
        req (fit (x96.length + x92.length) 1) <|
        (f40r2 8 (x96 ++ x92) [x94]).bind fun x102 =>
        (f13r1n2 f ba1 x94 (wr64 (v72 + 1)) x102)
    else
      some (.exit0 v73)
theorem f13r1n2_ok : ∀ (f : Nat) (ba1 : Journal) (v71 : Int) (v72 : Int) (v73 : List Int) {o : f13r1n2O}, (f13r1n2 f ba1 v71 v72 v73) = some o → TL Try.prog Try.f13.ntmps 0 f (cL (cL (dropC 1 (cL (dropC 4 c13))))) (f13r1n2S ba1 v71 v72 v73) (fun r => r = f13r1n2E ba1 o)
  | 0, _, _, _, _, o, h => by rw [f13r1n2] at h; cases h
  | f + 1, ba1, v71, v72, v73, o, h => by
    rw [f13r1n2] at h
    refine TL.body (K := fun s => ∃ v71 : Int, ∃ v72 : Int, ∃ v73 : List Int, s = (f13r1n2S ba1 v71 v72 v73) ∧ (f13r1n2 f ba1 v71 v72 v73) = some o) ?_ (by rintro _ ⟨v71, v72, v73, rfl, hk⟩; exact f13r1n2_ok f _ _ _ _ hk)
    rcases cond_cases h with ⟨h75, h⟩ | ⟨h75, h⟩
    · obtain ⟨x90, h91, h⟩ := bind_cases h
      obtain ⟨x92, h93, h⟩ := bind_cases h
      obtain ⟨x94, h95, h⟩ := bind_cases h
      obtain ⟨x96, h97, h⟩ := bind_cases h
      rcases cond_cases h with ⟨h98, h⟩ | ⟨h98, h⟩
      · obtain ⟨x99, h100, h⟩ := bind_cases h
        exact run_end cfg_ok (rs := [([], [], []), ([], [(1, .idx (Int.toNat v72) (JournalRecord.cells x90))], []), ([], [(3, .call (.own 2) [none, none, some (.row false 1 (x92.map (cInt .u8)))])], []), ([], [(2, .call (.pl (.int .u64 x94)) [])], []), ([], [(5, .call (.own 4) [none, none, none, some (.row false 1 ([(wru64 (x92.length : Int))].map (cInt .u64))), some (.row false 1 (x96.map (cInt .u8)))]), (7, .app false), (10, .call (.own 6) [none, none, none, none, none, some (.row false 1 ([x94].map (cInt .u64))), some (.row false 1 (x99.map (cInt .u8)))])], [(2, .val (.pl (.int .i64 (x92.length : Int))))]), ([], [], [])]) (ps := [some true]) (tds := []) (m := [6]) (keep := [5, 6, 16, 17, 18]) (r := (.norm, (f13r1n2S ba1 x94 (wr64 (v72 + 1)) x99))) (by kernel_rfl) (ap h75 (ap (at_some h91).1 (ap (at_map JournalRecord.cells (at_some h91).2) (ap (CallS.ren (args' := [(.pl (.int .i64 (wr64 (v72 + 1)))), (.pl (.agg (JournalRecord.cells x90)))]) (v' := (.own 2)) (B := [none, none]) (B' := [none, none, some (.row false 1 (x92.map (cInt .u8)))]) 2 [] (f39r1_ok (wr64 (v72 + 1)) x90 h93) (by kernel_rfl) (by kernel_rfl) (by kernel_rfl) (by kernel_rfl) (by kernel_rfl) (by kernel_rfl)) (ap (f20_ok v71 x92 h95) (ap (len_cv (xs := x92) (c := (cInt .u8))) (ap (nil_map (c := (cInt .u8)) h98) (ap (CallS.ren (args' := [(.own 0), (.pl (.int .i64 4)), (.own 3)]) (v' := (.own 4)) (B := [some (.row false 1 (v73.map (cInt .u8))), none, none, some (.row false 1 ([(wru64 (x92.length : Int))].map (cInt .u64)))]) (B' := [none, none, none, some (.row false 1 ([(wru64 (x92.length : Int))].map (cInt .u64))), some (.row false 1 (x96.map (cInt .u8)))]) 4 [0, 3] (f40r2_ok 4 v73 [(wru64 (x92.length : Int))] h97) (by kernel_rfl) (by kernel_rfl) (by kernel_rfl) (by kernel_rfl) (by kernel_rfl) (by kernel_rfl)) (ap (CallS.ren (args' := [(.own 4), (.pl (.int .i64 8)), (.own 5)]) (v' := (.own 6)) (B := [none, none, none, none, some (.row false 1 (x96.map (cInt .u8))), some (.row false 1 ([x94].map (cInt .u64)))]) (B' := [none, none, none, none, none, some (.row false 1 ([x94].map (cInt .u64))), some (.row false 1 (x99.map (cInt .u8)))]) 6 [4, 5] (f40r2_ok 8 x96 [x94] h100) (by kernel_rfl) (by kernel_rfl) (by kernel_rfl) (by kernel_rfl) (by kernel_rfl) (by kernel_rfl)) an))))))))) (LoopQ.norm ⟨x94, (wr64 (v72 + 1)), x99, rfl, h⟩)
      · obtain ⟨h101, h⟩ := req_cases h
        obtain ⟨x102, h103, h⟩ := bind_cases h
        exact run_end cfg_ok (rs := [([], [], []), ([], [(1, .idx (Int.toNat v72) (JournalRecord.cells x90))], []), ([], [(3, .call (.own 2) [none, none, some (.row false 1 (x92.map (cInt .u8)))])], []), ([], [(2, .call (.pl (.int .u64 x94)) [])], []), ([], [(5, .call (.own 4) [none, none, none, some (.row false 1 ([(wru64 (x92.length : Int))].map (cInt .u64))), some (.row false 1 (x96.map (cInt .u8)))]), (7, .app true), (10, .call (.own 7) [none, none, none, none, none, none, some (.row false 1 ([x94].map (cInt .u64))), some (.row false 1 (x102.map (cInt .u8)))])], [(2, .val (.pl (.int .i64 (x92.length : Int)))), (7, .row 5 ((x96 ++ x92).map (cInt .u8)))]), ([], [], [])]) (ps := [some true]) (tds := []) (m := [7]) (keep := [5, 6, 16, 17, 18]) (r := (.norm, (f13r1n2S ba1 x94 (wr64 (v72 + 1)) x102))) (by kernel_rfl) (ap h75 (ap (at_some h91).1 (ap (at_map JournalRecord.cells (at_some h91).2) (ap (CallS.ren (args' := [(.pl (.int .i64 (wr64 (v72 + 1)))), (.pl (.agg (JournalRecord.cells x90)))]) (v' := (.own 2)) (B := [none, none]) (B' := [none, none, some (.row false 1 (x92.map (cInt .u8)))]) 2 [] (f39r1_ok (wr64 (v72 + 1)) x90 h93) (by kernel_rfl) (by kernel_rfl) (by kernel_rfl) (by kernel_rfl) (by kernel_rfl) (by kernel_rfl)) (ap (f20_ok v71 x92 h95) (ap (len_cv (xs := x92) (c := (cInt .u8))) (ap (fit_map2 (te := ti5) (xs := x96) (ys := x92) (c := (cInt .u8)) (d := (cInt .u8)) h101 rfl) (ap (ne_map (c := (cInt .u8)) h98) (ap (len_all (c := (cInt .u8)) (xs := x92) (n := 1) (fun _ => rfl)) (ap (app_cv (xs := x96) (ys := x92) (c := (cInt .u8))) (ap (CallS.ren (args' := [(.own 0), (.pl (.int .i64 4)), (.own 3)]) (v' := (.own 4)) (B := [some (.row false 1 (v73.map (cInt .u8))), none, none, some (.row false 1 ([(wru64 (x92.length : Int))].map (cInt .u64)))]) (B' := [none, none, none, some (.row false 1 ([(wru64 (x92.length : Int))].map (cInt .u64))), some (.row false 1 (x96.map (cInt .u8)))]) 4 [0, 3] (f40r2_ok 4 v73 [(wru64 (x92.length : Int))] h97) (by kernel_rfl) (by kernel_rfl) (by kernel_rfl) (by kernel_rfl) (by kernel_rfl) (by kernel_rfl)) (ap (CallS.ren (args' := [(.own 5), (.pl (.int .i64 8)), (.own 6)]) (v' := (.own 7)) (B := [none, none, none, none, none, some (.row false 1 ((x96 ++ x92).map (cInt .u8))), some (.row false 1 ([x94].map (cInt .u64)))]) (B' := [none, none, none, none, none, none, some (.row false 1 ([x94].map (cInt .u64))), some (.row false 1 (x102.map (cInt .u8)))]) 7 [5, 6] (f40r2_ok 8 (x96 ++ x92) [x94] h103) (by kernel_rfl) (by kernel_rfl) (by kernel_rfl) (by kernel_rfl) (by kernel_rfl) (by kernel_rfl)) an)))))))))))) (LoopQ.norm ⟨x94, (wr64 (v72 + 1)), x102, rfl, h⟩)
    · obtain rfl := some_inj h
      exact runK_end cfg_ok (k := 2) (rs := [([], [], [])]) (ps := [some false]) (tds := []) (m := [0]) (keep := [5]) (ex := (.exit 0)) (st' := (f13r1n2E ba1 (.exit0 v73)).2) (by kernel_rfl) (ap h75 an) (fun h => nomatch h) (LoopQ.out rfl rfl)
noncomputable def f13r1n2L (ba1 : Journal) : List JournalRecord → Int → Int → (List Int) → Option f13r1n2O
  | [], v71, v72, v73 =>
    some (.exit0 v73)
  | x0 :: rest, v71, v72, v73 =>
    (f39r1 (wr64 (v72 + 1)) x0).bind fun x92 =>
    (f20 v71 x92).bind fun x94 =>
    (f40r2 4 v73 [(wru64 (x92.length : Int))]).bind fun x96 =>
    bif (x92.isEmpty) then
      (f40r2 8 x96 [x94]).bind fun x99 =>
      (f13r1n2L ba1 rest x94 (v72 + 1) x99)
    else
      req (fit (x96.length + x92.length) 1) <|
      (f40r2 8 (x96 ++ x92) [x94]).bind fun x102 =>
      (f13r1n2L ba1 rest x94 (v72 + 1) x102)
theorem f13r1n2L_eq (ba1 : Journal) : ∀ (rest : List JournalRecord) (f k : Nat) (v71 : Int) (v73 : List Int), ba1.Records.drop k = rest → ba1.Records.length ≤ maxLen → rest.length < f → f13r1n2 f ba1 v71 (k : Int) v73 = f13r1n2L ba1 rest v71 (k : Int) v73
  | _, 0, _, _, _, _, _, hf => absurd hf (Nat.not_lt_zero _)
  | [], f + 1, k, v71, v73, hd, hm, hf => by
    have hk : ¬ ((k : Int) < (ba1.Records.length : Int)) := by have := drop_nil hd; omega
    rw [f13r1n2, f13r1n2L]
    simp only [decide_eq_false hk, cond_false]
  | x0 :: rest, f + 1, k, v71, v73, hd, hm, hf => by
    obtain ⟨hx, hlt, hd'⟩ := drop_cons hd
    have hk : (k : Int) < (ba1.Records.length : Int) := by omega
    have hw : wr64 ((k : Int) + 1) = (k : Int) + 1 := wr64_of (by omega) (by unfold maxLen at hm; omega)
    have ih : ∀ (v71 : Int) (v73 : List Int), f13r1n2 f ba1 v71 ((k : Int) + 1) v73 = f13r1n2L ba1 rest v71 ((k : Int) + 1) v73 := fun v71 v73 => f13r1n2L_eq ba1 rest f (k + 1) v71 v73 hd' hm (by simpa using hf)
    rw [f13r1n2, f13r1n2L]
    simp only [decide_eq_true hk, cond_true, at_nat, hx, Option.bind_some, hw, ih]
theorem f13r1n2_run (ba1 : Journal) (v71 : Int) (v73 : List Int) (hm : ba1.Records.length ≤ maxLen) : f13r1n2 FUEL ba1 v71 0 v73 = f13r1n2L ba1 ba1.Records v71 0 v73 := f13r1n2L_eq ba1 ba1.Records FUEL 0 v71 v73 List.drop_zero hm (lt_FUEL hm)
inductive f13r1n1O where
  | norm (v108 : List Int)
def f13r1n1E (ba1 : Journal) : f13r1n1O → Ex × Tr × Hp
  | .norm v108 => (.norm, mkS [(5, (.own 0))], [some (.row false 1 (v108.map (cInt .u8)))])
def f13r1n1S (ba1 : Journal) : Tr × Hp := (mkS [(1, (.bp 0 0)), (5, (.pl (.sl .nil 0 []))), (6, (.pl (.int .u64 0)))], [some (.box ((Journal.cells ba1).map .pl))])
noncomputable def f13r1n1 (ba1 : Journal) : Option f13r1n1O :=
  (f13r1n2 FUEL ba1 0 0 []).bind fun o105 => match o105 with
  | .exit0 v107 => some (.norm v107)
theorem f13r1n1_ok (ba1 : Journal) {o : f13r1n1O} (h : (f13r1n1 ba1) = some o) : T Try.prog Try.f13.ntmps 0 (cL (dropC 4 c13)) (f13r1n1S ba1) (fun r => r = f13r1n1E ba1 o) := by
  unfold f13r1n1 at h
  refine runK_norm cfg_ok (k := 1) (rs := [([], [], [(2, .val (.pl (.int .i64 (ba1.Records.length : Int))))])]) (ps := []) (tds := [.mat 5 1]) (m := [1]) (keep := [5, 6, 16, 17, 18]) (st' := (f13r1n2S ba1 0 0 [])) (by kernel_rfl) (ap (len_cv (xs := ba1.Records) (c := JournalRecord.cells)) an) ?_
  obtain ⟨o105, h106, h⟩ := bind_cases h
  cases o105 with
  | exit0 v107 =>
    obtain rfl := some_inj h
    exact T.last' (T.bl (i := 0) (by kernel_rfl) (by kernel_rfl) (f13r1n2_ok FUEL ba1 0 0 [] h106)) (tds := []) (m := [0]) (keep := [5]) (st2 := (f13r1n1E ba1 (.norm v107)).2) (by kernel_rfl) an rfl
inductive f13r1n0O where
  | ret (v112 : Int) (v113 : List Int)
def f13r1n0E (a1 : Journal) : f13r1n0O → Ex × Tr × Hp
  | .ret v112 v113 => (.ret, mkS [(2, (.own 0)), (3, (.pl (.int .i64 v112)))], [some (.row false 1 (v113.map (cInt .u8)))])
def f13r1n0S (a1 : Journal) : Tr × Hp := (initS [(.pl (.agg (Journal.cells a1)))] 0 .leaf, [])
noncomputable def f13r1n0 (a1 : Journal) : Option f13r1n0O :=
  (f28 a1).bind fun x5 =>
  bif (decide (x5 = 0)) then
    (f13r1n1 a1).bind fun o109 => match o109 with
    | .norm v111 => some (.ret 0 v111)
  else
    some (.ret x5 [])
theorem f13r1n0_ok (a1 : Journal) {o : f13r1n0O} (h : (f13r1n0 a1) = some o) : T Try.prog Try.f13.ntmps 0 c13 (f13r1n0S a1) (fun r => r = f13r1n0E a1 o) := by
  unfold f13r1n0 at h
  obtain ⟨x5, h6, h⟩ := bind_cases h
  rcases cond_cases h with ⟨h7, h⟩ | ⟨h7, h⟩
  · refine runK_norm cfg_ok (k := 4) (rs := [([], [], []), ([], [(1, .call (.pl (.int .i64 x5)) [])], []), ([], [], []), ([], [], []), ([], [], [])]) (ps := [some false]) (tds := []) (m := [0]) (keep := [1, 5, 6]) (st' := (f13r1n1S a1)) (by kernel_rfl) (ap (f28_ok a1 h6) (ap (not_t h7) an)) ?_
    obtain ⟨o109, h110, h⟩ := bind_cases h
    cases o109 with
    | norm v111 =>
      refine T.oneN (by kernel_rfl) (f13r1n1_ok a1 h110) (st2 := (f13r1n1E a1 (.norm v111)).2) rfl ?_
      obtain rfl := some_inj h
      exact run_end cfg_ok (rs := [([], [], [])]) (ps := []) (tds := []) (m := [0]) (keep := [2, 3]) (r := (.ret, (f13r1n0E a1 (.ret 0 v111)).2)) (by kernel_rfl) an rfl
  · obtain rfl := some_inj h
    exact runK_end cfg_ok (k := 2) (rs := [([], [], []), ([], [(1, .call (.pl (.int .i64 x5)) [])], []), ([], [], []), ([], [], [])]) (ps := [some true]) (tds := [.mat 2 1]) (m := [1]) (keep := [2, 3]) (ex := .ret) (st' := (f13r1n0E a1 (.ret x5 [])).2) (by kernel_rfl) (ap (f28_ok a1 h6) (ap (not_f h7) an)) (fun h => nomatch h) rfl
noncomputable def f13r1 (a1 : Journal) : Option (Int × (List Int)) := (f13r1n0 a1).bind fun o => match o with
  | .ret v112 v113 => some (v112, v113)
theorem f13r1_ok (a1 : Journal) {r : Int × (List Int)} (h : (f13r1 a1) = some r) : CallS Try.prog true 13 [(.pl (.agg (Journal.cells a1)))] [] (.tup [(.own 0), (.pl (.int .i64 r.1))]) [some (.row false 1 (r.2.map (cInt .u8)))] := by
  unfold f13r1 at h
  obtain ⟨o, ho, h⟩ := bind_cases h
  cases o with
  | ret v112 v113 =>
    obtain rfl := some_inj h
    exact CallS.shared cfg_ok (f := Try.f13) (c := c13) (by kernel_rfl) (by kernel_rfl) (by kernel_rfl) ((f13r1n0_ok a1 ho).mono fun r e => by subst e; exact ⟨.inl rfl, by kernel_rfl, by kernel_rfl⟩)

noncomputable def c18 : Code := Try.f18.body.getD .skip
inductive f18n0O where
  | ret
def f18n0E (a1 : List Int) (a2 : List Int) : f18n0O → Ex × Tr × Hp
  | .ret => (.ret, mkS [(4, (.pl (.bool (seq (sOf a1) (sOf a2)))))], [])
def f18n0S (a1 : List Int) (a2 : List Int) : Tr × Hp := (initS [(.pl (.sl .any 1 (a1.map (cInt .u8)))), (.pl (.sl .any 1 (a2.map (cInt .u8))))] 0 .leaf, [])
noncomputable def f18n0 (a1 : List Int) (a2 : List Int) : Option f18n0O :=
  some .ret
theorem f18n0_ok (a1 : List Int) (a2 : List Int) {o : f18n0O} (h : (f18n0 a1 a2) = some o) : T Try.prog Try.f18.ntmps 0 c18 (f18n0S a1 a2) (fun r => r = f18n0E a1 a2 o) := by
  unfold f18n0 at h
  obtain rfl := some_inj h
  exact run_end cfg_ok (rs := [([], [], []), ([], [(1, .bs (toB a1)), (3, .bs (toB a2))], [])]) (ps := []) (tds := []) (m := []) (keep := [4]) (r := (.ret, (f18n0E a1 a2 .ret).2)) (by kernel_rfl) (ap (bytes_map a1) (ap (bytes_map a2) an)) rfl
noncomputable def f18 (a1 : List Int) (a2 : List Int) : Option Bool := (f18n0 a1 a2).bind fun o => match o with
  | .ret => some (seq (sOf a1) (sOf a2))
theorem f18_ok (a1 : List Int) (a2 : List Int) {r : Bool} (h : (f18 a1 a2) = some r) : CallS Try.prog false 18 [(.pl (.sl .any 1 (a1.map (cInt .u8)))), (.pl (.sl .any 1 (a2.map (cInt .u8))))] [] (.pl (.bool r)) [] := by
  unfold f18 at h
  obtain ⟨o, ho, h⟩ := bind_cases h
  cases o with
  | ret =>
    obtain rfl := some_inj h
    exact CallS.plain cfg_ok (f := Try.f18) (c := c18) (by kernel_rfl) (by kernel_rfl) (by kernel_rfl) (by kernel_rfl) ((f18n0_ok a1 a2 ho).mono fun r e => by subst e; exact ⟨.inl rfl, (.pl (.bool (seq (sOf a1) (sOf a2)))), (.pl (.bool (seq (sOf a1) (sOf a2)))), by kernel_rfl, by kernel_rfl, ((Wk.refl _) : Wk (.pl (.bool (seq (sOf a1) (sOf a2)))) (.pl (.bool (seq (sOf a1) (sOf a2)))))⟩)

noncomputable def c38 : Code := Try.f38.body.getD .skip
inductive f38r1n0O where
  | ret
def f38r1n0E : f38r1n0O → Ex × Tr × Hp
  | .ret => (.ret, mkS [(0, (.own 0))], [some (.row false 1 ([1, 0, 0, 0, 1, 0, 0, 0, 1, 120, 2, 1, 97, 3, 69, 85, 82, 5, 0, 0, 0, 0, 0, 0, 0, 1, 98, 3, 69, 85, 82, 251, 255, 255, 255, 255, 255, 255, 255].map (cInt .u8)))])
def f38r1n0S : Tr × Hp := (initS [] 0 .leaf, [])
noncomputable def f38r1n0 : Option f38r1n0O :=
  some .ret
theorem f38r1n0_ok {o : f38r1n0O} (h : f38r1n0 = some o) : T Try.prog Try.f38.ntmps 0 c38 f38r1n0S (fun r => r = f38r1n0E o) := by
  unfold f38r1n0 at h
  obtain rfl := some_inj h
  exact run_end cfg_ok (rs := [([], [], []), ([], [], [])]) (ps := []) (tds := []) (m := [0]) (keep := [0]) (r := (.ret, (f38r1n0E .ret).2)) (by kernel_rfl) an rfl
noncomputable def f38r1 : Option Unit := f38r1n0.bind fun o => match o with
  | .ret => some ()
theorem f38r1_ok {r : Unit} (h : f38r1 = some r) : CallS Try.prog true 38 [] [] (.own 0) [some (.row false 1 ([1, 0, 0, 0, 1, 0, 0, 0, 1, 120, 2, 1, 97, 3, 69, 85, 82, 5, 0, 0, 0, 0, 0, 0, 0, 1, 98, 3, 69, 85, 82, 251, 255, 255, 255, 255, 255, 255, 255].map (cInt .u8)))] := by
  unfold f38r1 at h
  obtain ⟨o, ho, h⟩ := bind_cases h
  cases o with
  | ret =>
    obtain rfl := some_inj h
    exact CallS.shared cfg_ok (f := Try.f38) (c := c38) (by kernel_rfl) (by kernel_rfl) (by kernel_rfl) ((f38r1n0_ok  ho).mono fun r e => by subst e; exact ⟨.inl rfl, by kernel_rfl, by kernel_rfl⟩)

noncomputable def c59 : Code := Try.f59.body.getD .skip
inductive f59r1n0O where
  | pan
  | ret
def f59r1n0E (a1 : Int) (a2 : Reader_) : f59r1n0O → Ex × Tr × Hp
  | .pan => ((.pan panV), mkS [], [some (.box ((Reader_.cells a2).map .pl))])
  | .ret => (.ret, mkS [(4, (.pl (.sl .any 1 (((a2.b.take (Int.toNat a1)).drop 0).map (cInt .u8)))))], [some (.box ((Reader_.cells (Reader_.mk (a2.b.drop (Int.toNat a1)))).map .pl))])
def f59r1n0S (a1 : Int) (a2 : Reader_) : Tr × Hp := (initS [(.bp 0 0), (.pl (.int .i64 a1))] 0 .leaf, [some (.box ((Reader_.cells a2).map .pl))])
noncomputable def f59r1n0 (a1 : Int) (a2 : Reader_) : Option f59r1n0O :=
  bif (decide ((a2.b.length : Int) < a1)) then
    some .pan
  else
    req (cutB 0 a1 a2.b.length) <|
    req (cutB a1 (a2.b.length : Int) a2.b.length) <|
    some .ret
theorem f59r1n0_ok (a1 : Int) (a2 : Reader_) {o : f59r1n0O} (h : (f59r1n0 a1 a2) = some o) : T Try.prog Try.f59.ntmps 1 c59 (f59r1n0S a1 a2) (fun r => r = f59r1n0E a1 a2 o) := by
  unfold f59r1n0 at h
  rcases cond_cases h with ⟨h4, h⟩ | ⟨h4, h⟩
  · obtain rfl := some_inj h
    exact runK_end cfg_ok (k := 2) (rs := [([], [], []), ([], [], [(5, .val (.pl (.int .i64 (a2.b.length : Int))))]), ([], [(2, .die panV)], [])]) (ps := [some true]) (tds := []) (m := []) (keep := []) (ex := (.pan panV)) (st' := (f59r1n0E a1 a2 .pan).2) (by kernel_rfl) (ap (len_cv (xs := a2.b) (c := (cInt .u8))) (ap h4 (ap (rfl : panV = panV) an))) (fun h => nomatch h) rfl
  · obtain ⟨h6, h⟩ := req_cases h
    obtain ⟨h8, h⟩ := req_cases h
    obtain rfl := some_inj h
    exact run_end cfg_ok (rs := [([], [], []), ([], [], [(5, .val (.pl (.int .i64 (a2.b.length : Int))))]), ([], [(5, .cut 0 (Int.toNat a1))], [(5, .val (.pl (.sl .any 1 (((a2.b.take (Int.toNat a1)).drop 0).map (cInt .u8)))))]), ([], [(6, .cut (Int.toNat a1) a2.b.length)], [(6, .val (.pl (.sl .any 1 ((a2.b.drop (Int.toNat a1)).map (cInt .u8)))))]), ([], [], [])]) (ps := [some false]) (tds := []) (m := []) (keep := [4]) (r := (.ret, (f59r1n0E a1 a2 .ret).2)) (by kernel_rfl) (ap (len_cv (xs := a2.b) (c := (cInt .u8))) (ap h4 (ap (cut_hn_1_map (c := (cInt .u8)) h6) (ap (cut_hn_2 h6) (ap (cut_hn_3 h6) (ap (cut_hn_4_map (c := (cInt .u8)) h6) (ap (congrArg (fun l => AV.pl (.sl .any 1 l)) (cut_cv (xs := a2.b) (c := (cInt .u8)) (n := (Int.toNat a1)) (m := 0))) (ap (cut_nl_1_map (c := (cInt .u8)) h8) (ap (cut_nl_2 h8) (ap (cut_nl_3 h8) (ap (cut_nl_4_map (c := (cInt .u8)) h8) (ap (congrArg (fun l => AV.pl (.sl .any 1 l)) (drop_cv (xs := a2.b) (c := (cInt .u8)) (m := (Int.toNat a1)))) an)))))))))))) rfl
theorem f59r1_ok (a1 : Int) (a2 : Reader_) (h : (f59r1n0 a1 a2) = some .ret) : CallS Try.prog true 59 [(.bp 0 0), (.pl (.int .i64 a1))] [some (.box ((Reader_.cells a2).map .pl))] (.pl (.sl .any 1 (((a2.b.take (Int.toNat a1)).drop 0).map (cInt .u8)))) [some (.box ((Reader_.cells (Reader_.mk (a2.b.drop (Int.toNat a1)))).map .pl))] :=
  CallS.shared cfg_ok (f := Try.f59) (c := c59) (by kernel_rfl) (by kernel_rfl) (by kernel_rfl) ((f59r1n0_ok a1 a2 h).mono fun r e => by subst e; exact ⟨.inl rfl, by kernel_rfl, by kernel_rfl⟩)
theorem f59r1_px (a1 : Int) (a2 : Reader_) (h : (f59r1n0 a1 a2) = some .pan) : CallX Try.prog 59 [(.bp 0 0), (.pl (.int .i64 a1))] [some (.box ((Reader_.cells a2).map .pl))] panV [some (.box ((Reader_.cells a2).map .pl))] :=
  CallX.shared cfg_ok (f := Try.f59) (c := c59) (by kernel_rfl) (by kernel_rfl) (by kernel_rfl) ((f59r1n0_ok a1 a2 h).mono fun r e => by subst e; exact ⟨rfl, by kernel_rfl⟩)

noncomputable def c58 : Code := Try.f58.body.getD .skip
inductive f58r1n2O where
  | exit0 (v33 : Int)
def f58r1n2E (bm2 : Reader_) (bf1 : Int) : f58r1n2O → Ex × Tr × Hp
  | .exit0 v33 => ((.exit 0), mkS [(4, (.pl (.int .u64 v33)))], [some (.box ((Reader_.cells (Reader_.mk (bm2.b.drop (Int.toNat bf1)))).map .pl))])
def f58r1n2S (bm2 : Reader_) (bf1 : Int) (v23 : Int) (v24 : Int) : Tr × Hp := (mkS [(4, (.pl (.int .u64 v23))), (9, (.pl (.sl .any 1 (((bm2.b.take (Int.toNat bf1)).drop 0).map (cInt .u8))))), (10, (.pl (.int .i64 (((bm2.b.take (Int.toNat bf1)).drop 0).length : Int)))), (11, (.pl (.int .i64 v24)))], [some (.box ((Reader_.cells (Reader_.mk (bm2.b.drop (Int.toNat bf1)))).map .pl))])
noncomputable def f58r1n2 : Nat → Reader_ → Int → Int → Int → Option f58r1n2O
  | 0, _, _, _, _ => none
  | f + 1, bm2, bf1, v23, v24 =>
    bif (decide (v24 < (((bm2.b.take (Int.toNat bf1)).drop 0).length : Int))) then
      (at? ((bm2.b.take (Int.toNat bf1)).drop 0) v24).bind fun x30 =>
      req (decide (0 ≤ (wr64 (8 * v24)))) <|
      (f58r1n2 f bm2 bf1 (IntKind.u64.wrap (BitVec.ofInt IntKind.u64.bits v23 ||| BitVec.ofInt IntKind.u64.bits (shlK .u64 (wru64 x30) (wr64 (8 * v24)))).toNat) (wr64 (v24 + 1)))
    else
      some (.exit0 v23)
theorem f58r1n2_ok : ∀ (f : Nat) (bm2 : Reader_) (bf1 : Int) (v23 : Int) (v24 : Int) {o : f58r1n2O}, (f58r1n2 f bm2 bf1 v23 v24) = some o → TL Try.prog Try.f58.ntmps 1 f (cL (cL (dropC 1 (cL (dropC 1 c58))))) (f58r1n2S bm2 bf1 v23 v24) (fun r => r = f58r1n2E bm2 bf1 o)
  | 0, _, _, _, _, o, h => by rw [f58r1n2] at h; cases h
  | f + 1, bm2, bf1, v23, v24, o, h => by
    rw [f58r1n2] at h
    refine TL.body (K := fun s => ∃ v23 : Int, ∃ v24 : Int, s = (f58r1n2S bm2 bf1 v23 v24) ∧ (f58r1n2 f bm2 bf1 v23 v24) = some o) ?_ (by rintro _ ⟨v23, v24, rfl, hk⟩; exact f58r1n2_ok f _ _ _ _ hk)
    rcases cond_cases h with ⟨h26, h⟩ | ⟨h26, h⟩
    · obtain ⟨x30, h31, h⟩ := bind_cases h
      obtain ⟨h32, h⟩ := req_cases h
      exact run_end cfg_ok (rs := [([], [], []), ([], [(1, .idx (Int.toNat v24) ((cInt .u8) x30))], []), ([], [(5, .fits)], []), ([], [], [])]) (ps := [some true]) (tds := []) (m := []) (keep := [4, 9, 10, 11]) (r := (.norm, (f58r1n2S bm2 bf1 (IntKind.u64.wrap (BitVec.ofInt IntKind.u64.bits v23 ||| BitVec.ofInt IntKind.u64.bits (shlK .u64 (wru64 x30) (wr64 (8 * v24)))).toNat) (wr64 (v24 + 1))))) (by kernel_rfl) (ap h26 (ap (at_some h31).1 (ap (at_map (cInt .u8) (at_some h31).2) (ap (le_of h32) an)))) (LoopQ.norm ⟨(IntKind.u64.wrap (BitVec.ofInt IntKind.u64.bits v23 ||| BitVec.ofInt IntKind.u64.bits (shlK .u64 (wru64 x30) (wr64 (8 * v24)))).toNat), (wr64 (v24 + 1)), rfl, h⟩)
    · obtain rfl := some_inj h
      exact runK_end cfg_ok (k := 2) (rs := [([], [], [])]) (ps := [some false]) (tds := []) (m := []) (keep := [4]) (ex := (.exit 0)) (st' := (f58r1n2E bm2 bf1 (.exit0 v23)).2) (by kernel_rfl) (ap h26 an) (fun h => nomatch h) (LoopQ.out rfl rfl)
noncomputable def f58r1n2L (bm2 : Reader_) (bf1 : Int) : List Int → Int → Int → Option f58r1n2O
  | [], v23, v24 =>
    some (.exit0 v23)
  | x0 :: rest, v23, v24 =>
    req (decide (0 ≤ (wr64 (8 * v24)))) <|
    (f58r1n2L bm2 bf1 rest (IntKind.u64.wrap (BitVec.ofInt IntKind.u64.bits v23 ||| BitVec.ofInt IntKind.u64.bits (shlK .u64 (wru64 x0) (wr64 (8 * v24)))).toNat) (v24 + 1))
theorem f58r1n2L_eq (bm2 : Reader_) (bf1 : Int) : ∀ (rest : List Int) (f k : Nat) (v23 : Int), ((bm2.b.take (Int.toNat bf1)).drop 0).drop k = rest → ((bm2.b.take (Int.toNat bf1)).drop 0).length ≤ maxLen → rest.length < f → f58r1n2 f bm2 bf1 v23 (k : Int) = f58r1n2L bm2 bf1 rest v23 (k : Int)
  | _, 0, _, _, _, _, hf => absurd hf (Nat.not_lt_zero _)
  | [], f + 1, k, v23, hd, hm, hf => by
    have hk : ¬ ((k : Int) < (((bm2.b.take (Int.toNat bf1)).drop 0).length : Int)) := by have := drop_nil hd; omega
    rw [f58r1n2, f58r1n2L]
    simp only [decide_eq_false hk, cond_false]
  | x0 :: rest, f + 1, k, v23, hd, hm, hf => by
    obtain ⟨hx, hlt, hd'⟩ := drop_cons hd
    have hk : (k : Int) < (((bm2.b.take (Int.toNat bf1)).drop 0).length : Int) := by omega
    have hw : wr64 ((k : Int) + 1) = (k : Int) + 1 := wr64_of (by omega) (by unfold maxLen at hm; omega)
    have ih : ∀ (v23 : Int), f58r1n2 f bm2 bf1 v23 ((k : Int) + 1) = f58r1n2L bm2 bf1 rest v23 ((k : Int) + 1) := fun v23 => f58r1n2L_eq bm2 bf1 rest f (k + 1) v23 hd' hm (by simpa using hf)
    rw [f58r1n2, f58r1n2L]
    simp only [decide_eq_true hk, cond_true, at_nat, hx, Option.bind_some, hw, ih]
theorem f58r1n2_run (bm2 : Reader_) (bf1 : Int) (v23 : Int) (hm : ((bm2.b.take (Int.toNat bf1)).drop 0).length ≤ maxLen) : f58r1n2 FUEL bm2 bf1 v23 0 = f58r1n2L bm2 bf1 ((bm2.b.take (Int.toNat bf1)).drop 0) v23 0 := f58r1n2L_eq bm2 bf1 ((bm2.b.take (Int.toNat bf1)).drop 0) FUEL 0 v23 List.drop_zero hm (lt_FUEL hm)
inductive f58r1n1O where
  | norm (v37 : Int)
  | pan
def f58r1n1E (bf1 : Int) (bm2 : Reader_) : f58r1n1O → Ex × Tr × Hp
  | .norm v37 => (.norm, mkS [(4, (.pl (.int .u64 v37)))], [some (.box ((Reader_.cells (Reader_.mk (bm2.b.drop (Int.toNat bf1)))).map .pl))])
  | .pan => ((.pan panV), mkS [], [some (.box ((Reader_.cells bm2).map .pl))])
def f58r1n1S (bf1 : Int) (bm2 : Reader_) : Tr × Hp := (mkS [(0, (.bp 0 0)), (1, (.pl (.int .i64 bf1))), (4, (.pl (.int .u64 0)))], [some (.box ((Reader_.cells bm2).map .pl))])
noncomputable def f58r1n1 (bf1 : Int) (bm2 : Reader_) : Option f58r1n1O :=
  (f59r1n0 bf1 bm2).bind fun o5 => match o5 with
  | .pan => some .pan
  | .ret => (f58r1n2 FUEL bm2 bf1 0 0).bind fun o34 => match o34 with
    | .exit0 v36 => some (.norm v36)
theorem f58r1n1_ok (bf1 : Int) (bm2 : Reader_) {o : f58r1n1O} (h : (f58r1n1 bf1 bm2) = some o) : T Try.prog Try.f58.ntmps 1 (cL (dropC 1 c58)) (f58r1n1S bf1 bm2) (fun r => r = f58r1n1E bf1 bm2 o) := by
  unfold f58r1n1 at h
  obtain ⟨o5, h6, h⟩ := bind_cases h
  cases o5 with
  | pan =>
    obtain rfl := some_inj h
    exact runK_end cfg_ok (k := 1) (rs := [([], [(2, .pan panV [some (.box ((Reader_.cells bm2).map .pl))] [] 0 [])], [])]) (ps := []) (tds := []) (m := []) (keep := []) (ex := (.pan panV)) (st' := (f58r1n1E bf1 bm2 .pan).2) (by kernel_rfl) (ap (f59r1_px bf1 bm2 h6) an) (fun h => nomatch h) rfl
  | ret =>
    refine runK_norm cfg_ok (k := 1) (rs := [([], [(2, .call (.pl (.sl .any 1 (((bm2.b.take (Int.toNat bf1)).drop 0).map (cInt .u8)))) [some (.box ((Reader_.cells (Reader_.mk (bm2.b.drop (Int.toNat bf1)))).map .pl))])], [(3, .val (.pl (.int .i64 (((bm2.b.take (Int.toNat bf1)).drop 0).length : Int))))])]) (ps := []) (tds := []) (m := []) (keep := [4, 9, 10, 11]) (st' := (f58r1n2S bm2 bf1 0 0)) (by kernel_rfl) (ap (len_cv (xs := ((bm2.b.take (Int.toNat bf1)).drop 0)) (c := (cInt .u8))) (ap (f59r1_ok bf1 bm2 h6) an)) ?_
    obtain ⟨o34, h35, h⟩ := bind_cases h
    cases o34 with
    | exit0 v36 =>
      obtain rfl := some_inj h
      exact T.last' (T.bl (i := 0) (by kernel_rfl) (by kernel_rfl) (f58r1n2_ok FUEL bm2 bf1 0 0 h35)) (tds := []) (m := []) (keep := [4]) (st2 := (f58r1n1E bf1 bm2 (.norm v36)).2) (by kernel_rfl) an rfl
inductive f58r1n0O where
  | pan
  | ret (v41 : Int)
def f58r1n0E (a1 : Int) (a2 : Reader_) : f58r1n0O → Ex × Tr × Hp
  | .pan => ((.pan panV), mkS [], [some (.box ((Reader_.cells a2).map .pl))])
  | .ret v41 => (.ret, mkS [(4, (.pl (.int .u64 v41)))], [some (.box ((Reader_.cells (Reader_.mk (a2.b.drop (Int.toNat a1)))).map .pl))])
def f58r1n0S (a1 : Int) (a2 : Reader_) : Tr × Hp := (initS [(.bp 0 0), (.pl (.int .i64 a1))] 0 .leaf, [some (.box ((Reader_.cells a2).map .pl))])
noncomputable def f58r1n0 (a1 : Int) (a2 : Reader_) : Option f58r1n0O :=
  (f58r1n1 a1 a2).bind fun o38 => match o38 with
  | .norm v40 => some (.ret v40)
  | .pan => some .pan
theorem f58r1n0_ok (a1 : Int) (a2 : Reader_) {o : f58r1n0O} (h : (f58r1n0 a1 a2) = some o) : T Try.prog Try.f58.ntmps 1 c58 (f58r1n0S a1 a2) (fun r => r = f58r1n0E a1 a2 o) := by
  unfold f58r1n0 at h
  refine runK_norm cfg_ok (k := 1) (rs := [([], [], [])]) (ps := []) (tds := []) (m := []) (keep := [0, 1, 4]) (st' := (f58r1n1S a1 a2)) (by kernel_rfl) an ?_
  obtain ⟨o38, h39, h⟩ := bind_cases h
  cases o38 with
  | norm v40 =>
    refine T.oneN (by kernel_rfl) (f58r1n1_ok a1 a2 h39) (st2 := (f58r1n1E a1 a2 (.norm v40)).2) rfl ?_
    obtain rfl := some_inj h
    exact run_end cfg_ok (rs := [([], [], [])]) (ps := []) (tds := []) (m := []) (keep := [4]) (r := (.ret, (f58r1n0E a1 a2 (.ret v40)).2)) (by kernel_rfl) an rfl
  | pan =>
    obtain rfl := some_inj h
    exact T.oneX' (by kernel_rfl) (f58r1n1_ok a1 a2 h39) (tds := []) (m := []) (keep := []) (st2 := (f58r1n0E a1 a2 .pan).2) (by kernel_rfl) an rfl rfl
theorem f58r1_ok (a1 : Int) (a2 : Reader_) {v41 : Int} (h : (f58r1n0 a1 a2) = some (.ret v41)) : CallS Try.prog true 58 [(.bp 0 0), (.pl (.int .i64 a1))] [some (.box ((Reader_.cells a2).map .pl))] (.pl (.int .u64 v41)) [some (.box ((Reader_.cells (Reader_.mk (a2.b.drop (Int.toNat a1)))).map .pl))] :=
  CallS.shared cfg_ok (f := Try.f58) (c := c58) (by kernel_rfl) (by kernel_rfl) (by kernel_rfl) ((f58r1n0_ok a1 a2 h).mono fun r e => by subst e; exact ⟨.inl rfl, by kernel_rfl, by kernel_rfl⟩)
theorem f58r1_px (a1 : Int) (a2 : Reader_) (h : (f58r1n0 a1 a2) = some .pan) : CallX Try.prog 58 [(.bp 0 0), (.pl (.int .i64 a1))] [some (.box ((Reader_.cells a2).map .pl))] panV [some (.box ((Reader_.cells a2).map .pl))] :=
  CallX.shared cfg_ok (f := Try.f58) (c := c58) (by kernel_rfl) (by kernel_rfl) (by kernel_rfl) ((f58r1n0_ok a1 a2 h).mono fun r e => by subst e; exact ⟨rfl, by kernel_rfl⟩)

noncomputable def c68 : Code := Try.f68.body.getD .skip
inductive f68r1n0O where
  | pan (v12 : Reader_)
  | ret (v13 : ByteArray) (v14 : Reader_)
def f68r1n0E (a1 : Reader_) : f68r1n0O → Ex × Tr × Hp
  | .pan v12 => ((.pan panV), mkS [], [some (.box ((Reader_.cells v12).map .pl))])
  | .ret v13 v14 => (.ret, mkS [(2, (.pl (.str v13)))], [some (.box ((Reader_.cells v14).map .pl))])
def f68r1n0S (a1 : Reader_) : Tr × Hp := (initS [(.bp 0 0)] 0 .leaf, [some (.box ((Reader_.cells a1).map .pl))])
noncomputable def f68r1n0 (a1 : Reader_) : Option f68r1n0O :=
  (f58r1n0 1 a1).bind fun o7 => match o7 with
  | .pan => some (.pan a1)
  | .ret v9 => (f59r1n0 (wr64 v9) (Reader_.mk (a1.b.drop (Int.toNat 1)))).bind fun o10 => match o10 with
    | .pan => some (.pan (Reader_.mk (a1.b.drop (Int.toNat 1))))
    | .ret => some (.ret (sOf (((a1.b.drop (Int.toNat 1)).take (Int.toNat (wr64 v9))).drop 0)) (Reader_.mk ((a1.b.drop (Int.toNat 1)).drop (Int.toNat (wr64 v9)))))
theorem f68r1n0_ok (a1 : Reader_) {o : f68r1n0O} (h : (f68r1n0 a1) = some o) : T Try.prog Try.f68.ntmps 1 c68 (f68r1n0S a1) (fun r => r = f68r1n0E a1 o) := by
  unfold f68r1n0 at h
  obtain ⟨o7, h8, h⟩ := bind_cases h
  cases o7 with
  | pan =>
    obtain rfl := some_inj h
    exact runK_end cfg_ok (k := 2) (rs := [([], [], []), ([], [(2, .pan panV [some (.box ((Reader_.cells a1).map .pl))] [] 0 [])], [])]) (ps := []) (tds := []) (m := []) (keep := []) (ex := (.pan panV)) (st' := (f68r1n0E a1 (.pan a1)).2) (by kernel_rfl) (ap (f58r1_px 1 a1 h8) an) (fun h => nomatch h) rfl
  | ret v9 =>
    obtain ⟨o10, h11, h⟩ := bind_cases h
    cases o10 with
    | pan =>
      obtain rfl := some_inj h
      exact runK_end cfg_ok (k := 2) (rs := [([], [], []), ([], [(2, .call (.pl (.int .u64 v9)) [some (.box ((Reader_.cells (Reader_.mk (a1.b.drop (Int.toNat 1)))).map .pl))]), (4, .pan panV [some (.box ((Reader_.cells (Reader_.mk (a1.b.drop (Int.toNat 1)))).map .pl))] [] 0 [])], [])]) (ps := []) (tds := []) (m := []) (keep := []) (ex := (.pan panV)) (st' := (f68r1n0E a1 (.pan (Reader_.mk (a1.b.drop (Int.toNat 1))))).2) (by kernel_rfl) (ap (f58r1_ok 1 a1 h8) (ap (f59r1_px (wr64 v9) (Reader_.mk (a1.b.drop (Int.toNat 1))) h11) an)) (fun h => nomatch h) rfl
    | ret =>
      obtain rfl := some_inj h
      exact run_end cfg_ok (rs := [([], [], []), ([], [(2, .call (.pl (.int .u64 v9)) [some (.box ((Reader_.cells (Reader_.mk (a1.b.drop (Int.toNat 1)))).map .pl))]), (4, .call (.pl (.sl .any 1 ((((a1.b.drop (Int.toNat 1)).take (Int.toNat (wr64 v9))).drop 0).map (cInt .u8)))) [some (.box ((Reader_.cells (Reader_.mk ((a1.b.drop (Int.toNat 1)).drop (Int.toNat (wr64 v9))))).map .pl))]), (5, .bs (toB (((a1.b.drop (Int.toNat 1)).take (Int.toNat (wr64 v9))).drop 0)))], [])]) (ps := []) (tds := []) (m := []) (keep := [2]) (r := (.ret, (f68r1n0E a1 (.ret (sOf (((a1.b.drop (Int.toNat 1)).take (Int.toNat (wr64 v9))).drop 0)) (Reader_.mk ((a1.b.drop (Int.toNat 1)).drop (Int.toNat (wr64 v9)))))).2)) (by kernel_rfl) (ap (bytes_map (((a1.b.drop (Int.toNat 1)).take (Int.toNat (wr64 v9))).drop 0)) (ap (f58r1_ok 1 a1 h8) (ap (f59r1_ok (wr64 v9) (Reader_.mk (a1.b.drop (Int.toNat 1))) h11) an))) rfl
theorem f68r1_ok (a1 : Reader_) {v13 : ByteArray} {v14 : Reader_} (h : (f68r1n0 a1) = some (.ret v13 v14)) : CallS Try.prog true 68 [(.bp 0 0)] [some (.box ((Reader_.cells a1).map .pl))] (.pl (.str v13)) [some (.box ((Reader_.cells v14).map .pl))] :=
  CallS.shared cfg_ok (f := Try.f68) (c := c68) (by kernel_rfl) (by kernel_rfl) (by kernel_rfl) ((f68r1n0_ok a1 h).mono fun r e => by subst e; exact ⟨.inl rfl, by kernel_rfl, by kernel_rfl⟩)
theorem f68r1_px (a1 : Reader_) {v12 : Reader_} (h : (f68r1n0 a1) = some (.pan v12)) : CallX Try.prog 68 [(.bp 0 0)] [some (.box ((Reader_.cells a1).map .pl))] panV [some (.box ((Reader_.cells v12).map .pl))] :=
  CallX.shared cfg_ok (f := Try.f68) (c := c68) (by kernel_rfl) (by kernel_rfl) (by kernel_rfl) ((f68r1n0_ok a1 h).mono fun r e => by subst e; exact ⟨rfl, by kernel_rfl⟩)

noncomputable def c60 : Code := Try.f60.body.getD .skip
inductive f60r1n2O where
  | exit0 (v125 : Reader_) (v126 : List JournalLine)
  | pan (v127 : Reader_)
def f60r1n2E (bf1 : Int) (bf2 : Int) (v30 : Int) (bf4 : Int) (bd5 : ByteArray) : f60r1n2O → Ex × Tr × Hp
  | .exit0 v125 v126 => ((.exit 0), mkS [(0, (.bp 0 0)), (4, (.bp 1 0)), (5, (.pl (.bool (decide (bf1 = (wru64 bf2))))))], [some (.box ((Reader_.cells v125).map .pl)), some (.box [(.pl (.int .i64 (wr64 bf4))), (.pl (.str bd5)), (.own 2)]), some (.row false 3 (v126.map JournalLine.cells))])
  | .pan v127 => ((.pan panV), mkS [], [some (.box ((Reader_.cells v127).map .pl))])
def f60r1n2S (bf1 : Int) (bf2 : Int) (v30 : Int) (bf4 : Int) (bd5 : ByteArray) (v92 : Int) (v93 : Reader_) (v94 : List JournalLine) : Tr × Hp := (mkS [(0, (.bp 0 0)), (4, (.bp 1 0)), (5, (.pl (.bool (decide (bf1 = (wru64 bf2)))))), (21, (.pl (.int .u64 v30))), (22, (.pl (.int .u64 v92)))], [some (.box ((Reader_.cells v93).map .pl)), some (.box [(.pl (.int .i64 (wr64 bf4))), (.pl (.str bd5)), (.own 2)]), some (.row false 3 (v94.map JournalLine.cells))])
noncomputable def f60r1n2 : Nat → Int → Int → Int → Int → ByteArray → Int → Reader_ → List JournalLine → Option f60r1n2O
  | 0, _, _, _, _, _, _, _, _ => none
  | f + 1, bf1, bf2, v30, bf4, bd5, v92, v93, v94 =>
    bif (decide (v92 < v30)) then
      (f68r1n0 v93).bind fun o111 => match o111 with
      | .pan v113 => some (.pan v113)
      | .ret v114 v115 => (f68r1n0 v115).bind fun o116 => match o116 with
        | .pan v118 => some (.pan v118)
        | .ret v119 v120 => (f58r1n0 8 v120).bind fun o121 => match o121 with
          | .pan => some (.pan v120)
          | .ret v123 => req (fit (v94.length + 1) 40) <|
            (f60r1n2 f bf1 bf2 v30 bf4 bd5 (wru64 (v92 + 1)) (Reader_.mk (v120.b.drop (Int.toNat 8))) (v94 ++ [(JournalLine.mk v114 v119 (wr64 v123))]))
    else
      some (.exit0 v93 v94)
theorem f60r1n2_ok : ∀ (f : Nat) (bf1 : Int) (bf2 : Int) (v30 : Int) (bf4 : Int) (bd5 : ByteArray) (v92 : Int) (v93 : Reader_) (v94 : List JournalLine) {o : f60r1n2O}, (f60r1n2 f bf1 bf2 v30 bf4 bd5 v92 v93 v94) = some o → TL Try.prog Try.f60.ntmps 1 f (cL (cL (dropC 1 (cL (dropC 3 c60))))) (f60r1n2S bf1 bf2 v30 bf4 bd5 v92 v93 v94) (fun r => r = f60r1n2E bf1 bf2 v30 bf4 bd5 o)
  | 0, _, _, _, _, _, _, _, _, o, h => by rw [f60r1n2] at h; cases h
  | f + 1, bf1, bf2, v30, bf4, bd5, v92, v93, v94, o, h => by
    rw [f60r1n2] at h
    refine TL.body (K := fun s => ∃ v92 : Int, ∃ v93 : Reader_, ∃ v94 : List JournalLine, s = (f60r1n2S bf1 bf2 v30 bf4 bd5 v92 v93 v94) ∧ (f60r1n2 f bf1 bf2 v30 bf4 bd5 v92 v93 v94) = some o) ?_ (by rintro _ ⟨v92, v93, v94, rfl, hk⟩; exact f60r1n2_ok f _ _ _ _ _ _ _ _ hk)
    rcases cond_cases h with ⟨h96, h⟩ | ⟨h96, h⟩
    · obtain ⟨o111, h112, h⟩ := bind_cases h
      cases o111 with
      | pan v113 =>
        obtain rfl := some_inj h
        exact runK_end cfg_ok (k := 3) (rs := [([], [], []), ([], [(1, .pan panV [some (.box ((Reader_.cells v113).map .pl)), none, none] [] 0 [])], [])]) (ps := [some true]) (tds := []) (m := []) (keep := []) (ex := (.pan panV)) (st' := (f60r1n2E bf1 bf2 v30 bf4 bd5 (.pan v113)).2) (by kernel_rfl) (ap h96 (ap (CallX.ren (args' := [(.bp 0 0)]) (B := [some (.box ((Reader_.cells v93).map .pl)), none, none]) (B' := [some (.box ((Reader_.cells v113).map .pl)), none, none]) 3 [0] (f68r1_px v93 h112) (by kernel_rfl) (by kernel_rfl) (by kernel_rfl) (by kernel_rfl) (by kernel_rfl)) an)) (fun h => nomatch h) (LoopQ.out rfl rfl)
      | ret v114 v115 =>
        obtain ⟨o116, h117, h⟩ := bind_cases h
        cases o116 with
        | pan v118 =>
          obtain rfl := some_inj h
          exact runK_end cfg_ok (k := 3) (rs := [([], [], []), ([], [(1, .call (.pl (.str v114)) [some (.box ((Reader_.cells v115).map .pl)), none, none]), (3, .pan panV [some (.box ((Reader_.cells v118).map .pl)), none, none] [] 0 [])], [])]) (ps := [some true]) (tds := []) (m := []) (keep := []) (ex := (.pan panV)) (st' := (f60r1n2E bf1 bf2 v30 bf4 bd5 (.pan v118)).2) (by kernel_rfl) (ap h96 (ap (CallS.ren (args' := [(.bp 0 0)]) (v' := (.pl (.str v114))) (B := [some (.box ((Reader_.cells v93).map .pl)), none, none]) (B' := [some (.box ((Reader_.cells v115).map .pl)), none, none]) 3 [0] (f68r1_ok v93 h112) (by kernel_rfl) (by kernel_rfl) (by kernel_rfl) (by kernel_rfl) (by kernel_rfl) (by kernel_rfl)) (ap (CallX.ren (args' := [(.bp 0 0)]) (B := [some (.box ((Reader_.cells v115).map .pl)), none, none]) (B' := [some (.box ((Reader_.cells v118).map .pl)), none, none]) 3 [0] (f68r1_px v115 h117) (by kernel_rfl) (by kernel_rfl) (by kernel_rfl) (by kernel_rfl) (by kernel_rfl)) an))) (fun h => nomatch h) (LoopQ.out rfl rfl)
        | ret v119 v120 =>
          obtain ⟨o121, h122, h⟩ := bind_cases h
          cases o121 with
          | pan =>
            obtain rfl := some_inj h
            exact runK_end cfg_ok (k := 3) (rs := [([], [], []), ([], [(1, .call (.pl (.str v114)) [some (.box ((Reader_.cells v115).map .pl)), none, none]), (3, .call (.pl (.str v119)) [some (.box ((Reader_.cells v120).map .pl)), none, none])], []), ([], [(5, .pan panV [some (.box ((Reader_.cells v120).map .pl)), none, none] [] 58 [(.bp 0 0), (.pl (.int .i64 8))])], [])]) (ps := [some true]) (tds := []) (m := []) (keep := []) (ex := (.pan panV)) (st' := (f60r1n2E bf1 bf2 v30 bf4 bd5 (.pan v120)).2) (by kernel_rfl) (ap h96 (ap (CallS.ren (args' := [(.bp 0 0)]) (v' := (.pl (.str v114))) (B := [some (.box ((Reader_.cells v93).map .pl)), none, none]) (B' := [some (.box ((Reader_.cells v115).map .pl)), none, none]) 3 [0] (f68r1_ok v93 h112) (by kernel_rfl) (by kernel_rfl) (by kernel_rfl) (by kernel_rfl) (by kernel_rfl) (by kernel_rfl)) (ap (CallS.ren (args' := [(.bp 0 0)]) (v' := (.pl (.str v119))) (B := [some (.box ((Reader_.cells v115).map .pl)), none, none]) (B' := [some (.box ((Reader_.cells v120).map .pl)), none, none]) 3 [0] (f68r1_ok v115 h117) (by kernel_rfl) (by kernel_rfl) (by kernel_rfl) (by kernel_rfl) (by kernel_rfl) (by kernel_rfl)) (ap (CallX.ren (args' := [(.bp 0 0), (.pl (.int .i64 8))]) (B := [some (.box ((Reader_.cells v120).map .pl)), none, none]) (B' := [some (.box ((Reader_.cells v120).map .pl)), none, none]) 3 [0] (f58r1_px 8 v120 h122) (by kernel_rfl) (by kernel_rfl) (by kernel_rfl) (by kernel_rfl) (by kernel_rfl)) an)))) (fun h => nomatch h) (LoopQ.out rfl rfl)
          | ret v123 =>
            obtain ⟨h124, h⟩ := req_cases h
            exact run_end cfg_ok (rs := [([], [], []), ([], [(1, .call (.pl (.str v114)) [some (.box ((Reader_.cells v115).map .pl)), none, none]), (3, .call (.pl (.str v119)) [some (.box ((Reader_.cells v120).map .pl)), none, none])], []), ([], [(5, .call (.pl (.int .u64 v123)) [some (.box ((Reader_.cells (Reader_.mk (v120.b.drop (Int.toNat 8)))).map .pl)), none, none, none, none, none]), (9, .fits)], [(9, .row 4 ((v94 ++ [(JournalLine.mk v114 v119 (wr64 v123))]).map JournalLine.cells))]), ([], [], [])]) (ps := [some true]) (tds := []) (m := [1, 4]) (keep := [0, 4, 5, 21, 22]) (r := (.norm, (f60r1n2S bf1 bf2 v30 bf4 bd5 (wru64 (v92 + 1)) (Reader_.mk (v120.b.drop (Int.toNat 8))) (v94 ++ [(JournalLine.mk v114 v119 (wr64 v123))])))) (by kernel_rfl) (ap h96 (ap (CallS.ren (args' := [(.bp 0 0)]) (v' := (.pl (.str v114))) (B := [some (.box ((Reader_.cells v93).map .pl)), none, none]) (B' := [some (.box ((Reader_.cells v115).map .pl)), none, none]) 3 [0] (f68r1_ok v93 h112) (by kernel_rfl) (by kernel_rfl) (by kernel_rfl) (by kernel_rfl) (by kernel_rfl) (by kernel_rfl)) (ap (CallS.ren (args' := [(.bp 0 0)]) (v' := (.pl (.str v119))) (B := [some (.box ((Reader_.cells v115).map .pl)), none, none]) (B' := [some (.box ((Reader_.cells v120).map .pl)), none, none]) 3 [0] (f68r1_ok v115 h117) (by kernel_rfl) (by kernel_rfl) (by kernel_rfl) (by kernel_rfl) (by kernel_rfl) (by kernel_rfl)) (ap (fit_map (te := ti49) (xs := v94) (n := 1) (c := JournalLine.cells) h124 rfl) (ap (app_cv (xs := v94) (ys := [(JournalLine.mk v114 v119 (wr64 v123))]) (c := JournalLine.cells)) (ap (CallS.ren (args' := [(.bp 0 0), (.pl (.int .i64 8))]) (v' := (.pl (.int .u64 v123))) (B := [some (.box ((Reader_.cells v120).map .pl)), none, none, none, none, none]) (B' := [some (.box ((Reader_.cells (Reader_.mk (v120.b.drop (Int.toNat 8)))).map .pl)), none, none, none, none, none]) 6 [0] (f58r1_ok 8 v120 h122) (by kernel_rfl) (by kernel_rfl) (by kernel_rfl) (by kernel_rfl) (by kernel_rfl) (by kernel_rfl)) an)))))) (LoopQ.norm ⟨(wru64 (v92 + 1)), (Reader_.mk (v120.b.drop (Int.toNat 8))), (v94 ++ [(JournalLine.mk v114 v119 (wr64 v123))]), rfl, h⟩)
    · obtain rfl := some_inj h
      exact runK_end cfg_ok (k := 2) (rs := [([], [], [])]) (ps := [some false]) (tds := []) (m := [1, 2]) (keep := [0, 4, 5]) (ex := (.exit 0)) (st' := (f60r1n2E bf1 bf2 v30 bf4 bd5 (.exit0 v93 v94)).2) (by kernel_rfl) (ap h96 an) (fun h => nomatch h) (LoopQ.out rfl rfl)
inductive f60r1n1O where
  | norm (v133 : Reader_) (v134 : List JournalLine)
  | pan (v135 : Reader_)
def f60r1n1E (bf1 : Int) (bf2 : Int) (bm3 : Reader_) (bf4 : Int) (bd5 : ByteArray) : f60r1n1O → Ex × Tr × Hp
  | .norm v133 v134 => (.norm, mkS [(0, (.bp 0 0)), (4, (.bp 1 0)), (5, (.pl (.bool (decide (bf1 = (wru64 bf2))))))], [some (.box ((Reader_.cells v133).map .pl)), some (.box [(.pl (.int .i64 (wr64 bf4))), (.pl (.str bd5)), (.own 2)]), some (.row false 3 (v134.map JournalLine.cells))])
  | .pan v135 => ((.pan panV), mkS [], [some (.box ((Reader_.cells v135).map .pl))])
def f60r1n1S (bf1 : Int) (bf2 : Int) (bm3 : Reader_) (bf4 : Int) (bd5 : ByteArray) : Tr × Hp := (mkS [(0, (.bp 0 0)), (4, (.bp 1 0)), (5, (.pl (.bool (decide (bf1 = (wru64 bf2))))))], [some (.box ((Reader_.cells bm3).map .pl)), some (.box [(.pl (.int .i64 (wr64 bf4))), (.pl (.str bd5)), (.pl (.sl .nil 0 []))])])
noncomputable def f60r1n1 (bf1 : Int) (bf2 : Int) (bm3 : Reader_) (bf4 : Int) (bd5 : ByteArray) : Option f60r1n1O :=
  (f58r1n0 1 bm3).bind fun o28 => match o28 with
  | .pan => some (.pan bm3)
  | .ret v30 => (f60r1n2 FUEL bf1 bf2 v30 bf4 bd5 0 (Reader_.mk (bm3.b.drop (Int.toNat 1))) []).bind fun o128 => match o128 with
    | .exit0 v130 v131 => some (.norm v130 v131)
    | .pan v132 => some (.pan v132)
theorem f60r1n1_ok (bf1 : Int) (bf2 : Int) (bm3 : Reader_) (bf4 : Int) (bd5 : ByteArray) {o : f60r1n1O} (h : (f60r1n1 bf1 bf2 bm3 bf4 bd5) = some o) : T Try.prog Try.f60.ntmps 1 (cL (dropC 3 c60)) (f60r1n1S bf1 bf2 bm3 bf4 bd5) (fun r => r = f60r1n1E bf1 bf2 bm3 bf4 bd5 o) := by
  unfold f60r1n1 at h
  obtain ⟨o28, h29, h⟩ := bind_cases h
  cases o28 with
  | pan =>
    obtain rfl := some_inj h
    exact runK_end cfg_ok (k := 1) (rs := [([], [(1, .pan panV [some (.box ((Reader_.cells bm3).map .pl)), none] [] 0 [])], [])]) (ps := []) (tds := []) (m := []) (keep := []) (ex := (.pan panV)) (st' := (f60r1n1E bf1 bf2 bm3 bf4 bd5 (.pan bm3)).2) (by kernel_rfl) (ap (CallX.ren (args' := [(.bp 0 0), (.pl (.int .i64 1))]) (B := [some (.box ((Reader_.cells bm3).map .pl)), none]) (B' := [some (.box ((Reader_.cells bm3).map .pl)), none]) 2 [0] (f58r1_px 1 bm3 h29) (by kernel_rfl) (by kernel_rfl) (by kernel_rfl) (by kernel_rfl) (by kernel_rfl)) an) (fun h => nomatch h) rfl
  | ret v30 =>
    refine runK_norm cfg_ok (k := 1) (rs := [([], [(1, .call (.pl (.int .u64 v30)) [some (.box ((Reader_.cells (Reader_.mk (bm3.b.drop (Int.toNat 1)))).map .pl)), none])], [])]) (ps := []) (tds := [.matC 1 2 3]) (m := [1, 2]) (keep := [0, 4, 5, 21, 22]) (st' := (f60r1n2S bf1 bf2 v30 bf4 bd5 0 (Reader_.mk (bm3.b.drop (Int.toNat 1))) [])) (by kernel_rfl) (ap (CallS.ren (args' := [(.bp 0 0), (.pl (.int .i64 1))]) (v' := (.pl (.int .u64 v30))) (B := [some (.box ((Reader_.cells bm3).map .pl)), none]) (B' := [some (.box ((Reader_.cells (Reader_.mk (bm3.b.drop (Int.toNat 1)))).map .pl)), none]) 2 [0] (f58r1_ok 1 bm3 h29) (by kernel_rfl) (by kernel_rfl) (by kernel_rfl) (by kernel_rfl) (by kernel_rfl) (by kernel_rfl)) an) ?_
    obtain ⟨o128, h129, h⟩ := bind_cases h
    cases o128 with
    | exit0 v130 v131 =>
      obtain rfl := some_inj h
      exact T.last' (T.bl (i := 0) (by kernel_rfl) (by kernel_rfl) (f60r1n2_ok FUEL bf1 bf2 v30 bf4 bd5 0 (Reader_.mk (bm3.b.drop (Int.toNat 1))) [] h129)) (tds := []) (m := [1, 2]) (keep := [0, 4, 5]) (st2 := (f60r1n1E bf1 bf2 bm3 bf4 bd5 (.norm v130 v131)).2) (by kernel_rfl) an rfl
    | pan v132 =>
      obtain rfl := some_inj h
      exact T.last' (T.bl (i := 0) (by kernel_rfl) (by kernel_rfl) (f60r1n2_ok FUEL bf1 bf2 v30 bf4 bd5 0 (Reader_.mk (bm3.b.drop (Int.toNat 1))) [] h129)) (tds := []) (m := []) (keep := []) (st2 := (f60r1n1E bf1 bf2 bm3 bf4 bd5 (.pan v132)).2) (by kernel_rfl) an rfl
inductive f60r1n0O where
  | pan (v143 : Reader_)
  | ret (v144 : Bool) (v145 : Reader_) (v146 : Int) (v147 : ByteArray) (v148 : List JournalLine)
def f60r1n0E (a1 : Int) (a2 : Reader_) : f60r1n0O → Ex × Tr × Hp
  | .pan v143 => ((.pan panV), mkS [], [some (.box ((Reader_.cells v143).map .pl))])
  | .ret v144 v145 v146 v147 v148 => (.ret, mkS [(4, (.bp 1 0)), (5, (.pl (.bool v144)))], [some (.box ((Reader_.cells v145).map .pl)), some (.box [(.pl (.int .i64 v146)), (.pl (.str v147)), (.own 2)]), some (.row false 3 (v148.map JournalLine.cells))])
def f60r1n0S (a1 : Int) (a2 : Reader_) : Tr × Hp := (initS [(.bp 0 0), (.pl (.int .i64 a1))] 0 .leaf, [some (.box ((Reader_.cells a2).map .pl))])
noncomputable def f60r1n0 (a1 : Int) (a2 : Reader_) : Option f60r1n0O :=
  (f58r1n0 4 a2).bind fun o6 => match o6 with
  | .pan => some (.pan a2)
  | .ret v8 => (f58r1n0 4 (Reader_.mk (a2.b.drop (Int.toNat 4)))).bind fun o17 => match o17 with
    | .pan => some (.pan (Reader_.mk (a2.b.drop (Int.toNat 4))))
    | .ret v19 => (f68r1n0 (Reader_.mk ((a2.b.drop (Int.toNat 4)).drop (Int.toNat 4)))).bind fun o20 => match o20 with
      | .pan v22 => some (.pan v22)
      | .ret v23 v24 => (f60r1n1 v8 a1 v24 v19 v23).bind fun o136 => match o136 with
        | .norm v138 v139 => bif (decide (v8 = (wru64 a1))) then
            some (.ret (decide ((v138.b.length : Int) = 0)) v138 (wr64 v19) v23 v139)
          else
            some (.ret false v138 (wr64 v19) v23 v139)
        | .pan v142 => some (.pan v142)
theorem f60r1n0_ok (a1 : Int) (a2 : Reader_) {o : f60r1n0O} (h : (f60r1n0 a1 a2) = some o) : T Try.prog Try.f60.ntmps 1 c60 (f60r1n0S a1 a2) (fun r => r = f60r1n0E a1 a2 o) := by
  unfold f60r1n0 at h
  obtain ⟨o6, h7, h⟩ := bind_cases h
  cases o6 with
  | pan =>
    obtain rfl := some_inj h
    exact runK_end cfg_ok (k := 2) (rs := [([], [], []), ([], [(1, .pan panV [some (.box ((Reader_.cells a2).map .pl)), none] [] 0 [])], [])]) (ps := []) (tds := []) (m := []) (keep := []) (ex := (.pan panV)) (st' := (f60r1n0E a1 a2 (.pan a2)).2) (by kernel_rfl) (ap (CallX.ren (args' := [(.bp 0 0), (.pl (.int .i64 4))]) (B := [some (.box ((Reader_.cells a2).map .pl)), none]) (B' := [some (.box ((Reader_.cells a2).map .pl)), none]) 2 [0] (f58r1_px 4 a2 h7) (by kernel_rfl) (by kernel_rfl) (by kernel_rfl) (by kernel_rfl) (by kernel_rfl)) an) (fun h => nomatch h) rfl
  | ret v8 =>
    obtain ⟨o17, h18, h⟩ := bind_cases h
    cases o17 with
    | pan =>
      obtain rfl := some_inj h
      exact runK_end cfg_ok (k := 3) (rs := [([], [], []), ([], [(1, .call (.pl (.int .u64 v8)) [some (.box ((Reader_.cells (Reader_.mk (a2.b.drop (Int.toNat 4)))).map .pl)), none])], []), ([], [(1, .pan panV [some (.box ((Reader_.cells (Reader_.mk (a2.b.drop (Int.toNat 4)))).map .pl)), none] [] 0 [])], [])]) (ps := []) (tds := []) (m := []) (keep := []) (ex := (.pan panV)) (st' := (f60r1n0E a1 a2 (.pan (Reader_.mk (a2.b.drop (Int.toNat 4))))).2) (by kernel_rfl) (ap (CallS.ren (args' := [(.bp 0 0), (.pl (.int .i64 4))]) (v' := (.pl (.int .u64 v8))) (B := [some (.box ((Reader_.cells a2).map .pl)), none]) (B' := [some (.box ((Reader_.cells (Reader_.mk (a2.b.drop (Int.toNat 4)))).map .pl)), none]) 2 [0] (f58r1_ok 4 a2 h7) (by kernel_rfl) (by kernel_rfl) (by kernel_rfl) (by kernel_rfl) (by kernel_rfl) (by kernel_rfl)) (ap (CallX.ren (args' := [(.bp 0 0), (.pl (.int .i64 4))]) (B := [some (.box ((Reader_.cells (Reader_.mk (a2.b.drop (Int.toNat 4)))).map .pl)), none]) (B' := [some (.box ((Reader_.cells (Reader_.mk (a2.b.drop (Int.toNat 4)))).map .pl)), none]) 2 [0] (f58r1_px 4 (Reader_.mk (a2.b.drop (Int.toNat 4))) h18) (by kernel_rfl) (by kernel_rfl) (by kernel_rfl) (by kernel_rfl) (by kernel_rfl)) an)) (fun h => nomatch h) rfl
    | ret v19 =>
      obtain ⟨o20, h21, h⟩ := bind_cases h
      cases o20 with
      | pan v22 =>
        obtain rfl := some_inj h
        exact runK_end cfg_ok (k := 3) (rs := [([], [], []), ([], [(1, .call (.pl (.int .u64 v8)) [some (.box ((Reader_.cells (Reader_.mk (a2.b.drop (Int.toNat 4)))).map .pl)), none])], []), ([], [(1, .call (.pl (.int .u64 v19)) [some (.box ((Reader_.cells (Reader_.mk ((a2.b.drop (Int.toNat 4)).drop (Int.toNat 4)))).map .pl)), none]), (4, .pan panV [some (.box ((Reader_.cells v22).map .pl)), none] [] 0 [])], [])]) (ps := []) (tds := []) (m := []) (keep := []) (ex := (.pan panV)) (st' := (f60r1n0E a1 a2 (.pan v22)).2) (by kernel_rfl) (ap (CallS.ren (args' := [(.bp 0 0), (.pl (.int .i64 4))]) (v' := (.pl (.int .u64 v8))) (B := [some (.box ((Reader_.cells a2).map .pl)), none]) (B' := [some (.box ((Reader_.cells (Reader_.mk (a2.b.drop (Int.toNat 4)))).map .pl)), none]) 2 [0] (f58r1_ok 4 a2 h7) (by kernel_rfl) (by kernel_rfl) (by kernel_rfl) (by kernel_rfl) (by kernel_rfl) (by kernel_rfl)) (ap (CallS.ren (args' := [(.bp 0 0), (.pl (.int .i64 4))]) (v' := (.pl (.int .u64 v19))) (B := [some (.box ((Reader_.cells (Reader_.mk (a2.b.drop (Int.toNat 4)))).map .pl)), none]) (B' := [some (.box ((Reader_.cells (Reader_.mk ((a2.b.drop (Int.toNat 4)).drop (Int.toNat 4)))).map .pl)), none]) 2 [0] (f58r1_ok 4 (Reader_.mk (a2.b.drop (Int.toNat 4))) h18) (by kernel_rfl) (by kernel_rfl) (by kernel_rfl) (by kernel_rfl) (by kernel_rfl) (by kernel_rfl)) (ap (CallX.ren (args' := [(.bp 0 0)]) (B := [some (.box ((Reader_.cells (Reader_.mk ((a2.b.drop (Int.toNat 4)).drop (Int.toNat 4)))).map .pl)), none]) (B' := [some (.box ((Reader_.cells v22).map .pl)), none]) 2 [0] (f68r1_px (Reader_.mk ((a2.b.drop (Int.toNat 4)).drop (Int.toNat 4))) h21) (by kernel_rfl) (by kernel_rfl) (by kernel_rfl) (by kernel_rfl) (by kernel_rfl)) an))) (fun h => nomatch h) rfl
      | ret v23 v24 =>
        refine runK_norm cfg_ok (k := 3) (rs := [([], [], []), ([], [(1, .call (.pl (.int .u64 v8)) [some (.box ((Reader_.cells (Reader_.mk (a2.b.drop (Int.toNat 4)))).map .pl)), none])], []), ([], [(1, .call (.pl (.int .u64 v19)) [some (.box ((Reader_.cells (Reader_.mk ((a2.b.drop (Int.toNat 4)).drop (Int.toNat 4)))).map .pl)), none]), (4, .call (.pl (.str v23)) [some (.box ((Reader_.cells v24).map .pl)), none])], [])]) (ps := []) (tds := []) (m := [1]) (keep := [0, 4, 5]) (st' := (f60r1n1S v8 a1 v24 v19 v23)) (by kernel_rfl) (ap (CallS.ren (args' := [(.bp 0 0), (.pl (.int .i64 4))]) (v' := (.pl (.int .u64 v8))) (B := [some (.box ((Reader_.cells a2).map .pl)), none]) (B' := [some (.box ((Reader_.cells (Reader_.mk (a2.b.drop (Int.toNat 4)))).map .pl)), none]) 2 [0] (f58r1_ok 4 a2 h7) (by kernel_rfl) (by kernel_rfl) (by kernel_rfl) (by kernel_rfl) (by kernel_rfl) (by kernel_rfl)) (ap (CallS.ren (args' := [(.bp 0 0), (.pl (.int .i64 4))]) (v' := (.pl (.int .u64 v19))) (B := [some (.box ((Reader_.cells (Reader_.mk (a2.b.drop (Int.toNat 4)))).map .pl)), none]) (B' := [some (.box ((Reader_.cells (Reader_.mk ((a2.b.drop (Int.toNat 4)).drop (Int.toNat 4)))).map .pl)), none]) 2 [0] (f58r1_ok 4 (Reader_.mk (a2.b.drop (Int.toNat 4))) h18) (by kernel_rfl) (by kernel_rfl) (by kernel_rfl) (by kernel_rfl) (by kernel_rfl) (by kernel_rfl)) (ap (CallS.ren (args' := [(.bp 0 0)]) (v' := (.pl (.str v23))) (B := [some (.box ((Reader_.cells (Reader_.mk ((a2.b.drop (Int.toNat 4)).drop (Int.toNat 4)))).map .pl)), none]) (B' := [some (.box ((Reader_.cells v24).map .pl)), none]) 2 [0] (f68r1_ok (Reader_.mk ((a2.b.drop (Int.toNat 4)).drop (Int.toNat 4))) h21) (by kernel_rfl) (by kernel_rfl) (by kernel_rfl) (by kernel_rfl) (by kernel_rfl) (by kernel_rfl)) an))) ?_
        obtain ⟨o136, h137, h⟩ := bind_cases h
        cases o136 with
        | norm v138 v139 =>
          refine T.oneN (by kernel_rfl) (f60r1n1_ok v8 a1 v24 v19 v23 h137) (st2 := (f60r1n1E v8 a1 v24 v19 v23 (.norm v138 v139)).2) rfl ?_
          rcases cond_cases h with ⟨h141, h⟩ | ⟨h141, h⟩
          · obtain rfl := some_inj h
            exact run_end cfg_ok (rs := [([(3, true), (4, true), (5, true), (6, true), (7, true), (8, true)], [(9, .bool true)], [(7, .val (.pl (.int .i64 (v138.b.length : Int))))])]) (ps := []) (tds := []) (m := [1, 2]) (keep := [4, 5]) (r := (.ret, (f60r1n0E a1 a2 (.ret (decide ((v138.b.length : Int) = 0)) v138 (wr64 v19) v23 v139)).2)) (by kernel_rfl) (ap h141 (ap h141 (ap h141 (ap h141 (ap h141 (ap (len_cv (xs := v138.b) (c := (cInt .u8))) (ap h141 (ap h141 an)))))))) rfl
          · obtain rfl := some_inj h
            exact run_end cfg_ok (rs := [([(3, false), (4, false), (5, false), (6, false), (7, false), (8, false)], [(9, .bool false)], [])]) (ps := []) (tds := []) (m := [1, 2]) (keep := [4, 5]) (r := (.ret, (f60r1n0E a1 a2 (.ret false v138 (wr64 v19) v23 v139)).2)) (by kernel_rfl) (ap h141 (ap h141 (ap h141 (ap h141 (ap h141 (ap h141 (ap h141 an))))))) rfl
        | pan v142 =>
          obtain rfl := some_inj h
          exact T.oneX' (by kernel_rfl) (f60r1n1_ok v8 a1 v24 v19 v23 h137) (tds := []) (m := []) (keep := []) (st2 := (f60r1n0E a1 a2 (.pan v142)).2) (by kernel_rfl) an rfl rfl
theorem f60r1_ok (a1 : Int) (a2 : Reader_) {v144 : Bool} {v145 : Reader_} {v146 : Int} {v147 : ByteArray} {v148 : List JournalLine} (h : (f60r1n0 a1 a2) = some (.ret v144 v145 v146 v147 v148)) : CallS Try.prog true 60 [(.bp 0 0), (.pl (.int .i64 a1))] [some (.box ((Reader_.cells a2).map .pl))] (.tup [(.agg [(.pl (.int .i64 v146)), (.pl (.str v147)), (.own 2)]), (.pl (.bool v144))]) [some (.box ((Reader_.cells v145).map .pl)), some (.box [(.pl (.int .i64 v146)), (.pl (.str v147)), (.own 2)]), some (.row false 3 (v148.map JournalLine.cells))] :=
  CallS.shared cfg_ok (f := Try.f60) (c := c60) (by kernel_rfl) (by kernel_rfl) (by kernel_rfl) ((f60r1n0_ok a1 a2 h).mono fun r e => by subst e; exact ⟨.inl rfl, by kernel_rfl, by kernel_rfl⟩)
theorem f60r1_px (a1 : Int) (a2 : Reader_) {v143 : Reader_} (h : (f60r1n0 a1 a2) = some (.pan v143)) : CallX Try.prog 60 [(.bp 0 0), (.pl (.int .i64 a1))] [some (.box ((Reader_.cells a2).map .pl))] panV [some (.box ((Reader_.cells v143).map .pl))] :=
  CallX.shared cfg_ok (f := Try.f60) (c := c60) (by kernel_rfl) (by kernel_rfl) (by kernel_rfl) ((f60r1n0_ok a1 a2 h).mono fun r e => by subst e; exact ⟨rfl, by kernel_rfl⟩)

noncomputable def c43 : Code := Try.f43.body.getD .skip
inductive f43r1n0O where
  | pan (v44 : Reader_) (v45 : Int)
  | ret (v46 : Reader_) (v47 : Int) (v48 : ByteArray) (v49 : Int) (v50 : Bool) (v51 : List JournalLine)
def f43r1n0E (a1 : Int) (a2 : Int) (a3 : Reader_) : f43r1n0O → Ex × Tr × Hp
  | .pan v44 v45 => ((.pan panV), mkS [(6, (.bp 1 0)), (7, (.bp 2 0)), (8, (.bp 3 0))], [some (.box ((Reader_.cells v44).map .pl)), some (.box [(.pl (.int .i64 0)), (.pl (.str str_x)), (.pl (.sl .nil 0 []))]), some (.box (((cInt .u64) v45).map .pl)), some (.box ((cBool false).map .pl))])
  | .ret v46 v47 v48 v49 v50 v51 => (.ret, mkS [(6, (.bp 1 0)), (7, (.bp 2 0)), (8, (.bp 3 0))], [some (.box ((Reader_.cells v46).map .pl)), some (.box [(.pl (.int .i64 v47)), (.pl (.str v48)), (.own 4)]), some (.box (((cInt .u64) v49).map .pl)), some (.box ((cBool v50).map .pl)), some (.row false 3 (v51.map JournalLine.cells))])
def f43r1n0S (a1 : Int) (a2 : Int) (a3 : Reader_) : Tr × Hp := (mkS [(0, (.bp 0 0)), (1, (.pl (.int .i64 a1))), (2, (.pl (.int .u64 a2))), (6, (.bp 1 0)), (7, (.bp 2 0)), (8, (.bp 3 0))], [some (.box ((Reader_.cells a3).map .pl)), some (.box [(.pl (.int .i64 0)), (.pl (.str str_x)), (.pl (.sl .nil 0 []))]), some (.box (((cInt .u64) 0).map .pl)), some (.box ((cBool false).map .pl))])
noncomputable def f43r1n0 (a1 : Int) (a2 : Int) (a3 : Reader_) : Option f43r1n0O :=
  (f58r1n0 4 a3).bind fun o7 => match o7 with
  | .pan => some (.pan a3 0)
  | .ret v9 => bif (decide ((wru64 ((a3.b.drop (Int.toNat 4)).length : Int)) < v9)) then
      some (.ret (Reader_.mk (a3.b.drop (Int.toNat 4))) 0 str_x 0 false [])
    else
      (f59r1n0 (wr64 v9) (Reader_.mk (a3.b.drop (Int.toNat 4)))).bind fun o14 => match o14 with
      | .pan => some (.pan (Reader_.mk (a3.b.drop (Int.toNat 4))) 0)
      | .ret => (f20 a2 (((a3.b.drop (Int.toNat 4)).take (Int.toNat (wr64 v9))).drop 0)).bind fun x18 =>
        (f58r1n0 8 (Reader_.mk ((a3.b.drop (Int.toNat 4)).drop (Int.toNat (wr64 v9))))).bind fun o24 => match o24 with
        | .pan => some (.pan (Reader_.mk ((a3.b.drop (Int.toNat 4)).drop (Int.toNat (wr64 v9)))) x18)
        | .ret v26 => bif (decide (v26 = x18)) then
            (f60r1n0 a1 (Reader_.mk (((a3.b.drop (Int.toNat 4)).take (Int.toNat (wr64 v9))).drop 0))).bind fun o36 => match o36 with
            | .pan v38 => some (.pan (Reader_.mk (((a3.b.drop (Int.toNat 4)).drop (Int.toNat (wr64 v9))).drop (Int.toNat 8))) x18)
            | .ret v39 v40 v41 v42 v43 => some (.ret (Reader_.mk (((a3.b.drop (Int.toNat 4)).drop (Int.toNat (wr64 v9))).drop (Int.toNat 8))) v41 v42 x18 v39 v43)
          else
            some (.ret (Reader_.mk (((a3.b.drop (Int.toNat 4)).drop (Int.toNat (wr64 v9))).drop (Int.toNat 8))) 0 str_x 0 false [])
theorem f43r1n0_ok (a1 : Int) (a2 : Int) (a3 : Reader_) {o : f43r1n0O} (h : (f43r1n0 a1 a2 a3) = some o) : T Try.prog Try.f43.ntmps 4 (cR (cR c43)) (f43r1n0S a1 a2 a3) (fun r => r = f43r1n0E a1 a2 a3 o) := by
  unfold f43r1n0 at h
  obtain ⟨o7, h8, h⟩ := bind_cases h
  cases o7 with
  | pan =>
    obtain rfl := some_inj h
    exact runK_end cfg_ok (k := 1) (rs := [([], [(1, .pan panV [some (.box ((Reader_.cells a3).map .pl)), none, none, none] [] 0 [])], [])]) (ps := []) (tds := []) (m := []) (keep := [6, 7, 8]) (ex := (.pan panV)) (st' := (f43r1n0E a1 a2 a3 (.pan a3 0)).2) (by kernel_rfl) (ap (CallX.ren (args' := [(.bp 0 0), (.pl (.int .i64 4))]) (B := [some (.box ((Reader_.cells a3).map .pl)), none, none, none]) (B' := [some (.box ((Reader_.cells a3).map .pl)), none, none, none]) 4 [0] (f58r1_px 4 a3 h8) (by kernel_rfl) (by kernel_rfl) (by kernel_rfl) (by kernel_rfl) (by kernel_rfl)) an) (fun h => nomatch h) rfl
  | ret v9 =>
    rcases cond_cases h with ⟨h11, h⟩ | ⟨h11, h⟩
    · obtain rfl := some_inj h
      exact runK_end cfg_ok (k := 2) (rs := [([], [(1, .call (.pl (.int .u64 v9)) [some (.box ((Reader_.cells (Reader_.mk (a3.b.drop (Int.toNat 4)))).map .pl)), none, none, none])], []), ([], [], [(5, .val (.pl (.int .i64 ((a3.b.drop (Int.toNat 4)).length : Int))))]), ([], [], [])]) (ps := [some true]) (tds := [.matC 1 2 3]) (m := [4]) (keep := [6, 7, 8]) (ex := .ret) (st' := (f43r1n0E a1 a2 a3 (.ret (Reader_.mk (a3.b.drop (Int.toNat 4))) 0 str_x 0 false [])).2) (by kernel_rfl) (ap (CallS.ren (args' := [(.bp 0 0), (.pl (.int .i64 4))]) (v' := (.pl (.int .u64 v9))) (B := [some (.box ((Reader_.cells a3).map .pl)), none, none, none]) (B' := [some (.box ((Reader_.cells (Reader_.mk (a3.b.drop (Int.toNat 4)))).map .pl)), none, none, none]) 4 [0] (f58r1_ok 4 a3 h8) (by kernel_rfl) (by kernel_rfl) (by kernel_rfl) (by kernel_rfl) (by kernel_rfl) (by kernel_rfl)) (ap (len_cv (xs := (a3.b.drop (Int.toNat 4))) (c := (cInt .u8))) (ap h11 an))) (fun h => nomatch h) rfl
    · obtain ⟨o14, h15, h⟩ := bind_cases h
      cases o14 with
      | pan =>
        obtain rfl := some_inj h
        exact runK_end cfg_ok (k := 3) (rs := [([], [(1, .call (.pl (.int .u64 v9)) [some (.box ((Reader_.cells (Reader_.mk (a3.b.drop (Int.toNat 4)))).map .pl)), none, none, none])], []), ([], [], [(5, .val (.pl (.int .i64 ((a3.b.drop (Int.toNat 4)).length : Int))))]), ([], [(3, .pan panV [some (.box ((Reader_.cells (Reader_.mk (a3.b.drop (Int.toNat 4)))).map .pl)), none, none, none] [] 0 [])], [])]) (ps := [some false]) (tds := []) (m := []) (keep := [6, 7, 8]) (ex := (.pan panV)) (st' := (f43r1n0E a1 a2 a3 (.pan (Reader_.mk (a3.b.drop (Int.toNat 4))) 0)).2) (by kernel_rfl) (ap (CallS.ren (args' := [(.bp 0 0), (.pl (.int .i64 4))]) (v' := (.pl (.int .u64 v9))) (B := [some (.box ((Reader_.cells a3).map .pl)), none, none, none]) (B' := [some (.box ((Reader_.cells (Reader_.mk (a3.b.drop (Int.toNat 4)))).map .pl)), none, none, none]) 4 [0] (f58r1_ok 4 a3 h8) (by kernel_rfl) (by kernel_rfl) (by kernel_rfl) (by kernel_rfl) (by kernel_rfl) (by kernel_rfl)) (ap (len_cv (xs := (a3.b.drop (Int.toNat 4))) (c := (cInt .u8))) (ap h11 (ap (CallX.ren (args' := [(.bp 0 0), (.pl (.int .i64 (wr64 v9)))]) (B := [some (.box ((Reader_.cells (Reader_.mk (a3.b.drop (Int.toNat 4)))).map .pl)), none, none, none]) (B' := [some (.box ((Reader_.cells (Reader_.mk (a3.b.drop (Int.toNat 4)))).map .pl)), none, none, none]) 4 [0] (f59r1_px (wr64 v9) (Reader_.mk (a3.b.drop (Int.toNat 4))) h15) (by kernel_rfl) (by kernel_rfl) (by kernel_rfl) (by kernel_rfl) (by kernel_rfl)) an)))) (fun h => nomatch h) rfl
      | ret =>
        obtain ⟨x18, h19, h⟩ := bind_cases h
        obtain ⟨o24, h25, h⟩ := bind_cases h
        cases o24 with
        | pan =>
          obtain rfl := some_inj h
          exact runK_end cfg_ok (k := 5) (rs := [([], [(1, .call (.pl (.int .u64 v9)) [some (.box ((Reader_.cells (Reader_.mk (a3.b.drop (Int.toNat 4)))).map .pl)), none, none, none])], []), ([], [], [(5, .val (.pl (.int .i64 ((a3.b.drop (Int.toNat 4)).length : Int))))]), ([], [(3, .call (.pl (.sl .any 1 ((((a3.b.drop (Int.toNat 4)).take (Int.toNat (wr64 v9))).drop 0).map (cInt .u8)))) [some (.box ((Reader_.cells (Reader_.mk ((a3.b.drop (Int.toNat 4)).drop (Int.toNat (wr64 v9))))).map .pl)), none, none, none])], []), ([], [(2, .call (.pl (.int .u64 x18)) [])], []), ([], [(1, .pan panV [some (.box ((Reader_.cells (Reader_.mk ((a3.b.drop (Int.toNat 4)).drop (Int.toNat (wr64 v9))))).map .pl)), none, none, none] [6, 7, 8] 58 [(.bp 0 0), (.pl (.int .i64 8))])], [])]) (ps := [some false]) (tds := []) (m := []) (keep := [6, 7, 8]) (ex := (.pan panV)) (st' := (f43r1n0E a1 a2 a3 (.pan (Reader_.mk ((a3.b.drop (Int.toNat 4)).drop (Int.toNat (wr64 v9)))) x18)).2) (by kernel_rfl) (ap (CallS.ren (args' := [(.bp 0 0), (.pl (.int .i64 4))]) (v' := (.pl (.int .u64 v9))) (B := [some (.box ((Reader_.cells a3).map .pl)), none, none, none]) (B' := [some (.box ((Reader_.cells (Reader_.mk (a3.b.drop (Int.toNat 4)))).map .pl)), none, none, none]) 4 [0] (f58r1_ok 4 a3 h8) (by kernel_rfl) (by kernel_rfl) (by kernel_rfl) (by kernel_rfl) (by kernel_rfl) (by kernel_rfl)) (ap (len_cv (xs := (a3.b.drop (Int.toNat 4))) (c := (cInt .u8))) (ap h11 (ap (CallS.ren (args' := [(.bp 0 0), (.pl (.int .i64 (wr64 v9)))]) (v' := (.pl (.sl .any 1 ((((a3.b.drop (Int.toNat 4)).take (Int.toNat (wr64 v9))).drop 0).map (cInt .u8))))) (B := [some (.box ((Reader_.cells (Reader_.mk (a3.b.drop (Int.toNat 4)))).map .pl)), none, none, none]) (B' := [some (.box ((Reader_.cells (Reader_.mk ((a3.b.drop (Int.toNat 4)).drop (Int.toNat (wr64 v9))))).map .pl)), none, none, none]) 4 [0] (f59r1_ok (wr64 v9) (Reader_.mk (a3.b.drop (Int.toNat 4))) h15) (by kernel_rfl) (by kernel_rfl) (by kernel_rfl) (by kernel_rfl) (by kernel_rfl) (by kernel_rfl)) (ap (f20_ok a2 (((a3.b.drop (Int.toNat 4)).take (Int.toNat (wr64 v9))).drop 0) h19) (ap (CallX.ren (args' := [(.bp 0 0), (.pl (.int .i64 8))]) (B := [some (.box ((Reader_.cells (Reader_.mk ((a3.b.drop (Int.toNat 4)).drop (Int.toNat (wr64 v9))))).map .pl)), none, none, none]) (B' := [some (.box ((Reader_.cells (Reader_.mk ((a3.b.drop (Int.toNat 4)).drop (Int.toNat (wr64 v9))))).map .pl)), none, none, none]) 4 [0] (f58r1_px 8 (Reader_.mk ((a3.b.drop (Int.toNat 4)).drop (Int.toNat (wr64 v9)))) h25) (by kernel_rfl) (by kernel_rfl) (by kernel_rfl) (by kernel_rfl) (by kernel_rfl)) an)))))) (fun h => nomatch h) rfl
        | ret v26 =>
          rcases cond_cases h with ⟨h27, h⟩ | ⟨h27, h⟩
          · obtain ⟨o36, h37, h⟩ := bind_cases h
            cases o36 with
            | pan v38 =>
              obtain rfl := some_inj h
              exact runK_end cfg_ok (k := 6) (rs := [([], [(1, .call (.pl (.int .u64 v9)) [some (.box ((Reader_.cells (Reader_.mk (a3.b.drop (Int.toNat 4)))).map .pl)), none, none, none])], []), ([], [], [(5, .val (.pl (.int .i64 ((a3.b.drop (Int.toNat 4)).length : Int))))]), ([], [(3, .call (.pl (.sl .any 1 ((((a3.b.drop (Int.toNat 4)).take (Int.toNat (wr64 v9))).drop 0).map (cInt .u8)))) [some (.box ((Reader_.cells (Reader_.mk ((a3.b.drop (Int.toNat 4)).drop (Int.toNat (wr64 v9))))).map .pl)), none, none, none])], []), ([], [(2, .call (.pl (.int .u64 x18)) [])], []), ([], [(1, .call (.pl (.int .u64 v26)) [some (.box ((Reader_.cells (Reader_.mk (((a3.b.drop (Int.toNat 4)).drop (Int.toNat (wr64 v9))).drop (Int.toNat 8)))).map .pl)), none, none, none, none])], []), ([], [(4, .pan panV [none, none, none, none, none, some (.box ((Reader_.cells v38).map .pl))] [] 0 [])], [])]) (ps := [some false, some false]) (tds := []) (m := []) (keep := [6, 7, 8]) (ex := (.pan panV)) (st' := (f43r1n0E a1 a2 a3 (.pan (Reader_.mk (((a3.b.drop (Int.toNat 4)).drop (Int.toNat (wr64 v9))).drop (Int.toNat 8))) x18)).2) (by kernel_rfl) (ap (CallS.ren (args' := [(.bp 0 0), (.pl (.int .i64 4))]) (v' := (.pl (.int .u64 v9))) (B := [some (.box ((Reader_.cells a3).map .pl)), none, none, none]) (B' := [some (.box ((Reader_.cells (Reader_.mk (a3.b.drop (Int.toNat 4)))).map .pl)), none, none, none]) 4 [0] (f58r1_ok 4 a3 h8) (by kernel_rfl) (by kernel_rfl) (by kernel_rfl) (by kernel_rfl) (by kernel_rfl) (by kernel_rfl)) (ap (len_cv (xs := (a3.b.drop (Int.toNat 4))) (c := (cInt .u8))) (ap h11 (ap (CallS.ren (args' := [(.bp 0 0), (.pl (.int .i64 (wr64 v9)))]) (v' := (.pl (.sl .any 1 ((((a3.b.drop (Int.toNat 4)).take (Int.toNat (wr64 v9))).drop 0).map (cInt .u8))))) (B := [some (.box ((Reader_.cells (Reader_.mk (a3.b.drop (Int.toNat 4)))).map .pl)), none, none, none]) (B' := [some (.box ((Reader_.cells (Reader_.mk ((a3.b.drop (Int.toNat 4)).drop (Int.toNat (wr64 v9))))).map .pl)), none, none, none]) 4 [0] (f59r1_ok (wr64 v9) (Reader_.mk (a3.b.drop (Int.toNat 4))) h15) (by kernel_rfl) (by kernel_rfl) (by kernel_rfl) (by kernel_rfl) (by kernel_rfl) (by kernel_rfl)) (ap (f20_ok a2 (((a3.b.drop (Int.toNat 4)).take (Int.toNat (wr64 v9))).drop 0) h19) (ap (CallS.ren (args' := [(.bp 0 0), (.pl (.int .i64 8))]) (v' := (.pl (.int .u64 v26))) (B := [some (.box ((Reader_.cells (Reader_.mk ((a3.b.drop (Int.toNat 4)).drop (Int.toNat (wr64 v9))))).map .pl)), none, none, none, none]) (B' := [some (.box ((Reader_.cells (Reader_.mk (((a3.b.drop (Int.toNat 4)).drop (Int.toNat (wr64 v9))).drop (Int.toNat 8)))).map .pl)), none, none, none, none]) 5 [0] (f58r1_ok 8 (Reader_.mk ((a3.b.drop (Int.toNat 4)).drop (Int.toNat (wr64 v9)))) h25) (by kernel_rfl) (by kernel_rfl) (by kernel_rfl) (by kernel_rfl) (by kernel_rfl) (by kernel_rfl)) (ap (not_t h27) (ap (CallX.ren (args' := [(.bp 5 0), (.pl (.int .i64 a1))]) (B := [none, none, none, none, none, some (.box ((Reader_.cells (Reader_.mk (((a3.b.drop (Int.toNat 4)).take (Int.toNat (wr64 v9))).drop 0))).map .pl))]) (B' := [none, none, none, none, none, some (.box ((Reader_.cells v38).map .pl))]) 6 [5] (f60r1_px a1 (Reader_.mk (((a3.b.drop (Int.toNat 4)).take (Int.toNat (wr64 v9))).drop 0)) h37) (by kernel_rfl) (by kernel_rfl) (by kernel_rfl) (by kernel_rfl) (by kernel_rfl)) an)))))))) (fun h => nomatch h) rfl
            | ret v39 v40 v41 v42 v43 =>
              obtain rfl := some_inj h
              exact run_end cfg_ok (rs := [([], [(1, .call (.pl (.int .u64 v9)) [some (.box ((Reader_.cells (Reader_.mk (a3.b.drop (Int.toNat 4)))).map .pl)), none, none, none])], []), ([], [], [(5, .val (.pl (.int .i64 ((a3.b.drop (Int.toNat 4)).length : Int))))]), ([], [(3, .call (.pl (.sl .any 1 ((((a3.b.drop (Int.toNat 4)).take (Int.toNat (wr64 v9))).drop 0).map (cInt .u8)))) [some (.box ((Reader_.cells (Reader_.mk ((a3.b.drop (Int.toNat 4)).drop (Int.toNat (wr64 v9))))).map .pl)), none, none, none])], []), ([], [(2, .call (.pl (.int .u64 x18)) [])], []), ([], [(1, .call (.pl (.int .u64 v26)) [some (.box ((Reader_.cells (Reader_.mk (((a3.b.drop (Int.toNat 4)).drop (Int.toNat (wr64 v9))).drop (Int.toNat 8)))).map .pl)), none, none, none, none])], []), ([], [(4, .call (.tup [(.agg [(.pl (.int .i64 v41)), (.pl (.str v42)), (.own 7)]), (.pl (.bool v39))]) [none, none, none, none, none, some (.box ((Reader_.cells v40).map .pl)), some (.box [(.pl (.int .i64 v41)), (.pl (.str v42)), (.own 7)]), some (.row false 3 (v43.map JournalLine.cells))])], []), ([], [], [])]) (ps := [some false, some false]) (tds := []) (m := [7]) (keep := [6, 7, 8]) (r := (.ret, (f43r1n0E a1 a2 a3 (.ret (Reader_.mk (((a3.b.drop (Int.toNat 4)).drop (Int.toNat (wr64 v9))).drop (Int.toNat 8))) v41 v42 x18 v39 v43)).2)) (by kernel_rfl) (ap (CallS.ren (args' := [(.bp 0 0), (.pl (.int .i64 4))]) (v' := (.pl (.int .u64 v9))) (B := [some (.box ((Reader_.cells a3).map .pl)), none, none, none]) (B' := [some (.box ((Reader_.cells (Reader_.mk (a3.b.drop (Int.toNat 4)))).map .pl)), none, none, none]) 4 [0] (f58r1_ok 4 a3 h8) (by kernel_rfl) (by kernel_rfl) (by kernel_rfl) (by kernel_rfl) (by kernel_rfl) (by kernel_rfl)) (ap (len_cv (xs := (a3.b.drop (Int.toNat 4))) (c := (cInt .u8))) (ap h11 (ap (CallS.ren (args' := [(.bp 0 0), (.pl (.int .i64 (wr64 v9)))]) (v' := (.pl (.sl .any 1 ((((a3.b.drop (Int.toNat 4)).take (Int.toNat (wr64 v9))).drop 0).map (cInt .u8))))) (B := [some (.box ((Reader_.cells (Reader_.mk (a3.b.drop (Int.toNat 4)))).map .pl)), none, none, none]) (B' := [some (.box ((Reader_.cells (Reader_.mk ((a3.b.drop (Int.toNat 4)).drop (Int.toNat (wr64 v9))))).map .pl)), none, none, none]) 4 [0] (f59r1_ok (wr64 v9) (Reader_.mk (a3.b.drop (Int.toNat 4))) h15) (by kernel_rfl) (by kernel_rfl) (by kernel_rfl) (by kernel_rfl) (by kernel_rfl) (by kernel_rfl)) (ap (f20_ok a2 (((a3.b.drop (Int.toNat 4)).take (Int.toNat (wr64 v9))).drop 0) h19) (ap (CallS.ren (args' := [(.bp 0 0), (.pl (.int .i64 8))]) (v' := (.pl (.int .u64 v26))) (B := [some (.box ((Reader_.cells (Reader_.mk ((a3.b.drop (Int.toNat 4)).drop (Int.toNat (wr64 v9))))).map .pl)), none, none, none, none]) (B' := [some (.box ((Reader_.cells (Reader_.mk (((a3.b.drop (Int.toNat 4)).drop (Int.toNat (wr64 v9))).drop (Int.toNat 8)))).map .pl)), none, none, none, none]) 5 [0] (f58r1_ok 8 (Reader_.mk ((a3.b.drop (Int.toNat 4)).drop (Int.toNat (wr64 v9)))) h25) (by kernel_rfl) (by kernel_rfl) (by kernel_rfl) (by kernel_rfl) (by kernel_rfl) (by kernel_rfl)) (ap (not_t h27) (ap (CallS.ren (args' := [(.bp 5 0), (.pl (.int .i64 a1))]) (v' := (.tup [(.agg [(.pl (.int .i64 v41)), (.pl (.str v42)), (.own 7)]), (.pl (.bool v39))])) (B := [none, none, none, none, none, some (.box ((Reader_.cells (Reader_.mk (((a3.b.drop (Int.toNat 4)).take (Int.toNat (wr64 v9))).drop 0))).map .pl))]) (B' := [none, none, none, none, none, some (.box ((Reader_.cells v40).map .pl)), some (.box [(.pl (.int .i64 v41)), (.pl (.str v42)), (.own 7)]), some (.row false 3 (v43.map JournalLine.cells))]) 6 [5] (f60r1_ok a1 (Reader_.mk (((a3.b.drop (Int.toNat 4)).take (Int.toNat (wr64 v9))).drop 0)) h37) (by kernel_rfl) (by kernel_rfl) (by kernel_rfl) (by kernel_rfl) (by kernel_rfl) (by kernel_rfl)) an)))))))) rfl
          · obtain rfl := some_inj h
            exact runK_end cfg_ok (k := 5) (rs := [([], [(1, .call (.pl (.int .u64 v9)) [some (.box ((Reader_.cells (Reader_.mk (a3.b.drop (Int.toNat 4)))).map .pl)), none, none, none])], []), ([], [], [(5, .val (.pl (.int .i64 ((a3.b.drop (Int.toNat 4)).length : Int))))]), ([], [(3, .call (.pl (.sl .any 1 ((((a3.b.drop (Int.toNat 4)).take (Int.toNat (wr64 v9))).drop 0).map (cInt .u8)))) [some (.box ((Reader_.cells (Reader_.mk ((a3.b.drop (Int.toNat 4)).drop (Int.toNat (wr64 v9))))).map .pl)), none, none, none])], []), ([], [(2, .call (.pl (.int .u64 x18)) [])], []), ([], [(1, .call (.pl (.int .u64 v26)) [some (.box ((Reader_.cells (Reader_.mk (((a3.b.drop (Int.toNat 4)).drop (Int.toNat (wr64 v9))).drop (Int.toNat 8)))).map .pl)), none, none, none, none])], []), ([], [], [])]) (ps := [some false, some true]) (tds := [.matC 1 2 3]) (m := [5]) (keep := [6, 7, 8]) (ex := .ret) (st' := (f43r1n0E a1 a2 a3 (.ret (Reader_.mk (((a3.b.drop (Int.toNat 4)).drop (Int.toNat (wr64 v9))).drop (Int.toNat 8))) 0 str_x 0 false [])).2) (by kernel_rfl) (ap (CallS.ren (args' := [(.bp 0 0), (.pl (.int .i64 4))]) (v' := (.pl (.int .u64 v9))) (B := [some (.box ((Reader_.cells a3).map .pl)), none, none, none]) (B' := [some (.box ((Reader_.cells (Reader_.mk (a3.b.drop (Int.toNat 4)))).map .pl)), none, none, none]) 4 [0] (f58r1_ok 4 a3 h8) (by kernel_rfl) (by kernel_rfl) (by kernel_rfl) (by kernel_rfl) (by kernel_rfl) (by kernel_rfl)) (ap (len_cv (xs := (a3.b.drop (Int.toNat 4))) (c := (cInt .u8))) (ap h11 (ap (CallS.ren (args' := [(.bp 0 0), (.pl (.int .i64 (wr64 v9)))]) (v' := (.pl (.sl .any 1 ((((a3.b.drop (Int.toNat 4)).take (Int.toNat (wr64 v9))).drop 0).map (cInt .u8))))) (B := [some (.box ((Reader_.cells (Reader_.mk (a3.b.drop (Int.toNat 4)))).map .pl)), none, none, none]) (B' := [some (.box ((Reader_.cells (Reader_.mk ((a3.b.drop (Int.toNat 4)).drop (Int.toNat (wr64 v9))))).map .pl)), none, none, none]) 4 [0] (f59r1_ok (wr64 v9) (Reader_.mk (a3.b.drop (Int.toNat 4))) h15) (by kernel_rfl) (by kernel_rfl) (by kernel_rfl) (by kernel_rfl) (by kernel_rfl) (by kernel_rfl)) (ap (f20_ok a2 (((a3.b.drop (Int.toNat 4)).take (Int.toNat (wr64 v9))).drop 0) h19) (ap (CallS.ren (args' := [(.bp 0 0), (.pl (.int .i64 8))]) (v' := (.pl (.int .u64 v26))) (B := [some (.box ((Reader_.cells (Reader_.mk ((a3.b.drop (Int.toNat 4)).drop (Int.toNat (wr64 v9))))).map .pl)), none, none, none, none]) (B' := [some (.box ((Reader_.cells (Reader_.mk (((a3.b.drop (Int.toNat 4)).drop (Int.toNat (wr64 v9))).drop (Int.toNat 8)))).map .pl)), none, none, none, none]) 5 [0] (f58r1_ok 8 (Reader_.mk ((a3.b.drop (Int.toNat 4)).drop (Int.toNat (wr64 v9)))) h25) (by kernel_rfl) (by kernel_rfl) (by kernel_rfl) (by kernel_rfl) (by kernel_rfl) (by kernel_rfl)) (ap (not_f h27) an))))))) (fun h => nomatch h) rfl
noncomputable def c57 : Code := Try.f57.body.getD .skip
noncomputable def f43r1 (a1 : Int) (a2 : Int) (a3 : Reader_) : Option (Reader_ × Int × ByteArray × Int × Bool × (List JournalLine)) := (f43r1n0 a1 a2 a3).bind fun o => match o with
  | .ret v46 v47 v48 v49 v50 v51 => some (v46, v47, v48, v49, v50, v51)
  | .pan v44 v45 => some (v44, 0, str_x, 0, false, [])
theorem f43r1_ok (a1 : Int) (a2 : Int) (a3 : Reader_) {r : Reader_ × Int × ByteArray × Int × Bool × (List JournalLine)} (h : (f43r1 a1 a2 a3) = some r) : CallS Try.prog true 43 [(.bp 0 0), (.pl (.int .i64 a1)), (.pl (.int .u64 a2))] [some (.box ((Reader_.cells a3).map .pl))] (.tup [(.agg [(.pl (.int .i64 r.2.1)), (.pl (.str r.2.2.1)), (.own 4)]), (.pl (.int .u64 r.2.2.2.1)), (.pl (.bool r.2.2.2.2.1))]) [some (.box ((Reader_.cells r.1).map .pl)), some (.box [(.pl (.int .i64 r.2.1)), (.pl (.str r.2.2.1)), (.own 4)]), some (.box (((cInt .u64) r.2.2.2.1).map .pl)), some (.box ((cBool r.2.2.2.2.1).map .pl)), some (.row false 3 (r.2.2.2.2.2.map JournalLine.cells))] := by
  unfold f43r1 at h
  obtain ⟨o, ho, h⟩ := bind_cases h
  have hA := run_ok (P := Try.prog) (C := cfg) (n := Try.f43.ntmps) (base := 1) (st := (initS [(.bp 0 0), (.pl (.int .i64 a1)), (.pl (.int .u64 a2))] 0 .leaf, [some (.box ((Reader_.cells a3).map .pl))])) cfg_ok (c := cL c43) (rs := [([], [], [])]) (ps := []) (tds := []) (m := [1, 2, 3]) (keep := [0, 1, 2, 6, 7, 8]) (r := (.norm, ((mkS [(0, (.bp 0 0)), (1, (.pl (.int .i64 a1))), (2, (.pl (.int .u64 a2))), (6, (.bp 1 0)), (7, (.bp 2 0)), (8, (.bp 3 0))], [some (.box ((Reader_.cells a3).map .pl)), some (.box [(.pl (.int .i64 0)), (.pl (.str str_x)), (.pl (.sl .nil 0 []))]), some (.box (((cInt .u64) 0).map .pl)), some (.box ((cBool false).map .pl))]) : Tr × Hp))) (by kernel_rfl) an
  have hR := T.pre (P := Try.prog) (n := Try.f43.ntmps) (base := 4) (c := (cR (cR c43))) (st := ((((mkS [(0, (.bp 0 0)), (1, (.pl (.int .i64 a1))), (2, (.pl (.int .u64 a2))), (6, (.bp 1 0)), (7, (.bp 2 0)), (8, (.bp 3 0))], [some (.box ((Reader_.cells a3).map .pl)), some (.box [(.pl (.int .i64 0)), (.pl (.str str_x)), (.pl (.sl .nil 0 []))]), some (.box (((cInt .u64) 0).map .pl)), some (.box ((cBool false).map .pl))]) : Tr × Hp)).1.put 12 11 .un, (((mkS [(0, (.bp 0 0)), (1, (.pl (.int .i64 a1))), (2, (.pl (.int .u64 a2))), (6, (.bp 1 0)), (7, (.bp 2 0)), (8, (.bp 3 0))], [some (.box ((Reader_.cells a3).map .pl)), some (.box [(.pl (.int .i64 0)), (.pl (.str str_x)), (.pl (.sl .nil 0 []))]), some (.box (((cInt .u64) 0).map .pl)), some (.box ((cBool false).map .pl))]) : Tr × Hp)).2)) (tds := []) (m := []) (keep := [0, 1, 2, 6, 7, 8]) (cs := []) (by kernel_rfl) trivial (f43r1n0_ok a1 a2 a3 ho)
  have hret : DefRet Try.prog 57 ([(.bp 1 0), (.bp 2 0), (.bp 3 0)] : List AV).length := (DefRet.of cfg_ok (f := Try.f57) (c := c57) (t6 := 6) (t3 := 3) (t7 := 7) (t8 := 8) (I := 20) (by kernel_rfl) (by kernel_rfl) (by kernel_rfl) (by kernel_rfl) (by kernel_rfl) (by kernel_rfl) (by kernel_rfl) (by kernel_rfl) Try.underlying20 (by kernel_rfl) (by kernel_rfl) (by kernel_rfl) (by kernel_rfl) (by kernel_rfl) (by kernel_rfl) (by decide) (by decide) (by kernel_rfl))
  cases o with
  | ret v46 v47 v48 v49 v50 v51 =>
    obtain rfl := some_inj h
    exact CallS.defers cfg_ok (f := Try.f43) (c := c43) (kc := 57) (caps := ([(.bp 1 0), (.bp 2 0), (.bp 3 0)] : List AV)) (st1 := ((mkS [(0, (.bp 0 0)), (1, (.pl (.int .i64 a1))), (2, (.pl (.int .u64 a2))), (6, (.bp 1 0)), (7, (.bp 2 0)), (8, (.bp 3 0))], [some (.box ((Reader_.cells a3).map .pl)), some (.box [(.pl (.int .i64 0)), (.pl (.str str_x)), (.pl (.sl .nil 0 []))]), some (.box (((cInt .u64) 0).map .pl)), some (.box ((cBool false).map .pl))]) : Tr × Hp)) (st2 := ((((mkS [(0, (.bp 0 0)), (1, (.pl (.int .i64 a1))), (2, (.pl (.int .u64 a2))), (6, (.bp 1 0)), (7, (.bp 2 0)), (8, (.bp 3 0))], [some (.box ((Reader_.cells a3).map .pl)), some (.box [(.pl (.int .i64 0)), (.pl (.str str_x)), (.pl (.sl .nil 0 []))]), some (.box (((cInt .u64) 0).map .pl)), some (.box ((cBool false).map .pl))]) : Tr × Hp)).1.put 12 11 .un, (((mkS [(0, (.bp 0 0)), (1, (.pl (.int .i64 a1))), (2, (.pl (.int .u64 a2))), (6, (.bp 1 0)), (7, (.bp 2 0)), (8, (.bp 3 0))], [some (.box ((Reader_.cells a3).map .pl)), some (.box [(.pl (.int .i64 0)), (.pl (.str str_x)), (.pl (.sl .nil 0 []))]), some (.box (((cInt .u64) 0).map .pl)), some (.box ((cBool false).map .pl))]) : Tr × Hp)).2)) (st3 := (f43r1n0E a1 a2 a3 (.ret v46 v47 v48 v49 v50 v51)).2) (ex := .ret) (ch := panV) (H3 := (f43r1n0E a1 a2 a3 (.ret v46 v47 v48 v49 v50 v51)).2.2) (tds := []) (m := [1, 2, 3, 4]) (keep := [6, 7, 8]) (st4 := (mkS [(6, (.bp 1 0)), (7, (.bp 2 0)), (8, (.bp 3 0))], [some (.box ((Reader_.cells v46).map .pl)), some (.box [(.pl (.int .i64 v47)), (.pl (.str v48)), (.own 4)]), some (.box (((cInt .u64) v49).map .pl)), some (.box ((cBool v50).map .pl)), some (.row false 3 (v51.map JournalLine.cells))])) (by kernel_rfl) (by kernel_rfl) (by kernel_rfl) (by kernel_rfl) (by kernel_rfl) hA (by kernel_rfl) (enters_of (cfg_ok.fn 57 Try.f57 (by kernel_rfl)) (cfg_ok.name 57 Try.f57 (by kernel_rfl)) (by kernel_rfl)) (by kernel_rfl) (by kernel_rfl) hR hret (.inl ⟨rfl, rfl⟩) (by kernel_rfl) an (by kernel_rfl) rfl
  | pan v44 v45 =>
    obtain rfl := some_inj h
    exact CallS.defers cfg_ok (f := Try.f43) (c := c43) (kc := 57) (caps := ([(.bp 1 0), (.bp 2 0), (.bp 3 0)] : List AV)) (st1 := ((mkS [(0, (.bp 0 0)), (1, (.pl (.int .i64 a1))), (2, (.pl (.int .u64 a2))), (6, (.bp 1 0)), (7, (.bp 2 0)), (8, (.bp 3 0))], [some (.box ((Reader_.cells a3).map .pl)), some (.box [(.pl (.int .i64 0)), (.pl (.str str_x)), (.pl (.sl .nil 0 []))]), some (.box (((cInt .u64) 0).map .pl)), some (.box ((cBool false).map .pl))]) : Tr × Hp)) (st2 := ((((mkS [(0, (.bp 0 0)), (1, (.pl (.int .i64 a1))), (2, (.pl (.int .u64 a2))), (6, (.bp 1 0)), (7, (.bp 2 0)), (8, (.bp 3 0))], [some (.box ((Reader_.cells a3).map .pl)), some (.box [(.pl (.int .i64 0)), (.pl (.str str_x)), (.pl (.sl .nil 0 []))]), some (.box (((cInt .u64) 0).map .pl)), some (.box ((cBool false).map .pl))]) : Tr × Hp)).1.put 12 11 .un, (((mkS [(0, (.bp 0 0)), (1, (.pl (.int .i64 a1))), (2, (.pl (.int .u64 a2))), (6, (.bp 1 0)), (7, (.bp 2 0)), (8, (.bp 3 0))], [some (.box ((Reader_.cells a3).map .pl)), some (.box [(.pl (.int .i64 0)), (.pl (.str str_x)), (.pl (.sl .nil 0 []))]), some (.box (((cInt .u64) 0).map .pl)), some (.box ((cBool false).map .pl))]) : Tr × Hp)).2)) (st3 := (f43r1n0E a1 a2 a3 (.pan v44 v45)).2) (ex := .pan panV) (ch := panV) (H3 := [some (.box ((Reader_.cells v44).map .pl)), some (.box [(.pl (.int .i64 0)), (.pl (.str str_x)), (.pl (.sl .nil 0 []))]), some (.box (((cInt .u64) 0).map .pl)), some (.box ((cBool false).map .pl))]) (tds := [.matC 1 2 3]) (m := [1, 2, 3, 4]) (keep := [6, 7, 8]) (st4 := (mkS [(6, (.bp 1 0)), (7, (.bp 2 0)), (8, (.bp 3 0))], [some (.box ((Reader_.cells v44).map .pl)), some (.box [(.pl (.int .i64 0)), (.pl (.str str_x)), (.own 4)]), some (.box (((cInt .u64) 0).map .pl)), some (.box ((cBool false).map .pl)), some (.row false 3 ([].map JournalLine.cells))])) (by kernel_rfl) (by kernel_rfl) (by kernel_rfl) (by kernel_rfl) (by kernel_rfl) hA (by kernel_rfl) (enters_of (cfg_ok.fn 57 Try.f57 (by kernel_rfl)) (cfg_ok.name 57 Try.f57 (by kernel_rfl)) (by kernel_rfl)) (by kernel_rfl) (by kernel_rfl) hR hret (.inr ⟨rfl, DefPan.of cfg_ok (f := Try.f57) (c := c57) (t6 := 6) (t3 := 3) (t7 := 7) (t8 := 8) (t10 := 10) (t11 := 11) (I := 20) (K := 103) (rops := ((opsQ (cL (cL (cL (cR (cR c57)))))).drop 2)) (cs0 := []) (by kernel_rfl) (by kernel_rfl) (by kernel_rfl) (by kernel_rfl) (by kernel_rfl) (by kernel_rfl) (by kernel_rfl) (by kernel_rfl) (by kernel_rfl) (by kernel_rfl) Try.underlying20 (by kernel_rfl) (by kernel_rfl) Try.underlying103 rfl (by kernel_rfl) (by kernel_rfl) (by kernel_rfl) (by kernel_rfl) (by kernel_rfl) (by kernel_rfl) (by decide) (by decide) (by kernel_rfl) (by kernel_rfl) trivial⟩) (by kernel_rfl) an (by kernel_rfl) rfl

inductive f44r4n2O where
  | exit0 (v43 : List (Account_ × Int))
def f44r4n2E (bc2 : List JournalLine) (bf1 : Int) (bf3 : Int) (bd4 : ByteArray) : f44r4n2O → Ex × Tr × Hp
  | .exit0 v43 => ((.exit 0), mkS [(0, (.bp 0 0)), (3, (.bp 3 0))], [some (.box [(.mp 2), (.pl (.int .i64 bf1)), (.pl (.int .i64 bf1))]), some (.row false 3 (bc2.map JournalLine.cells)), some (.map (v43.map (mkv (pAgg Account_.cells) (pInt .i64)))), some (.box [(.pl (.int .i64 bf3)), (.pl (.str bd4)), (.own 1)])])
def f44r4n2S (bc2 : List JournalLine) (bf1 : Int) (bf3 : Int) (bd4 : ByteArray) (v35 : Int) (v36 : List (Account_ × Int)) : Tr × Hp := (mkS [(0, (.bp 0 0)), (3, (.bp 3 0)), (32, (.own 1)), (33, (.pl (.int .i64 (bc2.length : Int)))), (34, (.pl (.int .i64 v35)))], [some (.box [(.mp 2), (.pl (.int .i64 bf1)), (.pl (.int .i64 bf1))]), some (.row false 3 (bc2.map JournalLine.cells)), some (.map (v36.map (mkv (pAgg Account_.cells) (pInt .i64)))), some (.box [(.pl (.int .i64 bf3)), (.pl (.str bd4)), (.own 1)])])
noncomputable def f44r4n2 : Nat → List JournalLine → Int → Int → ByteArray → Int → List (Account_ × Int) → Option f44r4n2O
  | 0, _, _, _, _, _, _ => none
  | f + 1, bc2, bf1, bf3, bd4, v35, v36 =>
    bif (decide (v35 < (bc2.length : Int))) then
      (at? bc2 v35).bind fun x41 =>
      (f44r4n2 f bc2 bf1 bf3 bd4 (wr64 (v35 + 1)) (mPut Account_.eqb (Account_.mk x41.Account x41.Ccy) (wr64 ((mGet Account_.eqb 0 (Account_.mk x41.Account x41.Ccy) v36) + x41.Amount)) v36))
    else
      some (.exit0 v36)
theorem f44r4n2_ok : ∀ (f : Nat) (bc2 : List JournalLine) (bf1 : Int) (bf3 : Int) (bd4 : ByteArray) (v35 : Int) (v36 : List (Account_ × Int)) {o : f44r4n2O}, (f44r4n2 f bc2 bf1 bf3 bd4 v35 v36) = some o → TL Try.prog Try.f44.ntmps 3 f (cL (cL (dropC 1 (cL (dropC 2 c44))))) (f44r4n2S bc2 bf1 bf3 bd4 v35 v36) (fun r => r = f44r4n2E bc2 bf1 bf3 bd4 o)
  | 0, _, _, _, _, _, _, o, h => by rw [f44r4n2] at h; cases h
  | f + 1, bc2, bf1, bf3, bd4, v35, v36, o, h => by
    rw [f44r4n2] at h
    refine TL.body (K := fun s => ∃ v35 : Int, ∃ v36 : List (Account_ × Int), s = (f44r4n2S bc2 bf1 bf3 bd4 v35 v36) ∧ (f44r4n2 f bc2 bf1 bf3 bd4 v35 v36) = some o) ?_ (by rintro _ ⟨v35, v36, rfl, hk⟩; exact f44r4n2_ok f _ _ _ _ _ _ hk)
    rcases cond_cases h with ⟨h38, h⟩ | ⟨h38, h⟩
    · obtain ⟨x41, h42, h⟩ := bind_cases h
      exact run_end cfg_ok (rs := [([], [], []), ([], [(0, .at_ (Int.toNat v35)), (1, .idx 0 (JournalLine.cells x41))], []), ([], [(9, .look ((pInt .i64) (mGet Account_.eqb 0 (Account_.mk x41.Account x41.Ccy) v36)) (mHas Account_.eqb (Account_.mk x41.Account x41.Ccy) v36)), (13, .ment ((pInt .i64) (mGet Account_.eqb 0 (Account_.mk x41.Account x41.Ccy) v36)) (mIdx Account_.eqb (Account_.mk x41.Account x41.Ccy) v36) ((mEns Account_.eqb 0 (Account_.mk x41.Account x41.Ccy) v36).map (mkv (pAgg Account_.cells) (pInt .i64)))), (15, .mst (mIdx Account_.eqb (Account_.mk x41.Account x41.Ccy) v36) ((pAgg Account_.cells) (Account_.mk x41.Account x41.Ccy)) ((pInt .i64) (mGet Account_.eqb 0 (Account_.mk x41.Account x41.Ccy) v36)))], [(15, .map 2 ((mPut Account_.eqb (Account_.mk x41.Account x41.Ccy) (wr64 ((mGet Account_.eqb 0 (Account_.mk x41.Account x41.Ccy) v36) + x41.Amount)) v36).map (mkv (pAgg Account_.cells) (pInt .i64))))]), ([], [], [])]) (ps := [some true]) (tds := []) (m := [3]) (keep := [0, 3, 32, 33, 34]) (r := (.norm, (f44r4n2S bc2 bf1 bf3 bd4 (wr64 (v35 + 1)) (mPut Account_.eqb (Account_.mk x41.Account x41.Ccy) (wr64 ((mGet Account_.eqb 0 (Account_.mk x41.Account x41.Ccy) v36) + x41.Amount)) v36)))) (by kernel_rfl) (ap h38 (ap (at_some h42).1 (ap (lt_map JournalLine.cells (at_some h42).2) (ap (at_map JournalLine.cells (at_some h42).2) (ap (look_map (vp := (pInt .i64)) (e := 3) key_95 0 (by kernel_rfl) (Account_.mk x41.Account x41.Ccy) v36) (ap (ment_map (vp := (pInt .i64)) (e := 3) key_95 0 (by kernel_rfl) (Account_.mk x41.Account x41.Ccy) v36) (ap (rfl : ((mIdx Account_.eqb (Account_.mk x41.Account x41.Ccy) v36) : Int) = (((mIdx Account_.eqb (Account_.mk x41.Account x41.Ccy) v36) : Nat) : Int)) (ap (mst_at (vp := (pInt .i64)) key_95 0 (Account_.mk x41.Account x41.Ccy) v36) (ap (mst_put (vp := (pInt .i64)) key_95 0 (wr64 ((mGet Account_.eqb 0 (Account_.mk x41.Account x41.Ccy) v36) + x41.Amount)) (Account_.mk x41.Account x41.Ccy) v36) an))))))))) (LoopQ.norm ⟨(wr64 (v35 + 1)), (mPut Account_.eqb (Account_.mk x41.Account x41.Ccy) (wr64 ((mGet Account_.eqb 0 (Account_.mk x41.Account x41.Ccy) v36) + x41.Amount)) v36), rfl, h⟩)
    · obtain rfl := some_inj h
      exact runK_end cfg_ok (k := 2) (rs := [([], [], [])]) (ps := [some false]) (tds := []) (m := [3]) (keep := [0, 3]) (ex := (.exit 0)) (st' := (f44r4n2E bc2 bf1 bf3 bd4 (.exit0 v36)).2) (by kernel_rfl) (ap h38 an) (fun h => nomatch h) (LoopQ.out rfl rfl)
noncomputable def f44r4n2L (bc2 : List JournalLine) (bf1 : Int) (bf3 : Int) (bd4 : ByteArray) : List JournalLine → Int → (List (Account_ × Int)) → Option f44r4n2O
  | [], v35, v36 =>
    some (.exit0 v36)
  | x0 :: rest, v35, v36 =>
    (f44r4n2L bc2 bf1 bf3 bd4 rest (v35 + 1) (mPut Account_.eqb (Account_.mk x0.Account x0.Ccy) (wr64 ((mGet Account_.eqb 0 (Account_.mk x0.Account x0.Ccy) v36) + x0.Amount)) v36))
theorem f44r4n2L_eq (bc2 : List JournalLine) (bf1 : Int) (bf3 : Int) (bd4 : ByteArray) : ∀ (rest : List JournalLine) (f k : Nat) (v36 : List (Account_ × Int)), bc2.drop k = rest → bc2.length ≤ maxLen → rest.length < f → f44r4n2 f bc2 bf1 bf3 bd4 (k : Int) v36 = f44r4n2L bc2 bf1 bf3 bd4 rest (k : Int) v36
  | _, 0, _, _, _, _, hf => absurd hf (Nat.not_lt_zero _)
  | [], f + 1, k, v36, hd, hm, hf => by
    have hk : ¬ ((k : Int) < (bc2.length : Int)) := by have := drop_nil hd; omega
    rw [f44r4n2, f44r4n2L]
    simp only [decide_eq_false hk, cond_false]
  | x0 :: rest, f + 1, k, v36, hd, hm, hf => by
    obtain ⟨hx, hlt, hd'⟩ := drop_cons hd
    have hk : (k : Int) < (bc2.length : Int) := by omega
    have hw : wr64 ((k : Int) + 1) = (k : Int) + 1 := wr64_of (by omega) (by unfold maxLen at hm; omega)
    have ih : ∀ (v36 : List (Account_ × Int)), f44r4n2 f bc2 bf1 bf3 bd4 ((k : Int) + 1) v36 = f44r4n2L bc2 bf1 bf3 bd4 rest ((k : Int) + 1) v36 := fun v36 => f44r4n2L_eq bc2 bf1 bf3 bd4 rest f (k + 1) v36 hd' hm (by simpa using hf)
    rw [f44r4n2, f44r4n2L]
    simp only [decide_eq_true hk, cond_true, at_nat, hx, Option.bind_some, hw, ih]
inductive f44r4n1O where
  | norm (v47 : List (Account_ × Int))
def f44r4n1E (bf1 : Int) (bc2 : List JournalLine) (bf3 : Int) (bd4 : ByteArray) : f44r4n1O → Ex × Tr × Hp
  | .norm v47 => (.norm, mkS [(0, (.bp 0 0)), (3, (.bp 3 0))], [some (.box [(.mp 2), (.pl (.int .i64 bf1)), (.pl (.int .i64 bf1))]), some (.row false 3 (bc2.map JournalLine.cells)), some (.map (v47.map (mkv (pAgg Account_.cells) (pInt .i64)))), some (.box [(.pl (.int .i64 bf3)), (.pl (.str bd4)), (.own 1)])])
def f44r4n1S (bf1 : Int) (bc2 : List JournalLine) (bf3 : Int) (bd4 : ByteArray) : Tr × Hp := (mkS [(0, (.bp 0 0)), (3, (.bp 3 0))], [some (.box [(.mp 2), (.pl (.int .i64 bf1)), (.pl (.int .i64 bf1))]), some (.row false 3 (bc2.map JournalLine.cells)), some (.map ([].map (mkv (pAgg Account_.cells) (pInt .i64)))), some (.box [(.pl (.int .i64 bf3)), (.pl (.str bd4)), (.own 1)])])
noncomputable def f44r4n1 (bf1 : Int) (bc2 : List JournalLine) (bf3 : Int) (bd4 : ByteArray) : Option f44r4n1O :=
  (f44r4n2 FUEL bc2 bf1 bf3 bd4 0 []).bind fun o44 => match o44 with
  | .exit0 v46 => some (.norm v46)
theorem f44r4n1_ok (bf1 : Int) (bc2 : List JournalLine) (bf3 : Int) (bd4 : ByteArray) {o : f44r4n1O} (h : (f44r4n1 bf1 bc2 bf3 bd4) = some o) : T Try.prog Try.f44.ntmps 3 (cL (dropC 2 c44)) (f44r4n1S bf1 bc2 bf3 bd4) (fun r => r = f44r4n1E bf1 bc2 bf3 bd4 o) := by
  unfold f44r4n1 at h
  refine runK_norm cfg_ok (k := 1) (rs := [([], [], [(2, .val (.pl (.int .i64 (bc2.length : Int))))])]) (ps := []) (tds := []) (m := [3]) (keep := [0, 3, 32, 33, 34]) (st' := (f44r4n2S bc2 bf1 bf3 bd4 0 [])) (by kernel_rfl) (ap (len_cv (xs := bc2) (c := JournalLine.cells)) an) ?_
  obtain ⟨o44, h45, h⟩ := bind_cases h
  cases o44 with
  | exit0 v46 =>
    obtain rfl := some_inj h
    exact T.last' (T.bl (i := 0) (by kernel_rfl) (by kernel_rfl) (f44r4n2_ok FUEL bc2 bf1 bf3 bd4 0 [] h45)) (tds := []) (m := [3]) (keep := [0, 3]) (st2 := (f44r4n1E bf1 bc2 bf3 bd4 (.norm v46)).2) (by kernel_rfl) an rfl
inductive f44r4n0O where
  | ret (v55 : Bool) (v56 : Int) (v57 : Int) (v58 : List (Account_ × Int))
def f44r4n0E (a1 : Int) (a2 : ByteArray) (a3 : Int) (a4 : List JournalLine) : f44r4n0O → Ex × Tr × Hp
  | .ret v55 v56 v57 v58 => (.ret, mkS [(4, (.pl (.bool v55)))], [some (.box [(.mp 2), (.pl (.int .i64 v56)), (.pl (.int .i64 v57))]), some (.row false 3 (a4.map JournalLine.cells)), some (.map (v58.map (mkv (pAgg Account_.cells) (pInt .i64))))])
def f44r4n0S (a1 : Int) (a2 : ByteArray) (a3 : Int) (a4 : List JournalLine) : Tr × Hp := (initS [(.bp 0 0), (.agg [(.pl (.int .i64 a1)), (.pl (.str a2)), (.own 1)])] 0 .leaf, [some (.box [(.mp 2), (.pl (.int .i64 a3)), (.pl (.int .i64 a3))]), some (.row false 3 (a4.map JournalLine.cells)), some (.map ([].map (mkv (pAgg Account_.cells) (pInt .i64))))])
noncomputable def f44r4n0 (a1 : Int) (a2 : ByteArray) (a3 : Int) (a4 : List JournalLine) : Option f44r4n0O :=
  bif (decide (a3 = 200)) then
    some (.ret false a3 a3 [])
  else
    (f49 (JournalRecord.mk a1 a2 a4)).bind fun x14 =>
    bif x14 then
      (f50 (JournalRecord.mk a1 a2 a4)).bind fun x17 =>
      bif x17 then
        bif (decide (a1 < a3)) then
          some (.ret false a3 a3 [])
        else
          (f44r4n1 a3 a4 a1 a2).bind fun o48 => match o48 with
          | .norm v50 => (f61r2 a1 a2 (wr64 (a3 + 1)) a4 v50).bind fun x53 =>
            some (.ret x53 a1 (wr64 (a3 + 1)) v50)
      else
        some (.ret false a3 a3 [])
    else
      some (.ret false a3 a3 [])
theorem f44r4n0_ok (a1 : Int) (a2 : ByteArray) (a3 : Int) (a4 : List JournalLine) {o : f44r4n0O} (h : (f44r4n0 a1 a2 a3 a4) = some o) : T Try.prog Try.f44.ntmps 3 c44 (f44r4n0S a1 a2 a3 a4) (fun r => r = f44r4n0E a1 a2 a3 a4 o) := by
  unfold f44r4n0 at h
  rcases cond_cases h with ⟨h13, h⟩ | ⟨h13, h⟩
  · obtain rfl := some_inj h
    exact runK_end cfg_ok (k := 2) (rs := [([], [], []), ([(6, true), (7, true), (8, true)], [(9, .bool true)], []), ([], [], [])]) (ps := [none]) (tds := []) (m := []) (keep := [4]) (ex := .ret) (st' := (f44r4n0E a1 a2 a3 a4 (.ret false a3 a3 [])).2) (by kernel_rfl) (ap h13 (ap h13 (ap h13 (ap h13 an)))) (fun h => nomatch h) rfl
  · obtain ⟨x14, h15, h⟩ := bind_cases h
    rcases cond_cases h with ⟨h16, h⟩ | ⟨h16, h⟩
    · obtain ⟨x17, h18, h⟩ := bind_cases h
      rcases cond_cases h with ⟨h19, h⟩ | ⟨h19, h⟩
      · rcases cond_cases h with ⟨h20, h⟩ | ⟨h20, h⟩
        · obtain rfl := some_inj h
          exact runK_end cfg_ok (k := 2) (rs := [([], [], []), ([(6, false), (7, false), (8, false), (11, false), (12, false), (13, false), (16, false), (17, false), (18, false), (19, false), (20, false), (21, false), (22, false)], [(7, .call (.pl (.bool x14)) []), (9, .bool false), (12, .call (.pl (.bool x17)) []), (14, .bool false), (23, .bool false)], []), ([], [], [])]) (ps := [some true]) (tds := []) (m := []) (keep := [4]) (ex := .ret) (st' := (f44r4n0E a1 a2 a3 a4 (.ret false a3 a3 [])).2) (by kernel_rfl) (ap h13 (ap h13 (ap h13 (ap h13 (ap (not_t h16) (ap (not_t h16) (ap (not_t h16) (ap (not_t h16) (ap (not_t h19) (ap (not_t h19) (ap (not_t h19) (ap (not_t h19) (ap (not_t h19) (ap (not_t h19) (ap (not_t h19) (ap (not_t h19) (ap (f49_ok (JournalRecord.mk a1 a2 a4) h15) (ap (f50_ok (JournalRecord.mk a1 a2 a4) h18) (ap h20 an))))))))))))))))))) (fun h => nomatch h) rfl
        · refine runK_norm cfg_ok (k := 2) (rs := [([], [], []), ([(6, false), (7, false), (8, false), (11, false), (12, false), (13, false), (16, false), (17, false), (18, false), (19, false), (20, false), (21, false), (22, false)], [(7, .call (.pl (.bool x14)) []), (9, .bool false), (12, .call (.pl (.bool x17)) []), (14, .bool false), (23, .bool false)], [])]) (ps := [some false]) (tds := []) (m := [3]) (keep := [0, 3]) (st' := (f44r4n1S a3 a4 a1 a2)) (by kernel_rfl) (ap h13 (ap h13 (ap h13 (ap h13 (ap (not_t h16) (ap (not_t h16) (ap (not_t h16) (ap (not_t h16) (ap (not_t h19) (ap (not_t h19) (ap (not_t h19) (ap (not_t h19) (ap (not_t h19) (ap (not_t h19) (ap (not_t h19) (ap (not_t h19) (ap (f49_ok (JournalRecord.mk a1 a2 a4) h15) (ap (f50_ok (JournalRecord.mk a1 a2 a4) h18) (ap h20 an))))))))))))))))))) ?_
          obtain ⟨o48, h49, h⟩ := bind_cases h
          cases o48 with
          | norm v50 =>
            refine T.oneN (by kernel_rfl) (f44r4n1_ok a3 a4 a1 a2 h49) (st2 := (f44r4n1E a3 a4 a1 a2 (.norm v50)).2) rfl ?_
            obtain ⟨x53, h54, h⟩ := bind_cases h
            obtain rfl := some_inj h
            exact run_end cfg_ok (rs := [([], [], []), ([], [(2, .call (.pl (.bool x53)) [some (.box [(.mp 2), (.pl (.int .i64 a1)), (.pl (.int .i64 (wr64 (a3 + 1))))]), some (.row false 3 (a4.map JournalLine.cells)), some (.map (v50.map (mkv (pAgg Account_.cells) (pInt .i64)))), none, none])], [])]) (ps := []) (tds := []) (m := []) (keep := [4]) (r := (.ret, (f44r4n0E a1 a2 a3 a4 (.ret x53 a1 (wr64 (a3 + 1)) v50)).2)) (by kernel_rfl) (ap (CallS.ren (args' := [(.bp 0 0), (.agg [(.pl (.int .i64 a1)), (.pl (.str a2)), (.own 1)])]) (v' := (.pl (.bool x53))) (B := [some (.box [(.mp 2), (.pl (.int .i64 a1)), (.pl (.int .i64 (wr64 (a3 + 1))))]), some (.row false 3 (a4.map JournalLine.cells)), some (.map (v50.map (mkv (pAgg Account_.cells) (pInt .i64)))), none, none]) (B' := [some (.box [(.mp 2), (.pl (.int .i64 a1)), (.pl (.int .i64 (wr64 (a3 + 1))))]), some (.row false 3 (a4.map JournalLine.cells)), some (.map (v50.map (mkv (pAgg Account_.cells) (pInt .i64)))), none, none]) 5 [0, 1, 2] (f61r2_ok a1 a2 (wr64 (a3 + 1)) a4 v50 h54) (by kernel_rfl) (by kernel_rfl) (by kernel_rfl) (by kernel_rfl) (by kernel_rfl) (by kernel_rfl)) an) rfl
      · obtain rfl := some_inj h
        exact runK_end cfg_ok (k := 2) (rs := [([], [], []), ([(6, false), (7, false), (8, false), (11, false), (12, false), (13, false), (16, true), (17, true), (18, true), (19, true), (20, true), (21, true), (22, true)], [(7, .call (.pl (.bool x14)) []), (9, .bool false), (12, .call (.pl (.bool x17)) []), (14, .bool false), (23, .bool true)], []), ([], [], [])]) (ps := [none]) (tds := []) (m := []) (keep := [4]) (ex := .ret) (st' := (f44r4n0E a1 a2 a3 a4 (.ret false a3 a3 [])).2) (by kernel_rfl) (ap h13 (ap h13 (ap h13 (ap h13 (ap (not_t h16) (ap (not_t h16) (ap (not_t h16) (ap (not_t h16) (ap (not_f h19) (ap (not_f h19) (ap (not_f h19) (ap (not_f h19) (ap (not_f h19) (ap (not_f h19) (ap (not_f h19) (ap (not_f h19) (ap (f49_ok (JournalRecord.mk a1 a2 a4) h15) (ap (f50_ok (JournalRecord.mk a1 a2 a4) h18) an)))))))))))))))))) (fun h => nomatch h) rfl
    · obtain rfl := some_inj h
      exact runK_end cfg_ok (k := 2) (rs := [([], [], []), ([(6, false), (7, false), (8, false), (11, true), (12, true), (13, true)], [(7, .call (.pl (.bool x14)) []), (9, .bool false), (14, .bool true)], []), ([], [], [])]) (ps := [none]) (tds := []) (m := []) (keep := [4]) (ex := .ret) (st' := (f44r4n0E a1 a2 a3 a4 (.ret false a3 a3 [])).2) (by kernel_rfl) (ap h13 (ap h13 (ap h13 (ap h13 (ap (not_f h16) (ap (not_f h16) (ap (not_f h16) (ap (not_f h16) (ap (f49_ok (JournalRecord.mk a1 a2 a4) h15) an))))))))) (fun h => nomatch h) rfl
noncomputable def f44r4 (a1 : Int) (a2 : ByteArray) (a3 : Int) (a4 : List JournalLine) : Option (Bool × Int × Int × (List (Account_ × Int))) := (f44r4n0 a1 a2 a3 a4).bind fun o => match o with
  | .ret v55 v56 v57 v58 => some (v55, v56, v57, v58)
theorem f44r4_ok (a1 : Int) (a2 : ByteArray) (a3 : Int) (a4 : List JournalLine) {r : Bool × Int × Int × (List (Account_ × Int))} (h : (f44r4 a1 a2 a3 a4) = some r) : CallS Try.prog true 44 [(.bp 0 0), (.agg [(.pl (.int .i64 a1)), (.pl (.str a2)), (.own 1)])] [some (.box [(.mp 2), (.pl (.int .i64 a3)), (.pl (.int .i64 a3))]), some (.row false 3 (a4.map JournalLine.cells)), some (.map ([].map (mkv (pAgg Account_.cells) (pInt .i64))))] (.pl (.bool r.1)) [some (.box [(.mp 2), (.pl (.int .i64 r.2.1)), (.pl (.int .i64 r.2.2.1))]), some (.row false 3 (a4.map JournalLine.cells)), some (.map (r.2.2.2.map (mkv (pAgg Account_.cells) (pInt .i64))))] := by
  unfold f44r4 at h
  obtain ⟨o, ho, h⟩ := bind_cases h
  cases o with
  | ret v55 v56 v57 v58 =>
    obtain rfl := some_inj h
    exact CallS.shared cfg_ok (f := Try.f44) (c := c44) (by kernel_rfl) (by kernel_rfl) (by kernel_rfl) ((f44r4n0_ok a1 a2 a3 a4 ho).mono fun r e => by subst e; exact ⟨.inl rfl, by kernel_rfl, by kernel_rfl⟩)
end Go.Proofs.Ytbgjlpdeoljmiaa
