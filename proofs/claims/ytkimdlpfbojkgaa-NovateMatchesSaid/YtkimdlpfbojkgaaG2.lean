/- Functions of the program, plainly, and that the machine computes them. No condition. -/
import Derived.Test.YtkimdlpfbojkgaaG1
namespace Go.Proofs.Ytkimdlpfbojkgaa
set_option linter.unusedVariables false
set_option maxRecDepth 100000
open Go.RowKit
/-! ### slices.Clone[[]novation/api.NovateTrade,novation/api.NovateTrade] -/
inductive f36r2n0O where
  | ret (v5 : List NovateTrade)
def f36r2n0E (a1 : List NovateTrade) : f36r2n0O → Ex × Tr × Hp
  | .ret v5 => (.ret, mkS [(2, (.own 14))], [none, none, none, some (.row true 8 (a1.map NovateTrade.cells)), none, none, none, none, none, none, none, none, none, none, some (.row false 8 (v5.map NovateTrade.cells))])
def f36r2n0S (a1 : List NovateTrade) : Tr × Hp := (initS [(.own 3)] 0 .leaf, [none, none, none, some (.row true 8 (a1.map NovateTrade.cells)), none, none, none, none, none, none, none, none, none, none])
def f36r2n0 (a1 : List NovateTrade) : Option f36r2n0O :=
  bif (a1.isEmpty) then
    some (.ret [])
  else
    req (fit a1.length 72) <|
    some (.ret a1)
theorem f36r2n0_ok (a1 : List NovateTrade) {o : f36r2n0O} (h : (f36r2n0 a1) = some o) : T Try.prog Try.f36.ntmps 14 c36 (f36r2n0S a1) (fun r => r = f36r2n0E a1 o) := by
  unfold f36r2n0 at h
  refine runK_norm cfg_ok (k := 1) (rs := [([], [], [])]) (ps := []) (tds := []) (m := []) (keep := [0]) (st' := (mkS [(0, (.own 3))], [none, none, none, some (.row true 8 (a1.map NovateTrade.cells)), none, none, none, none, none, none, none, none, none, none])) (by kernel_rfl) an ?_
  refine T.nest (by kernel_rfl) ?_
  rcases cond_cases h with ⟨h2, h⟩ | ⟨h2, h⟩
  · refine runK_norm cfg_ok (k := 0) (rs := []) (ps := []) (tds := []) (m := []) (keep := [0]) (st' := (mkS [(0, (.own 3))], [none, none, none, some (.row true 8 (a1.map NovateTrade.cells)), none, none, none, none, none, none, none, none, none, none])) (by kernel_rfl) an ?_
    refine T.oneNil cfg_ok (x := .tmp 0) (t := 22) (t3 := 3) (t4 := 4) (sz := 8) (es := (a1.map NovateTrade.cells)) (by kernel_rfl) (by kernel_rfl) (by kernel_rfl) (by kernel_rfl) (by kernel_rfl) (fun b hb => ?_)
    cases b
    · refine run_end cfg_ok (rs := []) (ps := [none]) (tds := []) (m := []) (keep := [0]) (r := (.norm, (mkS [(0, (.own 3))], [none, none, none, some (.row true 8 (a1.map NovateTrade.cells)), none, none, none, none, none, none, none, none, none, none]))) (by kernel_rfl) an (ThenQ.norm ?_)
      obtain rfl := some_inj h
      exact run_end cfg_ok (rs := [([], [(2, .app false)], [])]) (ps := []) (tds := []) (m := [14]) (keep := [2]) (r := (.ret, (f36r2n0E a1 (.ret [])).2)) (by kernel_rfl) (ap (nil_map (c := NovateTrade.cells) h2) an) rfl
    · obtain rfl := some_inj h
      exact run_end cfg_ok (rs := [([], [], [])]) (ps := [none]) (tds := [.mat 2 8]) (m := [14]) (keep := [2]) (r := (.ret, (f36r2n0E a1 (.ret [])).2)) (by kernel_rfl) an (ThenQ.out rfl rfl)
  · refine runK_norm cfg_ok (k := 0) (rs := []) (ps := []) (tds := []) (m := []) (keep := [0]) (st' := (mkS [(0, (.own 3))], [none, none, none, some (.row true 8 (a1.map NovateTrade.cells)), none, none, none, none, none, none, none, none, none, none])) (by kernel_rfl) an ?_
    refine T.oneNil cfg_ok (x := .tmp 0) (t := 22) (t3 := 3) (t4 := 4) (sz := 8) (es := (a1.map NovateTrade.cells)) (by kernel_rfl) (by kernel_rfl) (by kernel_rfl) (by kernel_rfl) (by kernel_rfl) (fun b hb => ?_)
    cases b
    · refine run_end cfg_ok (rs := []) (ps := [none]) (tds := []) (m := []) (keep := [0]) (r := (.norm, (mkS [(0, (.own 3))], [none, none, none, some (.row true 8 (a1.map NovateTrade.cells)), none, none, none, none, none, none, none, none, none, none]))) (by kernel_rfl) an (ThenQ.norm ?_)
      obtain ⟨h4, h⟩ := req_cases h
      obtain rfl := some_inj h
      exact run_end cfg_ok (rs := [([], [(2, .app true)], [])]) (ps := []) (tds := []) (m := [15]) (keep := [2]) (r := (.ret, (f36r2n0E a1 (.ret a1)).2)) (by kernel_rfl) (ap (fit_map0z (te := ti34) (xs := a1) (c := NovateTrade.cells) h4 rfl) (ap (ne_map (c := NovateTrade.cells) h2) (ap (len_all (c := NovateTrade.cells) (xs := a1) (n := 8) (fun _ => rfl)) an))) rfl
    · exact absurd (hb rfl) (ne_map (c := NovateTrade.cells) h2)
def f36r2 (a1 : List NovateTrade) : Option (List NovateTrade) := (f36r2n0 a1).bind fun o => match o with
  | .ret v5 => some v5
theorem f36r2_ok (a1 : List NovateTrade) {r : List NovateTrade} (h : (f36r2 a1) = some r) : CallS Try.prog true 36 [(.own 3)] [none, none, none, some (.row true 8 (a1.map NovateTrade.cells)), none, none, none, none, none, none, none, none, none, none] (.own 14) [none, none, none, some (.row true 8 (a1.map NovateTrade.cells)), none, none, none, none, none, none, none, none, none, none, some (.row false 8 (r.map NovateTrade.cells))] := by
  unfold f36r2 at h
  obtain ⟨o, ho, h⟩ := bind_cases h
  cases o with
  | ret v5 =>
    obtain rfl := some_inj h
    exact CallS.shared cfg_ok (f := Try.f36) (c := c36) (by kernel_rfl) (by kernel_rfl) (by kernel_rfl) ((f36r2n0_ok a1 ho).mono fun r e => by subst e; exact ⟨.inl rfl, by kernel_rfl, by kernel_rfl⟩)
/-! ### novation/novate.asked -/
noncomputable def c39 : Code := Try.f39.body.getD .skip
inductive f39r1n0O where
  | ret (v14 : Int)
def f39r1n0E (a1 : Nat) (a2 : ByteArray) (a3 : List NovateTrade) : f39r1n0O → Ex × Tr × Hp
  | .ret v14 => (.ret, mkS [(4, (.pl (.int .i64 v14)))], [none, none, none, none, none, none, none, none, none, none, none, none, none, none, some (.row false 8 (a3.map NovateTrade.cells))])
def f39r1n0S (a1 : Nat) (a2 : ByteArray) (a3 : List NovateTrade) : Tr × Hp := (initS [(.ep 14 a1 0), (.pl (.str a2))] 0 .leaf, [none, none, none, none, none, none, none, none, none, none, none, none, none, none, some (.row false 8 (a3.map NovateTrade.cells))])
def f39r1n0 (a1 : Nat) (a2 : ByteArray) (a3 : List NovateTrade) : Option f39r1n0O :=
  (a3[a1]?).bind fun x7 =>
  bif (decide (x7.Stage = 0)) then
    bif (seq a2 x7.Buyer) then
      some (.ret 0)
    else
      bif (seq a2 x7.Seller) then
        some (.ret 0)
      else
        some (.ret 2)
  else
    some (.ret 20)
theorem f39r1n0_ok (a1 : Nat) (a2 : ByteArray) (a3 : List NovateTrade) {o : f39r1n0O} (h : (f39r1n0 a1 a2 a3) = some o) : T Try.prog Try.f39.ntmps 15 c39 (f39r1n0S a1 a2 a3) (fun r => r = f39r1n0E a1 a2 a3 o) := by
  unfold f39r1n0 at h
  obtain ⟨x7, h8, h⟩ := bind_cases h
  rcases cond_cases h with ⟨h9, h⟩ | ⟨h9, h⟩
  · rcases cond_cases h with ⟨h12, h⟩ | ⟨h12, h⟩
    · obtain rfl := some_inj h
      exact run_end cfg_ok (rs := [([], [], []), ([], [(3, .idx 0 (NovateTrade.cells x7))], []), ([(7, false), (8, false), (9, false), (10, false), (11, false), (12, false)], [(4, .idx 0 (NovateTrade.cells x7)), (13, .bool false)], []), ([], [], [])]) (ps := [some false, none]) (tds := []) (m := []) (keep := [4]) (r := (.ret, (f39r1n0E a1 a2 a3 (.ret 0)).2)) (by kernel_rfl) (ap (at_map NovateTrade.cells h8) (ap (not_t h9) (ap (at_map NovateTrade.cells h8) (ap (not_t h12) (ap (not_t h12) (ap (not_t h12) (ap (not_t h12) (ap (not_t h12) (ap (not_t h12) (ap (not_t h12) an)))))))))) rfl
    · rcases cond_cases h with ⟨h13, h⟩ | ⟨h13, h⟩
      · obtain rfl := some_inj h
        exact run_end cfg_ok (rs := [([], [], []), ([], [(3, .idx 0 (NovateTrade.cells x7))], []), ([(7, true), (8, true), (9, true), (10, true), (11, true), (12, true)], [(4, .idx 0 (NovateTrade.cells x7)), (11, .idx 0 (NovateTrade.cells x7)), (13, .bool true)], []), ([], [], [])]) (ps := [some false, some false]) (tds := []) (m := []) (keep := [4]) (r := (.ret, (f39r1n0E a1 a2 a3 (.ret 0)).2)) (by kernel_rfl) (ap (at_map NovateTrade.cells h8) (ap (not_t h9) (ap (at_map NovateTrade.cells h8) (ap (not_f h12) (ap (not_f h12) (ap (not_f h12) (ap (not_f h12) (ap (not_f h12) (ap (at_map NovateTrade.cells h8) (ap (not_f h12) (ap (not_f h12) (ap (not_t h13) an)))))))))))) rfl
      · obtain rfl := some_inj h
        exact runK_end cfg_ok (k := 3) (rs := [([], [], []), ([], [(3, .idx 0 (NovateTrade.cells x7))], []), ([(7, true), (8, true), (9, true), (10, true), (11, true), (12, true)], [(4, .idx 0 (NovateTrade.cells x7)), (11, .idx 0 (NovateTrade.cells x7)), (13, .bool true)], []), ([], [], [])]) (ps := [some false, some true]) (tds := []) (m := []) (keep := [4]) (ex := .ret) (st' := (f39r1n0E a1 a2 a3 (.ret 2)).2) (by kernel_rfl) (ap (at_map NovateTrade.cells h8) (ap (not_t h9) (ap (at_map NovateTrade.cells h8) (ap (not_f h12) (ap (not_f h12) (ap (not_f h12) (ap (not_f h12) (ap (not_f h12) (ap (at_map NovateTrade.cells h8) (ap (not_f h12) (ap (not_f h12) (ap (not_f h13) an)))))))))))) (fun h => nomatch h) rfl
  · obtain rfl := some_inj h
    exact runK_end cfg_ok (k := 2) (rs := [([], [], []), ([], [(3, .idx 0 (NovateTrade.cells x7))], []), ([], [], [])]) (ps := [some true]) (tds := []) (m := []) (keep := [4]) (ex := .ret) (st' := (f39r1n0E a1 a2 a3 (.ret 20)).2) (by kernel_rfl) (ap (at_map NovateTrade.cells h8) (ap (not_f h9) an)) (fun h => nomatch h) rfl
def f39r1 (a1 : Nat) (a2 : ByteArray) (a3 : List NovateTrade) : Option Int := (f39r1n0 a1 a2 a3).bind fun o => match o with
  | .ret v14 => some v14
theorem f39r1_ok (a1 : Nat) (a2 : ByteArray) (a3 : List NovateTrade) {r : Int} (h : (f39r1 a1 a2 a3) = some r) : CallS Try.prog true 39 [(.ep 14 a1 0), (.pl (.str a2))] [none, none, none, none, none, none, none, none, none, none, none, none, none, none, some (.row false 8 (a3.map NovateTrade.cells))] (.pl (.int .i64 r)) [none, none, none, none, none, none, none, none, none, none, none, none, none, none, some (.row false 8 (a3.map NovateTrade.cells))] := by
  unfold f39r1 at h
  obtain ⟨o, ho, h⟩ := bind_cases h
  cases o with
  | ret v14 =>
    obtain rfl := some_inj h
    exact CallS.shared cfg_ok (f := Try.f39) (c := c39) (by kernel_rfl) (by kernel_rfl) (by kernel_rfl) ((f39r1n0_ok a1 a2 a3 ho).mono fun r e => by subst e; exact ⟨.inl rfl, by kernel_rfl, by kernel_rfl⟩)
/-! ### novation/novate.Refuse$1 -/
noncomputable def c45 : Code := Try.f45.body.getD .skip
inductive f45r1n0O where
  | ret (v14 : Int) (v15 : List NovateTrade)
def f45r1n0E (a1 : Nat) (a2 : ByteArray) (a3 : List NovateTrade) : f45r1n0O → Ex × Tr × Hp
  | .ret v14 v15 => (.ret, mkS [(3, (.pl (.int .i64 v14)))], [none, none, none, none, none, none, none, none, none, none, some (.box ((cStr a2).map .pl)), none, none, none, some (.row false 8 (v15.map NovateTrade.cells))])
def f45r1n0S (a1 : Nat) (a2 : ByteArray) (a3 : List NovateTrade) : Tr × Hp := (initS [(.ep 14 a1 0), (.bp 10 0)] 0 .leaf, [none, none, none, none, none, none, none, none, none, none, some (.box ((cStr a2).map .pl)), none, none, none, some (.row false 8 (a3.map NovateTrade.cells))])
def f45r1n0 (a1 : Nat) (a2 : ByteArray) (a3 : List NovateTrade) : Option f45r1n0O :=
  (f39r1 a1 a2 a3).bind fun x7 =>
  bif (decide (x7 = 0)) then
    (a3[a1]?).bind fun x12 =>
    some (.ret 0 (a3.set a1 (NovateTrade.mk x12.Buyer x12.Seller x12.Product x12.Quantity x12.Price x12.Bought x12.Sold 2)))
  else
    some (.ret x7 a3)
theorem f45r1n0_ok (a1 : Nat) (a2 : ByteArray) (a3 : List NovateTrade) {o : f45r1n0O} (h : (f45r1n0 a1 a2 a3) = some o) : T Try.prog Try.f45.ntmps 15 c45 (f45r1n0S a1 a2 a3) (fun r => r = f45r1n0E a1 a2 a3 o) := by
  unfold f45r1n0 at h
  obtain ⟨x7, h8, h⟩ := bind_cases h
  rcases cond_cases h with ⟨h9, h⟩ | ⟨h9, h⟩
  · obtain ⟨x12, h13, h⟩ := bind_cases h
    obtain rfl := some_inj h
    exact run_end cfg_ok (rs := [([], [], []), ([], [(2, .call (.pl (.int .i64 x7)) [none, none, none, none, none, none, none, none, none, none, none, none, none, none, some (.row false 8 (a3.map NovateTrade.cells))])], []), ([], [], []), ([], [(3, .idx 0 (NovateTrade.cells x12))], [(3, .row 14 ((a3.set a1 (NovateTrade.mk x12.Buyer x12.Seller x12.Product x12.Quantity x12.Price x12.Bought x12.Sold 2)).map NovateTrade.cells))]), ([], [], [])]) (ps := [some false]) (tds := []) (m := []) (keep := [3]) (r := (.ret, (f45r1n0E a1 a2 a3 (.ret 0 (a3.set a1 (NovateTrade.mk x12.Buyer x12.Seller x12.Product x12.Quantity x12.Price x12.Bought x12.Sold 2)))).2)) (by kernel_rfl) (ap (f39r1_ok a1 a2 a3 h8) (ap (not_t h9) (ap (at_map NovateTrade.cells h13) (ap (set_cv (xs := a3) (c := NovateTrade.cells) (k := a1) (x := (NovateTrade.mk x12.Buyer x12.Seller x12.Product x12.Quantity x12.Price x12.Bought x12.Sold 2))) an)))) rfl
  · obtain rfl := some_inj h
    exact runK_end cfg_ok (k := 2) (rs := [([], [], []), ([], [(2, .call (.pl (.int .i64 x7)) [none, none, none, none, none, none, none, none, none, none, none, none, none, none, some (.row false 8 (a3.map NovateTrade.cells))])], []), ([], [], []), ([], [], [])]) (ps := [some true]) (tds := []) (m := []) (keep := [3]) (ex := .ret) (st' := (f45r1n0E a1 a2 a3 (.ret x7 a3)).2) (by kernel_rfl) (ap (f39r1_ok a1 a2 a3 h8) (ap (not_f h9) an)) (fun h => nomatch h) rfl
def f45r1 (a1 : Nat) (a2 : ByteArray) (a3 : List NovateTrade) : Option (Int × (List NovateTrade)) := (f45r1n0 a1 a2 a3).bind fun o => match o with
  | .ret v14 v15 => some (v14, v15)
theorem f45r1_ok (a1 : Nat) (a2 : ByteArray) (a3 : List NovateTrade) {r : Int × (List NovateTrade)} (h : (f45r1 a1 a2 a3) = some r) : CallS Try.prog true 45 [(.ep 14 a1 0), (.bp 10 0)] [none, none, none, none, none, none, none, none, none, none, some (.box ((cStr a2).map .pl)), none, none, none, some (.row false 8 (a3.map NovateTrade.cells))] (.pl (.int .i64 r.1)) [none, none, none, none, none, none, none, none, none, none, some (.box ((cStr a2).map .pl)), none, none, none, some (.row false 8 (r.2.map NovateTrade.cells))] := by
  unfold f45r1 at h
  obtain ⟨o, ho, h⟩ := bind_cases h
  cases o with
  | ret v14 v15 =>
    obtain rfl := some_inj h
    exact CallS.shared cfg_ok (f := Try.f45) (c := c45) (by kernel_rfl) (by kernel_rfl) (by kernel_rfl) ((f45r1n0_ok a1 a2 a3 ho).mono fun r e => by subst e; exact ⟨.inl rfl, by kernel_rfl, by kernel_rfl⟩)
/-! ### novation/novate.change -/
noncomputable def c37 : Code := Try.f37.body.getD .skip
inductive f37r1n2O where
  | norm (v17 : Bool)
def f37r1n2E (bd1 : Int) (bd2 : Int) (ba3 : List NovateTrade) (bc4 : ByteArray) : f37r1n2O → Ex × Tr × Hp
  | .norm v17 => (.norm, mkS [(1, (.pl (.int .i64 bd1))), (2, (.clo 45 [(.bp 10 0)])), (3, (.bp 12 0)), (6, (.bp 13 0)), (8, (.pl (.int .i64 bd2))), (25, (.pl (.bool v17)))], [none, none, none, some (.row true 8 (ba3.map NovateTrade.cells)), none, none, none, none, none, none, some (.box ((cStr bc4).map .pl)), none, some (.box [(.own 3)]), some (.box [(.pl (.sl .nil 0 []))])])
def f37r1n2S (bd1 : Int) (bd2 : Int) (ba3 : List NovateTrade) (bc4 : ByteArray) : Tr × Hp := (mkS [(1, (.pl (.int .i64 bd1))), (2, (.clo 45 [(.bp 10 0)])), (3, (.bp 12 0)), (6, (.bp 13 0)), (8, (.pl (.int .i64 bd2)))], [none, none, none, some (.row true 8 (ba3.map NovateTrade.cells)), none, none, none, none, none, none, some (.box ((cStr bc4).map .pl)), none, some (.box [(.own 3)]), some (.box [(.pl (.sl .nil 0 []))])])
def f37r1n2 (bd1 : Int) (bd2 : Int) (ba3 : List NovateTrade) (bc4 : ByteArray) : Option f37r1n2O :=
  bif (decide (bd2 = 0)) then
    bif (decide (bd1 < 1)) then
      some (.norm true)
    else
      some (.norm (decide ((ba3.length : Int) < bd1)))
  else
    some (.norm false)
theorem f37r1n2_ok (bd1 : Int) (bd2 : Int) (ba3 : List NovateTrade) (bc4 : ByteArray) {o : f37r1n2O} (h : (f37r1n2 bd1 bd2 ba3 bc4) = some o) : T Try.prog Try.f37.ntmps 12 (cL (dropC 0 (cL (dropC 2 c37)))) (f37r1n2S bd1 bd2 ba3 bc4) (fun r => r = f37r1n2E bd1 bd2 ba3 bc4 o) := by
  unfold f37r1n2 at h
  rcases cond_cases h with ⟨h15, h⟩ | ⟨h15, h⟩
  · rcases cond_cases h with ⟨h16, h⟩ | ⟨h16, h⟩
    · obtain rfl := some_inj h
      exact run_end cfg_ok (rs := [([(3, true), (4, true), (5, true), (6, true), (7, true), (8, true), (9, true), (10, true), (11, true)], [(11, .bool true), (12, .bool true)], [])]) (ps := []) (tds := []) (m := [12, 13]) (keep := [1, 2, 3, 6, 8, 25]) (r := (.norm, (f37r1n2E bd1 bd2 ba3 bc4 (.norm true)).2)) (by kernel_rfl) (ap h15 (ap h15 (ap h15 (ap h16 (ap h16 (ap h16 (ap h16 (ap h16 (ap h15 (ap h16 (ap h15 an))))))))))) rfl
    · obtain rfl := some_inj h
      exact run_end cfg_ok (rs := [([(3, true), (4, true), (5, true), (6, false), (7, false), (8, false), (9, false), (10, false), (11, true)], [(11, .bool false), (12, .bool true)], [(9, .val (.pl (.int .i64 (ba3.length : Int))))])]) (ps := []) (tds := []) (m := [12, 13]) (keep := [1, 2, 3, 6, 8, 25]) (r := (.norm, (f37r1n2E bd1 bd2 ba3 bc4 (.norm (decide ((ba3.length : Int) < bd1)))).2)) (by kernel_rfl) (ap h15 (ap h15 (ap h15 (ap h16 (ap h16 (ap h16 (ap h16 (ap (len_cv (xs := ba3) (c := NovateTrade.cells)) (ap h16 (ap h15 (ap h16 (ap h15 an)))))))))))) rfl
  · obtain rfl := some_inj h
    exact run_end cfg_ok (rs := [([(3, false), (4, false), (5, false), (11, false)], [(12, .bool false)], [])]) (ps := []) (tds := []) (m := [12, 13]) (keep := [1, 2, 3, 6, 8, 25]) (r := (.norm, (f37r1n2E bd1 bd2 ba3 bc4 (.norm false)).2)) (by kernel_rfl) (ap h15 (ap h15 (ap h15 (ap h15 (ap h15 an))))) rfl
inductive f37r1n1O where
  | norm (v23 : Int)
def f37r1n1E (bd1 : Int) (bd2 : Int) (ba3 : List NovateTrade) (bc4 : ByteArray) : f37r1n1O → Ex × Tr × Hp
  | .norm v23 => (.norm, mkS [(1, (.pl (.int .i64 bd1))), (2, (.clo 45 [(.bp 10 0)])), (3, (.bp 12 0)), (6, (.bp 13 0)), (8, (.pl (.int .i64 v23)))], [none, none, none, some (.row true 8 (ba3.map NovateTrade.cells)), none, none, none, none, none, none, some (.box ((cStr bc4).map .pl)), none, some (.box [(.own 3)]), some (.box [(.pl (.sl .nil 0 []))])])
def f37r1n1S (bd1 : Int) (bd2 : Int) (ba3 : List NovateTrade) (bc4 : ByteArray) : Tr × Hp := (mkS [(1, (.pl (.int .i64 bd1))), (2, (.clo 45 [(.bp 10 0)])), (3, (.bp 12 0)), (6, (.bp 13 0)), (8, (.pl (.int .i64 bd2)))], [none, none, none, some (.row true 8 (ba3.map NovateTrade.cells)), none, none, none, none, none, none, some (.box ((cStr bc4).map .pl)), none, some (.box [(.own 3)]), some (.box [(.pl (.sl .nil 0 []))])])
def f37r1n1 (bd1 : Int) (bd2 : Int) (ba3 : List NovateTrade) (bc4 : ByteArray) : Option f37r1n1O :=
  (f37r1n2 bd1 bd2 ba3 bc4).bind fun o18 => match o18 with
  | .norm v20 => bif v20 then
      some (.norm 6)
    else
      some (.norm bd2)
theorem f37r1n1_ok (bd1 : Int) (bd2 : Int) (ba3 : List NovateTrade) (bc4 : ByteArray) {o : f37r1n1O} (h : (f37r1n1 bd1 bd2 ba3 bc4) = some o) : T Try.prog Try.f37.ntmps 12 (cL (dropC 2 c37)) (f37r1n1S bd1 bd2 ba3 bc4) (fun r => r = f37r1n1E bd1 bd2 ba3 bc4 o) := by
  unfold f37r1n1 at h
  refine runK_norm cfg_ok (k := 0) (rs := []) (ps := []) (tds := []) (m := [12, 13]) (keep := [1, 2, 3, 6, 8]) (st' := (f37r1n2S bd1 bd2 ba3 bc4)) (by kernel_rfl) an ?_
  obtain ⟨o18, h19, h⟩ := bind_cases h
  cases o18 with
  | norm v20 =>
    refine T.oneN (by kernel_rfl) (f37r1n2_ok bd1 bd2 ba3 bc4 h19) (st2 := (f37r1n2E bd1 bd2 ba3 bc4 (.norm v20)).2) rfl ?_
    rcases cond_cases h with ⟨h22, h⟩ | ⟨h22, h⟩
    · obtain rfl := some_inj h
      exact run_end cfg_ok (rs := [([], [], [])]) (ps := [some true]) (tds := []) (m := [12, 13]) (keep := [1, 2, 3, 6, 8]) (r := (.norm, (f37r1n1E bd1 bd2 ba3 bc4 (.norm 6)).2)) (by kernel_rfl) (ap h22 an) rfl
    · obtain rfl := some_inj h
      exact run_end cfg_ok (rs := []) (ps := [some false]) (tds := []) (m := [12, 13]) (keep := [1, 2, 3, 6, 8]) (r := (.norm, (f37r1n1E bd1 bd2 ba3 bc4 (.norm bd2)).2)) (by kernel_rfl) (ap h22 an) rfl
inductive f37r1n0O where
  | ret (v43 : Int) (v44 : List NovateTrade)
def f37r1n0E (a1 : Int) (a2 : List NovateTrade) (a3 : ByteArray) : f37r1n0O → Ex × Tr × Hp
  | .ret v43 v44 => (.ret, mkS [(6, (.bp 12 0)), (7, (.pl (.int .i64 v43)))], [none, none, none, some (.row true 8 (a2.map NovateTrade.cells)), none, none, none, none, none, none, some (.box ((cStr a3).map .pl)), none, some (.box [(.own 13)]), some (.row false 8 (v44.map NovateTrade.cells))])
def f37r1n0S (a1 : Int) (a2 : List NovateTrade) (a3 : ByteArray) : Tr × Hp := (initS [(.agg [(.own 3)]), (.pl (.int .i64 a1)), (.clo 45 [(.bp 10 0)])] 0 .leaf, [none, none, none, some (.row false 8 (a2.map NovateTrade.cells)), none, none, none, none, none, none, some (.box ((cStr a3).map .pl)), none])
def f37r1n0 (a1 : Int) (a2 : List NovateTrade) (a3 : ByteArray) : Option f37r1n0O :=
  (f13 (NovateBook.mk a2)).bind fun x6 =>
  (f37r1n1 a1 x6 a2 a3).bind fun o24 => match o24 with
  | .norm v26 => bif (decide (v26 = 0)) then
      (f36r2 a2).bind fun x31 =>
      (at? x31 (wr64 (a1 - 1))).bind fun x38 =>
      (f45r1 (Int.toNat (wr64 (a1 - 1))) a3 x31).bind fun x40 =>
      bif (decide (x40.1 = 0)) then
        some (.ret 0 x40.2)
      else
        some (.ret x40.1 [])
    else
      some (.ret v26 [])
theorem f37r1n0_ok (a1 : Int) (a2 : List NovateTrade) (a3 : ByteArray) {o : f37r1n0O} (h : (f37r1n0 a1 a2 a3) = some o) : T Try.prog Try.f37.ntmps 12 c37 (f37r1n0S a1 a2 a3) (fun r => r = f37r1n0E a1 a2 a3 o) := by
  unfold f37r1n0 at h
  obtain ⟨x6, h7, h⟩ := bind_cases h
  refine runK_norm cfg_ok (k := 2) (rs := [([], [], []), ([], [(1, .call (.pl (.int .i64 x6)) [])], [])]) (ps := []) (tds := []) (m := [12, 13]) (keep := [1, 2, 3, 6, 8]) (st' := (f37r1n1S a1 x6 a2 a3)) (by kernel_rfl) (ap (f13_ok (NovateBook.mk a2) h7) an) ?_
  obtain ⟨o24, h25, h⟩ := bind_cases h
  cases o24 with
  | norm v26 =>
    refine T.oneN (by kernel_rfl) (f37r1n1_ok a1 x6 a2 a3 h25) (st2 := (f37r1n1E a1 x6 a2 a3 (.norm v26)).2) rfl ?_
    rcases cond_cases h with ⟨h28, h⟩ | ⟨h28, h⟩
    · obtain ⟨x31, h32, h⟩ := bind_cases h
      obtain ⟨x38, h39, h⟩ := bind_cases h
      obtain ⟨x40, h41, h⟩ := bind_cases h
      rcases cond_cases h with ⟨h42, h⟩ | ⟨h42, h⟩
      · obtain rfl := some_inj h
        exact run_end cfg_ok (rs := [([], [], []), ([], [(2, .call (.own 14) [none, none, none, some (.row true 8 (a2.map NovateTrade.cells)), none, none, none, none, none, none, none, none, none, none, some (.row false 8 (x31.map NovateTrade.cells))])], []), ([], [(4, .at_ (Int.toNat (wr64 (a1 - 1)))), (5, .call (.pl (.int .i64 x40.1)) [none, none, none, none, none, none, none, none, none, none, some (.box ((cStr a3).map .pl)), none, none, none, some (.row false 8 (x40.2.map NovateTrade.cells))])], []), ([], [], []), ([], [], [])]) (ps := [some false, some false]) (tds := []) (m := [13, 14]) (keep := [6, 7]) (r := (.ret, (f37r1n0E a1 a2 a3 (.ret 0 x40.2)).2)) (by kernel_rfl) (ap (not_t h28) (ap (f36r2_ok a2 h32) (ap (at_some h39).1 (ap (lt_map NovateTrade.cells (at_some h39).2) (ap (f45r1_ok (Int.toNat (wr64 (a1 - 1))) a3 x31 h41) (ap (not_t h42) an)))))) rfl
      · obtain rfl := some_inj h
        exact runK_end cfg_ok (k := 3) (rs := [([], [], []), ([], [(2, .call (.own 14) [none, none, none, some (.row true 8 (a2.map NovateTrade.cells)), none, none, none, none, none, none, none, none, none, none, some (.row false 8 (x31.map NovateTrade.cells))])], []), ([], [(4, .at_ (Int.toNat (wr64 (a1 - 1)))), (5, .call (.pl (.int .i64 x40.1)) [none, none, none, none, none, none, none, none, none, none, some (.box ((cStr a3).map .pl)), none, none, none, some (.row false 8 (x40.2.map NovateTrade.cells))])], []), ([], [], []), ([], [], [])]) (ps := [some false, some true]) (tds := [.matC 13 0 8]) (m := [13, 15]) (keep := [6, 7]) (ex := .ret) (st' := (f37r1n0E a1 a2 a3 (.ret x40.1 [])).2) (by kernel_rfl) (ap (not_t h28) (ap (f36r2_ok a2 h32) (ap (at_some h39).1 (ap (lt_map NovateTrade.cells (at_some h39).2) (ap (f45r1_ok (Int.toNat (wr64 (a1 - 1))) a3 x31 h41) (ap (not_f h42) an)))))) (fun h => nomatch h) rfl
    · obtain rfl := some_inj h
      exact runK_end cfg_ok (k := 1) (rs := [([], [], []), ([], [], [])]) (ps := [some true]) (tds := [.matC 13 0 8]) (m := [13, 14]) (keep := [6, 7]) (ex := .ret) (st' := (f37r1n0E a1 a2 a3 (.ret v26 [])).2) (by kernel_rfl) (ap (not_f h28) an) (fun h => nomatch h) rfl
def f37r1 (a1 : Int) (a2 : List NovateTrade) (a3 : ByteArray) : Option (Int × (List NovateTrade)) := (f37r1n0 a1 a2 a3).bind fun o => match o with
  | .ret v43 v44 => some (v43, v44)
theorem f37r1_ok (a1 : Int) (a2 : List NovateTrade) (a3 : ByteArray) {r : Int × (List NovateTrade)} (h : (f37r1 a1 a2 a3) = some r) : CallS Try.prog true 37 [(.agg [(.own 3)]), (.pl (.int .i64 a1)), (.clo 45 [(.bp 10 0)])] [none, none, none, some (.row false 8 (a2.map NovateTrade.cells)), none, none, none, none, none, none, some (.box ((cStr a3).map .pl)), none] (.tup [(.agg [(.own 13)]), (.pl (.int .i64 r.1))]) [none, none, none, some (.row true 8 (a2.map NovateTrade.cells)), none, none, none, none, none, none, some (.box ((cStr a3).map .pl)), none, some (.box [(.own 13)]), some (.row false 8 (r.2.map NovateTrade.cells))] := by
  unfold f37r1 at h
  obtain ⟨o, ho, h⟩ := bind_cases h
  cases o with
  | ret v43 v44 =>
    obtain rfl := some_inj h
    exact CallS.shared cfg_ok (f := Try.f37) (c := c37) (by kernel_rfl) (by kernel_rfl) (by kernel_rfl) ((f37r1n0_ok a1 a2 a3 ho).mono fun r e => by subst e; exact ⟨.inl rfl, by kernel_rfl, by kernel_rfl⟩)
/-! ### novation/novate.Refuse -/
noncomputable def c23 : Code := Try.f23.body.getD .skip
inductive f23r1n0O where
  | ret (v8 : Int) (v9 : List NovateTrade)
def f23r1n0E (a1 : Int) (a2 : ByteArray) (a3 : List NovateTrade) : f23r1n0O → Ex × Tr × Hp
  | .ret v8 v9 => (.ret, mkS [(6, (.bp 9 0)), (7, (.pl (.int .i64 v8)))], [none, none, none, some (.row true 8 (a3.map NovateTrade.cells)), none, none, none, none, none, some (.box [(.own 10)]), some (.row false 8 (v9.map NovateTrade.cells))])
def f23r1n0S (a1 : Int) (a2 : ByteArray) (a3 : List NovateTrade) : Tr × Hp := (initS [(.agg [(.own 3)]), (.pl (.int .i64 a1)), (.pl (.str a2))] 0 .leaf, [none, none, none, some (.row false 8 (a3.map NovateTrade.cells)), none, none, none, none, none])
def f23r1n0 (a1 : Int) (a2 : ByteArray) (a3 : List NovateTrade) : Option f23r1n0O :=
  (f37r1 a1 a3 a2).bind fun x6 =>
  some (.ret x6.1 x6.2)
theorem f23r1n0_ok (a1 : Int) (a2 : ByteArray) (a3 : List NovateTrade) {o : f23r1n0O} (h : (f23r1n0 a1 a2 a3) = some o) : T Try.prog Try.f23.ntmps 9 c23 (f23r1n0S a1 a2 a3) (fun r => r = f23r1n0E a1 a2 a3 o) := by
  unfold f23r1n0 at h
  obtain ⟨x6, h7, h⟩ := bind_cases h
  obtain rfl := some_inj h
  exact run_end cfg_ok (rs := [([], [], []), ([], [(3, .call (.tup [(.agg [(.own 13)]), (.pl (.int .i64 x6.1))]) [none, none, none, some (.row true 8 (a3.map NovateTrade.cells)), none, none, none, none, none, none, some (.box ((cStr a2).map .pl)), none, some (.box [(.own 13)]), some (.row false 8 (x6.2.map NovateTrade.cells))])], [])]) (ps := []) (tds := []) (m := [11, 13]) (keep := [6, 7]) (r := (.ret, (f23r1n0E a1 a2 a3 (.ret x6.1 x6.2)).2)) (by kernel_rfl) (ap (f37r1_ok a1 a3 a2 h7) an) rfl
def f23r1 (a1 : Int) (a2 : ByteArray) (a3 : List NovateTrade) : Option (Int × (List NovateTrade)) := (f23r1n0 a1 a2 a3).bind fun o => match o with
  | .ret v8 v9 => some (v8, v9)
theorem f23r1_ok (a1 : Int) (a2 : ByteArray) (a3 : List NovateTrade) {r : Int × (List NovateTrade)} (h : (f23r1 a1 a2 a3) = some r) : CallS Try.prog true 23 [(.agg [(.own 3)]), (.pl (.int .i64 a1)), (.pl (.str a2))] [none, none, none, some (.row false 8 (a3.map NovateTrade.cells)), none, none, none, none, none] (.tup [(.agg [(.own 10)]), (.pl (.int .i64 r.1))]) [none, none, none, some (.row true 8 (a3.map NovateTrade.cells)), none, none, none, none, none, some (.box [(.own 10)]), some (.row false 8 (r.2.map NovateTrade.cells))] := by
  unfold f23r1 at h
  obtain ⟨o, ho, h⟩ := bind_cases h
  cases o with
  | ret v8 v9 =>
    obtain rfl := some_inj h
    exact CallS.shared cfg_ok (f := Try.f23) (c := c23) (by kernel_rfl) (by kernel_rfl) (by kernel_rfl) ((f23r1n0_ok a1 a2 a3 ho).mono fun r e => by subst e; exact ⟨.inl rfl, by kernel_rfl, by kernel_rfl⟩)
/-! ### slices.Clone[[]novation/api.NovateTrade,novation/api.NovateTrade] -/
inductive f36r3n0O where
  | ret (v5 : List NovateTrade)
def f36r3n0E (a1 : List NovateTrade) : f36r3n0O → Ex × Tr × Hp
  | .ret v5 => (.ret, mkS [(2, (.own 13))], [none, none, none, some (.row true 8 (a1.map NovateTrade.cells)), none, none, none, none, none, none, none, none, none, some (.row false 8 (v5.map NovateTrade.cells))])
def f36r3n0S (a1 : List NovateTrade) : Tr × Hp := (initS [(.own 3)] 0 .leaf, [none, none, none, some (.row true 8 (a1.map NovateTrade.cells)), none, none, none, none, none, none, none, none, none])
def f36r3n0 (a1 : List NovateTrade) : Option f36r3n0O :=
  bif (a1.isEmpty) then
    some (.ret [])
  else
    req (fit a1.length 72) <|
    some (.ret a1)
theorem f36r3n0_ok (a1 : List NovateTrade) {o : f36r3n0O} (h : (f36r3n0 a1) = some o) : T Try.prog Try.f36.ntmps 13 c36 (f36r3n0S a1) (fun r => r = f36r3n0E a1 o) := by
  unfold f36r3n0 at h
  refine runK_norm cfg_ok (k := 1) (rs := [([], [], [])]) (ps := []) (tds := []) (m := []) (keep := [0]) (st' := (mkS [(0, (.own 3))], [none, none, none, some (.row true 8 (a1.map NovateTrade.cells)), none, none, none, none, none, none, none, none, none])) (by kernel_rfl) an ?_
  refine T.nest (by kernel_rfl) ?_
  rcases cond_cases h with ⟨h2, h⟩ | ⟨h2, h⟩
  · refine runK_norm cfg_ok (k := 0) (rs := []) (ps := []) (tds := []) (m := []) (keep := [0]) (st' := (mkS [(0, (.own 3))], [none, none, none, some (.row true 8 (a1.map NovateTrade.cells)), none, none, none, none, none, none, none, none, none])) (by kernel_rfl) an ?_
    refine T.oneNil cfg_ok (x := .tmp 0) (t := 22) (t3 := 3) (t4 := 4) (sz := 8) (es := (a1.map NovateTrade.cells)) (by kernel_rfl) (by kernel_rfl) (by kernel_rfl) (by kernel_rfl) (by kernel_rfl) (fun b hb => ?_)
    cases b
    · refine run_end cfg_ok (rs := []) (ps := [none]) (tds := []) (m := []) (keep := [0]) (r := (.norm, (mkS [(0, (.own 3))], [none, none, none, some (.row true 8 (a1.map NovateTrade.cells)), none, none, none, none, none, none, none, none, none]))) (by kernel_rfl) an (ThenQ.norm ?_)
      obtain rfl := some_inj h
      exact run_end cfg_ok (rs := [([], [(2, .app false)], [])]) (ps := []) (tds := []) (m := [13]) (keep := [2]) (r := (.ret, (f36r3n0E a1 (.ret [])).2)) (by kernel_rfl) (ap (nil_map (c := NovateTrade.cells) h2) an) rfl
    · obtain rfl := some_inj h
      exact run_end cfg_ok (rs := [([], [], [])]) (ps := [none]) (tds := [.mat 2 8]) (m := [13]) (keep := [2]) (r := (.ret, (f36r3n0E a1 (.ret [])).2)) (by kernel_rfl) an (ThenQ.out rfl rfl)
  · refine runK_norm cfg_ok (k := 0) (rs := []) (ps := []) (tds := []) (m := []) (keep := [0]) (st' := (mkS [(0, (.own 3))], [none, none, none, some (.row true 8 (a1.map NovateTrade.cells)), none, none, none, none, none, none, none, none, none])) (by kernel_rfl) an ?_
    refine T.oneNil cfg_ok (x := .tmp 0) (t := 22) (t3 := 3) (t4 := 4) (sz := 8) (es := (a1.map NovateTrade.cells)) (by kernel_rfl) (by kernel_rfl) (by kernel_rfl) (by kernel_rfl) (by kernel_rfl) (fun b hb => ?_)
    cases b
    · refine run_end cfg_ok (rs := []) (ps := [none]) (tds := []) (m := []) (keep := [0]) (r := (.norm, (mkS [(0, (.own 3))], [none, none, none, some (.row true 8 (a1.map NovateTrade.cells)), none, none, none, none, none, none, none, none, none]))) (by kernel_rfl) an (ThenQ.norm ?_)
      obtain ⟨h4, h⟩ := req_cases h
      obtain rfl := some_inj h
      exact run_end cfg_ok (rs := [([], [(2, .app true)], [])]) (ps := []) (tds := []) (m := [14]) (keep := [2]) (r := (.ret, (f36r3n0E a1 (.ret a1)).2)) (by kernel_rfl) (ap (fit_map0z (te := ti34) (xs := a1) (c := NovateTrade.cells) h4 rfl) (ap (ne_map (c := NovateTrade.cells) h2) (ap (len_all (c := NovateTrade.cells) (xs := a1) (n := 8) (fun _ => rfl)) an))) rfl
    · exact absurd (hb rfl) (ne_map (c := NovateTrade.cells) h2)
def f36r3 (a1 : List NovateTrade) : Option (List NovateTrade) := (f36r3n0 a1).bind fun o => match o with
  | .ret v5 => some v5
theorem f36r3_ok (a1 : List NovateTrade) {r : List NovateTrade} (h : (f36r3 a1) = some r) : CallS Try.prog true 36 [(.own 3)] [none, none, none, some (.row true 8 (a1.map NovateTrade.cells)), none, none, none, none, none, none, none, none, none] (.own 13) [none, none, none, some (.row true 8 (a1.map NovateTrade.cells)), none, none, none, none, none, none, none, none, none, some (.row false 8 (r.map NovateTrade.cells))] := by
  unfold f36r3 at h
  obtain ⟨o, ho, h⟩ := bind_cases h
  cases o with
  | ret v5 =>
    obtain rfl := some_inj h
    exact CallS.shared cfg_ok (f := Try.f36) (c := c36) (by kernel_rfl) (by kernel_rfl) (by kernel_rfl) ((f36r3n0_ok a1 ho).mono fun r e => by subst e; exact ⟨.inl rfl, by kernel_rfl, by kernel_rfl⟩)
/-! ### novation/novate.Undo$1 -/
noncomputable def c40 : Code := Try.f40.body.getD .skip
inductive f40r1n0O where
  | ret (v9 : Int) (v10 : List NovateTrade)
def f40r1n0E (a1 : Nat) (a2 : List NovateTrade) : f40r1n0O → Ex × Tr × Hp
  | .ret v9 v10 => (.ret, mkS [(2, (.pl (.int .i64 v9)))], [none, none, none, none, none, none, none, none, none, none, none, none, none, some (.row false 8 (v10.map NovateTrade.cells))])
def f40r1n0S (a1 : Nat) (a2 : List NovateTrade) : Tr × Hp := (initS [(.ep 13 a1 0)] 0 .leaf, [none, none, none, none, none, none, none, none, none, none, none, none, none, some (.row false 8 (a2.map NovateTrade.cells))])
def f40r1n0 (a1 : Nat) (a2 : List NovateTrade) : Option f40r1n0O :=
  (a2[a1]?).bind fun x6 =>
  bif (decide (x6.Stage = 1)) then
    some (.ret 0 (a2.set a1 (NovateTrade.mk x6.Buyer x6.Seller x6.Product x6.Quantity x6.Price x6.Bought x6.Sold 3)))
  else
    some (.ret 20 a2)
theorem f40r1n0_ok (a1 : Nat) (a2 : List NovateTrade) {o : f40r1n0O} (h : (f40r1n0 a1 a2) = some o) : T Try.prog Try.f40.ntmps 14 c40 (f40r1n0S a1 a2) (fun r => r = f40r1n0E a1 a2 o) := by
  unfold f40r1n0 at h
  obtain ⟨x6, h7, h⟩ := bind_cases h
  rcases cond_cases h with ⟨h8, h⟩ | ⟨h8, h⟩
  · obtain rfl := some_inj h
    exact run_end cfg_ok (rs := [([], [], []), ([], [(3, .idx 0 (NovateTrade.cells x6))], []), ([], [(3, .idx 0 (NovateTrade.cells x6))], [(3, .row 13 ((a2.set a1 (NovateTrade.mk x6.Buyer x6.Seller x6.Product x6.Quantity x6.Price x6.Bought x6.Sold 3)).map NovateTrade.cells))]), ([], [], [])]) (ps := [some false]) (tds := []) (m := []) (keep := [2]) (r := (.ret, (f40r1n0E a1 a2 (.ret 0 (a2.set a1 (NovateTrade.mk x6.Buyer x6.Seller x6.Product x6.Quantity x6.Price x6.Bought x6.Sold 3)))).2)) (by kernel_rfl) (ap (at_map NovateTrade.cells h7) (ap (not_t h8) (ap (at_map NovateTrade.cells h7) (ap (set_cv (xs := a2) (c := NovateTrade.cells) (k := a1) (x := (NovateTrade.mk x6.Buyer x6.Seller x6.Product x6.Quantity x6.Price x6.Bought x6.Sold 3))) an)))) rfl
  · obtain rfl := some_inj h
    exact runK_end cfg_ok (k := 2) (rs := [([], [], []), ([], [(3, .idx 0 (NovateTrade.cells x6))], []), ([], [], [])]) (ps := [some true]) (tds := []) (m := []) (keep := [2]) (ex := .ret) (st' := (f40r1n0E a1 a2 (.ret 20 a2)).2) (by kernel_rfl) (ap (at_map NovateTrade.cells h7) (ap (not_f h8) an)) (fun h => nomatch h) rfl
def f40r1 (a1 : Nat) (a2 : List NovateTrade) : Option (Int × (List NovateTrade)) := (f40r1n0 a1 a2).bind fun o => match o with
  | .ret v9 v10 => some (v9, v10)
theorem f40r1_ok (a1 : Nat) (a2 : List NovateTrade) {r : Int × (List NovateTrade)} (h : (f40r1 a1 a2) = some r) : CallS Try.prog true 40 [(.ep 13 a1 0)] [none, none, none, none, none, none, none, none, none, none, none, none, none, some (.row false 8 (a2.map NovateTrade.cells))] (.pl (.int .i64 r.1)) [none, none, none, none, none, none, none, none, none, none, none, none, none, some (.row false 8 (r.2.map NovateTrade.cells))] := by
  unfold f40r1 at h
  obtain ⟨o, ho, h⟩ := bind_cases h
  cases o with
  | ret v9 v10 =>
    obtain rfl := some_inj h
    exact CallS.shared cfg_ok (f := Try.f40) (c := c40) (by kernel_rfl) (by kernel_rfl) (by kernel_rfl) ((f40r1n0_ok a1 a2 ho).mono fun r e => by subst e; exact ⟨.inl rfl, by kernel_rfl, by kernel_rfl⟩)
/-! ### novation/novate.change -/
inductive f37r2n2O where
  | norm (v16 : Bool)
def f37r2n2E (bd1 : Int) (bd2 : Int) (ba3 : List NovateTrade) : f37r2n2O → Ex × Tr × Hp
  | .norm v16 => (.norm, mkS [(1, (.pl (.int .i64 bd1))), (2, (.pl (.fn 40))), (3, (.bp 11 0)), (6, (.bp 12 0)), (8, (.pl (.int .i64 bd2))), (25, (.pl (.bool v16)))], [none, none, none, some (.row true 8 (ba3.map NovateTrade.cells)), none, none, none, none, none, none, none, some (.box [(.own 3)]), some (.box [(.pl (.sl .nil 0 []))])])
def f37r2n2S (bd1 : Int) (bd2 : Int) (ba3 : List NovateTrade) : Tr × Hp := (mkS [(1, (.pl (.int .i64 bd1))), (2, (.pl (.fn 40))), (3, (.bp 11 0)), (6, (.bp 12 0)), (8, (.pl (.int .i64 bd2)))], [none, none, none, some (.row true 8 (ba3.map NovateTrade.cells)), none, none, none, none, none, none, none, some (.box [(.own 3)]), some (.box [(.pl (.sl .nil 0 []))])])
def f37r2n2 (bd1 : Int) (bd2 : Int) (ba3 : List NovateTrade) : Option f37r2n2O :=
  bif (decide (bd2 = 0)) then
    bif (decide (bd1 < 1)) then
      some (.norm true)
    else
      some (.norm (decide ((ba3.length : Int) < bd1)))
  else
    some (.norm false)
theorem f37r2n2_ok (bd1 : Int) (bd2 : Int) (ba3 : List NovateTrade) {o : f37r2n2O} (h : (f37r2n2 bd1 bd2 ba3) = some o) : T Try.prog Try.f37.ntmps 11 (cL (dropC 0 (cL (dropC 2 c37)))) (f37r2n2S bd1 bd2 ba3) (fun r => r = f37r2n2E bd1 bd2 ba3 o) := by
  unfold f37r2n2 at h
  rcases cond_cases h with ⟨h14, h⟩ | ⟨h14, h⟩
  · rcases cond_cases h with ⟨h15, h⟩ | ⟨h15, h⟩
    · obtain rfl := some_inj h
      exact run_end cfg_ok (rs := [([(3, true), (4, true), (5, true), (6, true), (7, true), (8, true), (9, true), (10, true), (11, true)], [(11, .bool true), (12, .bool true)], [])]) (ps := []) (tds := []) (m := [11, 12]) (keep := [1, 2, 3, 6, 8, 25]) (r := (.norm, (f37r2n2E bd1 bd2 ba3 (.norm true)).2)) (by kernel_rfl) (ap h14 (ap h14 (ap h14 (ap h15 (ap h15 (ap h15 (ap h15 (ap h15 (ap h14 (ap h15 (ap h14 an))))))))))) rfl
    · obtain rfl := some_inj h
      exact run_end cfg_ok (rs := [([(3, true), (4, true), (5, true), (6, false), (7, false), (8, false), (9, false), (10, false), (11, true)], [(11, .bool false), (12, .bool true)], [(9, .val (.pl (.int .i64 (ba3.length : Int))))])]) (ps := []) (tds := []) (m := [11, 12]) (keep := [1, 2, 3, 6, 8, 25]) (r := (.norm, (f37r2n2E bd1 bd2 ba3 (.norm (decide ((ba3.length : Int) < bd1)))).2)) (by kernel_rfl) (ap h14 (ap h14 (ap h14 (ap h15 (ap h15 (ap h15 (ap h15 (ap (len_cv (xs := ba3) (c := NovateTrade.cells)) (ap h15 (ap h14 (ap h15 (ap h14 an)))))))))))) rfl
  · obtain rfl := some_inj h
    exact run_end cfg_ok (rs := [([(3, false), (4, false), (5, false), (11, false)], [(12, .bool false)], [])]) (ps := []) (tds := []) (m := [11, 12]) (keep := [1, 2, 3, 6, 8, 25]) (r := (.norm, (f37r2n2E bd1 bd2 ba3 (.norm false)).2)) (by kernel_rfl) (ap h14 (ap h14 (ap h14 (ap h14 (ap h14 an))))) rfl
inductive f37r2n1O where
  | norm (v22 : Int)
def f37r2n1E (bd1 : Int) (bd2 : Int) (ba3 : List NovateTrade) : f37r2n1O → Ex × Tr × Hp
  | .norm v22 => (.norm, mkS [(1, (.pl (.int .i64 bd1))), (2, (.pl (.fn 40))), (3, (.bp 11 0)), (6, (.bp 12 0)), (8, (.pl (.int .i64 v22)))], [none, none, none, some (.row true 8 (ba3.map NovateTrade.cells)), none, none, none, none, none, none, none, some (.box [(.own 3)]), some (.box [(.pl (.sl .nil 0 []))])])
def f37r2n1S (bd1 : Int) (bd2 : Int) (ba3 : List NovateTrade) : Tr × Hp := (mkS [(1, (.pl (.int .i64 bd1))), (2, (.pl (.fn 40))), (3, (.bp 11 0)), (6, (.bp 12 0)), (8, (.pl (.int .i64 bd2)))], [none, none, none, some (.row true 8 (ba3.map NovateTrade.cells)), none, none, none, none, none, none, none, some (.box [(.own 3)]), some (.box [(.pl (.sl .nil 0 []))])])
def f37r2n1 (bd1 : Int) (bd2 : Int) (ba3 : List NovateTrade) : Option f37r2n1O :=
  (f37r2n2 bd1 bd2 ba3).bind fun o17 => match o17 with
  | .norm v19 => bif v19 then
      some (.norm 6)
    else
      some (.norm bd2)
theorem f37r2n1_ok (bd1 : Int) (bd2 : Int) (ba3 : List NovateTrade) {o : f37r2n1O} (h : (f37r2n1 bd1 bd2 ba3) = some o) : T Try.prog Try.f37.ntmps 11 (cL (dropC 2 c37)) (f37r2n1S bd1 bd2 ba3) (fun r => r = f37r2n1E bd1 bd2 ba3 o) := by
  unfold f37r2n1 at h
  refine runK_norm cfg_ok (k := 0) (rs := []) (ps := []) (tds := []) (m := [11, 12]) (keep := [1, 2, 3, 6, 8]) (st' := (f37r2n2S bd1 bd2 ba3)) (by kernel_rfl) an ?_
  obtain ⟨o17, h18, h⟩ := bind_cases h
  cases o17 with
  | norm v19 =>
    refine T.oneN (by kernel_rfl) (f37r2n2_ok bd1 bd2 ba3 h18) (st2 := (f37r2n2E bd1 bd2 ba3 (.norm v19)).2) rfl ?_
    rcases cond_cases h with ⟨h21, h⟩ | ⟨h21, h⟩
    · obtain rfl := some_inj h
      exact run_end cfg_ok (rs := [([], [], [])]) (ps := [some true]) (tds := []) (m := [11, 12]) (keep := [1, 2, 3, 6, 8]) (r := (.norm, (f37r2n1E bd1 bd2 ba3 (.norm 6)).2)) (by kernel_rfl) (ap h21 an) rfl
    · obtain rfl := some_inj h
      exact run_end cfg_ok (rs := []) (ps := [some false]) (tds := []) (m := [11, 12]) (keep := [1, 2, 3, 6, 8]) (r := (.norm, (f37r2n1E bd1 bd2 ba3 (.norm bd2)).2)) (by kernel_rfl) (ap h21 an) rfl
inductive f37r2n0O where
  | ret (v42 : Int) (v43 : List NovateTrade)
def f37r2n0E (a1 : Int) (a2 : List NovateTrade) : f37r2n0O → Ex × Tr × Hp
  | .ret v42 v43 => (.ret, mkS [(6, (.bp 11 0)), (7, (.pl (.int .i64 v42)))], [none, none, none, some (.row true 8 (a2.map NovateTrade.cells)), none, none, none, none, none, none, none, some (.box [(.own 12)]), some (.row false 8 (v43.map NovateTrade.cells))])
def f37r2n0S (a1 : Int) (a2 : List NovateTrade) : Tr × Hp := (initS [(.agg [(.own 3)]), (.pl (.int .i64 a1)), (.pl (.fn 40))] 0 .leaf, [none, none, none, some (.row false 8 (a2.map NovateTrade.cells)), none, none, none, none, none, none, none])
def f37r2n0 (a1 : Int) (a2 : List NovateTrade) : Option f37r2n0O :=
  (f13 (NovateBook.mk a2)).bind fun x5 =>
  (f37r2n1 a1 x5 a2).bind fun o23 => match o23 with
  | .norm v25 => bif (decide (v25 = 0)) then
      (f36r3 a2).bind fun x30 =>
      (at? x30 (wr64 (a1 - 1))).bind fun x37 =>
      (f40r1 (Int.toNat (wr64 (a1 - 1))) x30).bind fun x39 =>
      bif (decide (x39.1 = 0)) then
        some (.ret 0 x39.2)
      else
        some (.ret x39.1 [])
    else
      some (.ret v25 [])
theorem f37r2n0_ok (a1 : Int) (a2 : List NovateTrade) {o : f37r2n0O} (h : (f37r2n0 a1 a2) = some o) : T Try.prog Try.f37.ntmps 11 c37 (f37r2n0S a1 a2) (fun r => r = f37r2n0E a1 a2 o) := by
  unfold f37r2n0 at h
  obtain ⟨x5, h6, h⟩ := bind_cases h
  refine runK_norm cfg_ok (k := 2) (rs := [([], [], []), ([], [(1, .call (.pl (.int .i64 x5)) [])], [])]) (ps := []) (tds := []) (m := [11, 12]) (keep := [1, 2, 3, 6, 8]) (st' := (f37r2n1S a1 x5 a2)) (by kernel_rfl) (ap (f13_ok (NovateBook.mk a2) h6) an) ?_
  obtain ⟨o23, h24, h⟩ := bind_cases h
  cases o23 with
  | norm v25 =>
    refine T.oneN (by kernel_rfl) (f37r2n1_ok a1 x5 a2 h24) (st2 := (f37r2n1E a1 x5 a2 (.norm v25)).2) rfl ?_
    rcases cond_cases h with ⟨h27, h⟩ | ⟨h27, h⟩
    · obtain ⟨x30, h31, h⟩ := bind_cases h
      obtain ⟨x37, h38, h⟩ := bind_cases h
      obtain ⟨x39, h40, h⟩ := bind_cases h
      rcases cond_cases h with ⟨h41, h⟩ | ⟨h41, h⟩
      · obtain rfl := some_inj h
        exact run_end cfg_ok (rs := [([], [], []), ([], [(2, .call (.own 13) [none, none, none, some (.row true 8 (a2.map NovateTrade.cells)), none, none, none, none, none, none, none, none, none, some (.row false 8 (x30.map NovateTrade.cells))])], []), ([], [(4, .at_ (Int.toNat (wr64 (a1 - 1)))), (5, .call (.pl (.int .i64 x39.1)) [none, none, none, none, none, none, none, none, none, none, none, none, none, some (.row false 8 (x39.2.map NovateTrade.cells))])], []), ([], [], []), ([], [], [])]) (ps := [some false, some false]) (tds := []) (m := [12, 13]) (keep := [6, 7]) (r := (.ret, (f37r2n0E a1 a2 (.ret 0 x39.2)).2)) (by kernel_rfl) (ap (not_t h27) (ap (f36r3_ok a2 h31) (ap (at_some h38).1 (ap (lt_map NovateTrade.cells (at_some h38).2) (ap (f40r1_ok (Int.toNat (wr64 (a1 - 1))) x30 h40) (ap (not_t h41) an)))))) rfl
      · obtain rfl := some_inj h
        exact runK_end cfg_ok (k := 3) (rs := [([], [], []), ([], [(2, .call (.own 13) [none, none, none, some (.row true 8 (a2.map NovateTrade.cells)), none, none, none, none, none, none, none, none, none, some (.row false 8 (x30.map NovateTrade.cells))])], []), ([], [(4, .at_ (Int.toNat (wr64 (a1 - 1)))), (5, .call (.pl (.int .i64 x39.1)) [none, none, none, none, none, none, none, none, none, none, none, none, none, some (.row false 8 (x39.2.map NovateTrade.cells))])], []), ([], [], []), ([], [], [])]) (ps := [some false, some true]) (tds := [.matC 12 0 8]) (m := [12, 14]) (keep := [6, 7]) (ex := .ret) (st' := (f37r2n0E a1 a2 (.ret x39.1 [])).2) (by kernel_rfl) (ap (not_t h27) (ap (f36r3_ok a2 h31) (ap (at_some h38).1 (ap (lt_map NovateTrade.cells (at_some h38).2) (ap (f40r1_ok (Int.toNat (wr64 (a1 - 1))) x30 h40) (ap (not_f h41) an)))))) (fun h => nomatch h) rfl
    · obtain rfl := some_inj h
      exact runK_end cfg_ok (k := 1) (rs := [([], [], []), ([], [], [])]) (ps := [some true]) (tds := [.matC 12 0 8]) (m := [12, 13]) (keep := [6, 7]) (ex := .ret) (st' := (f37r2n0E a1 a2 (.ret v25 [])).2) (by kernel_rfl) (ap (not_f h27) an) (fun h => nomatch h) rfl
def f37r2 (a1 : Int) (a2 : List NovateTrade) : Option (Int × (List NovateTrade)) := (f37r2n0 a1 a2).bind fun o => match o with
  | .ret v42 v43 => some (v42, v43)
theorem f37r2_ok (a1 : Int) (a2 : List NovateTrade) {r : Int × (List NovateTrade)} (h : (f37r2 a1 a2) = some r) : CallS Try.prog true 37 [(.agg [(.own 3)]), (.pl (.int .i64 a1)), (.pl (.fn 40))] [none, none, none, some (.row false 8 (a2.map NovateTrade.cells)), none, none, none, none, none, none, none] (.tup [(.agg [(.own 12)]), (.pl (.int .i64 r.1))]) [none, none, none, some (.row true 8 (a2.map NovateTrade.cells)), none, none, none, none, none, none, none, some (.box [(.own 12)]), some (.row false 8 (r.2.map NovateTrade.cells))] := by
  unfold f37r2 at h
  obtain ⟨o, ho, h⟩ := bind_cases h
  cases o with
  | ret v42 v43 =>
    obtain rfl := some_inj h
    exact CallS.shared cfg_ok (f := Try.f37) (c := c37) (by kernel_rfl) (by kernel_rfl) (by kernel_rfl) ((f37r2n0_ok a1 a2 ho).mono fun r e => by subst e; exact ⟨.inl rfl, by kernel_rfl, by kernel_rfl⟩)
/-! ### novation/novate.Undo -/
noncomputable def c18 : Code := Try.f18.body.getD .skip
inductive f18r1n0O where
  | ret (v7 : Int) (v8 : List NovateTrade)
def f18r1n0E (a1 : Int) (a2 : List NovateTrade) : f18r1n0O → Ex × Tr × Hp
  | .ret v7 v8 => (.ret, mkS [(4, (.bp 9 0)), (5, (.pl (.int .i64 v7)))], [none, none, none, some (.row true 8 (a2.map NovateTrade.cells)), none, none, none, none, none, some (.box [(.own 10)]), some (.row false 8 (v8.map NovateTrade.cells))])
def f18r1n0S (a1 : Int) (a2 : List NovateTrade) : Tr × Hp := (initS [(.agg [(.own 3)]), (.pl (.int .i64 a1))] 0 .leaf, [none, none, none, some (.row false 8 (a2.map NovateTrade.cells)), none, none, none, none, none])
def f18r1n0 (a1 : Int) (a2 : List NovateTrade) : Option f18r1n0O :=
  (f37r2 a1 a2).bind fun x5 =>
  some (.ret x5.1 x5.2)
theorem f18r1n0_ok (a1 : Int) (a2 : List NovateTrade) {o : f18r1n0O} (h : (f18r1n0 a1 a2) = some o) : T Try.prog Try.f18.ntmps 9 c18 (f18r1n0S a1 a2) (fun r => r = f18r1n0E a1 a2 o) := by
  unfold f18r1n0 at h
  obtain ⟨x5, h6, h⟩ := bind_cases h
  obtain rfl := some_inj h
  exact run_end cfg_ok (rs := [([], [], []), ([], [(2, .call (.tup [(.agg [(.own 12)]), (.pl (.int .i64 x5.1))]) [none, none, none, some (.row true 8 (a2.map NovateTrade.cells)), none, none, none, none, none, none, none, some (.box [(.own 12)]), some (.row false 8 (x5.2.map NovateTrade.cells))])], [])]) (ps := []) (tds := []) (m := [10, 12]) (keep := [4, 5]) (r := (.ret, (f18r1n0E a1 a2 (.ret x5.1 x5.2)).2)) (by kernel_rfl) (ap (f37r2_ok a1 a2 h6) an) rfl
def f18r1 (a1 : Int) (a2 : List NovateTrade) : Option (Int × (List NovateTrade)) := (f18r1n0 a1 a2).bind fun o => match o with
  | .ret v7 v8 => some (v7, v8)
theorem f18r1_ok (a1 : Int) (a2 : List NovateTrade) {r : Int × (List NovateTrade)} (h : (f18r1 a1 a2) = some r) : CallS Try.prog true 18 [(.agg [(.own 3)]), (.pl (.int .i64 a1))] [none, none, none, some (.row false 8 (a2.map NovateTrade.cells)), none, none, none, none, none] (.tup [(.agg [(.own 10)]), (.pl (.int .i64 r.1))]) [none, none, none, some (.row true 8 (a2.map NovateTrade.cells)), none, none, none, none, none, some (.box [(.own 10)]), some (.row false 8 (r.2.map NovateTrade.cells))] := by
  unfold f18r1 at h
  obtain ⟨o, ho, h⟩ := bind_cases h
  cases o with
  | ret v7 v8 =>
    obtain rfl := some_inj h
    exact CallS.shared cfg_ok (f := Try.f18) (c := c18) (by kernel_rfl) (by kernel_rfl) (by kernel_rfl) ((f18r1n0_ok a1 a2 ho).mono fun r e => by subst e; exact ⟨.inl rfl, by kernel_rfl, by kernel_rfl⟩)
/-! ### novation/novate.Confirm$1 -/
noncomputable def c38 : Code := Try.f38.body.getD .skip
inductive f38r1n0O where
  | ret (v30 : Int) (v31 : List NovateTrade)
def f38r1n0E (a1 : Nat) (a2 : ByteArray) (a3 : List NovateTrade) : f38r1n0O → Ex × Tr × Hp
  | .ret v30 v31 => (.ret, mkS [(3, (.pl (.int .i64 v30)))], [none, none, none, none, none, none, none, none, none, none, some (.box ((cStr a2).map .pl)), none, none, none, some (.row false 8 (v31.map NovateTrade.cells))])
def f38r1n0S (a1 : Nat) (a2 : ByteArray) (a3 : List NovateTrade) : Tr × Hp := (initS [(.ep 14 a1 0), (.bp 10 0)] 0 .leaf, [none, none, none, none, none, none, none, none, none, none, some (.box ((cStr a2).map .pl)), none, none, none, some (.row false 8 (a3.map NovateTrade.cells))])
def f38r1n0 (a1 : Nat) (a2 : ByteArray) (a3 : List NovateTrade) : Option f38r1n0O :=
  (f39r1 a1 a2 a3).bind fun x7 =>
  bif (decide (x7 = 0)) then
    (a3[a1]?).bind fun x19 =>
    bif (seq a2 x19.Seller) then
      bif x19.Sold then
        some (.ret 24 a3)
      else
        bif x19.Bought then
          some (.ret 0 ((a3.set a1 (NovateTrade.mk x19.Buyer x19.Seller x19.Product x19.Quantity x19.Price x19.Bought true x19.Stage)).set a1 (NovateTrade.mk x19.Buyer x19.Seller x19.Product x19.Quantity x19.Price x19.Bought true 1)))
        else
          some (.ret 0 (a3.set a1 (NovateTrade.mk x19.Buyer x19.Seller x19.Product x19.Quantity x19.Price x19.Bought true x19.Stage)))
    else
      bif x19.Bought then
        some (.ret 24 a3)
      else
        bif x19.Sold then
          some (.ret 0 ((a3.set a1 (NovateTrade.mk x19.Buyer x19.Seller x19.Product x19.Quantity x19.Price true x19.Sold x19.Stage)).set a1 (NovateTrade.mk x19.Buyer x19.Seller x19.Product x19.Quantity x19.Price true x19.Sold 1)))
        else
          some (.ret 0 (a3.set a1 (NovateTrade.mk x19.Buyer x19.Seller x19.Product x19.Quantity x19.Price true x19.Sold x19.Stage)))
  else
    some (.ret x7 a3)
theorem f38r1n0_ok (a1 : Nat) (a2 : ByteArray) (a3 : List NovateTrade) {o : f38r1n0O} (h : (f38r1n0 a1 a2 a3) = some o) : T Try.prog Try.f38.ntmps 15 c38 (f38r1n0S a1 a2 a3) (fun r => r = f38r1n0E a1 a2 a3 o) := by
  unfold f38r1n0 at h
  obtain ⟨x7, h8, h⟩ := bind_cases h
  rcases cond_cases h with ⟨h9, h⟩ | ⟨h9, h⟩
  · obtain ⟨x19, h20, h⟩ := bind_cases h
    rcases cond_cases h with ⟨h21, h⟩ | ⟨h21, h⟩
    · rcases cond_cases h with ⟨h23, h⟩ | ⟨h23, h⟩
      · obtain rfl := some_inj h
        exact runK_end cfg_ok (k := 5) (rs := [([], [], []), ([], [(2, .call (.pl (.int .i64 x7)) [none, none, none, none, none, none, none, none, none, none, none, none, none, none, some (.row false 8 (a3.map NovateTrade.cells))])], []), ([], [], []), ([], [], []), ([], [(4, .idx 0 (NovateTrade.cells x19))], []), ([], [], []), ([], [(2, .idx 0 (NovateTrade.cells x19))], []), ([], [], [])]) (ps := [some false, some true, some true]) (tds := []) (m := []) (keep := [3]) (ex := .ret) (st' := (f38r1n0E a1 a2 a3 (.ret 24 a3)).2) (by kernel_rfl) (ap (f39r1_ok a1 a2 a3 h8) (ap (not_t h9) (ap (at_map NovateTrade.cells h20) (ap h21 (ap (at_map NovateTrade.cells h20) (ap h23 an)))))) (fun h => nomatch h) rfl
      · rcases cond_cases h with ⟨h25, h⟩ | ⟨h25, h⟩
        · obtain rfl := some_inj h
          exact run_end cfg_ok (rs := [([], [], []), ([], [(2, .call (.pl (.int .i64 x7)) [none, none, none, none, none, none, none, none, none, none, none, none, none, none, some (.row false 8 (a3.map NovateTrade.cells))])], []), ([], [], []), ([], [], []), ([], [(4, .idx 0 (NovateTrade.cells x19))], []), ([], [], []), ([], [(2, .idx 0 (NovateTrade.cells x19))], []), ([], [(2, .idx 0 (NovateTrade.cells x19))], [(2, .row 14 ((a3.set a1 (NovateTrade.mk x19.Buyer x19.Seller x19.Product x19.Quantity x19.Price x19.Bought true x19.Stage)).map NovateTrade.cells))]), ([(5, true), (6, true), (7, true), (8, true)], [(3, .idx 0 (NovateTrade.cells (NovateTrade.mk x19.Buyer x19.Seller x19.Product x19.Quantity x19.Price x19.Bought true x19.Stage))), (8, .idx 0 (NovateTrade.cells (NovateTrade.mk x19.Buyer x19.Seller x19.Product x19.Quantity x19.Price x19.Bought true x19.Stage))), (9, .bool true)], []), ([], [(3, .idx 0 (NovateTrade.cells (NovateTrade.mk x19.Buyer x19.Seller x19.Product x19.Quantity x19.Price x19.Bought true x19.Stage)))], [(3, .row 14 (((a3.set a1 (NovateTrade.mk x19.Buyer x19.Seller x19.Product x19.Quantity x19.Price x19.Bought true x19.Stage)).set a1 (NovateTrade.mk x19.Buyer x19.Seller x19.Product x19.Quantity x19.Price x19.Bought true 1)).map NovateTrade.cells))]), ([], [], [])]) (ps := [some false, some true, some false, none]) (tds := []) (m := []) (keep := [3]) (r := (.ret, (f38r1n0E a1 a2 a3 (.ret 0 ((a3.set a1 (NovateTrade.mk x19.Buyer x19.Seller x19.Product x19.Quantity x19.Price x19.Bought true x19.Stage)).set a1 (NovateTrade.mk x19.Buyer x19.Seller x19.Product x19.Quantity x19.Price x19.Bought true 1)))).2)) (by kernel_rfl) (ap (f39r1_ok a1 a2 a3 h8) (ap (not_t h9) (ap (at_map NovateTrade.cells h20) (ap h21 (ap (at_map NovateTrade.cells h20) (ap h23 (ap (at_map NovateTrade.cells h20) (ap (set_cv (xs := a3) (c := NovateTrade.cells) (k := a1) (x := (NovateTrade.mk x19.Buyer x19.Seller x19.Product x19.Quantity x19.Price x19.Bought true x19.Stage))) (ap (at_map NovateTrade.cells (set_at (xs := a3) (k := a1) (NovateTrade.mk x19.Buyer x19.Seller x19.Product x19.Quantity x19.Price x19.Bought true x19.Stage) h20)) (ap h25 (ap h25 (ap h25 (ap h25 (ap (at_map NovateTrade.cells (set_at (xs := a3) (k := a1) (NovateTrade.mk x19.Buyer x19.Seller x19.Product x19.Quantity x19.Price x19.Bought true x19.Stage) h20)) (ap h25 (ap (at_map NovateTrade.cells (set_at (xs := a3) (k := a1) (NovateTrade.mk x19.Buyer x19.Seller x19.Product x19.Quantity x19.Price x19.Bought true x19.Stage) h20)) (ap (set_cv (xs := (a3.set a1 (NovateTrade.mk x19.Buyer x19.Seller x19.Product x19.Quantity x19.Price x19.Bought true x19.Stage))) (c := NovateTrade.cells) (k := a1) (x := (NovateTrade.mk x19.Buyer x19.Seller x19.Product x19.Quantity x19.Price x19.Bought true 1))) an))))))))))))))))) rfl
        · obtain rfl := some_inj h
          exact run_end cfg_ok (rs := [([], [], []), ([], [(2, .call (.pl (.int .i64 x7)) [none, none, none, none, none, none, none, none, none, none, none, none, none, none, some (.row false 8 (a3.map NovateTrade.cells))])], []), ([], [], []), ([], [], []), ([], [(4, .idx 0 (NovateTrade.cells x19))], []), ([], [], []), ([], [(2, .idx 0 (NovateTrade.cells x19))], []), ([], [(2, .idx 0 (NovateTrade.cells x19))], [(2, .row 14 ((a3.set a1 (NovateTrade.mk x19.Buyer x19.Seller x19.Product x19.Quantity x19.Price x19.Bought true x19.Stage)).map NovateTrade.cells))]), ([(5, false), (6, false), (7, false), (8, false)], [(3, .idx 0 (NovateTrade.cells (NovateTrade.mk x19.Buyer x19.Seller x19.Product x19.Quantity x19.Price x19.Bought true x19.Stage))), (9, .bool false)], []), ([], [], [])]) (ps := [some false, some true, some false, none]) (tds := []) (m := []) (keep := [3]) (r := (.ret, (f38r1n0E a1 a2 a3 (.ret 0 (a3.set a1 (NovateTrade.mk x19.Buyer x19.Seller x19.Product x19.Quantity x19.Price x19.Bought true x19.Stage)))).2)) (by kernel_rfl) (ap (f39r1_ok a1 a2 a3 h8) (ap (not_t h9) (ap (at_map NovateTrade.cells h20) (ap h21 (ap (at_map NovateTrade.cells h20) (ap h23 (ap (at_map NovateTrade.cells h20) (ap (set_cv (xs := a3) (c := NovateTrade.cells) (k := a1) (x := (NovateTrade.mk x19.Buyer x19.Seller x19.Product x19.Quantity x19.Price x19.Bought true x19.Stage))) (ap (at_map NovateTrade.cells (set_at (xs := a3) (k := a1) (NovateTrade.mk x19.Buyer x19.Seller x19.Product x19.Quantity x19.Price x19.Bought true x19.Stage) h20)) (ap h25 (ap h25 (ap h25 (ap h25 (ap h25 an)))))))))))))) rfl
    · rcases cond_cases h with ⟨h27, h⟩ | ⟨h27, h⟩
      · obtain rfl := some_inj h
        exact runK_end cfg_ok (k := 5) (rs := [([], [], []), ([], [(2, .call (.pl (.int .i64 x7)) [none, none, none, none, none, none, none, none, none, none, none, none, none, none, some (.row false 8 (a3.map NovateTrade.cells))])], []), ([], [], []), ([], [], []), ([], [(4, .idx 0 (NovateTrade.cells x19))], []), ([], [(2, .idx 0 (NovateTrade.cells x19))], []), ([], [], [])]) (ps := [some false, some false, some true]) (tds := []) (m := []) (keep := [3]) (ex := .ret) (st' := (f38r1n0E a1 a2 a3 (.ret 24 a3)).2) (by kernel_rfl) (ap (f39r1_ok a1 a2 a3 h8) (ap (not_t h9) (ap (at_map NovateTrade.cells h20) (ap h21 (ap (at_map NovateTrade.cells h20) (ap h27 an)))))) (fun h => nomatch h) rfl
      · rcases cond_cases h with ⟨h29, h⟩ | ⟨h29, h⟩
        · obtain rfl := some_inj h
          exact run_end cfg_ok (rs := [([], [], []), ([], [(2, .call (.pl (.int .i64 x7)) [none, none, none, none, none, none, none, none, none, none, none, none, none, none, some (.row false 8 (a3.map NovateTrade.cells))])], []), ([], [], []), ([], [], []), ([], [(4, .idx 0 (NovateTrade.cells x19))], []), ([], [(2, .idx 0 (NovateTrade.cells x19))], []), ([], [(2, .idx 0 (NovateTrade.cells x19))], [(2, .row 14 ((a3.set a1 (NovateTrade.mk x19.Buyer x19.Seller x19.Product x19.Quantity x19.Price true x19.Sold x19.Stage)).map NovateTrade.cells))]), ([], [(3, .idx 0 (NovateTrade.cells (NovateTrade.mk x19.Buyer x19.Seller x19.Product x19.Quantity x19.Price true x19.Sold x19.Stage))), (8, .idx 0 (NovateTrade.cells (NovateTrade.mk x19.Buyer x19.Seller x19.Product x19.Quantity x19.Price true x19.Sold x19.Stage)))], []), ([], [(3, .idx 0 (NovateTrade.cells (NovateTrade.mk x19.Buyer x19.Seller x19.Product x19.Quantity x19.Price true x19.Sold x19.Stage)))], [(3, .row 14 (((a3.set a1 (NovateTrade.mk x19.Buyer x19.Seller x19.Product x19.Quantity x19.Price true x19.Sold x19.Stage)).set a1 (NovateTrade.mk x19.Buyer x19.Seller x19.Product x19.Quantity x19.Price true x19.Sold 1)).map NovateTrade.cells))]), ([], [], [])]) (ps := [some false, some false, some false, some true]) (tds := []) (m := []) (keep := [3]) (r := (.ret, (f38r1n0E a1 a2 a3 (.ret 0 ((a3.set a1 (NovateTrade.mk x19.Buyer x19.Seller x19.Product x19.Quantity x19.Price true x19.Sold x19.Stage)).set a1 (NovateTrade.mk x19.Buyer x19.Seller x19.Product x19.Quantity x19.Price true x19.Sold 1)))).2)) (by kernel_rfl) (ap (f39r1_ok a1 a2 a3 h8) (ap (not_t h9) (ap (at_map NovateTrade.cells h20) (ap h21 (ap (at_map NovateTrade.cells h20) (ap h27 (ap (at_map NovateTrade.cells h20) (ap (set_cv (xs := a3) (c := NovateTrade.cells) (k := a1) (x := (NovateTrade.mk x19.Buyer x19.Seller x19.Product x19.Quantity x19.Price true x19.Sold x19.Stage))) (ap (at_map NovateTrade.cells (set_at (xs := a3) (k := a1) (NovateTrade.mk x19.Buyer x19.Seller x19.Product x19.Quantity x19.Price true x19.Sold x19.Stage) h20)) (ap (at_map NovateTrade.cells (set_at (xs := a3) (k := a1) (NovateTrade.mk x19.Buyer x19.Seller x19.Product x19.Quantity x19.Price true x19.Sold x19.Stage) h20)) (ap h29 (ap (at_map NovateTrade.cells (set_at (xs := a3) (k := a1) (NovateTrade.mk x19.Buyer x19.Seller x19.Product x19.Quantity x19.Price true x19.Sold x19.Stage) h20)) (ap (set_cv (xs := (a3.set a1 (NovateTrade.mk x19.Buyer x19.Seller x19.Product x19.Quantity x19.Price true x19.Sold x19.Stage))) (c := NovateTrade.cells) (k := a1) (x := (NovateTrade.mk x19.Buyer x19.Seller x19.Product x19.Quantity x19.Price true x19.Sold 1))) an))))))))))))) rfl
        · obtain rfl := some_inj h
          exact run_end cfg_ok (rs := [([], [], []), ([], [(2, .call (.pl (.int .i64 x7)) [none, none, none, none, none, none, none, none, none, none, none, none, none, none, some (.row false 8 (a3.map NovateTrade.cells))])], []), ([], [], []), ([], [], []), ([], [(4, .idx 0 (NovateTrade.cells x19))], []), ([], [(2, .idx 0 (NovateTrade.cells x19))], []), ([], [(2, .idx 0 (NovateTrade.cells x19))], [(2, .row 14 ((a3.set a1 (NovateTrade.mk x19.Buyer x19.Seller x19.Product x19.Quantity x19.Price true x19.Sold x19.Stage)).map NovateTrade.cells))]), ([], [(3, .idx 0 (NovateTrade.cells (NovateTrade.mk x19.Buyer x19.Seller x19.Product x19.Quantity x19.Price true x19.Sold x19.Stage))), (8, .idx 0 (NovateTrade.cells (NovateTrade.mk x19.Buyer x19.Seller x19.Product x19.Quantity x19.Price true x19.Sold x19.Stage)))], []), ([], [], [])]) (ps := [some false, some false, some false, some false]) (tds := []) (m := []) (keep := [3]) (r := (.ret, (f38r1n0E a1 a2 a3 (.ret 0 (a3.set a1 (NovateTrade.mk x19.Buyer x19.Seller x19.Product x19.Quantity x19.Price true x19.Sold x19.Stage)))).2)) (by kernel_rfl) (ap (f39r1_ok a1 a2 a3 h8) (ap (not_t h9) (ap (at_map NovateTrade.cells h20) (ap h21 (ap (at_map NovateTrade.cells h20) (ap h27 (ap (at_map NovateTrade.cells h20) (ap (set_cv (xs := a3) (c := NovateTrade.cells) (k := a1) (x := (NovateTrade.mk x19.Buyer x19.Seller x19.Product x19.Quantity x19.Price true x19.Sold x19.Stage))) (ap (at_map NovateTrade.cells (set_at (xs := a3) (k := a1) (NovateTrade.mk x19.Buyer x19.Seller x19.Product x19.Quantity x19.Price true x19.Sold x19.Stage) h20)) (ap (at_map NovateTrade.cells (set_at (xs := a3) (k := a1) (NovateTrade.mk x19.Buyer x19.Seller x19.Product x19.Quantity x19.Price true x19.Sold x19.Stage) h20)) (ap h29 an))))))))))) rfl
  · obtain rfl := some_inj h
    exact runK_end cfg_ok (k := 2) (rs := [([], [], []), ([], [(2, .call (.pl (.int .i64 x7)) [none, none, none, none, none, none, none, none, none, none, none, none, none, none, some (.row false 8 (a3.map NovateTrade.cells))])], []), ([], [], []), ([], [], [])]) (ps := [some true]) (tds := []) (m := []) (keep := [3]) (ex := .ret) (st' := (f38r1n0E a1 a2 a3 (.ret x7 a3)).2) (by kernel_rfl) (ap (f39r1_ok a1 a2 a3 h8) (ap (not_f h9) an)) (fun h => nomatch h) rfl
def f38r1 (a1 : Nat) (a2 : ByteArray) (a3 : List NovateTrade) : Option (Int × (List NovateTrade)) := (f38r1n0 a1 a2 a3).bind fun o => match o with
  | .ret v30 v31 => some (v30, v31)
theorem f38r1_ok (a1 : Nat) (a2 : ByteArray) (a3 : List NovateTrade) {r : Int × (List NovateTrade)} (h : (f38r1 a1 a2 a3) = some r) : CallS Try.prog true 38 [(.ep 14 a1 0), (.bp 10 0)] [none, none, none, none, none, none, none, none, none, none, some (.box ((cStr a2).map .pl)), none, none, none, some (.row false 8 (a3.map NovateTrade.cells))] (.pl (.int .i64 r.1)) [none, none, none, none, none, none, none, none, none, none, some (.box ((cStr a2).map .pl)), none, none, none, some (.row false 8 (r.2.map NovateTrade.cells))] := by
  unfold f38r1 at h
  obtain ⟨o, ho, h⟩ := bind_cases h
  cases o with
  | ret v30 v31 =>
    obtain rfl := some_inj h
    exact CallS.shared cfg_ok (f := Try.f38) (c := c38) (by kernel_rfl) (by kernel_rfl) (by kernel_rfl) ((f38r1n0_ok a1 a2 a3 ho).mono fun r e => by subst e; exact ⟨.inl rfl, by kernel_rfl, by kernel_rfl⟩)
end Go.Proofs.Ytkimdlpfbojkgaa
