/- Functions of the program, plainly, and that the machine computes them. No condition. -/
import Derived.Test.YtkimdlpfbojkgaaG2
namespace Go.Proofs.Ytkimdlpfbojkgaa
set_option linter.unusedVariables false
set_option maxRecDepth 100000
open Go.RowKit
/-! ### novation/novate.change -/
inductive f37r3n2O where
  | norm (v17 : Bool)
def f37r3n2E (bd1 : Int) (bd2 : Int) (ba3 : List NovateTrade) (bc4 : ByteArray) : f37r3n2O → Ex × Tr × Hp
  | .norm v17 => (.norm, mkS [(1, (.pl (.int .i64 bd1))), (2, (.clo 38 [(.bp 10 0)])), (3, (.bp 12 0)), (6, (.bp 13 0)), (8, (.pl (.int .i64 bd2))), (25, (.pl (.bool v17)))], [none, none, none, some (.row true 8 (ba3.map NovateTrade.cells)), none, none, none, none, none, none, some (.box ((cStr bc4).map .pl)), none, some (.box [(.own 3)]), some (.box [(.pl (.sl .nil 0 []))])])
def f37r3n2S (bd1 : Int) (bd2 : Int) (ba3 : List NovateTrade) (bc4 : ByteArray) : Tr × Hp := (mkS [(1, (.pl (.int .i64 bd1))), (2, (.clo 38 [(.bp 10 0)])), (3, (.bp 12 0)), (6, (.bp 13 0)), (8, (.pl (.int .i64 bd2)))], [none, none, none, some (.row true 8 (ba3.map NovateTrade.cells)), none, none, none, none, none, none, some (.box ((cStr bc4).map .pl)), none, some (.box [(.own 3)]), some (.box [(.pl (.sl .nil 0 []))])])
def f37r3n2 (bd1 : Int) (bd2 : Int) (ba3 : List NovateTrade) (bc4 : ByteArray) : Option f37r3n2O :=
  bif (decide (bd2 = 0)) then
    bif (decide (bd1 < 1)) then
      some (.norm true)
    else
      some (.norm (decide ((ba3.length : Int) < bd1)))
  else
    some (.norm false)
theorem f37r3n2_ok (bd1 : Int) (bd2 : Int) (ba3 : List NovateTrade) (bc4 : ByteArray) {o : f37r3n2O} (h : (f37r3n2 bd1 bd2 ba3 bc4) = some o) : T Try.prog Try.f37.ntmps 12 (cL (dropC 0 (cL (dropC 2 c37)))) (f37r3n2S bd1 bd2 ba3 bc4) (fun r => r = f37r3n2E bd1 bd2 ba3 bc4 o) := by
  unfold f37r3n2 at h
  rcases cond_cases h with ⟨h15, h⟩ | ⟨h15, h⟩
  · rcases cond_cases h with ⟨h16, h⟩ | ⟨h16, h⟩
    · obtain rfl := some_inj h
      exact run_end cfg_ok (rs := [([(3, true), (4, true), (5, true), (6, true), (7, true), (8, true), (9, true), (10, true), (11, true)], [(11, .bool true), (12, .bool true)], [])]) (ps := []) (tds := []) (m := [12, 13]) (keep := [1, 2, 3, 6, 8, 25]) (r := (.norm, (f37r3n2E bd1 bd2 ba3 bc4 (.norm true)).2)) (by kernel_rfl) (ap h15 (ap h15 (ap h15 (ap h16 (ap h16 (ap h16 (ap h16 (ap h16 (ap h15 (ap h16 (ap h15 an))))))))))) rfl
    · obtain rfl := some_inj h
      exact run_end cfg_ok (rs := [([(3, true), (4, true), (5, true), (6, false), (7, false), (8, false), (9, false), (10, false), (11, true)], [(11, .bool false), (12, .bool true)], [(9, .val (.pl (.int .i64 (ba3.length : Int))))])]) (ps := []) (tds := []) (m := [12, 13]) (keep := [1, 2, 3, 6, 8, 25]) (r := (.norm, (f37r3n2E bd1 bd2 ba3 bc4 (.norm (decide ((ba3.length : Int) < bd1)))).2)) (by kernel_rfl) (ap h15 (ap h15 (ap h15 (ap h16 (ap h16 (ap h16 (ap h16 (ap (len_cv (xs := ba3) (c := NovateTrade.cells)) (ap h16 (ap h15 (ap h16 (ap h15 an)))))))))))) rfl
  · obtain rfl := some_inj h
    exact run_end cfg_ok (rs := [([(3, false), (4, false), (5, false), (11, false)], [(12, .bool false)], [])]) (ps := []) (tds := []) (m := [12, 13]) (keep := [1, 2, 3, 6, 8, 25]) (r := (.norm, (f37r3n2E bd1 bd2 ba3 bc4 (.norm false)).2)) (by kernel_rfl) (ap h15 (ap h15 (ap h15 (ap h15 (ap h15 an))))) rfl
inductive f37r3n1O where
  | norm (v23 : Int)
def f37r3n1E (bd1 : Int) (bd2 : Int) (ba3 : List NovateTrade) (bc4 : ByteArray) : f37r3n1O → Ex × Tr × Hp
  | .norm v23 => (.norm, mkS [(1, (.pl (.int .i64 bd1))), (2, (.clo 38 [(.bp 10 0)])), (3, (.bp 12 0)), (6, (.bp 13 0)), (8, (.pl (.int .i64 v23)))], [none, none, none, some (.row true 8 (ba3.map NovateTrade.cells)), none, none, none, none, none, none, some (.box ((cStr bc4).map .pl)), none, some (.box [(.own 3)]), some (.box [(.pl (.sl .nil 0 []))])])
def f37r3n1S (bd1 : Int) (bd2 : Int) (ba3 : List NovateTrade) (bc4 : ByteArray) : Tr × Hp := (mkS [(1, (.pl (.int .i64 bd1))), (2, (.clo 38 [(.bp 10 0)])), (3, (.bp 12 0)), (6, (.bp 13 0)), (8, (.pl (.int .i64 bd2)))], [none, none, none, some (.row true 8 (ba3.map NovateTrade.cells)), none, none, none, none, none, none, some (.box ((cStr bc4).map .pl)), none, some (.box [(.own 3)]), some (.box [(.pl (.sl .nil 0 []))])])
def f37r3n1 (bd1 : Int) (bd2 : Int) (ba3 : List NovateTrade) (bc4 : ByteArray) : Option f37r3n1O :=
  (f37r3n2 bd1 bd2 ba3 bc4).bind fun o18 => match o18 with
  | .norm v20 => bif v20 then
      some (.norm 6)
    else
      some (.norm bd2)
theorem f37r3n1_ok (bd1 : Int) (bd2 : Int) (ba3 : List NovateTrade) (bc4 : ByteArray) {o : f37r3n1O} (h : (f37r3n1 bd1 bd2 ba3 bc4) = some o) : T Try.prog Try.f37.ntmps 12 (cL (dropC 2 c37)) (f37r3n1S bd1 bd2 ba3 bc4) (fun r => r = f37r3n1E bd1 bd2 ba3 bc4 o) := by
  unfold f37r3n1 at h
  refine runK_norm cfg_ok (k := 0) (rs := []) (ps := []) (tds := []) (m := [12, 13]) (keep := [1, 2, 3, 6, 8]) (st' := (f37r3n2S bd1 bd2 ba3 bc4)) (by kernel_rfl) an ?_
  obtain ⟨o18, h19, h⟩ := bind_cases h
  cases o18 with
  | norm v20 =>
    refine T.oneN (by kernel_rfl) (f37r3n2_ok bd1 bd2 ba3 bc4 h19) (st2 := (f37r3n2E bd1 bd2 ba3 bc4 (.norm v20)).2) rfl ?_
    rcases cond_cases h with ⟨h22, h⟩ | ⟨h22, h⟩
    · obtain rfl := some_inj h
      exact run_end cfg_ok (rs := [([], [], [])]) (ps := [some true]) (tds := []) (m := [12, 13]) (keep := [1, 2, 3, 6, 8]) (r := (.norm, (f37r3n1E bd1 bd2 ba3 bc4 (.norm 6)).2)) (by kernel_rfl) (ap h22 an) rfl
    · obtain rfl := some_inj h
      exact run_end cfg_ok (rs := []) (ps := [some false]) (tds := []) (m := [12, 13]) (keep := [1, 2, 3, 6, 8]) (r := (.norm, (f37r3n1E bd1 bd2 ba3 bc4 (.norm bd2)).2)) (by kernel_rfl) (ap h22 an) rfl
inductive f37r3n0O where
  | ret (v43 : Int) (v44 : List NovateTrade)
def f37r3n0E (a1 : Int) (a2 : List NovateTrade) (a3 : ByteArray) : f37r3n0O → Ex × Tr × Hp
  | .ret v43 v44 => (.ret, mkS [(6, (.bp 12 0)), (7, (.pl (.int .i64 v43)))], [none, none, none, some (.row true 8 (a2.map NovateTrade.cells)), none, none, none, none, none, none, some (.box ((cStr a3).map .pl)), none, some (.box [(.own 13)]), some (.row false 8 (v44.map NovateTrade.cells))])
def f37r3n0S (a1 : Int) (a2 : List NovateTrade) (a3 : ByteArray) : Tr × Hp := (initS [(.agg [(.own 3)]), (.pl (.int .i64 a1)), (.clo 38 [(.bp 10 0)])] 0 .leaf, [none, none, none, some (.row false 8 (a2.map NovateTrade.cells)), none, none, none, none, none, none, some (.box ((cStr a3).map .pl)), none])
def f37r3n0 (a1 : Int) (a2 : List NovateTrade) (a3 : ByteArray) : Option f37r3n0O :=
  (f13 (NovateBook.mk a2)).bind fun x6 =>
  (f37r3n1 a1 x6 a2 a3).bind fun o24 => match o24 with
  | .norm v26 => bif (decide (v26 = 0)) then
      (f36r2 a2).bind fun x31 =>
      (at? x31 (wr64 (a1 - 1))).bind fun x38 =>
      (f38r1 (Int.toNat (wr64 (a1 - 1))) a3 x31).bind fun x40 =>
      bif (decide (x40.1 = 0)) then
        some (.ret 0 x40.2)
      else
        some (.ret x40.1 [])
    else
      some (.ret v26 [])
theorem f37r3n0_ok (a1 : Int) (a2 : List NovateTrade) (a3 : ByteArray) {o : f37r3n0O} (h : (f37r3n0 a1 a2 a3) = some o) : T Try.prog Try.f37.ntmps 12 c37 (f37r3n0S a1 a2 a3) (fun r => r = f37r3n0E a1 a2 a3 o) := by
  unfold f37r3n0 at h
  obtain ⟨x6, h7, h⟩ := bind_cases h
  refine runK_norm cfg_ok (k := 2) (rs := [([], [], []), ([], [(1, .call (.pl (.int .i64 x6)) [])], [])]) (ps := []) (tds := []) (m := [12, 13]) (keep := [1, 2, 3, 6, 8]) (st' := (f37r3n1S a1 x6 a2 a3)) (by kernel_rfl) (ap (f13_ok (NovateBook.mk a2) h7) an) ?_
  obtain ⟨o24, h25, h⟩ := bind_cases h
  cases o24 with
  | norm v26 =>
    refine T.oneN (by kernel_rfl) (f37r3n1_ok a1 x6 a2 a3 h25) (st2 := (f37r3n1E a1 x6 a2 a3 (.norm v26)).2) rfl ?_
    rcases cond_cases h with ⟨h28, h⟩ | ⟨h28, h⟩
    · obtain ⟨x31, h32, h⟩ := bind_cases h
      obtain ⟨x38, h39, h⟩ := bind_cases h
      obtain ⟨x40, h41, h⟩ := bind_cases h
      rcases cond_cases h with ⟨h42, h⟩ | ⟨h42, h⟩
      · obtain rfl := some_inj h
        exact run_end cfg_ok (rs := [([], [], []), ([], [(2, .call (.own 14) [none, none, none, some (.row true 8 (a2.map NovateTrade.cells)), none, none, none, none, none, none, none, none, none, none, some (.row false 8 (x31.map NovateTrade.cells))])], []), ([], [(4, .at_ (Int.toNat (wr64 (a1 - 1)))), (5, .call (.pl (.int .i64 x40.1)) [none, none, none, none, none, none, none, none, none, none, some (.box ((cStr a3).map .pl)), none, none, none, some (.row false 8 (x40.2.map NovateTrade.cells))])], []), ([], [], []), ([], [], [])]) (ps := [some false, some false]) (tds := []) (m := [13, 14]) (keep := [6, 7]) (r := (.ret, (f37r3n0E a1 a2 a3 (.ret 0 x40.2)).2)) (by kernel_rfl) (ap (not_t h28) (ap (f36r2_ok a2 h32) (ap (at_some h39).1 (ap (lt_map NovateTrade.cells (at_some h39).2) (ap (f38r1_ok (Int.toNat (wr64 (a1 - 1))) a3 x31 h41) (ap (not_t h42) an)))))) rfl
      · obtain rfl := some_inj h
        exact runK_end cfg_ok (k := 3) (rs := [([], [], []), ([], [(2, .call (.own 14) [none, none, none, some (.row true 8 (a2.map NovateTrade.cells)), none, none, none, none, none, none, none, none, none, none, some (.row false 8 (x31.map NovateTrade.cells))])], []), ([], [(4, .at_ (Int.toNat (wr64 (a1 - 1)))), (5, .call (.pl (.int .i64 x40.1)) [none, none, none, none, none, none, none, none, none, none, some (.box ((cStr a3).map .pl)), none, none, none, some (.row false 8 (x40.2.map NovateTrade.cells))])], []), ([], [], []), ([], [], [])]) (ps := [some false, some true]) (tds := [.matC 13 0 8]) (m := [13, 15]) (keep := [6, 7]) (ex := .ret) (st' := (f37r3n0E a1 a2 a3 (.ret x40.1 [])).2) (by kernel_rfl) (ap (not_t h28) (ap (f36r2_ok a2 h32) (ap (at_some h39).1 (ap (lt_map NovateTrade.cells (at_some h39).2) (ap (f38r1_ok (Int.toNat (wr64 (a1 - 1))) a3 x31 h41) (ap (not_f h42) an)))))) (fun h => nomatch h) rfl
    · obtain rfl := some_inj h
      exact runK_end cfg_ok (k := 1) (rs := [([], [], []), ([], [], [])]) (ps := [some true]) (tds := [.matC 13 0 8]) (m := [13, 14]) (keep := [6, 7]) (ex := .ret) (st' := (f37r3n0E a1 a2 a3 (.ret v26 [])).2) (by kernel_rfl) (ap (not_f h28) an) (fun h => nomatch h) rfl
def f37r3 (a1 : Int) (a2 : List NovateTrade) (a3 : ByteArray) : Option (Int × (List NovateTrade)) := (f37r3n0 a1 a2 a3).bind fun o => match o with
  | .ret v43 v44 => some (v43, v44)
theorem f37r3_ok (a1 : Int) (a2 : List NovateTrade) (a3 : ByteArray) {r : Int × (List NovateTrade)} (h : (f37r3 a1 a2 a3) = some r) : CallS Try.prog true 37 [(.agg [(.own 3)]), (.pl (.int .i64 a1)), (.clo 38 [(.bp 10 0)])] [none, none, none, some (.row false 8 (a2.map NovateTrade.cells)), none, none, none, none, none, none, some (.box ((cStr a3).map .pl)), none] (.tup [(.agg [(.own 13)]), (.pl (.int .i64 r.1))]) [none, none, none, some (.row true 8 (a2.map NovateTrade.cells)), none, none, none, none, none, none, some (.box ((cStr a3).map .pl)), none, some (.box [(.own 13)]), some (.row false 8 (r.2.map NovateTrade.cells))] := by
  unfold f37r3 at h
  obtain ⟨o, ho, h⟩ := bind_cases h
  cases o with
  | ret v43 v44 =>
    obtain rfl := some_inj h
    exact CallS.shared cfg_ok (f := Try.f37) (c := c37) (by kernel_rfl) (by kernel_rfl) (by kernel_rfl) ((f37r3n0_ok a1 a2 a3 ho).mono fun r e => by subst e; exact ⟨.inl rfl, by kernel_rfl, by kernel_rfl⟩)
/-! ### novation/novate.Confirm -/
noncomputable def c17 : Code := Try.f17.body.getD .skip
inductive f17r1n0O where
  | ret (v8 : Int) (v9 : List NovateTrade)
def f17r1n0E (a1 : Int) (a2 : ByteArray) (a3 : List NovateTrade) : f17r1n0O → Ex × Tr × Hp
  | .ret v8 v9 => (.ret, mkS [(6, (.bp 9 0)), (7, (.pl (.int .i64 v8)))], [none, none, none, some (.row true 8 (a3.map NovateTrade.cells)), none, none, none, none, none, some (.box [(.own 10)]), some (.row false 8 (v9.map NovateTrade.cells))])
def f17r1n0S (a1 : Int) (a2 : ByteArray) (a3 : List NovateTrade) : Tr × Hp := (initS [(.agg [(.own 3)]), (.pl (.int .i64 a1)), (.pl (.str a2))] 0 .leaf, [none, none, none, some (.row false 8 (a3.map NovateTrade.cells)), none, none, none, none, none])
def f17r1n0 (a1 : Int) (a2 : ByteArray) (a3 : List NovateTrade) : Option f17r1n0O :=
  (f37r3 a1 a3 a2).bind fun x6 =>
  some (.ret x6.1 x6.2)
theorem f17r1n0_ok (a1 : Int) (a2 : ByteArray) (a3 : List NovateTrade) {o : f17r1n0O} (h : (f17r1n0 a1 a2 a3) = some o) : T Try.prog Try.f17.ntmps 9 c17 (f17r1n0S a1 a2 a3) (fun r => r = f17r1n0E a1 a2 a3 o) := by
  unfold f17r1n0 at h
  obtain ⟨x6, h7, h⟩ := bind_cases h
  obtain rfl := some_inj h
  exact run_end cfg_ok (rs := [([], [], []), ([], [(3, .call (.tup [(.agg [(.own 13)]), (.pl (.int .i64 x6.1))]) [none, none, none, some (.row true 8 (a3.map NovateTrade.cells)), none, none, none, none, none, none, some (.box ((cStr a2).map .pl)), none, some (.box [(.own 13)]), some (.row false 8 (x6.2.map NovateTrade.cells))])], [])]) (ps := []) (tds := []) (m := [11, 13]) (keep := [6, 7]) (r := (.ret, (f17r1n0E a1 a2 a3 (.ret x6.1 x6.2)).2)) (by kernel_rfl) (ap (f37r3_ok a1 a3 a2 h7) an) rfl
def f17r1 (a1 : Int) (a2 : ByteArray) (a3 : List NovateTrade) : Option (Int × (List NovateTrade)) := (f17r1n0 a1 a2 a3).bind fun o => match o with
  | .ret v8 v9 => some (v8, v9)
theorem f17r1_ok (a1 : Int) (a2 : ByteArray) (a3 : List NovateTrade) {r : Int × (List NovateTrade)} (h : (f17r1 a1 a2 a3) = some r) : CallS Try.prog true 17 [(.agg [(.own 3)]), (.pl (.int .i64 a1)), (.pl (.str a2))] [none, none, none, some (.row false 8 (a3.map NovateTrade.cells)), none, none, none, none, none] (.tup [(.agg [(.own 10)]), (.pl (.int .i64 r.1))]) [none, none, none, some (.row true 8 (a3.map NovateTrade.cells)), none, none, none, none, none, some (.box [(.own 10)]), some (.row false 8 (r.2.map NovateTrade.cells))] := by
  unfold f17r1 at h
  obtain ⟨o, ho, h⟩ := bind_cases h
  cases o with
  | ret v8 v9 =>
    obtain rfl := some_inj h
    exact CallS.shared cfg_ok (f := Try.f17) (c := c17) (by kernel_rfl) (by kernel_rfl) (by kernel_rfl) ((f17r1n0_ok a1 a2 a3 ho).mono fun r e => by subst e; exact ⟨.inl rfl, by kernel_rfl, by kernel_rfl⟩)
/-! ### novation/novationlaw34.call -/
noncomputable def c20 : Code := Try.f20.body.getD .skip
inductive f20r1n0O where
  | ret (v25 : Int) (v26 : Int) (v27 : List NovateTrade)
def f20r1n0E (a1 : Op_) (a2 : List NovateTrade) : f20r1n0O → Ex × Tr × Hp
  | .ret v25 v26 v27 => (.ret, mkS [(4, (.bp 5 0)), (5, (.pl (.int .i64 v25))), (6, (.pl (.int .i64 v26)))], [none, none, none, some (.row true 8 (a2.map NovateTrade.cells)), none, some (.box [(.own 6)]), some (.row false 8 (v27.map NovateTrade.cells))])
def f20r1n0S (a1 : Op_) (a2 : List NovateTrade) : Tr × Hp := (initS [(.agg [(.own 3)]), (.pl (.agg (Op_.cells a1)))] 0 .leaf, [none, none, none, some (.row false 8 (a2.map NovateTrade.cells)), none])
def f20r1n0 (a1 : Op_) (a2 : List NovateTrade) : Option f20r1n0O :=
  bif (decide (a1.Kind = 0)) then
    (f15r1 a1.Buyer a1.Seller a1.Product a1.Quantity a1.Price a2).bind fun x15 =>
    some (.ret x15.1 x15.2.1 x15.2.2)
  else
    bif (decide (a1.Kind = 1)) then
      (f23r1 a1.Number a1.By a2).bind fun x18 =>
      some (.ret 0 x18.1 x18.2)
    else
      bif (decide (a1.Kind = 2)) then
        (f18r1 a1.Number a2).bind fun x21 =>
        some (.ret 0 x21.1 x21.2)
      else
        (f17r1 a1.Number a1.By a2).bind fun x23 =>
        some (.ret 0 x23.1 x23.2)
theorem f20r1n0_ok (a1 : Op_) (a2 : List NovateTrade) {o : f20r1n0O} (h : (f20r1n0 a1 a2) = some o) : T Try.prog Try.f20.ntmps 5 c20 (f20r1n0S a1 a2) (fun r => r = f20r1n0E a1 a2 o) := by
  unfold f20r1n0 at h
  rcases cond_cases h with ⟨h14, h⟩ | ⟨h14, h⟩
  · obtain ⟨x15, h16, h⟩ := bind_cases h
    obtain rfl := some_inj h
    exact run_end cfg_ok (rs := [([], [], []), ([], [], []), ([], [], []), ([], [], []), ([], [(11, .call (.tup [(.agg [(.own 10)]), (.pl (.int .i64 x15.1)), (.pl (.int .i64 x15.2.1))]) [none, none, none, some (.row true 8 (a2.map NovateTrade.cells)), none, none, none, none, none, some (.box [(.own 10)]), some (.row false 8 (x15.2.2.map NovateTrade.cells))])], []), ([], [], [])]) (ps := [some true]) (tds := []) (m := [7, 10]) (keep := [4, 5, 6]) (r := (.ret, (f20r1n0E a1 a2 (.ret x15.1 x15.2.1 x15.2.2)).2)) (by kernel_rfl) (ap h14 (ap (f15r1_ok a1.Buyer a1.Seller a1.Product a1.Quantity a1.Price a2 h16) an)) rfl
  · rcases cond_cases h with ⟨h17, h⟩ | ⟨h17, h⟩
    · obtain ⟨x18, h19, h⟩ := bind_cases h
      obtain rfl := some_inj h
      exact run_end cfg_ok (rs := [([], [], []), ([], [], []), ([], [], []), ([], [], []), ([], [], []), ([], [(5, .call (.tup [(.agg [(.own 10)]), (.pl (.int .i64 x18.1))]) [none, none, none, some (.row true 8 (a2.map NovateTrade.cells)), none, none, none, none, none, some (.box [(.own 10)]), some (.row false 8 (x18.2.map NovateTrade.cells))])], []), ([], [], [])]) (ps := [some false, some true]) (tds := []) (m := [7, 10]) (keep := [4, 5, 6]) (r := (.ret, (f20r1n0E a1 a2 (.ret 0 x18.1 x18.2)).2)) (by kernel_rfl) (ap h14 (ap h17 (ap (f23r1_ok a1.Number a1.By a2 h19) an))) rfl
    · rcases cond_cases h with ⟨h20, h⟩ | ⟨h20, h⟩
      · obtain ⟨x21, h22, h⟩ := bind_cases h
        obtain rfl := some_inj h
        exact run_end cfg_ok (rs := [([], [], []), ([], [], []), ([], [], []), ([], [], []), ([], [], []), ([], [], []), ([], [(3, .call (.tup [(.agg [(.own 10)]), (.pl (.int .i64 x21.1))]) [none, none, none, some (.row true 8 (a2.map NovateTrade.cells)), none, none, none, none, none, some (.box [(.own 10)]), some (.row false 8 (x21.2.map NovateTrade.cells))])], []), ([], [], [])]) (ps := [some false, some false, some true]) (tds := []) (m := [7, 10]) (keep := [4, 5, 6]) (r := (.ret, (f20r1n0E a1 a2 (.ret 0 x21.1 x21.2)).2)) (by kernel_rfl) (ap h14 (ap h17 (ap h20 (ap (f18r1_ok a1.Number a2 h22) an)))) rfl
      · obtain ⟨x23, h24, h⟩ := bind_cases h
        obtain rfl := some_inj h
        exact run_end cfg_ok (rs := [([], [], []), ([], [], []), ([], [], []), ([], [], []), ([], [], []), ([], [], []), ([], [(5, .call (.tup [(.agg [(.own 10)]), (.pl (.int .i64 x23.1))]) [none, none, none, some (.row true 8 (a2.map NovateTrade.cells)), none, none, none, none, none, some (.box [(.own 10)]), some (.row false 8 (x23.2.map NovateTrade.cells))])], []), ([], [], [])]) (ps := [some false, some false, some false]) (tds := []) (m := [7, 10]) (keep := [4, 5, 6]) (r := (.ret, (f20r1n0E a1 a2 (.ret 0 x23.1 x23.2)).2)) (by kernel_rfl) (ap h14 (ap h17 (ap h20 (ap (f17r1_ok a1.Number a1.By a2 h24) an)))) rfl
def f20r1 (a1 : Op_) (a2 : List NovateTrade) : Option (Int × Int × (List NovateTrade)) := (f20r1n0 a1 a2).bind fun o => match o with
  | .ret v25 v26 v27 => some (v25, v26, v27)
theorem f20r1_ok (a1 : Op_) (a2 : List NovateTrade) {r : Int × Int × (List NovateTrade)} (h : (f20r1 a1 a2) = some r) : CallS Try.prog true 20 [(.agg [(.own 3)]), (.pl (.agg (Op_.cells a1)))] [none, none, none, some (.row false 8 (a2.map NovateTrade.cells)), none] (.tup [(.agg [(.own 6)]), (.pl (.int .i64 r.1)), (.pl (.int .i64 r.2.1))]) [none, none, none, some (.row true 8 (a2.map NovateTrade.cells)), none, some (.box [(.own 6)]), some (.row false 8 (r.2.2.map NovateTrade.cells))] := by
  unfold f20r1 at h
  obtain ⟨o, ho, h⟩ := bind_cases h
  cases o with
  | ret v25 v26 v27 =>
    obtain rfl := some_inj h
    exact CallS.shared cfg_ok (f := Try.f20) (c := c20) (by kernel_rfl) (by kernel_rfl) (by kernel_rfl) ((f20r1n0_ok a1 a2 ho).mono fun r e => by subst e; exact ⟨.inl rfl, by kernel_rfl, by kernel_rfl⟩)
/-! ### novation/novationref33.Name -/
noncomputable def c56 : Code := Try.f56.body.getD .skip
inductive f56n3O where
  | norm (v302 : Bool)
def f56n3E (bc1 : ByteArray) (bd2 : Int) (bg3 : UInt8) : f56n3O → Ex × Tr × Hp
  | .norm v302 => (.norm, mkS [(0, (.pl (.str bc1))), (3, (.pl (.int .i64 bd2))), (4, (.pl (.int .u8 (bg3.toNat : Int)))), (5, (.pl (.bool v302)))], [])
def f56n3S (bc1 : ByteArray) (bd2 : Int) (bg3 : UInt8) : Tr × Hp := (mkS [(0, (.pl (.str bc1))), (3, (.pl (.int .i64 bd2))), (4, (.pl (.int .u8 (bg3.toNat : Int))))], [])
def f56n3 (bc1 : ByteArray) (bd2 : Int) (bg3 : UInt8) : Option f56n3O :=
  bif (decide (97 ≤ (bg3.toNat : Int))) then
    bif (decide ((bg3.toNat : Int) ≤ 122)) then
      some (.norm true)
    else
      bif (decide (65 ≤ (bg3.toNat : Int))) then
        some (.norm (decide ((bg3.toNat : Int) ≤ 90)))
      else
        some (.norm false)
  else
    bif (decide (65 ≤ (bg3.toNat : Int))) then
      some (.norm (decide ((bg3.toNat : Int) ≤ 90)))
    else
      some (.norm false)
theorem f56n3_ok (bc1 : ByteArray) (bd2 : Int) (bg3 : UInt8) {o : f56n3O} (h : (f56n3 bc1 bd2 bg3) = some o) : T Try.prog Try.f56.ntmps 0 (cL (dropC 1 (cL (cL (dropC 1 (cL (cL (dropC 1 (cL (dropC 2 c56)))))))))) (f56n3S bc1 bd2 bg3) (fun r => r = f56n3E bc1 bd2 bg3 o) := by
  unfold f56n3 at h
  rcases cond_cases h with ⟨h298, h⟩ | ⟨h298, h⟩
  · rcases cond_cases h with ⟨h299, h⟩ | ⟨h299, h⟩
    · obtain rfl := some_inj h
      exact run_end cfg_ok (rs := [([(3, true), (4, true), (7, true), (8, true), (9, true), (12, true)], [(5, .bool true), (13, .bool true)], [])]) (ps := []) (tds := []) (m := []) (keep := [0, 3, 4, 5]) (r := (.norm, (f56n3E bc1 bd2 bg3 (.norm true)).2)) (by kernel_rfl) (ap h298 (ap h298 (ap h298 (ap h299 (ap h299 (ap h299 (ap h299 (ap h299 an)))))))) rfl
    · rcases cond_cases h with ⟨h300, h⟩ | ⟨h300, h⟩
      · obtain rfl := some_inj h
        exact run_end cfg_ok (rs := [([(3, true), (4, true), (7, false), (8, false), (9, false), (10, true), (11, true), (12, false)], [(5, .bool true), (12, .bool true), (13, .bool false)], [])]) (ps := []) (tds := []) (m := []) (keep := [0, 3, 4, 5]) (r := (.norm, (f56n3E bc1 bd2 bg3 (.norm (decide ((bg3.toNat : Int) ≤ 90)))).2)) (by kernel_rfl) (ap h298 (ap h298 (ap h298 (ap h299 (ap h299 (ap h299 (ap h300 (ap h300 (ap h299 (ap h300 (ap h299 an))))))))))) rfl
      · obtain rfl := some_inj h
        exact run_end cfg_ok (rs := [([(3, true), (4, true), (7, false), (8, false), (9, false), (10, false), (11, false), (12, false)], [(5, .bool true), (12, .bool false), (13, .bool false)], [])]) (ps := []) (tds := []) (m := []) (keep := [0, 3, 4, 5]) (r := (.norm, (f56n3E bc1 bd2 bg3 (.norm false)).2)) (by kernel_rfl) (ap h298 (ap h298 (ap h298 (ap h299 (ap h299 (ap h299 (ap h300 (ap h300 (ap h299 (ap h300 (ap h299 an))))))))))) rfl
  · rcases cond_cases h with ⟨h301, h⟩ | ⟨h301, h⟩
    · obtain rfl := some_inj h
      exact run_end cfg_ok (rs := [([(3, false), (4, false), (10, true), (11, true)], [(5, .bool false), (12, .bool true)], [])]) (ps := []) (tds := []) (m := []) (keep := [0, 3, 4, 5]) (r := (.norm, (f56n3E bc1 bd2 bg3 (.norm (decide ((bg3.toNat : Int) ≤ 90)))).2)) (by kernel_rfl) (ap h298 (ap h298 (ap h298 (ap h301 (ap h301 (ap h301 an)))))) rfl
    · obtain rfl := some_inj h
      exact run_end cfg_ok (rs := [([(3, false), (4, false), (10, false), (11, false)], [(5, .bool false), (12, .bool false)], [])]) (ps := []) (tds := []) (m := []) (keep := [0, 3, 4, 5]) (r := (.norm, (f56n3E bc1 bd2 bg3 (.norm false)).2)) (by kernel_rfl) (ap h298 (ap h298 (ap h298 (ap h301 (ap h301 (ap h301 an)))))) rfl
inductive f56n4O where
  | norm (v318 : Bool)
def f56n4E (bc1 : ByteArray) (bd2 : Int) (bg3 : UInt8) (bh4 : Bool) : f56n4O → Ex × Tr × Hp
  | .norm v318 => (.norm, mkS [(0, (.pl (.str bc1))), (3, (.pl (.int .i64 bd2))), (5, (.pl (.bool bh4))), (6, (.pl (.bool v318)))], [])
def f56n4S (bc1 : ByteArray) (bd2 : Int) (bg3 : UInt8) (bh4 : Bool) : Tr × Hp := (mkS [(0, (.pl (.str bc1))), (3, (.pl (.int .i64 bd2))), (4, (.pl (.int .u8 (bg3.toNat : Int)))), (5, (.pl (.bool bh4)))], [])
def f56n4 (bc1 : ByteArray) (bd2 : Int) (bg3 : UInt8) (bh4 : Bool) : Option f56n4O :=
  bif (decide (48 ≤ (bg3.toNat : Int))) then
    bif (decide ((bg3.toNat : Int) ≤ 57)) then
      some (.norm true)
    else
      bif (decide ((bg3.toNat : Int) = 95)) then
        some (.norm true)
      else
        some (.norm (decide ((bg3.toNat : Int) = 45)))
  else
    bif (decide ((bg3.toNat : Int) = 95)) then
      some (.norm true)
    else
      some (.norm (decide ((bg3.toNat : Int) = 45)))
theorem f56n4_ok (bc1 : ByteArray) (bd2 : Int) (bg3 : UInt8) (bh4 : Bool) {o : f56n4O} (h : (f56n4 bc1 bd2 bg3 bh4) = some o) : T Try.prog Try.f56.ntmps 0 (cL (dropC 0 (dropC 1 (dropC 1 (cL (cL (dropC 1 (cL (cL (dropC 1 (cL (dropC 2 c56)))))))))))) (f56n4S bc1 bd2 bg3 bh4) (fun r => r = f56n4E bc1 bd2 bg3 bh4 o) := by
  unfold f56n4 at h
  rcases cond_cases h with ⟨h314, h⟩ | ⟨h314, h⟩
  · rcases cond_cases h with ⟨h315, h⟩ | ⟨h315, h⟩
    · obtain rfl := some_inj h
      exact run_end cfg_ok (rs := [([(3, true), (4, true), (7, true), (8, true)], [(5, .bool true), (9, .bool true)], [])]) (ps := []) (tds := []) (m := []) (keep := [0, 3, 5, 6]) (r := (.norm, (f56n4E bc1 bd2 bg3 bh4 (.norm true)).2)) (by kernel_rfl) (ap h314 (ap h314 (ap h314 (ap h315 (ap h315 (ap h315 an)))))) rfl
    · rcases cond_cases h with ⟨h316, h⟩ | ⟨h316, h⟩
      · obtain rfl := some_inj h
        exact run_end cfg_ok (rs := [([(3, true), (4, true), (7, false), (8, false), (11, true), (12, true)], [(5, .bool true), (9, .bool false), (13, .bool true)], [])]) (ps := []) (tds := []) (m := []) (keep := [0, 3, 5, 6]) (r := (.norm, (f56n4E bc1 bd2 bg3 bh4 (.norm true)).2)) (by kernel_rfl) (ap h314 (ap h314 (ap h314 (ap h315 (ap h315 (ap h315 (ap h316 (ap h316 (ap h316 an))))))))) rfl
      · obtain rfl := some_inj h
        exact run_end cfg_ok (rs := [([(3, true), (4, true), (7, false), (8, false), (11, false), (12, false)], [(5, .bool true), (9, .bool false), (13, .bool false)], [])]) (ps := []) (tds := []) (m := []) (keep := [0, 3, 5, 6]) (r := (.norm, (f56n4E bc1 bd2 bg3 bh4 (.norm (decide ((bg3.toNat : Int) = 45)))).2)) (by kernel_rfl) (ap h314 (ap h314 (ap h314 (ap h315 (ap h315 (ap h315 (ap h316 (ap h316 (ap h316 an))))))))) rfl
  · rcases cond_cases h with ⟨h317, h⟩ | ⟨h317, h⟩
    · obtain rfl := some_inj h
      exact run_end cfg_ok (rs := [([(3, false), (4, false), (11, true), (12, true)], [(5, .bool false), (13, .bool true)], [])]) (ps := []) (tds := []) (m := []) (keep := [0, 3, 5, 6]) (r := (.norm, (f56n4E bc1 bd2 bg3 bh4 (.norm true)).2)) (by kernel_rfl) (ap h314 (ap h314 (ap h314 (ap h317 (ap h317 (ap h317 an)))))) rfl
    · obtain rfl := some_inj h
      exact run_end cfg_ok (rs := [([(3, false), (4, false), (11, false), (12, false)], [(5, .bool false), (13, .bool false)], [])]) (ps := []) (tds := []) (m := []) (keep := [0, 3, 5, 6]) (r := (.norm, (f56n4E bc1 bd2 bg3 bh4 (.norm (decide ((bg3.toNat : Int) = 45)))).2)) (by kernel_rfl) (ap h314 (ap h314 (ap h314 (ap h317 (ap h317 (ap h317 an)))))) rfl
inductive f56n5O where
  | norm (v328 : Bool)
def f56n5E (bc1 : ByteArray) (bd2 : Int) (bh3 : Bool) (bh4 : Bool) : f56n5O → Ex × Tr × Hp
  | .norm v328 => (.norm, mkS [(0, (.pl (.str bc1))), (3, (.pl (.int .i64 bd2))), (61, (.pl (.bool v328)))], [])
def f56n5S (bc1 : ByteArray) (bd2 : Int) (bh3 : Bool) (bh4 : Bool) : Tr × Hp := (mkS [(0, (.pl (.str bc1))), (3, (.pl (.int .i64 bd2))), (5, (.pl (.bool bh3))), (6, (.pl (.bool bh4)))], [])
def f56n5 (bc1 : ByteArray) (bd2 : Int) (bh3 : Bool) (bh4 : Bool) : Option f56n5O :=
  bif bh3 then
    some (.norm false)
  else
    bif bh4 then
      some (.norm (decide (bd2 = 0)))
    else
      some (.norm true)
theorem f56n5_ok (bc1 : ByteArray) (bd2 : Int) (bh3 : Bool) (bh4 : Bool) {o : f56n5O} (h : (f56n5 bc1 bd2 bh3 bh4) = some o) : T Try.prog Try.f56.ntmps 0 (cL (dropC 0 (dropC 1 (dropC 0 (dropC 1 (dropC 1 (cL (cL (dropC 1 (cL (cL (dropC 1 (cL (dropC 2 c56)))))))))))))) (f56n5S bc1 bd2 bh3 bh4) (fun r => r = f56n5E bc1 bd2 bh3 bh4 o) := by
  unfold f56n5 at h
  rcases cond_cases h with ⟨h326, h⟩ | ⟨h326, h⟩
  · obtain rfl := some_inj h
    exact run_end cfg_ok (rs := [([(3, false), (4, false), (5, false), (8, false)], [(9, .bool false)], [])]) (ps := []) (tds := []) (m := []) (keep := [0, 3, 61]) (r := (.norm, (f56n5E bc1 bd2 bh3 bh4 (.norm false)).2)) (by kernel_rfl) (ap (not_t h326) (ap (not_t h326) (ap (not_t h326) (ap (not_t h326) (ap (not_t h326) an))))) rfl
  · rcases cond_cases h with ⟨h327, h⟩ | ⟨h327, h⟩
    · obtain rfl := some_inj h
      exact run_end cfg_ok (rs := [([(3, true), (4, true), (5, true), (6, false), (7, false), (8, true)], [(8, .bool false), (9, .bool true)], [])]) (ps := []) (tds := []) (m := []) (keep := [0, 3, 61]) (r := (.norm, (f56n5E bc1 bd2 bh3 bh4 (.norm (decide (bd2 = 0)))).2)) (by kernel_rfl) (ap (not_f h326) (ap (not_f h326) (ap (not_f h326) (ap (not_t h327) (ap (not_t h327) (ap (not_f h326) (ap (not_t h327) (ap (not_f h326) an)))))))) rfl
    · obtain rfl := some_inj h
      exact run_end cfg_ok (rs := [([(3, true), (4, true), (5, true), (6, true), (7, true), (8, true)], [(8, .bool true), (9, .bool true)], [])]) (ps := []) (tds := []) (m := []) (keep := [0, 3, 61]) (r := (.norm, (f56n5E bc1 bd2 bh3 bh4 (.norm true)).2)) (by kernel_rfl) (ap (not_f h326) (ap (not_f h326) (ap (not_f h326) (ap (not_f h327) (ap (not_f h327) (ap (not_f h326) (ap (not_f h327) (ap (not_f h326) an)))))))) rfl
inductive f56n2O where
  | norm
  | ret
def f56n2E (bc1 : ByteArray) (bd2 : Int) : f56n2O → Ex × Tr × Hp
  | .norm => (.norm, mkS [(0, (.pl (.str bc1))), (3, (.pl (.int .i64 bd2)))], [])
  | .ret => (.ret, mkS [(2, (.pl (.bool false)))], [])
def f56n2S (bc1 : ByteArray) (bd2 : Int) : Tr × Hp := (mkS [(0, (.pl (.str bc1))), (3, (.pl (.int .i64 bd2)))], [])
def f56n2 (bc1 : ByteArray) (bd2 : Int) : Option f56n2O :=
  (at? bc1.data.toList bd2).bind fun x288 =>
  (f56n3 bc1 bd2 x288).bind fun o303 => match o303 with
  | .norm v305 => (f56n4 bc1 bd2 x288 v305).bind fun o319 => match o319 with
    | .norm v321 => (f56n5 bc1 bd2 v305 v321).bind fun o329 => match o329 with
      | .norm v331 => bif v331 then
          some .ret
        else
          some .norm
theorem f56n2_ok (bc1 : ByteArray) (bd2 : Int) {o : f56n2O} (h : (f56n2 bc1 bd2) = some o) : T Try.prog Try.f56.ntmps 0 (cL (dropC 1 (cL (cL (dropC 1 (cL (dropC 2 c56))))))) (f56n2S bc1 bd2) (fun r => r = f56n2E bc1 bd2 o) := by
  unfold f56n2 at h
  refine T.block' (i := 1) (by kernel_rfl) ?_
  obtain ⟨x288, h289, h⟩ := bind_cases h
  refine runK_norm cfg_ok (k := 1) (rs := [([], [(2, .byte (Int.toNat bd2) x288)], [])]) (ps := []) (tds := []) (m := []) (keep := [0, 3, 4]) (st' := (f56n3S bc1 bd2 x288)) (by kernel_rfl) (ap (at_some h289).1 (ap (at_some h289).2 an)) ?_
  obtain ⟨o303, h304, h⟩ := bind_cases h
  cases o303 with
  | norm v305 =>
    refine T.oneN (by kernel_rfl) (f56n3_ok bc1 bd2 x288 h304) (st2 := (f56n3E bc1 bd2 x288 (.norm v305)).2) rfl ?_
    refine runK_norm cfg_ok (k := 0) (rs := []) (ps := []) (tds := []) (m := []) (keep := [0, 3, 4, 5]) (st' := (f56n4S bc1 bd2 x288 v305)) (by kernel_rfl) an ?_
    obtain ⟨o319, h320, h⟩ := bind_cases h
    cases o319 with
    | norm v321 =>
      refine T.oneN (by kernel_rfl) (f56n4_ok bc1 bd2 x288 v305 h320) (st2 := (f56n4E bc1 bd2 x288 v305 (.norm v321)).2) rfl ?_
      refine runK_norm cfg_ok (k := 0) (rs := []) (ps := []) (tds := []) (m := []) (keep := [0, 3, 5, 6]) (st' := (f56n5S bc1 bd2 v305 v321)) (by kernel_rfl) an ?_
      obtain ⟨o329, h330, h⟩ := bind_cases h
      cases o329 with
      | norm v331 =>
        refine T.oneN (by kernel_rfl) (f56n5_ok bc1 bd2 v305 v321 h330) (st2 := (f56n5E bc1 bd2 v305 v321 (.norm v331)).2) rfl ?_
        rcases cond_cases h with ⟨h333, h⟩ | ⟨h333, h⟩
        · obtain rfl := some_inj h
          exact run_end cfg_ok (rs := [([], [], [])]) (ps := [some true]) (tds := []) (m := []) (keep := [2]) (r := (.ret, (f56n2E bc1 bd2 .ret).2)) (by kernel_rfl) (ap h333 an) rfl
        · obtain rfl := some_inj h
          exact run_end cfg_ok (rs := []) (ps := [some false]) (tds := []) (m := []) (keep := [0, 3]) (r := (.norm, (f56n2E bc1 bd2 .norm).2)) (by kernel_rfl) (ap h333 an) rfl
inductive f56n6O where
  | exit0
  | ret
def f56n6E (bc1 : ByteArray) : f56n6O → Ex × Tr × Hp
  | .exit0 => ((.exit 0), mkS [], [])
  | .ret => (.ret, mkS [(2, (.pl (.bool false)))], [])
def f56n6S (bc1 : ByteArray) (v219 : Int) : Tr × Hp := (mkS [(0, (.pl (.str bc1))), (3, (.pl (.int .i64 v219)))], [])
def f56n6 : Nat → ByteArray → Int → Option f56n6O
  | 0, _, _ => none
  | f + 1, bc1, v219 =>
    bif (decide (v219 < (bc1.size : Int))) then
      (f56n2 bc1 v219).bind fun o334 => match o334 with
      | .norm => (f56n6 f bc1 (wr64 (v219 + 1)))
      | .ret => some .ret
    else
      some .exit0
theorem f56n6_ok : ∀ (f : Nat) (bc1 : ByteArray) (v219 : Int) {o : f56n6O}, (f56n6 f bc1 v219) = some o → TL Try.prog Try.f56.ntmps 0 f (cL (cL (dropC 1 (cL (dropC 2 c56))))) (f56n6S bc1 v219) (fun r => r = f56n6E bc1 o)
  | 0, _, _, o, h => by rw [f56n6] at h; cases h
  | f + 1, bc1, v219, o, h => by
    rw [f56n6] at h
    refine TL.body (K := fun s => ∃ v219 : Int, s = (f56n6S bc1 v219) ∧ (f56n6 f bc1 v219) = some o) ?_ (by rintro _ ⟨v219, rfl, hk⟩; exact f56n6_ok f _ _ hk)
    rcases cond_cases h with ⟨h221, h⟩ | ⟨h221, h⟩
    · refine runK_norm cfg_ok (k := 1) (rs := [([], [], [])]) (ps := [some true]) (tds := []) (m := []) (keep := [0, 3]) (st' := (f56n2S bc1 v219)) (by kernel_rfl) (ap h221 an) ?_
      obtain ⟨o334, h335, h⟩ := bind_cases h
      cases o334 with
      | norm =>
        refine T.oneN (by kernel_rfl) (f56n2_ok bc1 v219 h335) (st2 := (f56n2E bc1 v219 .norm).2) rfl ?_
        exact run_end cfg_ok (rs := [([], [], [])]) (ps := []) (tds := []) (m := []) (keep := [0, 3]) (r := (.norm, (f56n6S bc1 (wr64 (v219 + 1))))) (by kernel_rfl) an (LoopQ.norm ⟨(wr64 (v219 + 1)), rfl, h⟩)
      | ret =>
        obtain rfl := some_inj h
        exact T.oneX' (by kernel_rfl) (f56n2_ok bc1 v219 h335) (tds := []) (m := []) (keep := [2]) (st2 := (f56n6E bc1 .ret).2) (by kernel_rfl) an rfl (LoopQ.out rfl rfl)
    · obtain rfl := some_inj h
      exact runK_end cfg_ok (k := 1) (rs := [([], [], [])]) (ps := [some false]) (tds := []) (m := []) (keep := []) (ex := (.exit 0)) (st' := (f56n6E bc1 .exit0).2) (by kernel_rfl) (ap h221 an) (fun h => nomatch h) (LoopQ.out rfl rfl)
inductive f56n1O where
  | norm
  | ret
def f56n1E (bc1 : ByteArray) : f56n1O → Ex × Tr × Hp
  | .norm => (.norm, mkS [], [])
  | .ret => (.ret, mkS [(2, (.pl (.bool false)))], [])
def f56n1S (bc1 : ByteArray) : Tr × Hp := (mkS [(0, (.pl (.str bc1)))], [])
def f56n1 (bc1 : ByteArray) : Option f56n1O :=
  (f56n6 FUEL bc1 0).bind fun o336 => match o336 with
  | .exit0 => some .norm
  | .ret => some .ret
theorem f56n1_ok (bc1 : ByteArray) {o : f56n1O} (h : (f56n1 bc1) = some o) : T Try.prog Try.f56.ntmps 0 (cL (dropC 2 c56)) (f56n1S bc1) (fun r => r = f56n1E bc1 o) := by
  unfold f56n1 at h
  refine runK_norm cfg_ok (k := 1) (rs := [([], [], [])]) (ps := []) (tds := []) (m := []) (keep := [0, 3]) (st' := (f56n6S bc1 0)) (by kernel_rfl) an ?_
  obtain ⟨o336, h337, h⟩ := bind_cases h
  cases o336 with
  | exit0 =>
    obtain rfl := some_inj h
    exact T.last' (T.bl (i := 0) (by kernel_rfl) (by kernel_rfl) (f56n6_ok FUEL bc1 0 h337)) (tds := []) (m := []) (keep := []) (st2 := (f56n1E bc1 .norm).2) (by kernel_rfl) an rfl
  | ret =>
    obtain rfl := some_inj h
    exact T.last' (T.bl (i := 0) (by kernel_rfl) (by kernel_rfl) (f56n6_ok FUEL bc1 0 h337)) (tds := []) (m := []) (keep := [2]) (st2 := (f56n1E bc1 .ret).2) (by kernel_rfl) an rfl
inductive f56n0O where
  | ret (v340 : Bool)
def f56n0E (a1 : ByteArray) : f56n0O → Ex × Tr × Hp
  | .ret v340 => (.ret, mkS [(2, (.pl (.bool v340)))], [])
def f56n0S (a1 : ByteArray) : Tr × Hp := (initS [(.pl (.str a1))] 0 .leaf, [])
def f56n0 (a1 : ByteArray) : Option f56n0O :=
  bif (decide ((a1.size : Int) < 1)) then
    some (.ret false)
  else
    bif (decide (40 < (a1.size : Int))) then
      some (.ret false)
    else
      (f56n1 a1).bind fun o338 => match o338 with
      | .norm => some (.ret true)
      | .ret => some (.ret false)
theorem f56n0_ok (a1 : ByteArray) {o : f56n0O} (h : (f56n0 a1) = some o) : T Try.prog Try.f56.ntmps 0 c56 (f56n0S a1) (fun r => r = f56n0E a1 o) := by
  unfold f56n0 at h
  rcases cond_cases h with ⟨h4, h⟩ | ⟨h4, h⟩
  · obtain rfl := some_inj h
    exact runK_end cfg_ok (k := 2) (rs := [([], [], []), ([(4, true), (5, true), (6, true)], [(7, .bool true)], []), ([], [], [])]) (ps := [none]) (tds := []) (m := []) (keep := [2]) (ex := .ret) (st' := (f56n0E a1 (.ret false)).2) (by kernel_rfl) (ap h4 (ap h4 (ap h4 (ap h4 an)))) (fun h => nomatch h) rfl
  · rcases cond_cases h with ⟨h5, h⟩ | ⟨h5, h⟩
    · obtain rfl := some_inj h
      exact runK_end cfg_ok (k := 2) (rs := [([], [], []), ([(4, false), (5, false), (6, false)], [(7, .bool false)], []), ([], [], [])]) (ps := [some true]) (tds := []) (m := []) (keep := [2]) (ex := .ret) (st' := (f56n0E a1 (.ret false)).2) (by kernel_rfl) (ap h4 (ap h4 (ap h4 (ap h4 (ap h5 an))))) (fun h => nomatch h) rfl
    · refine runK_norm cfg_ok (k := 2) (rs := [([], [], []), ([(4, false), (5, false), (6, false)], [(7, .bool false)], [])]) (ps := [some false]) (tds := []) (m := []) (keep := [0]) (st' := (f56n1S a1)) (by kernel_rfl) (ap h4 (ap h4 (ap h4 (ap h4 (ap h5 an))))) ?_
      obtain ⟨o338, h339, h⟩ := bind_cases h
      cases o338 with
      | norm =>
        refine T.oneN (by kernel_rfl) (f56n1_ok a1 h339) (st2 := (f56n1E a1 .norm).2) rfl ?_
        obtain rfl := some_inj h
        exact run_end cfg_ok (rs := [([], [], [])]) (ps := []) (tds := []) (m := []) (keep := [2]) (r := (.ret, (f56n0E a1 (.ret true)).2)) (by kernel_rfl) an rfl
      | ret =>
        obtain rfl := some_inj h
        exact T.oneX' (by kernel_rfl) (f56n1_ok a1 h339) (tds := []) (m := []) (keep := [2]) (st2 := (f56n0E a1 (.ret false)).2) (by kernel_rfl) an rfl rfl
def f56 (a1 : ByteArray) : Option Bool := (f56n0 a1).bind fun o => match o with
  | .ret v340 => some v340
theorem f56_ok (a1 : ByteArray) {r : Bool} (h : (f56 a1) = some r) : CallS Try.prog false 56 [(.pl (.str a1))] [] (.pl (.bool r)) [] := by
  unfold f56 at h
  obtain ⟨o, ho, h⟩ := bind_cases h
  cases o with
  | ret v340 =>
    obtain rfl := some_inj h
    exact CallS.plain cfg_ok (f := Try.f56) (c := c56) (by kernel_rfl) (by kernel_rfl) (by kernel_rfl) (by kernel_rfl) ((f56n0_ok a1 ho).mono fun r e => by subst e; exact ⟨.inl rfl, (.pl (.bool v340)), (.pl (.bool v340)), by kernel_rfl, by kernel_rfl, ((Wk.refl _) : Wk (.pl (.bool v340)) (.pl (.bool v340)))⟩)
/-! ### novation/novationref33.Party -/
noncomputable def c55 : Code := Try.f55.body.getD .skip
inductive f55n0O where
  | ret (v8 : Bool)
def f55n0E (a1 : ByteArray) : f55n0O → Ex × Tr × Hp
  | .ret v8 => (.ret, mkS [(2, (.pl (.bool v8)))], [])
def f55n0S (a1 : ByteArray) : Tr × Hp := (initS [(.pl (.str a1))] 0 .leaf, [])
def f55n0 (a1 : ByteArray) : Option f55n0O :=
  (f56 a1).bind fun x5 =>
  bif x5 then
    some (.ret (!(seq a1 str_house)))
  else
    some (.ret false)
theorem f55n0_ok (a1 : ByteArray) {o : f55n0O} (h : (f55n0 a1) = some o) : T Try.prog Try.f55.ntmps 0 c55 (f55n0S a1) (fun r => r = f55n0E a1 o) := by
  unfold f55n0 at h
  obtain ⟨x5, h6, h⟩ := bind_cases h
  rcases cond_cases h with ⟨h7, h⟩ | ⟨h7, h⟩
  · obtain rfl := some_inj h
    exact run_end cfg_ok (rs := [([], [], []), ([(3, true), (4, true)], [(1, .call (.pl (.bool x5)) []), (5, .bool true)], [])]) (ps := []) (tds := []) (m := []) (keep := [2]) (r := (.ret, (f55n0E a1 (.ret (!(seq a1 str_house)))).2)) (by kernel_rfl) (ap h7 (ap h7 (ap h7 (ap (f56_ok a1 h6) an)))) rfl
  · obtain rfl := some_inj h
    exact run_end cfg_ok (rs := [([], [], []), ([(3, false), (4, false)], [(1, .call (.pl (.bool x5)) []), (5, .bool false)], [])]) (ps := []) (tds := []) (m := []) (keep := [2]) (r := (.ret, (f55n0E a1 (.ret false)).2)) (by kernel_rfl) (ap h7 (ap h7 (ap h7 (ap (f56_ok a1 h6) an)))) rfl
def f55 (a1 : ByteArray) : Option Bool := (f55n0 a1).bind fun o => match o with
  | .ret v8 => some v8
theorem f55_ok (a1 : ByteArray) {r : Bool} (h : (f55 a1) = some r) : CallS Try.prog false 55 [(.pl (.str a1))] [] (.pl (.bool r)) [] := by
  unfold f55 at h
  obtain ⟨o, ho, h⟩ := bind_cases h
  cases o with
  | ret v8 =>
    obtain rfl := some_inj h
    exact CallS.plain cfg_ok (f := Try.f55) (c := c55) (by kernel_rfl) (by kernel_rfl) (by kernel_rfl) (by kernel_rfl) ((f55n0_ok a1 ho).mono fun r e => by subst e; exact ⟨.inl rfl, (.pl (.bool v8)), (.pl (.bool v8)), by kernel_rfl, by kernel_rfl, ((Wk.refl _) : Wk (.pl (.bool v8)) (.pl (.bool v8)))⟩)
/-! ### novation/novationref34.Terms -/
noncomputable def c51 : Code := Try.f51.body.getD .skip
inductive f51n0O where
  | ret (v28 : Bool)
def f51n0E (a1 : NovateTrade) : f51n0O → Ex × Tr × Hp
  | .ret v28 => (.ret, mkS [(2, (.pl (.bool v28)))], [])
def f51n0S (a1 : NovateTrade) : Tr × Hp := (initS [(.pl (.agg (NovateTrade.cells a1)))] 0 .leaf, [])
def f51n0 (a1 : NovateTrade) : Option f51n0O :=
  (f55 a1.Buyer).bind fun x12 =>
  bif x12 then
    (f55 a1.Seller).bind fun x15 =>
    bif x15 then
      bif (seq a1.Buyer a1.Seller) then
        some (.ret false)
      else
        (f56 a1.Product).bind fun x19 =>
        bif x19 then
          bif (decide (1 ≤ a1.Quantity)) then
            bif (decide (a1.Quantity ≤ 1048576)) then
              bif (decide ((-536870912) ≤ a1.Price)) then
                some (.ret (decide (a1.Price ≤ 536870912)))
              else
                some (.ret false)
            else
              some (.ret false)
          else
            some (.ret false)
        else
          some (.ret false)
    else
      some (.ret false)
  else
    some (.ret false)
theorem f51n0_ok (a1 : NovateTrade) {o : f51n0O} (h : (f51n0 a1) = some o) : T Try.prog Try.f51.ntmps 0 c51 (f51n0S a1) (fun r => r = f51n0E a1 o) := by
  unfold f51n0 at h
  obtain ⟨x12, h13, h⟩ := bind_cases h
  rcases cond_cases h with ⟨h14, h⟩ | ⟨h14, h⟩
  · obtain ⟨x15, h16, h⟩ := bind_cases h
    rcases cond_cases h with ⟨h17, h⟩ | ⟨h17, h⟩
    · rcases cond_cases h with ⟨h18, h⟩ | ⟨h18, h⟩
      · obtain rfl := some_inj h
        exact runK_end cfg_ok (k := 2) (rs := [([], [], []), ([(5, false), (6, false), (7, false), (8, false), (11, false), (12, false), (13, false), (14, false), (15, false), (18, true), (19, true), (20, true), (21, true)], [(2, .call (.pl (.bool x12)) []), (7, .call (.pl (.bool x15)) []), (9, .bool false), (16, .bool false), (22, .bool true)], []), ([], [], [])]) (ps := [none]) (tds := []) (m := []) (keep := [2]) (ex := .ret) (st' := (f51n0E a1 (.ret false)).2) (by kernel_rfl) (ap (not_t h14) (ap (not_t h14) (ap (not_t h14) (ap (not_t h14) (ap (not_t h14) (ap (not_t h17) (ap (not_t h17) (ap (not_t h17) (ap (not_t h17) (ap (not_t h17) (ap (not_t h17) (ap h18 (ap h18 (ap h18 (ap h18 (ap h18 (ap (f55_ok a1.Buyer h13) (ap (f55_ok a1.Seller h16) an)))))))))))))))))) (fun h => nomatch h) rfl
      · obtain ⟨x19, h20, h⟩ := bind_cases h
        rcases cond_cases h with ⟨h21, h⟩ | ⟨h21, h⟩
        · rcases cond_cases h with ⟨h25, h⟩ | ⟨h25, h⟩
          · rcases cond_cases h with ⟨h26, h⟩ | ⟨h26, h⟩
            · rcases cond_cases h with ⟨h27, h⟩ | ⟨h27, h⟩
              · obtain rfl := some_inj h
                exact run_end cfg_ok (rs := [([], [], []), ([(5, false), (6, false), (7, false), (8, false), (11, false), (12, false), (13, false), (14, false), (15, false), (18, false), (19, false), (20, false), (21, false)], [(2, .call (.pl (.bool x12)) []), (7, .call (.pl (.bool x15)) []), (9, .bool false), (16, .bool false), (20, .call (.pl (.bool x19)) []), (22, .bool false)], []), ([(4, true), (5, true), (6, true), (9, true), (10, true), (11, true), (14, true), (15, true), (16, true)], [(7, .bool true), (12, .bool true), (17, .bool true)], [])]) (ps := [some false]) (tds := []) (m := []) (keep := [2]) (r := (.ret, (f51n0E a1 (.ret (decide (a1.Price ≤ 536870912)))).2)) (by kernel_rfl) (ap (not_t h14) (ap (not_t h14) (ap (not_t h14) (ap (not_t h14) (ap (not_t h14) (ap (not_t h17) (ap (not_t h17) (ap (not_t h17) (ap (not_t h17) (ap (not_t h17) (ap (not_t h17) (ap h18 (ap h18 (ap h18 (ap h18 (ap h18 (ap (f55_ok a1.Buyer h13) (ap (f55_ok a1.Seller h16) (ap (f56_ok a1.Product h20) (ap (not_t h21) (ap h25 (ap h25 (ap h25 (ap h25 (ap h26 (ap h26 (ap h26 (ap h26 (ap h27 (ap h27 (ap h27 (ap h27 an)))))))))))))))))))))))))))))))) rfl
              · obtain rfl := some_inj h
                exact run_end cfg_ok (rs := [([], [], []), ([(5, false), (6, false), (7, false), (8, false), (11, false), (12, false), (13, false), (14, false), (15, false), (18, false), (19, false), (20, false), (21, false)], [(2, .call (.pl (.bool x12)) []), (7, .call (.pl (.bool x15)) []), (9, .bool false), (16, .bool false), (20, .call (.pl (.bool x19)) []), (22, .bool false)], []), ([(4, true), (5, true), (6, true), (9, true), (10, true), (11, true), (14, false), (15, false), (16, false)], [(7, .bool true), (12, .bool true), (17, .bool false)], [])]) (ps := [some false]) (tds := []) (m := []) (keep := [2]) (r := (.ret, (f51n0E a1 (.ret false)).2)) (by kernel_rfl) (ap (not_t h14) (ap (not_t h14) (ap (not_t h14) (ap (not_t h14) (ap (not_t h14) (ap (not_t h17) (ap (not_t h17) (ap (not_t h17) (ap (not_t h17) (ap (not_t h17) (ap (not_t h17) (ap h18 (ap h18 (ap h18 (ap h18 (ap h18 (ap (f55_ok a1.Buyer h13) (ap (f55_ok a1.Seller h16) (ap (f56_ok a1.Product h20) (ap (not_t h21) (ap h25 (ap h25 (ap h25 (ap h25 (ap h26 (ap h26 (ap h26 (ap h26 (ap h27 (ap h27 (ap h27 (ap h27 an)))))))))))))))))))))))))))))))) rfl
            · obtain rfl := some_inj h
              exact run_end cfg_ok (rs := [([], [], []), ([(5, false), (6, false), (7, false), (8, false), (11, false), (12, false), (13, false), (14, false), (15, false), (18, false), (19, false), (20, false), (21, false)], [(2, .call (.pl (.bool x12)) []), (7, .call (.pl (.bool x15)) []), (9, .bool false), (16, .bool false), (20, .call (.pl (.bool x19)) []), (22, .bool false)], []), ([(4, true), (5, true), (6, true), (9, false), (10, false), (11, false)], [(7, .bool true), (12, .bool false)], [])]) (ps := [some false]) (tds := []) (m := []) (keep := [2]) (r := (.ret, (f51n0E a1 (.ret false)).2)) (by kernel_rfl) (ap (not_t h14) (ap (not_t h14) (ap (not_t h14) (ap (not_t h14) (ap (not_t h14) (ap (not_t h17) (ap (not_t h17) (ap (not_t h17) (ap (not_t h17) (ap (not_t h17) (ap (not_t h17) (ap h18 (ap h18 (ap h18 (ap h18 (ap h18 (ap (f55_ok a1.Buyer h13) (ap (f55_ok a1.Seller h16) (ap (f56_ok a1.Product h20) (ap (not_t h21) (ap h25 (ap h25 (ap h25 (ap h25 (ap h26 (ap h26 (ap h26 (ap h26 an)))))))))))))))))))))))))))) rfl
          · obtain rfl := some_inj h
            exact run_end cfg_ok (rs := [([], [], []), ([(5, false), (6, false), (7, false), (8, false), (11, false), (12, false), (13, false), (14, false), (15, false), (18, false), (19, false), (20, false), (21, false)], [(2, .call (.pl (.bool x12)) []), (7, .call (.pl (.bool x15)) []), (9, .bool false), (16, .bool false), (20, .call (.pl (.bool x19)) []), (22, .bool false)], []), ([(4, false), (5, false), (6, false)], [(7, .bool false)], [])]) (ps := [some false]) (tds := []) (m := []) (keep := [2]) (r := (.ret, (f51n0E a1 (.ret false)).2)) (by kernel_rfl) (ap (not_t h14) (ap (not_t h14) (ap (not_t h14) (ap (not_t h14) (ap (not_t h14) (ap (not_t h17) (ap (not_t h17) (ap (not_t h17) (ap (not_t h17) (ap (not_t h17) (ap (not_t h17) (ap h18 (ap h18 (ap h18 (ap h18 (ap h18 (ap (f55_ok a1.Buyer h13) (ap (f55_ok a1.Seller h16) (ap (f56_ok a1.Product h20) (ap (not_t h21) (ap h25 (ap h25 (ap h25 (ap h25 an)))))))))))))))))))))))) rfl
        · obtain rfl := some_inj h
          exact runK_end cfg_ok (k := 2) (rs := [([], [], []), ([(5, false), (6, false), (7, false), (8, false), (11, false), (12, false), (13, false), (14, false), (15, false), (18, false), (19, false), (20, false), (21, false)], [(2, .call (.pl (.bool x12)) []), (7, .call (.pl (.bool x15)) []), (9, .bool false), (16, .bool false), (20, .call (.pl (.bool x19)) []), (22, .bool false)], []), ([], [], [])]) (ps := [some true]) (tds := []) (m := []) (keep := [2]) (ex := .ret) (st' := (f51n0E a1 (.ret false)).2) (by kernel_rfl) (ap (not_t h14) (ap (not_t h14) (ap (not_t h14) (ap (not_t h14) (ap (not_t h14) (ap (not_t h17) (ap (not_t h17) (ap (not_t h17) (ap (not_t h17) (ap (not_t h17) (ap (not_t h17) (ap h18 (ap h18 (ap h18 (ap h18 (ap h18 (ap (f55_ok a1.Buyer h13) (ap (f55_ok a1.Seller h16) (ap (f56_ok a1.Product h20) (ap (not_f h21) an)))))))))))))))))))) (fun h => nomatch h) rfl
    · obtain rfl := some_inj h
      exact runK_end cfg_ok (k := 2) (rs := [([], [], []), ([(5, false), (6, false), (7, false), (8, false), (11, true), (12, true), (13, true), (14, true), (15, true)], [(2, .call (.pl (.bool x12)) []), (7, .call (.pl (.bool x15)) []), (9, .bool false), (16, .bool true)], []), ([], [], [])]) (ps := [none]) (tds := []) (m := []) (keep := [2]) (ex := .ret) (st' := (f51n0E a1 (.ret false)).2) (by kernel_rfl) (ap (not_t h14) (ap (not_t h14) (ap (not_t h14) (ap (not_t h14) (ap (not_t h14) (ap (not_f h17) (ap (not_f h17) (ap (not_f h17) (ap (not_f h17) (ap (not_f h17) (ap (not_f h17) (ap (f55_ok a1.Buyer h13) (ap (f55_ok a1.Seller h16) an))))))))))))) (fun h => nomatch h) rfl
  · obtain rfl := some_inj h
    exact runK_end cfg_ok (k := 2) (rs := [([], [], []), ([(5, true), (6, true), (7, true), (8, true)], [(2, .call (.pl (.bool x12)) []), (9, .bool true)], []), ([], [], [])]) (ps := [none]) (tds := []) (m := []) (keep := [2]) (ex := .ret) (st' := (f51n0E a1 (.ret false)).2) (by kernel_rfl) (ap (not_f h14) (ap (not_f h14) (ap (not_f h14) (ap (not_f h14) (ap (not_f h14) (ap (f55_ok a1.Buyer h13) an)))))) (fun h => nomatch h) rfl
def f51 (a1 : NovateTrade) : Option Bool := (f51n0 a1).bind fun o => match o with
  | .ret v28 => some v28
theorem f51_ok (a1 : NovateTrade) {r : Bool} (h : (f51 a1) = some r) : CallS Try.prog false 51 [(.pl (.agg (NovateTrade.cells a1)))] [] (.pl (.bool r)) [] := by
  unfold f51 at h
  obtain ⟨o, ho, h⟩ := bind_cases h
  cases o with
  | ret v28 =>
    obtain rfl := some_inj h
    exact CallS.plain cfg_ok (f := Try.f51) (c := c51) (by kernel_rfl) (by kernel_rfl) (by kernel_rfl) (by kernel_rfl) ((f51n0_ok a1 ho).mono fun r e => by subst e; exact ⟨.inl rfl, (.pl (.bool v28)), (.pl (.bool v28)), by kernel_rfl, by kernel_rfl, ((Wk.refl _) : Wk (.pl (.bool v28)) (.pl (.bool v28)))⟩)
/-! ### novation/novationref34.Right -/
noncomputable def c47 : Code := Try.f47.body.getD .skip
inductive f47n2O where
  | norm (v14 : Bool)
def f47n2E (bb1 : NovateTrade) : f47n2O → Ex × Tr × Hp
  | .norm v14 => (.norm, mkS [(1, (.bp 0 0)), (11, (.pl (.bool v14)))], [some (.box ((NovateTrade.cells bb1).map .pl))])
def f47n2S (bb1 : NovateTrade) : Tr × Hp := (mkS [(1, (.bp 0 0))], [some (.box ((NovateTrade.cells bb1).map .pl))])
def f47n2 (bb1 : NovateTrade) : Option f47n2O :=
  bif bb1.Bought then
    some (.norm bb1.Sold)
  else
    some (.norm false)
theorem f47n2_ok (bb1 : NovateTrade) {o : f47n2O} (h : (f47n2 bb1) = some o) : T Try.prog Try.f47.ntmps 0 (cL (dropC 0 (cL (dropC 2 c47)))) (f47n2S bb1) (fun r => r = f47n2E bb1 o) := by
  unfold f47n2 at h
  rcases cond_cases h with ⟨h13, h⟩ | ⟨h13, h⟩
  · obtain rfl := some_inj h
    exact run_end cfg_ok (rs := [([(3, true), (4, true)], [(5, .bool true)], [])]) (ps := []) (tds := []) (m := [0]) (keep := [1, 11]) (r := (.norm, (f47n2E bb1 (.norm bb1.Sold)).2)) (by kernel_rfl) (ap h13 (ap h13 (ap h13 an))) rfl
  · obtain rfl := some_inj h
    exact run_end cfg_ok (rs := [([(3, false), (4, false)], [(5, .bool false)], [])]) (ps := []) (tds := []) (m := [0]) (keep := [1, 11]) (r := (.norm, (f47n2E bb1 (.norm false)).2)) (by kernel_rfl) (ap h13 (ap h13 (ap h13 an))) rfl
inductive f47n1O where
  | norm
  | ret (v22 : Bool)
def f47n1E (bb1 : NovateTrade) : f47n1O → Ex × Tr × Hp
  | .norm => (.norm, mkS [(1, (.bp 0 0))], [some (.box ((NovateTrade.cells bb1).map .pl))])
  | .ret v22 => (.ret, mkS [(2, (.pl (.bool v22)))], [])
def f47n1S (bb1 : NovateTrade) : Tr × Hp := (mkS [(1, (.bp 0 0))], [some (.box ((NovateTrade.cells bb1).map .pl))])
def f47n1 (bb1 : NovateTrade) : Option f47n1O :=
  (f47n2 bb1).bind fun o15 => match o15 with
  | .norm v17 => bif v17 then
      bif (decide (bb1.Stage = 1)) then
        some (.ret true)
      else
        some (.ret (decide (bb1.Stage = 3)))
    else
      some .norm
theorem f47n1_ok (bb1 : NovateTrade) {o : f47n1O} (h : (f47n1 bb1) = some o) : T Try.prog Try.f47.ntmps 0 (cL (dropC 2 c47)) (f47n1S bb1) (fun r => r = f47n1E bb1 o) := by
  unfold f47n1 at h
  refine runK_norm cfg_ok (k := 0) (rs := []) (ps := []) (tds := []) (m := [0]) (keep := [1]) (st' := (f47n2S bb1)) (by kernel_rfl) an ?_
  obtain ⟨o15, h16, h⟩ := bind_cases h
  cases o15 with
  | norm v17 =>
    refine T.oneN (by kernel_rfl) (f47n2_ok bb1 h16) (st2 := (f47n2E bb1 (.norm v17)).2) rfl ?_
    rcases cond_cases h with ⟨h20, h⟩ | ⟨h20, h⟩
    · rcases cond_cases h with ⟨h21, h⟩ | ⟨h21, h⟩
      · obtain rfl := some_inj h
        exact run_end cfg_ok (rs := [([(4, true), (5, true), (6, true)], [(7, .bool true)], [])]) (ps := [some true]) (tds := []) (m := []) (keep := [2]) (r := (.ret, (f47n1E bb1 (.ret true)).2)) (by kernel_rfl) (ap h20 (ap h21 (ap h21 (ap h21 (ap h21 an))))) rfl
      · obtain rfl := some_inj h
        exact run_end cfg_ok (rs := [([(4, false), (5, false), (6, false)], [(7, .bool false)], [])]) (ps := [some true]) (tds := []) (m := []) (keep := [2]) (r := (.ret, (f47n1E bb1 (.ret (decide (bb1.Stage = 3)))).2)) (by kernel_rfl) (ap h20 (ap h21 (ap h21 (ap h21 (ap h21 an))))) rfl
    · obtain rfl := some_inj h
      exact run_end cfg_ok (rs := []) (ps := [some false]) (tds := []) (m := [0]) (keep := [1]) (r := (.norm, (f47n1E bb1 .norm).2)) (by kernel_rfl) (ap h20 an) rfl
inductive f47n0O where
  | ret (v28 : Bool)
def f47n0E (a1 : NovateTrade) : f47n0O → Ex × Tr × Hp
  | .ret v28 => (.ret, mkS [(2, (.pl (.bool v28)))], [])
def f47n0S (a1 : NovateTrade) : Tr × Hp := (initS [(.pl (.agg (NovateTrade.cells a1)))] 0 .leaf, [])
def f47n0 (a1 : NovateTrade) : Option f47n0O :=
  (f51 a1).bind fun x5 =>
  bif x5 then
    (f47n1 a1).bind fun o23 => match o23 with
    | .norm => bif (decide (a1.Stage = 0)) then
        some (.ret true)
      else
        some (.ret (decide (a1.Stage = 2)))
    | .ret v27 => some (.ret v27)
  else
    some (.ret false)
theorem f47n0_ok (a1 : NovateTrade) {o : f47n0O} (h : (f47n0 a1) = some o) : T Try.prog Try.f47.ntmps 0 c47 (f47n0S a1) (fun r => r = f47n0E a1 o) := by
  unfold f47n0 at h
  obtain ⟨x5, h6, h⟩ := bind_cases h
  rcases cond_cases h with ⟨h7, h⟩ | ⟨h7, h⟩
  · refine runK_norm cfg_ok (k := 2) (rs := [([], [], []), ([], [(1, .call (.pl (.bool x5)) [])], [])]) (ps := [some false]) (tds := []) (m := [0]) (keep := [1]) (st' := (f47n1S a1)) (by kernel_rfl) (ap (f51_ok a1 h6) (ap (not_t h7) an)) ?_
    obtain ⟨o23, h24, h⟩ := bind_cases h
    cases o23 with
    | norm =>
      refine T.oneN (by kernel_rfl) (f47n1_ok a1 h24) (st2 := (f47n1E a1 .norm).2) rfl ?_
      rcases cond_cases h with ⟨h26, h⟩ | ⟨h26, h⟩
      · obtain rfl := some_inj h
        exact run_end cfg_ok (rs := [([(4, true), (5, true), (6, true)], [(7, .bool true)], [])]) (ps := []) (tds := []) (m := []) (keep := [2]) (r := (.ret, (f47n0E a1 (.ret true)).2)) (by kernel_rfl) (ap h26 (ap h26 (ap h26 (ap h26 an)))) rfl
      · obtain rfl := some_inj h
        exact run_end cfg_ok (rs := [([(4, false), (5, false), (6, false)], [(7, .bool false)], [])]) (ps := []) (tds := []) (m := []) (keep := [2]) (r := (.ret, (f47n0E a1 (.ret (decide (a1.Stage = 2)))).2)) (by kernel_rfl) (ap h26 (ap h26 (ap h26 (ap h26 an)))) rfl
    | ret v27 =>
      obtain rfl := some_inj h
      exact T.oneX' (by kernel_rfl) (f47n1_ok a1 h24) (tds := []) (m := []) (keep := [2]) (st2 := (f47n0E a1 (.ret v27)).2) (by kernel_rfl) an rfl rfl
  · obtain rfl := some_inj h
    exact runK_end cfg_ok (k := 2) (rs := [([], [], []), ([], [(1, .call (.pl (.bool x5)) [])], []), ([], [], [])]) (ps := [some true]) (tds := []) (m := []) (keep := [2]) (ex := .ret) (st' := (f47n0E a1 (.ret false)).2) (by kernel_rfl) (ap (f51_ok a1 h6) (ap (not_f h7) an)) (fun h => nomatch h) rfl
def f47 (a1 : NovateTrade) : Option Bool := (f47n0 a1).bind fun o => match o with
  | .ret v28 => some v28
theorem f47_ok (a1 : NovateTrade) {r : Bool} (h : (f47 a1) = some r) : CallS Try.prog false 47 [(.pl (.agg (NovateTrade.cells a1)))] [] (.pl (.bool r)) [] := by
  unfold f47 at h
  obtain ⟨o, ho, h⟩ := bind_cases h
  cases o with
  | ret v28 =>
    obtain rfl := some_inj h
    exact CallS.plain cfg_ok (f := Try.f47) (c := c47) (by kernel_rfl) (by kernel_rfl) (by kernel_rfl) (by kernel_rfl) ((f47n0_ok a1 ho).mono fun r e => by subst e; exact ⟨.inl rfl, (.pl (.bool v28)), (.pl (.bool v28)), by kernel_rfl, by kernel_rfl, ((Wk.refl _) : Wk (.pl (.bool v28)) (.pl (.bool v28)))⟩)
/-! ### novation/novationref34.Check -/
noncomputable def c30 : Code := Try.f30.body.getD .skip
inductive f30n2O where
  | exit0
  | ret
def f30n2E (bf1 : NovateBook) : f30n2O → Ex × Tr × Hp
  | .exit0 => ((.exit 0), mkS [], [])
  | .ret => (.ret, mkS [(2, (.pl (.int .i64 8)))], [])
def f30n2S (bf1 : NovateBook) (v29 : Int) : Tr × Hp := (mkS [(1, (.bp 0 0)), (3, (.pl (.int .i64 v29)))], [some (.box ((NovateBook.cells bf1).map .pl))])
def f30n2 : Nat → NovateBook → Int → Option f30n2O
  | 0, _, _ => none
  | f + 1, bf1, v29 =>
    bif (decide (v29 < (bf1.Trades.length : Int))) then
      (at? bf1.Trades v29).bind fun x37 =>
      (f47 x37).bind fun x39 =>
      bif x39 then
        (f30n2 f bf1 (wr64 (v29 + 1)))
      else
        some .ret
    else
      some .exit0
theorem f30n2_ok : ∀ (f : Nat) (bf1 : NovateBook) (v29 : Int) {o : f30n2O}, (f30n2 f bf1 v29) = some o → TL Try.prog Try.f30.ntmps 0 f (cL (cL (dropC 1 (cL (dropC 2 c30))))) (f30n2S bf1 v29) (fun r => r = f30n2E bf1 o)
  | 0, _, _, o, h => by rw [f30n2] at h; cases h
  | f + 1, bf1, v29, o, h => by
    rw [f30n2] at h
    refine TL.body (K := fun s => ∃ v29 : Int, s = (f30n2S bf1 v29) ∧ (f30n2 f bf1 v29) = some o) ?_ (by rintro _ ⟨v29, rfl, hk⟩; exact f30n2_ok f _ _ hk)
    rcases cond_cases h with ⟨h31, h⟩ | ⟨h31, h⟩
    · obtain ⟨x37, h38, h⟩ := bind_cases h
      obtain ⟨x39, h40, h⟩ := bind_cases h
      rcases cond_cases h with ⟨h41, h⟩ | ⟨h41, h⟩
      · exact run_end cfg_ok (rs := [([], [], [(3, .val (.pl (.int .i64 (bf1.Trades.length : Int))))]), ([], [(3, .idx (Int.toNat v29) (NovateTrade.cells x37)), (5, .call (.pl (.bool x39)) [])], []), ([], [], [])]) (ps := [some true, some false]) (tds := []) (m := [0]) (keep := [1, 3]) (r := (.norm, (f30n2S bf1 (wr64 (v29 + 1))))) (by kernel_rfl) (ap (len_cv (xs := bf1.Trades) (c := NovateTrade.cells)) (ap h31 (ap (at_some h38).1 (ap (at_map NovateTrade.cells (at_some h38).2) (ap (f47_ok x37 h40) (ap (not_t h41) an)))))) (LoopQ.norm ⟨(wr64 (v29 + 1)), rfl, h⟩)
      · obtain rfl := some_inj h
        exact runK_end cfg_ok (k := 2) (rs := [([], [], [(3, .val (.pl (.int .i64 (bf1.Trades.length : Int))))]), ([], [(3, .idx (Int.toNat v29) (NovateTrade.cells x37)), (5, .call (.pl (.bool x39)) [])], []), ([], [], [])]) (ps := [some true, some true]) (tds := []) (m := []) (keep := [2]) (ex := .ret) (st' := (f30n2E bf1 .ret).2) (by kernel_rfl) (ap (len_cv (xs := bf1.Trades) (c := NovateTrade.cells)) (ap h31 (ap (at_some h38).1 (ap (at_map NovateTrade.cells (at_some h38).2) (ap (f47_ok x37 h40) (ap (not_f h41) an)))))) (fun h => nomatch h) (LoopQ.out rfl rfl)
    · obtain rfl := some_inj h
      exact runK_end cfg_ok (k := 1) (rs := [([], [], [(3, .val (.pl (.int .i64 (bf1.Trades.length : Int))))])]) (ps := [some false]) (tds := []) (m := []) (keep := []) (ex := (.exit 0)) (st' := (f30n2E bf1 .exit0).2) (by kernel_rfl) (ap (len_cv (xs := bf1.Trades) (c := NovateTrade.cells)) (ap h31 an)) (fun h => nomatch h) (LoopQ.out rfl rfl)
def f30n2L (bf1 : NovateBook) : List NovateTrade → Int → Option f30n2O
  | [], v29 =>
    some .exit0
  | x0 :: rest, v29 =>
    (f47 x0).bind fun x39 =>
    bif x39 then
      (f30n2L bf1 rest (v29 + 1))
    else
      some .ret
theorem f30n2L_eq (bf1 : NovateBook) : ∀ (rest : List NovateTrade) (f k : Nat), bf1.Trades.drop k = rest → bf1.Trades.length ≤ maxLen → rest.length < f → f30n2 f bf1 (k : Int) = f30n2L bf1 rest (k : Int)
  | _, 0, _, _, _, hf => absurd hf (Nat.not_lt_zero _)
  | [], f + 1, k, hd, hm, hf => by
    have hk : ¬ ((k : Int) < (bf1.Trades.length : Int)) := by have := drop_nil hd; omega
    rw [f30n2, f30n2L]
    simp only [decide_eq_false hk, cond_false]
  | x0 :: rest, f + 1, k, hd, hm, hf => by
    obtain ⟨hx, hlt, hd'⟩ := drop_cons hd
    have hk : (k : Int) < (bf1.Trades.length : Int) := by omega
    have hw : wr64 ((k : Int) + 1) = (k : Int) + 1 := wr64_of (by omega) (by unfold maxLen at hm; omega)
    have ih : f30n2 f bf1 ((k : Int) + 1) = f30n2L bf1 rest ((k : Int) + 1) := f30n2L_eq bf1 rest f (k + 1) hd' hm (by simpa using hf)
    rw [f30n2, f30n2L]
    simp only [decide_eq_true hk, cond_true, at_nat, hx, Option.bind_some, hw, ih]
theorem f30n2_run (bf1 : NovateBook) (hm : bf1.Trades.length ≤ maxLen) : f30n2 FUEL bf1 0 = f30n2L bf1 bf1.Trades 0 := f30n2L_eq bf1 bf1.Trades FUEL 0 List.drop_zero hm (lt_FUEL hm)
inductive f30n1O where
  | norm
  | ret
def f30n1E (bf1 : NovateBook) : f30n1O → Ex × Tr × Hp
  | .norm => (.norm, mkS [], [])
  | .ret => (.ret, mkS [(2, (.pl (.int .i64 8)))], [])
def f30n1S (bf1 : NovateBook) : Tr × Hp := (mkS [(1, (.bp 0 0))], [some (.box ((NovateBook.cells bf1).map .pl))])
def f30n1 (bf1 : NovateBook) : Option f30n1O :=
  (f30n2 FUEL bf1 0).bind fun o42 => match o42 with
  | .exit0 => some .norm
  | .ret => some .ret
theorem f30n1_ok (bf1 : NovateBook) {o : f30n1O} (h : (f30n1 bf1) = some o) : T Try.prog Try.f30.ntmps 0 (cL (dropC 2 c30)) (f30n1S bf1) (fun r => r = f30n1E bf1 o) := by
  unfold f30n1 at h
  refine runK_norm cfg_ok (k := 1) (rs := [([], [], [])]) (ps := []) (tds := []) (m := [0]) (keep := [1, 3]) (st' := (f30n2S bf1 0)) (by kernel_rfl) an ?_
  obtain ⟨o42, h43, h⟩ := bind_cases h
  cases o42 with
  | exit0 =>
    obtain rfl := some_inj h
    exact T.last' (T.bl (i := 0) (by kernel_rfl) (by kernel_rfl) (f30n2_ok FUEL bf1 0 h43)) (tds := []) (m := []) (keep := []) (st2 := (f30n1E bf1 .norm).2) (by kernel_rfl) an rfl
  | ret =>
    obtain rfl := some_inj h
    exact T.last' (T.bl (i := 0) (by kernel_rfl) (by kernel_rfl) (f30n2_ok FUEL bf1 0 h43)) (tds := []) (m := []) (keep := [2]) (st2 := (f30n1E bf1 .ret).2) (by kernel_rfl) an rfl
inductive f30n0O where
  | ret (v46 : Int)
def f30n0E (a1 : NovateBook) : f30n0O → Ex × Tr × Hp
  | .ret v46 => (.ret, mkS [(2, (.pl (.int .i64 v46)))], [])
def f30n0S (a1 : NovateBook) : Tr × Hp := (initS [(.pl (.agg (NovateBook.cells a1)))] 0 .leaf, [])
def f30n0 (a1 : NovateBook) : Option f30n0O :=
  bif (decide (200 < (a1.Trades.length : Int))) then
    some (.ret 8)
  else
    (f30n1 a1).bind fun o44 => match o44 with
    | .norm => some (.ret 0)
    | .ret => some (.ret 8)
theorem f30n0_ok (a1 : NovateBook) {o : f30n0O} (h : (f30n0 a1) = some o) : T Try.prog Try.f30.ntmps 0 c30 (f30n0S a1) (fun r => r = f30n0E a1 o) := by
  unfold f30n0 at h
  rcases cond_cases h with ⟨h3, h⟩ | ⟨h3, h⟩
  · obtain rfl := some_inj h
    exact runK_end cfg_ok (k := 2) (rs := [([], [], []), ([], [], [(2, .val (.pl (.int .i64 (a1.Trades.length : Int))))]), ([], [], [])]) (ps := [some true]) (tds := []) (m := []) (keep := [2]) (ex := .ret) (st' := (f30n0E a1 (.ret 8)).2) (by kernel_rfl) (ap (len_cv (xs := a1.Trades) (c := NovateTrade.cells)) (ap h3 an)) (fun h => nomatch h) rfl
  · refine runK_norm cfg_ok (k := 2) (rs := [([], [], []), ([], [], [(2, .val (.pl (.int .i64 (a1.Trades.length : Int))))])]) (ps := [some false]) (tds := []) (m := [0]) (keep := [1]) (st' := (f30n1S a1)) (by kernel_rfl) (ap (len_cv (xs := a1.Trades) (c := NovateTrade.cells)) (ap h3 an)) ?_
    obtain ⟨o44, h45, h⟩ := bind_cases h
    cases o44 with
    | norm =>
      refine T.oneN (by kernel_rfl) (f30n1_ok a1 h45) (st2 := (f30n1E a1 .norm).2) rfl ?_
      obtain rfl := some_inj h
      exact run_end cfg_ok (rs := [([], [], [])]) (ps := []) (tds := []) (m := []) (keep := [2]) (r := (.ret, (f30n0E a1 (.ret 0)).2)) (by kernel_rfl) an rfl
    | ret =>
      obtain rfl := some_inj h
      exact T.oneX' (by kernel_rfl) (f30n1_ok a1 h45) (tds := []) (m := []) (keep := [2]) (st2 := (f30n0E a1 (.ret 8)).2) (by kernel_rfl) an rfl rfl
def f30 (a1 : NovateBook) : Option Int := (f30n0 a1).bind fun o => match o with
  | .ret v46 => some v46
theorem f30_ok (a1 : NovateBook) {r : Int} (h : (f30 a1) = some r) : CallS Try.prog false 30 [(.pl (.agg (NovateBook.cells a1)))] [] (.pl (.int .i64 r)) [] := by
  unfold f30 at h
  obtain ⟨o, ho, h⟩ := bind_cases h
  cases o with
  | ret v46 =>
    obtain rfl := some_inj h
    exact CallS.plain cfg_ok (f := Try.f30) (c := c30) (by kernel_rfl) (by kernel_rfl) (by kernel_rfl) (by kernel_rfl) ((f30n0_ok a1 ho).mono fun r e => by subst e; exact ⟨.inl rfl, (.pl (.int .i64 v46)), (.pl (.int .i64 v46)), by kernel_rfl, by kernel_rfl, ((Wk.refl _) : Wk (.pl (.int .i64 v46)) (.pl (.int .i64 v46)))⟩)
end Go.Proofs.Ytkimdlpfbojkgaa
