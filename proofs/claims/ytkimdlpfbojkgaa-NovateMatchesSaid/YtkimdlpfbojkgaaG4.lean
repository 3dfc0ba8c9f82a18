/- Functions of the program, plainly, and that the machine computes them. No condition. -/
import Derived.Test.YtkimdlpfbojkgaaG3
namespace Go.Proofs.Ytkimdlpfbojkgaa
set_option linter.unusedVariables false
set_option maxRecDepth 100000
open Go.RowKit
/-! ### novation/novationref34.Submit -/
noncomputable def c41 : Code := Try.f41.body.getD .skip
inductive f41n0O where
  | ret (v27 : Int) (v28 : Int) (v29 : List NovateTrade)
def f41n0E (a1 : NovateBook) (a2 : ByteArray) (a3 : ByteArray) (a4 : ByteArray) (a5 : Int) (a6 : Int) : f41n0O → Ex × Tr × Hp
  | .ret v27 v28 v29 => (.ret, mkS [(12, (.bp 0 0)), (13, (.pl (.int .i64 v27))), (14, (.pl (.int .i64 v28)))], [some (.box [(.own 1)]), some (.row false 8 (v29.map NovateTrade.cells))])
def f41n0S (a1 : NovateBook) (a2 : ByteArray) (a3 : ByteArray) (a4 : ByteArray) (a5 : Int) (a6 : Int) : Tr × Hp := (initS [(.pl (.agg (NovateBook.cells a1))), (.pl (.str a2)), (.pl (.str a3)), (.pl (.str a4)), (.pl (.int .i64 a5)), (.pl (.int .i64 a6))] 0 .leaf, [])
def f41n0 (a1 : NovateBook) (a2 : ByteArray) (a3 : ByteArray) (a4 : ByteArray) (a5 : Int) (a6 : Int) : Option f41n0O :=
  (f30 a1).bind fun x10 =>
  bif (decide (x10 = 0)) then
    (f51 (NovateTrade.mk a2 a3 a4 a5 a6 false false 0)).bind fun x16 =>
    bif x16 then
      bif (decide (200 ≤ (a1.Trades.length : Int))) then
        some (.ret 0 22 [])
      else
        (f16r1 a1).bind fun x23 =>
        req (fit (x23.length + 1) 72) <|
        some (.ret ((x23 ++ [(NovateTrade.mk a2 a3 a4 a5 a6 false false 0)]).length : Int) 0 (x23 ++ [(NovateTrade.mk a2 a3 a4 a5 a6 false false 0)]))
    else
      some (.ret 0 2 [])
  else
    some (.ret 0 8 [])
theorem f41n0_ok (a1 : NovateBook) (a2 : ByteArray) (a3 : ByteArray) (a4 : ByteArray) (a5 : Int) (a6 : Int) {o : f41n0O} (h : (f41n0 a1 a2 a3 a4 a5 a6) = some o) : T Try.prog Try.f41.ntmps 0 c41 (f41n0S a1 a2 a3 a4 a5 a6) (fun r => r = f41n0E a1 a2 a3 a4 a5 a6 o) := by
  unfold f41n0 at h
  obtain ⟨x10, h11, h⟩ := bind_cases h
  rcases cond_cases h with ⟨h12, h⟩ | ⟨h12, h⟩
  · obtain ⟨x16, h17, h⟩ := bind_cases h
    rcases cond_cases h with ⟨h18, h⟩ | ⟨h18, h⟩
    · rcases cond_cases h with ⟨h20, h⟩ | ⟨h20, h⟩
      · obtain rfl := some_inj h
        exact runK_end cfg_ok (k := 5) (rs := [([], [], []), ([], [], []), ([], [(1, .call (.pl (.int .i64 x10)) [])], []), ([], [(1, .call (.pl (.bool x16)) [])], []), ([], [], [(2, .val (.pl (.int .i64 (a1.Trades.length : Int))))]), ([], [], [])]) (ps := [some false, some false, some true]) (tds := [.matC 1 0 8]) (m := [1, 3]) (keep := [12, 13, 14]) (ex := .ret) (st' := (f41n0E a1 a2 a3 a4 a5 a6 (.ret 0 22 [])).2) (by kernel_rfl) (ap (f30_ok a1 h11) (ap (not_t h12) (ap (f51_ok (NovateTrade.mk a2 a3 a4 a5 a6 false false 0) h17) (ap (not_t h18) (ap (len_cv (xs := a1.Trades) (c := NovateTrade.cells)) (ap h20 an)))))) (fun h => nomatch h) rfl
      · obtain ⟨x23, h24, h⟩ := bind_cases h
        obtain ⟨h26, h⟩ := req_cases h
        obtain rfl := some_inj h
        exact run_end cfg_ok (rs := [([], [], []), ([], [], []), ([], [(1, .call (.pl (.int .i64 x10)) [])], []), ([], [(1, .call (.pl (.bool x16)) [])], []), ([], [], [(2, .val (.pl (.int .i64 (a1.Trades.length : Int))))]), ([], [(1, .call (.agg [(.own 4)]) [none, none, none, some (.box [(.own 4)]), some (.row false 8 (x23.map NovateTrade.cells))])], []), ([], [(4, .fits)], [(4, .row 7 ((x23 ++ [(NovateTrade.mk a2 a3 a4 a5 a6 false false 0)]).map NovateTrade.cells))]), ([], [], [(3, .val (.pl (.int .i64 ((x23 ++ [(NovateTrade.mk a2 a3 a4 a5 a6 false false 0)]).length : Int))))])]) (ps := [some false, some false, some false]) (tds := []) (m := [1, 7]) (keep := [12, 13, 14]) (r := (.ret, (f41n0E a1 a2 a3 a4 a5 a6 (.ret ((x23 ++ [(NovateTrade.mk a2 a3 a4 a5 a6 false false 0)]).length : Int) 0 (x23 ++ [(NovateTrade.mk a2 a3 a4 a5 a6 false false 0)]))).2)) (by kernel_rfl) (ap (f30_ok a1 h11) (ap (not_t h12) (ap (f51_ok (NovateTrade.mk a2 a3 a4 a5 a6 false false 0) h17) (ap (not_t h18) (ap (len_cv (xs := a1.Trades) (c := NovateTrade.cells)) (ap h20 (ap (CallS.shift (ps := [(.agg (NovateBook.cells a1))]) (v2 := (.agg [(.own 4)])) (H3 := [none, none, none, some (.box [(.own 4)]), some (.row false 8 (x23.map NovateTrade.cells))]) 3 (f16r1_ok a1 h24) (by kernel_rfl) (by kernel_rfl)) (ap (fit_map (te := ti34) (xs := x23) (n := 1) (c := NovateTrade.cells) h26 rfl) (ap (app_cv (xs := x23) (ys := [(NovateTrade.mk a2 a3 a4 a5 a6 false false 0)]) (c := NovateTrade.cells)) (ap (len_cv (xs := (x23 ++ [(NovateTrade.mk a2 a3 a4 a5 a6 false false 0)])) (c := NovateTrade.cells)) an)))))))))) rfl
    · obtain rfl := some_inj h
      exact runK_end cfg_ok (k := 4) (rs := [([], [], []), ([], [], []), ([], [(1, .call (.pl (.int .i64 x10)) [])], []), ([], [(1, .call (.pl (.bool x16)) [])], []), ([], [], [])]) (ps := [some false, some true]) (tds := [.matC 1 0 8]) (m := [1, 3]) (keep := [12, 13, 14]) (ex := .ret) (st' := (f41n0E a1 a2 a3 a4 a5 a6 (.ret 0 2 [])).2) (by kernel_rfl) (ap (f30_ok a1 h11) (ap (not_t h12) (ap (f51_ok (NovateTrade.mk a2 a3 a4 a5 a6 false false 0) h17) (ap (not_f h18) an)))) (fun h => nomatch h) rfl
  · obtain rfl := some_inj h
    exact runK_end cfg_ok (k := 3) (rs := [([], [], []), ([], [], []), ([], [(1, .call (.pl (.int .i64 x10)) [])], []), ([], [], [])]) (ps := [some true]) (tds := [.matC 1 0 8]) (m := [1, 3]) (keep := [12, 13, 14]) (ex := .ret) (st' := (f41n0E a1 a2 a3 a4 a5 a6 (.ret 0 8 [])).2) (by kernel_rfl) (ap (f30_ok a1 h11) (ap (not_f h12) an)) (fun h => nomatch h) rfl
def f41 (a1 : NovateBook) (a2 : ByteArray) (a3 : ByteArray) (a4 : ByteArray) (a5 : Int) (a6 : Int) : Option (NovateBook × Int × Int) := (f41n0 a1 a2 a3 a4 a5 a6).bind fun o => match o with
  | .ret v27 v28 v29 => some ((NovateBook.mk v29), v27, v28)
theorem f41_ok (a1 : NovateBook) (a2 : ByteArray) (a3 : ByteArray) (a4 : ByteArray) (a5 : Int) (a6 : Int) {r : NovateBook × Int × Int} (h : (f41 a1 a2 a3 a4 a5 a6) = some r) : CallS Try.prog false 41 [(.pl (.agg (NovateBook.cells a1))), (.pl (.str a2)), (.pl (.str a3)), (.pl (.str a4)), (.pl (.int .i64 a5)), (.pl (.int .i64 a6))] [] (.tup [(.pl (.agg (NovateBook.cells r.1))), (.pl (.int .i64 r.2.1)), (.pl (.int .i64 r.2.2))]) [] := by
  unfold f41 at h
  obtain ⟨o, ho, h⟩ := bind_cases h
  cases o with
  | ret v27 v28 v29 =>
    obtain rfl := some_inj h
    exact CallS.plain cfg_ok (f := Try.f41) (c := c41) (by kernel_rfl) (by kernel_rfl) (by kernel_rfl) (by kernel_rfl) ((f41n0_ok a1 a2 a3 a4 a5 a6 ho).mono fun r e => by subst e; exact ⟨.inl rfl, (.tup [(.agg [(.own 1)]), (.pl (.int .i64 v27)), (.pl (.int .i64 v28))]), (.tup [(.pl (.agg (NovateBook.cells (NovateBook.mk v29)))), (.pl (.int .i64 v27)), (.pl (.int .i64 v28))]), by kernel_rfl, by kernel_rfl, ((Wk.refl _) : Wk (.tup [(.pl (.agg (NovateBook.cells (NovateBook.mk v29)))), (.pl (.int .i64 v27)), (.pl (.int .i64 v28))]) (.tup [(.pl (.agg (NovateBook.cells (NovateBook.mk v29)))), (.pl (.int .i64 v27)), (.pl (.int .i64 v28))]))⟩)
/-! ### novation/novationref34.there -/
noncomputable def c53 : Code := Try.f53.body.getD .skip
inductive f53n0O where
  | ret (v13 : Int)
def f53n0E (a1 : NovateBook) (a2 : Int) : f53n0O → Ex × Tr × Hp
  | .ret v13 => (.ret, mkS [(4, (.pl (.int .i64 v13)))], [])
def f53n0S (a1 : NovateBook) (a2 : Int) : Tr × Hp := (initS [(.pl (.agg (NovateBook.cells a1))), (.pl (.int .i64 a2))] 0 .leaf, [])
def f53n0 (a1 : NovateBook) (a2 : Int) : Option f53n0O :=
  (f30 a1).bind fun x6 =>
  bif (decide (x6 = 0)) then
    bif (decide (a2 < 1)) then
      some (.ret 6)
    else
      bif (decide ((a1.Trades.length : Int) < a2)) then
        some (.ret 6)
      else
        some (.ret 0)
  else
    some (.ret 8)
theorem f53n0_ok (a1 : NovateBook) (a2 : Int) {o : f53n0O} (h : (f53n0 a1 a2) = some o) : T Try.prog Try.f53.ntmps 0 c53 (f53n0S a1 a2) (fun r => r = f53n0E a1 a2 o) := by
  unfold f53n0 at h
  obtain ⟨x6, h7, h⟩ := bind_cases h
  rcases cond_cases h with ⟨h8, h⟩ | ⟨h8, h⟩
  · rcases cond_cases h with ⟨h11, h⟩ | ⟨h11, h⟩
    · obtain rfl := some_inj h
      exact runK_end cfg_ok (k := 3) (rs := [([], [], []), ([], [(1, .call (.pl (.int .i64 x6)) [])], []), ([(3, true), (4, true), (5, true), (6, true), (7, true)], [(8, .bool true)], []), ([], [], [])]) (ps := [some false, none]) (tds := []) (m := []) (keep := [4]) (ex := .ret) (st' := (f53n0E a1 a2 (.ret 6)).2) (by kernel_rfl) (ap (f30_ok a1 h7) (ap (not_t h8) (ap h11 (ap h11 (ap h11 (ap h11 (ap h11 (ap h11 an)))))))) (fun h => nomatch h) rfl
    · rcases cond_cases h with ⟨h12, h⟩ | ⟨h12, h⟩
      · obtain rfl := some_inj h
        exact runK_end cfg_ok (k := 3) (rs := [([], [], []), ([], [(1, .call (.pl (.int .i64 x6)) [])], []), ([(3, false), (4, false), (5, false), (6, false), (7, false)], [(8, .bool false)], [(6, .val (.pl (.int .i64 (a1.Trades.length : Int))))]), ([], [], [])]) (ps := [some false, some true]) (tds := []) (m := []) (keep := [4]) (ex := .ret) (st' := (f53n0E a1 a2 (.ret 6)).2) (by kernel_rfl) (ap (f30_ok a1 h7) (ap (not_t h8) (ap h11 (ap h11 (ap h11 (ap h11 (ap (len_cv (xs := a1.Trades) (c := NovateTrade.cells)) (ap h11 (ap h11 (ap h12 an)))))))))) (fun h => nomatch h) rfl
      · obtain rfl := some_inj h
        exact run_end cfg_ok (rs := [([], [], []), ([], [(1, .call (.pl (.int .i64 x6)) [])], []), ([(3, false), (4, false), (5, false), (6, false), (7, false)], [(8, .bool false)], [(6, .val (.pl (.int .i64 (a1.Trades.length : Int))))]), ([], [], [])]) (ps := [some false, some false]) (tds := []) (m := []) (keep := [4]) (r := (.ret, (f53n0E a1 a2 (.ret 0)).2)) (by kernel_rfl) (ap (f30_ok a1 h7) (ap (not_t h8) (ap h11 (ap h11 (ap h11 (ap h11 (ap (len_cv (xs := a1.Trades) (c := NovateTrade.cells)) (ap h11 (ap h11 (ap h12 an)))))))))) rfl
  · obtain rfl := some_inj h
    exact runK_end cfg_ok (k := 2) (rs := [([], [], []), ([], [(1, .call (.pl (.int .i64 x6)) [])], []), ([], [], [])]) (ps := [some true]) (tds := []) (m := []) (keep := [4]) (ex := .ret) (st' := (f53n0E a1 a2 (.ret 8)).2) (by kernel_rfl) (ap (f30_ok a1 h7) (ap (not_f h8) an)) (fun h => nomatch h) rfl
def f53 (a1 : NovateBook) (a2 : Int) : Option Int := (f53n0 a1 a2).bind fun o => match o with
  | .ret v13 => some v13
theorem f53_ok (a1 : NovateBook) (a2 : Int) {r : Int} (h : (f53 a1 a2) = some r) : CallS Try.prog false 53 [(.pl (.agg (NovateBook.cells a1))), (.pl (.int .i64 a2))] [] (.pl (.int .i64 r)) [] := by
  unfold f53 at h
  obtain ⟨o, ho, h⟩ := bind_cases h
  cases o with
  | ret v13 =>
    obtain rfl := some_inj h
    exact CallS.plain cfg_ok (f := Try.f53) (c := c53) (by kernel_rfl) (by kernel_rfl) (by kernel_rfl) (by kernel_rfl) ((f53n0_ok a1 a2 ho).mono fun r e => by subst e; exact ⟨.inl rfl, (.pl (.int .i64 v13)), (.pl (.int .i64 v13)), by kernel_rfl, by kernel_rfl, ((Wk.refl _) : Wk (.pl (.int .i64 v13)) (.pl (.int .i64 v13)))⟩)
/-! ### novation/novationref34.side -/
noncomputable def c52 : Code := Try.f52.body.getD .skip
inductive f52n0O where
  | ret (v20 : Int)
def f52n0E (a1 : NovateBook) (a2 : Int) (a3 : ByteArray) : f52n0O → Ex × Tr × Hp
  | .ret v20 => (.ret, mkS [(6, (.pl (.int .i64 v20)))], [])
def f52n0S (a1 : NovateBook) (a2 : Int) (a3 : ByteArray) : Tr × Hp := (initS [(.pl (.agg (NovateBook.cells a1))), (.pl (.int .i64 a2)), (.pl (.str a3))] 0 .leaf, [])
def f52n0 (a1 : NovateBook) (a2 : Int) (a3 : ByteArray) : Option f52n0O :=
  (f53 a1 a2).bind fun x6 =>
  bif (decide (x6 = 0)) then
    (at? a1.Trades (wr64 (a2 - 1))).bind fun x12 =>
    bif (decide (x12.Stage = 0)) then
      bif (seq a3 x12.Buyer) then
        some (.ret 0)
      else
        bif (seq a3 x12.Seller) then
          some (.ret 0)
        else
          some (.ret 2)
    else
      some (.ret 20)
  else
    some (.ret x6)
theorem f52n0_ok (a1 : NovateBook) (a2 : Int) (a3 : ByteArray) {o : f52n0O} (h : (f52n0 a1 a2 a3) = some o) : T Try.prog Try.f52.ntmps 0 c52 (f52n0S a1 a2 a3) (fun r => r = f52n0E a1 a2 a3 o) := by
  unfold f52n0 at h
  obtain ⟨x6, h7, h⟩ := bind_cases h
  rcases cond_cases h with ⟨h9, h⟩ | ⟨h9, h⟩
  · obtain ⟨x12, h13, h⟩ := bind_cases h
    rcases cond_cases h with ⟨h15, h⟩ | ⟨h15, h⟩
    · rcases cond_cases h with ⟨h18, h⟩ | ⟨h18, h⟩
      · obtain rfl := some_inj h
        exact run_end cfg_ok (rs := [([], [], []), ([], [(2, .call (.pl (.int .i64 x6)) [])], []), ([], [], []), ([], [(4, .idx (Int.toNat (wr64 (a2 - 1))) (NovateTrade.cells x12))], []), ([], [], []), ([(5, false), (6, false), (7, false), (8, false)], [(9, .bool false)], []), ([], [], [])]) (ps := [some false, some false, none]) (tds := []) (m := []) (keep := [6]) (r := (.ret, (f52n0E a1 a2 a3 (.ret 0)).2)) (by kernel_rfl) (ap (f53_ok a1 a2 h7) (ap (not_t h9) (ap (at_some h13).1 (ap (at_map NovateTrade.cells (at_some h13).2) (ap (not_t h15) (ap (not_t h18) (ap (not_t h18) (ap (not_t h18) (ap (not_t h18) (ap (not_t h18) an)))))))))) rfl
      · rcases cond_cases h with ⟨h19, h⟩ | ⟨h19, h⟩
        · obtain rfl := some_inj h
          exact run_end cfg_ok (rs := [([], [], []), ([], [(2, .call (.pl (.int .i64 x6)) [])], []), ([], [], []), ([], [(4, .idx (Int.toNat (wr64 (a2 - 1))) (NovateTrade.cells x12))], []), ([], [], []), ([(5, true), (6, true), (7, true), (8, true)], [(9, .bool true)], []), ([], [], [])]) (ps := [some false, some false, some false]) (tds := []) (m := []) (keep := [6]) (r := (.ret, (f52n0E a1 a2 a3 (.ret 0)).2)) (by kernel_rfl) (ap (f53_ok a1 a2 h7) (ap (not_t h9) (ap (at_some h13).1 (ap (at_map NovateTrade.cells (at_some h13).2) (ap (not_t h15) (ap (not_f h18) (ap (not_f h18) (ap (not_f h18) (ap (not_f h18) (ap (not_f h18) (ap (not_t h19) an))))))))))) rfl
        · obtain rfl := some_inj h
          exact runK_end cfg_ok (k := 6) (rs := [([], [], []), ([], [(2, .call (.pl (.int .i64 x6)) [])], []), ([], [], []), ([], [(4, .idx (Int.toNat (wr64 (a2 - 1))) (NovateTrade.cells x12))], []), ([], [], []), ([(5, true), (6, true), (7, true), (8, true)], [(9, .bool true)], []), ([], [], [])]) (ps := [some false, some false, some true]) (tds := []) (m := []) (keep := [6]) (ex := .ret) (st' := (f52n0E a1 a2 a3 (.ret 2)).2) (by kernel_rfl) (ap (f53_ok a1 a2 h7) (ap (not_t h9) (ap (at_some h13).1 (ap (at_map NovateTrade.cells (at_some h13).2) (ap (not_t h15) (ap (not_f h18) (ap (not_f h18) (ap (not_f h18) (ap (not_f h18) (ap (not_f h18) (ap (not_f h19) an))))))))))) (fun h => nomatch h) rfl
    · obtain rfl := some_inj h
      exact runK_end cfg_ok (k := 5) (rs := [([], [], []), ([], [(2, .call (.pl (.int .i64 x6)) [])], []), ([], [], []), ([], [(4, .idx (Int.toNat (wr64 (a2 - 1))) (NovateTrade.cells x12))], []), ([], [], []), ([], [], [])]) (ps := [some false, some true]) (tds := []) (m := []) (keep := [6]) (ex := .ret) (st' := (f52n0E a1 a2 a3 (.ret 20)).2) (by kernel_rfl) (ap (f53_ok a1 a2 h7) (ap (not_t h9) (ap (at_some h13).1 (ap (at_map NovateTrade.cells (at_some h13).2) (ap (not_f h15) an))))) (fun h => nomatch h) rfl
  · obtain rfl := some_inj h
    exact runK_end cfg_ok (k := 3) (rs := [([], [], []), ([], [(2, .call (.pl (.int .i64 x6)) [])], []), ([], [], []), ([], [], [])]) (ps := [some true]) (tds := []) (m := []) (keep := [6]) (ex := .ret) (st' := (f52n0E a1 a2 a3 (.ret x6)).2) (by kernel_rfl) (ap (f53_ok a1 a2 h7) (ap (not_f h9) an)) (fun h => nomatch h) rfl
def f52 (a1 : NovateBook) (a2 : Int) (a3 : ByteArray) : Option Int := (f52n0 a1 a2 a3).bind fun o => match o with
  | .ret v20 => some v20
theorem f52_ok (a1 : NovateBook) (a2 : Int) (a3 : ByteArray) {r : Int} (h : (f52 a1 a2 a3) = some r) : CallS Try.prog false 52 [(.pl (.agg (NovateBook.cells a1))), (.pl (.int .i64 a2)), (.pl (.str a3))] [] (.pl (.int .i64 r)) [] := by
  unfold f52 at h
  obtain ⟨o, ho, h⟩ := bind_cases h
  cases o with
  | ret v20 =>
    obtain rfl := some_inj h
    exact CallS.plain cfg_ok (f := Try.f52) (c := c52) (by kernel_rfl) (by kernel_rfl) (by kernel_rfl) (by kernel_rfl) ((f52n0_ok a1 a2 a3 ho).mono fun r e => by subst e; exact ⟨.inl rfl, (.pl (.int .i64 v20)), (.pl (.int .i64 v20)), by kernel_rfl, by kernel_rfl, ((Wk.refl _) : Wk (.pl (.int .i64 v20)) (.pl (.int .i64 v20)))⟩)
/-! ### novation/novationref34.Refuse -/
noncomputable def c42 : Code := Try.f42.body.getD .skip
inductive f42n0O where
  | ret (v18 : Int) (v19 : List NovateTrade)
def f42n0E (a1 : NovateBook) (a2 : Int) (a3 : ByteArray) : f42n0O → Ex × Tr × Hp
  | .ret v18 v19 => (.ret, mkS [(6, (.bp 0 0)), (7, (.pl (.int .i64 v18)))], [some (.box [(.own 1)]), some (.row false 8 (v19.map NovateTrade.cells))])
def f42n0S (a1 : NovateBook) (a2 : Int) (a3 : ByteArray) : Tr × Hp := (initS [(.pl (.agg (NovateBook.cells a1))), (.pl (.int .i64 a2)), (.pl (.str a3))] 0 .leaf, [])
def f42n0 (a1 : NovateBook) (a2 : Int) (a3 : ByteArray) : Option f42n0O :=
  (f52 a1 a2 a3).bind fun x6 =>
  bif (decide (x6 = 0)) then
    (f16r1 a1).bind fun x12 =>
    (at? x12 (wr64 (a2 - 1))).bind fun x16 =>
    some (.ret 0 (x12.set (Int.toNat (wr64 (a2 - 1))) (NovateTrade.mk x16.Buyer x16.Seller x16.Product x16.Quantity x16.Price x16.Bought x16.Sold 2)))
  else
    some (.ret x6 [])
theorem f42n0_ok (a1 : NovateBook) (a2 : Int) (a3 : ByteArray) {o : f42n0O} (h : (f42n0 a1 a2 a3) = some o) : T Try.prog Try.f42.ntmps 0 c42 (f42n0S a1 a2 a3) (fun r => r = f42n0E a1 a2 a3 o) := by
  unfold f42n0 at h
  obtain ⟨x6, h7, h⟩ := bind_cases h
  rcases cond_cases h with ⟨h9, h⟩ | ⟨h9, h⟩
  · obtain ⟨x12, h13, h⟩ := bind_cases h
    obtain ⟨x16, h17, h⟩ := bind_cases h
    obtain rfl := some_inj h
    exact run_end cfg_ok (rs := [([], [], []), ([], [(3, .call (.pl (.int .i64 x6)) [])], []), ([], [], []), ([], [(1, .call (.agg [(.own 3)]) [none, none, some (.box [(.own 3)]), some (.row false 8 (x12.map NovateTrade.cells))])], []), ([], [(4, .at_ (Int.toNat (wr64 (a2 - 1)))), (6, .idx 0 (NovateTrade.cells x16))], [(6, .row 3 ((x12.set (Int.toNat (wr64 (a2 - 1))) (NovateTrade.mk x16.Buyer x16.Seller x16.Product x16.Quantity x16.Price x16.Bought x16.Sold 2)).map NovateTrade.cells))]), ([], [], [])]) (ps := [some false]) (tds := []) (m := [1, 3]) (keep := [6, 7]) (r := (.ret, (f42n0E a1 a2 a3 (.ret 0 (x12.set (Int.toNat (wr64 (a2 - 1))) (NovateTrade.mk x16.Buyer x16.Seller x16.Product x16.Quantity x16.Price x16.Bought x16.Sold 2)))).2)) (by kernel_rfl) (ap (f52_ok a1 a2 a3 h7) (ap (not_t h9) (ap (CallS.shift (ps := [(.agg (NovateBook.cells a1))]) (v2 := (.agg [(.own 3)])) (H3 := [none, none, some (.box [(.own 3)]), some (.row false 8 (x12.map NovateTrade.cells))]) 2 (f16r1_ok a1 h13) (by kernel_rfl) (by kernel_rfl)) (ap (at_some h17).1 (ap (lt_map NovateTrade.cells (at_some h17).2) (ap (at_map NovateTrade.cells (at_some h17).2) (ap (set_cv (xs := x12) (c := NovateTrade.cells) (k := (Int.toNat (wr64 (a2 - 1)))) (x := (NovateTrade.mk x16.Buyer x16.Seller x16.Product x16.Quantity x16.Price x16.Bought x16.Sold 2))) an))))))) rfl
  · obtain rfl := some_inj h
    exact runK_end cfg_ok (k := 3) (rs := [([], [], []), ([], [(3, .call (.pl (.int .i64 x6)) [])], []), ([], [], []), ([], [], [])]) (ps := [some true]) (tds := [.matC 1 0 8]) (m := [1, 2]) (keep := [6, 7]) (ex := .ret) (st' := (f42n0E a1 a2 a3 (.ret x6 [])).2) (by kernel_rfl) (ap (f52_ok a1 a2 a3 h7) (ap (not_f h9) an)) (fun h => nomatch h) rfl
def f42 (a1 : NovateBook) (a2 : Int) (a3 : ByteArray) : Option (NovateBook × Int) := (f42n0 a1 a2 a3).bind fun o => match o with
  | .ret v18 v19 => some ((NovateBook.mk v19), v18)
theorem f42_ok (a1 : NovateBook) (a2 : Int) (a3 : ByteArray) {r : NovateBook × Int} (h : (f42 a1 a2 a3) = some r) : CallS Try.prog false 42 [(.pl (.agg (NovateBook.cells a1))), (.pl (.int .i64 a2)), (.pl (.str a3))] [] (.tup [(.pl (.agg (NovateBook.cells r.1))), (.pl (.int .i64 r.2))]) [] := by
  unfold f42 at h
  obtain ⟨o, ho, h⟩ := bind_cases h
  cases o with
  | ret v18 v19 =>
    obtain rfl := some_inj h
    exact CallS.plain cfg_ok (f := Try.f42) (c := c42) (by kernel_rfl) (by kernel_rfl) (by kernel_rfl) (by kernel_rfl) ((f42n0_ok a1 a2 a3 ho).mono fun r e => by subst e; exact ⟨.inl rfl, (.tup [(.agg [(.own 1)]), (.pl (.int .i64 v18))]), (.tup [(.pl (.agg (NovateBook.cells (NovateBook.mk v19)))), (.pl (.int .i64 v18))]), by kernel_rfl, by kernel_rfl, ((Wk.refl _) : Wk (.tup [(.pl (.agg (NovateBook.cells (NovateBook.mk v19)))), (.pl (.int .i64 v18))]) (.tup [(.pl (.agg (NovateBook.cells (NovateBook.mk v19)))), (.pl (.int .i64 v18))]))⟩)
/-! ### novation/novationref34.Undo -/
noncomputable def c43 : Code := Try.f43.body.getD .skip
inductive f43n2O where
  | norm (v20 : Bool)
def f43n2E (bd1 : Int) (bd2 : Int) (bf3 : NovateBook) : f43n2O → Ex × Tr × Hp
  | .norm v20 => (.norm, mkS [(1, (.pl (.int .i64 bd1))), (2, (.bp 0 0)), (4, (.bp 1 0)), (6, (.pl (.int .i64 bd2))), (22, (.pl (.bool v20)))], [some (.box ((NovateBook.cells bf3).map .pl)), some (.box [(.pl (.sl .nil 0 []))])])
def f43n2S (bd1 : Int) (bd2 : Int) (bf3 : NovateBook) : Tr × Hp := (mkS [(1, (.pl (.int .i64 bd1))), (2, (.bp 0 0)), (4, (.bp 1 0)), (6, (.pl (.int .i64 bd2)))], [some (.box ((NovateBook.cells bf3).map .pl)), some (.box [(.pl (.sl .nil 0 []))])])
def f43n2 (bd1 : Int) (bd2 : Int) (bf3 : NovateBook) : Option f43n2O :=
  bif (decide (bd2 = 0)) then
    (at? bf3.Trades (wr64 (bd1 - 1))).bind fun x18 =>
    some (.norm (!(decide (x18.Stage = 1))))
  else
    some (.norm false)
theorem f43n2_ok (bd1 : Int) (bd2 : Int) (bf3 : NovateBook) {o : f43n2O} (h : (f43n2 bd1 bd2 bf3) = some o) : T Try.prog Try.f43.ntmps 0 (cL (dropC 0 (cL (dropC 2 c43)))) (f43n2S bd1 bd2 bf3) (fun r => r = f43n2E bd1 bd2 bf3 o) := by
  unfold f43n2 at h
  rcases cond_cases h with ⟨h17, h⟩ | ⟨h17, h⟩
  · obtain ⟨x18, h19, h⟩ := bind_cases h
    obtain rfl := some_inj h
    exact run_end cfg_ok (rs := [([(3, true), (4, true), (5, true), (6, true), (7, true), (8, true), (9, true), (10, true)], [(7, .idx (Int.toNat (wr64 (bd1 - 1))) (NovateTrade.cells x18)), (11, .bool true)], [])]) (ps := []) (tds := []) (m := [0, 1]) (keep := [1, 2, 4, 6, 22]) (r := (.norm, (f43n2E bd1 bd2 bf3 (.norm (!(decide (x18.Stage = 1))))).2)) (by kernel_rfl) (ap h17 (ap h17 (ap h17 (ap h17 (ap h17 (ap (at_some h19).1 (ap (at_map NovateTrade.cells (at_some h19).2) (ap h17 (ap h17 (ap h17 (ap h17 an))))))))))) rfl
  · obtain rfl := some_inj h
    exact run_end cfg_ok (rs := [([(3, false), (4, false), (5, false), (6, false), (7, false), (8, false), (9, false), (10, false)], [(11, .bool false)], [])]) (ps := []) (tds := []) (m := [0, 1]) (keep := [1, 2, 4, 6, 22]) (r := (.norm, (f43n2E bd1 bd2 bf3 (.norm false)).2)) (by kernel_rfl) (ap h17 (ap h17 (ap h17 (ap h17 (ap h17 (ap h17 (ap h17 (ap h17 (ap h17 an))))))))) rfl
inductive f43n1O where
  | norm (v26 : Int)
def f43n1E (bd1 : Int) (bd2 : Int) (bf3 : NovateBook) : f43n1O → Ex × Tr × Hp
  | .norm v26 => (.norm, mkS [(1, (.pl (.int .i64 bd1))), (2, (.bp 0 0)), (4, (.bp 1 0)), (6, (.pl (.int .i64 v26)))], [some (.box ((NovateBook.cells bf3).map .pl)), some (.box [(.pl (.sl .nil 0 []))])])
def f43n1S (bd1 : Int) (bd2 : Int) (bf3 : NovateBook) : Tr × Hp := (mkS [(1, (.pl (.int .i64 bd1))), (2, (.bp 0 0)), (4, (.bp 1 0)), (6, (.pl (.int .i64 bd2)))], [some (.box ((NovateBook.cells bf3).map .pl)), some (.box [(.pl (.sl .nil 0 []))])])
def f43n1 (bd1 : Int) (bd2 : Int) (bf3 : NovateBook) : Option f43n1O :=
  (f43n2 bd1 bd2 bf3).bind fun o21 => match o21 with
  | .norm v23 => bif v23 then
      some (.norm 20)
    else
      some (.norm bd2)
theorem f43n1_ok (bd1 : Int) (bd2 : Int) (bf3 : NovateBook) {o : f43n1O} (h : (f43n1 bd1 bd2 bf3) = some o) : T Try.prog Try.f43.ntmps 0 (cL (dropC 2 c43)) (f43n1S bd1 bd2 bf3) (fun r => r = f43n1E bd1 bd2 bf3 o) := by
  unfold f43n1 at h
  refine runK_norm cfg_ok (k := 0) (rs := []) (ps := []) (tds := []) (m := [0, 1]) (keep := [1, 2, 4, 6]) (st' := (f43n2S bd1 bd2 bf3)) (by kernel_rfl) an ?_
  obtain ⟨o21, h22, h⟩ := bind_cases h
  cases o21 with
  | norm v23 =>
    refine T.oneN (by kernel_rfl) (f43n2_ok bd1 bd2 bf3 h22) (st2 := (f43n2E bd1 bd2 bf3 (.norm v23)).2) rfl ?_
    rcases cond_cases h with ⟨h25, h⟩ | ⟨h25, h⟩
    · obtain rfl := some_inj h
      exact run_end cfg_ok (rs := [([], [], [])]) (ps := [some true]) (tds := []) (m := [0, 1]) (keep := [1, 2, 4, 6]) (r := (.norm, (f43n1E bd1 bd2 bf3 (.norm 20)).2)) (by kernel_rfl) (ap h25 an) rfl
    · obtain rfl := some_inj h
      exact run_end cfg_ok (rs := []) (ps := [some false]) (tds := []) (m := [0, 1]) (keep := [1, 2, 4, 6]) (r := (.norm, (f43n1E bd1 bd2 bf3 (.norm bd2)).2)) (by kernel_rfl) (ap h25 an) rfl
inductive f43n0O where
  | ret (v40 : Int) (v41 : List NovateTrade)
def f43n0E (a1 : NovateBook) (a2 : Int) : f43n0O → Ex × Tr × Hp
  | .ret v40 v41 => (.ret, mkS [(4, (.bp 0 0)), (5, (.pl (.int .i64 v40)))], [some (.box [(.own 1)]), some (.row false 8 (v41.map NovateTrade.cells))])
def f43n0S (a1 : NovateBook) (a2 : Int) : Tr × Hp := (initS [(.pl (.agg (NovateBook.cells a1))), (.pl (.int .i64 a2))] 0 .leaf, [])
def f43n0 (a1 : NovateBook) (a2 : Int) : Option f43n0O :=
  (f53 a1 a2).bind fun x5 =>
  (f43n1 a2 x5 a1).bind fun o27 => match o27 with
  | .norm v29 => bif (decide (v29 = 0)) then
      (f16r1 a1).bind fun x34 =>
      (at? x34 (wr64 (a2 - 1))).bind fun x38 =>
      some (.ret 0 (x34.set (Int.toNat (wr64 (a2 - 1))) (NovateTrade.mk x38.Buyer x38.Seller x38.Product x38.Quantity x38.Price x38.Bought x38.Sold 3)))
    else
      some (.ret v29 [])
theorem f43n0_ok (a1 : NovateBook) (a2 : Int) {o : f43n0O} (h : (f43n0 a1 a2) = some o) : T Try.prog Try.f43.ntmps 0 c43 (f43n0S a1 a2) (fun r => r = f43n0E a1 a2 o) := by
  unfold f43n0 at h
  obtain ⟨x5, h6, h⟩ := bind_cases h
  refine runK_norm cfg_ok (k := 2) (rs := [([], [], []), ([], [(2, .call (.pl (.int .i64 x5)) [])], [])]) (ps := []) (tds := []) (m := [0, 1]) (keep := [1, 2, 4, 6]) (st' := (f43n1S a2 x5 a1)) (by kernel_rfl) (ap (f53_ok a1 a2 h6) an) ?_
  obtain ⟨o27, h28, h⟩ := bind_cases h
  cases o27 with
  | norm v29 =>
    refine T.oneN (by kernel_rfl) (f43n1_ok a2 x5 a1 h28) (st2 := (f43n1E a2 x5 a1 (.norm v29)).2) rfl ?_
    rcases cond_cases h with ⟨h31, h⟩ | ⟨h31, h⟩
    · obtain ⟨x34, h35, h⟩ := bind_cases h
      obtain ⟨x38, h39, h⟩ := bind_cases h
      obtain rfl := some_inj h
      exact run_end cfg_ok (rs := [([], [], []), ([], [(1, .call (.agg [(.own 3)]) [none, none, some (.box [(.own 3)]), some (.row false 8 (x34.map NovateTrade.cells))])], []), ([], [(4, .at_ (Int.toNat (wr64 (a2 - 1)))), (6, .idx 0 (NovateTrade.cells x38))], [(6, .row 3 ((x34.set (Int.toNat (wr64 (a2 - 1))) (NovateTrade.mk x38.Buyer x38.Seller x38.Product x38.Quantity x38.Price x38.Bought x38.Sold 3)).map NovateTrade.cells))]), ([], [], [])]) (ps := [some false]) (tds := []) (m := [1, 3]) (keep := [4, 5]) (r := (.ret, (f43n0E a1 a2 (.ret 0 (x34.set (Int.toNat (wr64 (a2 - 1))) (NovateTrade.mk x38.Buyer x38.Seller x38.Product x38.Quantity x38.Price x38.Bought x38.Sold 3)))).2)) (by kernel_rfl) (ap (not_t h31) (ap (CallS.shift (ps := [(.agg (NovateBook.cells a1))]) (v2 := (.agg [(.own 3)])) (H3 := [none, none, some (.box [(.own 3)]), some (.row false 8 (x34.map NovateTrade.cells))]) 2 (f16r1_ok a1 h35) (by kernel_rfl) (by kernel_rfl)) (ap (at_some h39).1 (ap (lt_map NovateTrade.cells (at_some h39).2) (ap (at_map NovateTrade.cells (at_some h39).2) (ap (set_cv (xs := x34) (c := NovateTrade.cells) (k := (Int.toNat (wr64 (a2 - 1)))) (x := (NovateTrade.mk x38.Buyer x38.Seller x38.Product x38.Quantity x38.Price x38.Bought x38.Sold 3))) an)))))) rfl
    · obtain rfl := some_inj h
      exact runK_end cfg_ok (k := 1) (rs := [([], [], []), ([], [], [])]) (ps := [some true]) (tds := [.matC 1 0 8]) (m := [1, 2]) (keep := [4, 5]) (ex := .ret) (st' := (f43n0E a1 a2 (.ret v29 [])).2) (by kernel_rfl) (ap (not_f h31) an) (fun h => nomatch h) rfl
def f43 (a1 : NovateBook) (a2 : Int) : Option (NovateBook × Int) := (f43n0 a1 a2).bind fun o => match o with
  | .ret v40 v41 => some ((NovateBook.mk v41), v40)
theorem f43_ok (a1 : NovateBook) (a2 : Int) {r : NovateBook × Int} (h : (f43 a1 a2) = some r) : CallS Try.prog false 43 [(.pl (.agg (NovateBook.cells a1))), (.pl (.int .i64 a2))] [] (.tup [(.pl (.agg (NovateBook.cells r.1))), (.pl (.int .i64 r.2))]) [] := by
  unfold f43 at h
  obtain ⟨o, ho, h⟩ := bind_cases h
  cases o with
  | ret v40 v41 =>
    obtain rfl := some_inj h
    exact CallS.plain cfg_ok (f := Try.f43) (c := c43) (by kernel_rfl) (by kernel_rfl) (by kernel_rfl) (by kernel_rfl) ((f43n0_ok a1 a2 ho).mono fun r e => by subst e; exact ⟨.inl rfl, (.tup [(.agg [(.own 1)]), (.pl (.int .i64 v40))]), (.tup [(.pl (.agg (NovateBook.cells (NovateBook.mk v41)))), (.pl (.int .i64 v40))]), by kernel_rfl, by kernel_rfl, ((Wk.refl _) : Wk (.tup [(.pl (.agg (NovateBook.cells (NovateBook.mk v41)))), (.pl (.int .i64 v40))]) (.tup [(.pl (.agg (NovateBook.cells (NovateBook.mk v41)))), (.pl (.int .i64 v40))]))⟩)
/-! ### novation/novationref34.Confirm -/
noncomputable def c44 : Code := Try.f44.body.getD .skip
inductive f44n2O where
  | norm (v36 : Bool)
def f44n2E (bd1 : Int) (bc2 : ByteArray) (ba3 : List NovateTrade) (bb4 : NovateTrade) : f44n2O → Ex × Tr × Hp
  | .norm v36 => (.norm, mkS [(1, (.pl (.int .i64 bd1))), (2, (.pl (.str bc2))), (6, (.bp 0 0)), (9, (.bp 1 0)), (10, (.bp 3 0)), (44, (.pl (.bool v36)))], [some (.box [(.pl (.sl .nil 0 []))]), some (.box [(.own 2)]), some (.row false 8 (ba3.map NovateTrade.cells)), some (.box ((NovateTrade.cells bb4).map .pl))])
def f44n2S (bd1 : Int) (bc2 : ByteArray) (ba3 : List NovateTrade) (bb4 : NovateTrade) : Tr × Hp := (mkS [(1, (.pl (.int .i64 bd1))), (2, (.pl (.str bc2))), (6, (.bp 0 0)), (9, (.bp 1 0)), (10, (.bp 3 0))], [some (.box [(.pl (.sl .nil 0 []))]), some (.box [(.own 2)]), some (.row false 8 (ba3.map NovateTrade.cells)), some (.box ((NovateTrade.cells bb4).map .pl))])
def f44n2 (bd1 : Int) (bc2 : ByteArray) (ba3 : List NovateTrade) (bb4 : NovateTrade) : Option f44n2O :=
  bif (seq bc2 bb4.Buyer) then
    bif bb4.Bought then
      some (.norm true)
    else
      bif (seq bc2 bb4.Seller) then
        some (.norm bb4.Sold)
      else
        some (.norm false)
  else
    bif (seq bc2 bb4.Seller) then
      some (.norm bb4.Sold)
    else
      some (.norm false)
theorem f44n2_ok (bd1 : Int) (bc2 : ByteArray) (ba3 : List NovateTrade) (bb4 : NovateTrade) {o : f44n2O} (h : (f44n2 bd1 bc2 ba3 bb4) = some o) : T Try.prog Try.f44.ntmps 0 (cL (dropC 0 (cL (dropC 5 c44)))) (f44n2S bd1 bc2 ba3 bb4) (fun r => r = f44n2E bd1 bc2 ba3 bb4 o) := by
  unfold f44n2 at h
  rcases cond_cases h with ⟨h32, h⟩ | ⟨h32, h⟩
  · rcases cond_cases h with ⟨h33, h⟩ | ⟨h33, h⟩
    · obtain rfl := some_inj h
      exact run_end cfg_ok (rs := [([(5, true), (6, true), (9, true), (10, true), (11, true), (12, true), (13, true), (16, true)], [(7, .bool true), (17, .bool true)], [])]) (ps := []) (tds := []) (m := [0, 1, 2, 3]) (keep := [1, 2, 6, 9, 10, 44]) (r := (.norm, (f44n2E bd1 bc2 ba3 bb4 (.norm true)).2)) (by kernel_rfl) (ap h32 (ap h32 (ap h32 (ap h33 (ap h33 (ap h33 (ap h33 (ap h33 (ap h33 (ap h33 an)))))))))) rfl
    · rcases cond_cases h with ⟨h34, h⟩ | ⟨h34, h⟩
      · obtain rfl := some_inj h
        exact run_end cfg_ok (rs := [([(5, true), (6, true), (9, false), (10, false), (11, false), (12, false), (13, false), (14, true), (15, true), (16, false)], [(7, .bool true), (16, .bool true), (17, .bool false)], [])]) (ps := []) (tds := []) (m := [0, 1, 2, 3]) (keep := [1, 2, 6, 9, 10, 44]) (r := (.norm, (f44n2E bd1 bc2 ba3 bb4 (.norm bb4.Sold)).2)) (by kernel_rfl) (ap h32 (ap h32 (ap h32 (ap h33 (ap h33 (ap h33 (ap h33 (ap h33 (ap h34 (ap h34 (ap h33 (ap h34 (ap h33 an))))))))))))) rfl
      · obtain rfl := some_inj h
        exact run_end cfg_ok (rs := [([(5, true), (6, true), (9, false), (10, false), (11, false), (12, false), (13, false), (14, false), (15, false), (16, false)], [(7, .bool true), (16, .bool false), (17, .bool false)], [])]) (ps := []) (tds := []) (m := [0, 1, 2, 3]) (keep := [1, 2, 6, 9, 10, 44]) (r := (.norm, (f44n2E bd1 bc2 ba3 bb4 (.norm false)).2)) (by kernel_rfl) (ap h32 (ap h32 (ap h32 (ap h33 (ap h33 (ap h33 (ap h33 (ap h33 (ap h34 (ap h34 (ap h33 (ap h34 (ap h33 an))))))))))))) rfl
  · rcases cond_cases h with ⟨h35, h⟩ | ⟨h35, h⟩
    · obtain rfl := some_inj h
      exact run_end cfg_ok (rs := [([(5, false), (6, false), (14, true), (15, true)], [(7, .bool false), (16, .bool true)], [])]) (ps := []) (tds := []) (m := [0, 1, 2, 3]) (keep := [1, 2, 6, 9, 10, 44]) (r := (.norm, (f44n2E bd1 bc2 ba3 bb4 (.norm bb4.Sold)).2)) (by kernel_rfl) (ap h32 (ap h32 (ap h32 (ap h35 (ap h35 (ap h35 an)))))) rfl
    · obtain rfl := some_inj h
      exact run_end cfg_ok (rs := [([(5, false), (6, false), (14, false), (15, false)], [(7, .bool false), (16, .bool false)], [])]) (ps := []) (tds := []) (m := [0, 1, 2, 3]) (keep := [1, 2, 6, 9, 10, 44]) (r := (.norm, (f44n2E bd1 bc2 ba3 bb4 (.norm false)).2)) (by kernel_rfl) (ap h32 (ap h32 (ap h32 (ap h35 (ap h35 (ap h35 an)))))) rfl
inductive f44n1O where
  | norm
  | ret
def f44n1E (bd1 : Int) (bc2 : ByteArray) (ba3 : List NovateTrade) (bb4 : NovateTrade) : f44n1O → Ex × Tr × Hp
  | .norm => (.norm, mkS [(1, (.pl (.int .i64 bd1))), (2, (.pl (.str bc2))), (6, (.bp 0 0)), (9, (.bp 1 0)), (10, (.bp 3 0))], [some (.box [(.pl (.sl .nil 0 []))]), some (.box [(.own 2)]), some (.row false 8 (ba3.map NovateTrade.cells)), some (.box ((NovateTrade.cells bb4).map .pl))])
  | .ret => (.ret, mkS [(6, (.bp 0 0)), (7, (.pl (.int .i64 24)))], [some (.box [(.pl (.sl .nil 0 []))])])
def f44n1S (bd1 : Int) (bc2 : ByteArray) (ba3 : List NovateTrade) (bb4 : NovateTrade) : Tr × Hp := (mkS [(1, (.pl (.int .i64 bd1))), (2, (.pl (.str bc2))), (6, (.bp 0 0)), (9, (.bp 1 0)), (10, (.bp 3 0))], [some (.box [(.pl (.sl .nil 0 []))]), some (.box [(.own 2)]), some (.row false 8 (ba3.map NovateTrade.cells)), some (.box ((NovateTrade.cells bb4).map .pl))])
def f44n1 (bd1 : Int) (bc2 : ByteArray) (ba3 : List NovateTrade) (bb4 : NovateTrade) : Option f44n1O :=
  (f44n2 bd1 bc2 ba3 bb4).bind fun o37 => match o37 with
  | .norm v39 => bif v39 then
      some .ret
    else
      some .norm
theorem f44n1_ok (bd1 : Int) (bc2 : ByteArray) (ba3 : List NovateTrade) (bb4 : NovateTrade) {o : f44n1O} (h : (f44n1 bd1 bc2 ba3 bb4) = some o) : T Try.prog Try.f44.ntmps 0 (cL (dropC 5 c44)) (f44n1S bd1 bc2 ba3 bb4) (fun r => r = f44n1E bd1 bc2 ba3 bb4 o) := by
  unfold f44n1 at h
  refine runK_norm cfg_ok (k := 0) (rs := []) (ps := []) (tds := []) (m := [0, 1, 2, 3]) (keep := [1, 2, 6, 9, 10]) (st' := (f44n2S bd1 bc2 ba3 bb4)) (by kernel_rfl) an ?_
  obtain ⟨o37, h38, h⟩ := bind_cases h
  cases o37 with
  | norm v39 =>
    refine T.oneN (by kernel_rfl) (f44n2_ok bd1 bc2 ba3 bb4 h38) (st2 := (f44n2E bd1 bc2 ba3 bb4 (.norm v39)).2) rfl ?_
    rcases cond_cases h with ⟨h41, h⟩ | ⟨h41, h⟩
    · obtain rfl := some_inj h
      exact run_end cfg_ok (rs := [([], [], [])]) (ps := [some true]) (tds := []) (m := [0]) (keep := [6, 7]) (r := (.ret, (f44n1E bd1 bc2 ba3 bb4 .ret).2)) (by kernel_rfl) (ap h41 an) rfl
    · obtain rfl := some_inj h
      exact run_end cfg_ok (rs := []) (ps := [some false]) (tds := []) (m := [0, 1, 2, 3]) (keep := [1, 2, 6, 9, 10]) (r := (.norm, (f44n1E bd1 bc2 ba3 bb4 .norm).2)) (by kernel_rfl) (ap h41 an) rfl
inductive f44n3O where
  | norm (v47 : NovateTrade)
def f44n3E (bd1 : Int) (bc2 : ByteArray) (ba3 : List NovateTrade) (bb4 : NovateTrade) : f44n3O → Ex × Tr × Hp
  | .norm v47 => (.norm, mkS [(1, (.pl (.int .i64 bd1))), (6, (.bp 0 0)), (9, (.bp 1 0)), (10, (.bp 3 0))], [some (.box [(.pl (.sl .nil 0 []))]), some (.box [(.own 2)]), some (.row false 8 (ba3.map NovateTrade.cells)), some (.box ((NovateTrade.cells v47).map .pl))])
def f44n3S (bd1 : Int) (bc2 : ByteArray) (ba3 : List NovateTrade) (bb4 : NovateTrade) : Tr × Hp := (mkS [(1, (.pl (.int .i64 bd1))), (2, (.pl (.str bc2))), (6, (.bp 0 0)), (9, (.bp 1 0)), (10, (.bp 3 0))], [some (.box [(.pl (.sl .nil 0 []))]), some (.box [(.own 2)]), some (.row false 8 (ba3.map NovateTrade.cells)), some (.box ((NovateTrade.cells bb4).map .pl))])
def f44n3 (bd1 : Int) (bc2 : ByteArray) (ba3 : List NovateTrade) (bb4 : NovateTrade) : Option f44n3O :=
  bif (seq bc2 bb4.Buyer) then
    some (.norm (NovateTrade.mk bb4.Buyer bb4.Seller bb4.Product bb4.Quantity bb4.Price true bb4.Sold bb4.Stage))
  else
    some (.norm (NovateTrade.mk bb4.Buyer bb4.Seller bb4.Product bb4.Quantity bb4.Price bb4.Bought true bb4.Stage))
theorem f44n3_ok (bd1 : Int) (bc2 : ByteArray) (ba3 : List NovateTrade) (bb4 : NovateTrade) {o : f44n3O} (h : (f44n3 bd1 bc2 ba3 bb4) = some o) : T Try.prog Try.f44.ntmps 0 (cL (dropC 0 (dropC 1 (dropC 5 c44)))) (f44n3S bd1 bc2 ba3 bb4) (fun r => r = f44n3E bd1 bc2 ba3 bb4 o) := by
  unfold f44n3 at h
  rcases cond_cases h with ⟨h46, h⟩ | ⟨h46, h⟩
  · obtain rfl := some_inj h
    exact run_end cfg_ok (rs := [([], [], []), ([], [], [])]) (ps := [some true]) (tds := []) (m := [0, 1, 2, 3]) (keep := [1, 6, 9, 10]) (r := (.norm, (f44n3E bd1 bc2 ba3 bb4 (.norm (NovateTrade.mk bb4.Buyer bb4.Seller bb4.Product bb4.Quantity bb4.Price true bb4.Sold bb4.Stage))).2)) (by kernel_rfl) (ap h46 an) rfl
  · obtain rfl := some_inj h
    exact run_end cfg_ok (rs := [([], [], []), ([], [], [])]) (ps := [some false]) (tds := []) (m := [0, 1, 2, 3]) (keep := [1, 6, 9, 10]) (r := (.norm, (f44n3E bd1 bc2 ba3 bb4 (.norm (NovateTrade.mk bb4.Buyer bb4.Seller bb4.Product bb4.Quantity bb4.Price bb4.Bought true bb4.Stage))).2)) (by kernel_rfl) (ap h46 an) rfl
inductive f44n0O where
  | ret (v55 : Int) (v56 : List NovateTrade)
def f44n0E (a1 : NovateBook) (a2 : Int) (a3 : ByteArray) : f44n0O → Ex × Tr × Hp
  | .ret v55 v56 => (.ret, mkS [(6, (.bp 0 0)), (7, (.pl (.int .i64 v55)))], [some (.box [(.own 1)]), some (.row false 8 (v56.map NovateTrade.cells))])
def f44n0S (a1 : NovateBook) (a2 : Int) (a3 : ByteArray) : Tr × Hp := (initS [(.pl (.agg (NovateBook.cells a1))), (.pl (.int .i64 a2)), (.pl (.str a3))] 0 .leaf, [])
def f44n0 (a1 : NovateBook) (a2 : Int) (a3 : ByteArray) : Option f44n0O :=
  (f52 a1 a2 a3).bind fun x6 =>
  bif (decide (x6 = 0)) then
    (f16r1 a1).bind fun x12 =>
    (at? x12 (wr64 (a2 - 1))).bind fun x16 =>
    (f44n1 a2 a3 x12 x16).bind fun o42 => match o42 with
    | .norm => (f44n3 a2 a3 x12 x16).bind fun o48 => match o48 with
      | .norm v50 => bif v50.Bought then
          bif v50.Sold then
            some (.ret 0 (x12.set (Int.toNat (wr64 (a2 - 1))) (NovateTrade.mk v50.Buyer v50.Seller v50.Product v50.Quantity v50.Price v50.Bought v50.Sold 1)))
          else
            some (.ret 0 (x12.set (Int.toNat (wr64 (a2 - 1))) v50))
        else
          some (.ret 0 (x12.set (Int.toNat (wr64 (a2 - 1))) v50))
    | .ret => some (.ret 24 [])
  else
    some (.ret x6 [])
theorem f44n0_ok (a1 : NovateBook) (a2 : Int) (a3 : ByteArray) {o : f44n0O} (h : (f44n0 a1 a2 a3) = some o) : T Try.prog Try.f44.ntmps 0 c44 (f44n0S a1 a2 a3) (fun r => r = f44n0E a1 a2 a3 o) := by
  unfold f44n0 at h
  obtain ⟨x6, h7, h⟩ := bind_cases h
  rcases cond_cases h with ⟨h9, h⟩ | ⟨h9, h⟩
  · obtain ⟨x12, h13, h⟩ := bind_cases h
    obtain ⟨x16, h17, h⟩ := bind_cases h
    refine runK_norm cfg_ok (k := 5) (rs := [([], [], []), ([], [(3, .call (.pl (.int .i64 x6)) [])], []), ([], [], []), ([], [(1, .call (.agg [(.own 3)]) [none, none, some (.box [(.own 3)]), some (.row false 8 (x12.map NovateTrade.cells))])], []), ([], [(4, .at_ (Int.toNat (wr64 (a2 - 1)))), (5, .idx 0 (NovateTrade.cells x16))], [])]) (ps := [some false]) (tds := []) (m := [1, 4, 3, 5]) (keep := [1, 2, 6, 9, 10]) (st' := (f44n1S a2 a3 x12 x16)) (by kernel_rfl) (ap (f52_ok a1 a2 a3 h7) (ap (not_t h9) (ap (CallS.shift (ps := [(.agg (NovateBook.cells a1))]) (v2 := (.agg [(.own 3)])) (H3 := [none, none, some (.box [(.own 3)]), some (.row false 8 (x12.map NovateTrade.cells))]) 2 (f16r1_ok a1 h13) (by kernel_rfl) (by kernel_rfl)) (ap (at_some h17).1 (ap (lt_map NovateTrade.cells (at_some h17).2) (ap (at_map NovateTrade.cells (at_some h17).2) an)))))) ?_
    obtain ⟨o42, h43, h⟩ := bind_cases h
    cases o42 with
    | norm =>
      refine T.oneN (by kernel_rfl) (f44n1_ok a2 a3 x12 x16 h43) (st2 := (f44n1E a2 a3 x12 x16 .norm).2) rfl ?_
      refine runK_norm cfg_ok (k := 0) (rs := []) (ps := []) (tds := []) (m := [0, 1, 2, 3]) (keep := [1, 2, 6, 9, 10]) (st' := (f44n3S a2 a3 x12 x16)) (by kernel_rfl) an ?_
      obtain ⟨o48, h49, h⟩ := bind_cases h
      cases o48 with
      | norm v50 =>
        refine T.oneN (by kernel_rfl) (f44n3_ok a2 a3 x12 x16 h49) (st2 := (f44n3E a2 a3 x12 x16 (.norm v50)).2) rfl ?_
        rcases cond_cases h with ⟨h53, h⟩ | ⟨h53, h⟩
        · rcases cond_cases h with ⟨h54, h⟩ | ⟨h54, h⟩
          · obtain rfl := some_inj h
            exact run_end cfg_ok (rs := [([(3, true), (4, true)], [(5, .bool true)], []), ([], [], []), ([], [(5, .at_ (Int.toNat (wr64 (a2 - 1)))), (6, .idx 0 (NovateTrade.cells x16))], [(6, .row 2 ((x12.set (Int.toNat (wr64 (a2 - 1))) (NovateTrade.mk v50.Buyer v50.Seller v50.Product v50.Quantity v50.Price v50.Bought v50.Sold 1)).map NovateTrade.cells))]), ([], [], [])]) (ps := [some true]) (tds := []) (m := [0, 2]) (keep := [6, 7]) (r := (.ret, (f44n0E a1 a2 a3 (.ret 0 (x12.set (Int.toNat (wr64 (a2 - 1))) (NovateTrade.mk v50.Buyer v50.Seller v50.Product v50.Quantity v50.Price v50.Bought v50.Sold 1)))).2)) (by kernel_rfl) (ap h53 (ap h53 (ap h53 (ap h54 (ap (at_some h17).1 (ap (lt_map NovateTrade.cells (at_some h17).2) (ap (at_map NovateTrade.cells (at_some h17).2) (ap (set_cv (xs := x12) (c := NovateTrade.cells) (k := (Int.toNat (wr64 (a2 - 1)))) (x := (NovateTrade.mk v50.Buyer v50.Seller v50.Product v50.Quantity v50.Price v50.Bought v50.Sold 1))) an)))))))) rfl
          · obtain rfl := some_inj h
            exact run_end cfg_ok (rs := [([(3, true), (4, true)], [(5, .bool true)], []), ([], [(5, .at_ (Int.toNat (wr64 (a2 - 1)))), (6, .idx 0 (NovateTrade.cells x16))], [(6, .row 2 ((x12.set (Int.toNat (wr64 (a2 - 1))) v50).map NovateTrade.cells))]), ([], [], [])]) (ps := [some false]) (tds := []) (m := [0, 2]) (keep := [6, 7]) (r := (.ret, (f44n0E a1 a2 a3 (.ret 0 (x12.set (Int.toNat (wr64 (a2 - 1))) v50))).2)) (by kernel_rfl) (ap h53 (ap h53 (ap h53 (ap h54 (ap (at_some h17).1 (ap (lt_map NovateTrade.cells (at_some h17).2) (ap (at_map NovateTrade.cells (at_some h17).2) (ap (set_cv (xs := x12) (c := NovateTrade.cells) (k := (Int.toNat (wr64 (a2 - 1)))) (x := v50)) an)))))))) rfl
        · obtain rfl := some_inj h
          exact run_end cfg_ok (rs := [([(3, false), (4, false)], [(5, .bool false)], []), ([], [(5, .at_ (Int.toNat (wr64 (a2 - 1)))), (6, .idx 0 (NovateTrade.cells x16))], [(6, .row 2 ((x12.set (Int.toNat (wr64 (a2 - 1))) v50).map NovateTrade.cells))]), ([], [], [])]) (ps := [none]) (tds := []) (m := [0, 2]) (keep := [6, 7]) (r := (.ret, (f44n0E a1 a2 a3 (.ret 0 (x12.set (Int.toNat (wr64 (a2 - 1))) v50))).2)) (by kernel_rfl) (ap h53 (ap h53 (ap h53 (ap (at_some h17).1 (ap (lt_map NovateTrade.cells (at_some h17).2) (ap (at_map NovateTrade.cells (at_some h17).2) (ap (set_cv (xs := x12) (c := NovateTrade.cells) (k := (Int.toNat (wr64 (a2 - 1)))) (x := v50)) an))))))) rfl
    | ret =>
      obtain rfl := some_inj h
      exact T.oneX' (by kernel_rfl) (f44n1_ok a2 a3 x12 x16 h43) (tds := [.matC 0 0 8]) (m := [0, 1]) (keep := [6, 7]) (st2 := (f44n0E a1 a2 a3 (.ret 24 [])).2) (by kernel_rfl) an rfl rfl
  · obtain rfl := some_inj h
    exact runK_end cfg_ok (k := 3) (rs := [([], [], []), ([], [(3, .call (.pl (.int .i64 x6)) [])], []), ([], [], []), ([], [], [])]) (ps := [some true]) (tds := [.matC 1 0 8]) (m := [1, 2]) (keep := [6, 7]) (ex := .ret) (st' := (f44n0E a1 a2 a3 (.ret x6 [])).2) (by kernel_rfl) (ap (f52_ok a1 a2 a3 h7) (ap (not_f h9) an)) (fun h => nomatch h) rfl
def f44 (a1 : NovateBook) (a2 : Int) (a3 : ByteArray) : Option (NovateBook × Int) := (f44n0 a1 a2 a3).bind fun o => match o with
  | .ret v55 v56 => some ((NovateBook.mk v56), v55)
theorem f44_ok (a1 : NovateBook) (a2 : Int) (a3 : ByteArray) {r : NovateBook × Int} (h : (f44 a1 a2 a3) = some r) : CallS Try.prog false 44 [(.pl (.agg (NovateBook.cells a1))), (.pl (.int .i64 a2)), (.pl (.str a3))] [] (.tup [(.pl (.agg (NovateBook.cells r.1))), (.pl (.int .i64 r.2))]) [] := by
  unfold f44 at h
  obtain ⟨o, ho, h⟩ := bind_cases h
  cases o with
  | ret v55 v56 =>
    obtain rfl := some_inj h
    exact CallS.plain cfg_ok (f := Try.f44) (c := c44) (by kernel_rfl) (by kernel_rfl) (by kernel_rfl) (by kernel_rfl) ((f44n0_ok a1 a2 a3 ho).mono fun r e => by subst e; exact ⟨.inl rfl, (.tup [(.agg [(.own 1)]), (.pl (.int .i64 v55))]), (.tup [(.pl (.agg (NovateBook.cells (NovateBook.mk v56)))), (.pl (.int .i64 v55))]), by kernel_rfl, by kernel_rfl, ((Wk.refl _) : Wk (.tup [(.pl (.agg (NovateBook.cells (NovateBook.mk v56)))), (.pl (.int .i64 v55))]) (.tup [(.pl (.agg (NovateBook.cells (NovateBook.mk v56)))), (.pl (.int .i64 v55))]))⟩)
/-! ### novation/novationlaw34.asked -/
noncomputable def c21 : Code := Try.f21.body.getD .skip
inductive f21n0O where
  | ret (v25 : Int) (v26 : Int) (v27 : NovateBook)
def f21n0E (a1 : NovateBook) (a2 : Op_) : f21n0O → Ex × Tr × Hp
  | .ret v25 v26 v27 => (.ret, mkS [(4, (.bp 0 0)), (5, (.pl (.int .i64 v25))), (6, (.pl (.int .i64 v26)))], [some (.box ((NovateBook.cells v27).map .pl))])
def f21n0S (a1 : NovateBook) (a2 : Op_) : Tr × Hp := (initS [(.pl (.agg (NovateBook.cells a1))), (.pl (.agg (Op_.cells a2)))] 0 .leaf, [])
def f21n0 (a1 : NovateBook) (a2 : Op_) : Option f21n0O :=
  bif (decide (a2.Kind = 0)) then
    (f41 a1 a2.Buyer a2.Seller a2.Product a2.Quantity a2.Price).bind fun x15 =>
    some (.ret x15.2.1 x15.2.2 x15.1)
  else
    bif (decide (a2.Kind = 1)) then
      (f42 a1 a2.Number a2.By).bind fun x18 =>
      some (.ret 0 x18.2 x18.1)
    else
      bif (decide (a2.Kind = 2)) then
        (f43 a1 a2.Number).bind fun x21 =>
        some (.ret 0 x21.2 x21.1)
      else
        (f44 a1 a2.Number a2.By).bind fun x23 =>
        some (.ret 0 x23.2 x23.1)
theorem f21n0_ok (a1 : NovateBook) (a2 : Op_) {o : f21n0O} (h : (f21n0 a1 a2) = some o) : T Try.prog Try.f21.ntmps 0 c21 (f21n0S a1 a2) (fun r => r = f21n0E a1 a2 o) := by
  unfold f21n0 at h
  rcases cond_cases h with ⟨h14, h⟩ | ⟨h14, h⟩
  · obtain ⟨x15, h16, h⟩ := bind_cases h
    obtain rfl := some_inj h
    exact run_end cfg_ok (rs := [([], [], []), ([], [], []), ([], [], []), ([], [], []), ([], [(11, .call (.tup [(.pl (.agg (NovateBook.cells x15.1))), (.pl (.int .i64 x15.2.1)), (.pl (.int .i64 x15.2.2))]) [])], []), ([], [], [])]) (ps := [some true]) (tds := []) (m := [2]) (keep := [4, 5, 6]) (r := (.ret, (f21n0E a1 a2 (.ret x15.2.1 x15.2.2 x15.1)).2)) (by kernel_rfl) (ap h14 (ap (f41_ok a1 a2.Buyer a2.Seller a2.Product a2.Quantity a2.Price h16) an)) rfl
  · rcases cond_cases h with ⟨h17, h⟩ | ⟨h17, h⟩
    · obtain ⟨x18, h19, h⟩ := bind_cases h
      obtain rfl := some_inj h
      exact run_end cfg_ok (rs := [([], [], []), ([], [], []), ([], [], []), ([], [], []), ([], [], []), ([], [(5, .call (.tup [(.pl (.agg (NovateBook.cells x18.1))), (.pl (.int .i64 x18.2))]) [])], []), ([], [], [])]) (ps := [some false, some true]) (tds := []) (m := [2]) (keep := [4, 5, 6]) (r := (.ret, (f21n0E a1 a2 (.ret 0 x18.2 x18.1)).2)) (by kernel_rfl) (ap h14 (ap h17 (ap (f42_ok a1 a2.Number a2.By h19) an))) rfl
    · rcases cond_cases h with ⟨h20, h⟩ | ⟨h20, h⟩
      · obtain ⟨x21, h22, h⟩ := bind_cases h
        obtain rfl := some_inj h
        exact run_end cfg_ok (rs := [([], [], []), ([], [], []), ([], [], []), ([], [], []), ([], [], []), ([], [], []), ([], [(3, .call (.tup [(.pl (.agg (NovateBook.cells x21.1))), (.pl (.int .i64 x21.2))]) [])], []), ([], [], [])]) (ps := [some false, some false, some true]) (tds := []) (m := [2]) (keep := [4, 5, 6]) (r := (.ret, (f21n0E a1 a2 (.ret 0 x21.2 x21.1)).2)) (by kernel_rfl) (ap h14 (ap h17 (ap h20 (ap (f43_ok a1 a2.Number h22) an)))) rfl
      · obtain ⟨x23, h24, h⟩ := bind_cases h
        obtain rfl := some_inj h
        exact run_end cfg_ok (rs := [([], [], []), ([], [], []), ([], [], []), ([], [], []), ([], [], []), ([], [], []), ([], [(5, .call (.tup [(.pl (.agg (NovateBook.cells x23.1))), (.pl (.int .i64 x23.2))]) [])], []), ([], [], [])]) (ps := [some false, some false, some false]) (tds := []) (m := [2]) (keep := [4, 5, 6]) (r := (.ret, (f21n0E a1 a2 (.ret 0 x23.2 x23.1)).2)) (by kernel_rfl) (ap h14 (ap h17 (ap h20 (ap (f44_ok a1 a2.Number a2.By h24) an)))) rfl
def f21 (a1 : NovateBook) (a2 : Op_) : Option (NovateBook × Int × Int) := (f21n0 a1 a2).bind fun o => match o with
  | .ret v25 v26 v27 => some (v27, v25, v26)
theorem f21_ok (a1 : NovateBook) (a2 : Op_) {r : NovateBook × Int × Int} (h : (f21 a1 a2) = some r) : CallS Try.prog false 21 [(.pl (.agg (NovateBook.cells a1))), (.pl (.agg (Op_.cells a2)))] [] (.tup [(.pl (.agg (NovateBook.cells r.1))), (.pl (.int .i64 r.2.1)), (.pl (.int .i64 r.2.2))]) [] := by
  unfold f21 at h
  obtain ⟨o, ho, h⟩ := bind_cases h
  cases o with
  | ret v25 v26 v27 =>
    obtain rfl := some_inj h
    exact CallS.plain cfg_ok (f := Try.f21) (c := c21) (by kernel_rfl) (by kernel_rfl) (by kernel_rfl) (by kernel_rfl) ((f21n0_ok a1 a2 ho).mono fun r e => by subst e; exact ⟨.inl rfl, (.tup [(.pl (.agg (NovateBook.cells v27))), (.pl (.int .i64 v25)), (.pl (.int .i64 v26))]), (.tup [(.pl (.agg (NovateBook.cells v27))), (.pl (.int .i64 v25)), (.pl (.int .i64 v26))]), by kernel_rfl, by kernel_rfl, ((Wk.refl _) : Wk (.tup [(.pl (.agg (NovateBook.cells v27))), (.pl (.int .i64 v25)), (.pl (.int .i64 v26))]) (.tup [(.pl (.agg (NovateBook.cells v27))), (.pl (.int .i64 v25)), (.pl (.int .i64 v26))]))⟩)
/-! ### novation/novate.Legs -/
noncomputable def c12 : Code := Try.f12.body.getD .skip
inductive f12n2O where
  | exit0 (v40 : List NovateLeg)
def f12n2E (bf1 : NovateBook) : f12n2O → Ex × Tr × Hp
  | .exit0 v40 => ((.exit 0), mkS [(5, (.own 0))], [some (.row false 6 (v40.map NovateLeg.cells))])
def f12n2S (bf1 : NovateBook) (v28 : Int) (v29 : List NovateLeg) : Tr × Hp := (mkS [(5, (.own 0)), (16, (.pl (.sl .any 8 (bf1.Trades.map NovateTrade.cells)))), (17, (.pl (.int .i64 (bf1.Trades.length : Int)))), (18, (.pl (.int .i64 v28)))], [some (.row false 6 (v29.map NovateLeg.cells))])
def f12n2 : Nat → NovateBook → Int → List NovateLeg → Option f12n2O
  | 0, _, _, _ => none
  | f + 1, bf1, v28, v29 =>
    bif (decide (v28 < (bf1.Trades.length : Int))) then
      (at? bf1.Trades v28).bind fun x36 =>
      bif (decide (x36.Stage = 1)) then
        req (fit (v29.length + 2) 72) <|
        (f12n2 f bf1 (wr64 (v28 + 1)) (v29 ++ [(NovateLeg.mk (wr64 (v28 + 1)) x36.Buyer str_house x36.Product x36.Quantity x36.Price), (NovateLeg.mk (wr64 (v28 + 1)) str_house x36.Seller x36.Product x36.Quantity x36.Price)]))
      else
        (f12n2 f bf1 (wr64 (v28 + 1)) v29)
    else
      some (.exit0 v29)
theorem f12n2_ok : ∀ (f : Nat) (bf1 : NovateBook) (v28 : Int) (v29 : List NovateLeg) {o : f12n2O}, (f12n2 f bf1 v28 v29) = some o → TL Try.prog Try.f12.ntmps 0 f (cL (cL (dropC 1 (cL (dropC 3 c12))))) (f12n2S bf1 v28 v29) (fun r => r = f12n2E bf1 o)
  | 0, _, _, _, o, h => by rw [f12n2] at h; cases h
  | f + 1, bf1, v28, v29, o, h => by
    rw [f12n2] at h
    refine TL.body (K := fun s => ∃ v28 : Int, ∃ v29 : List NovateLeg, s = (f12n2S bf1 v28 v29) ∧ (f12n2 f bf1 v28 v29) = some o) ?_ (by rintro _ ⟨v28, v29, rfl, hk⟩; exact f12n2_ok f _ _ _ hk)
    rcases cond_cases h with ⟨h31, h⟩ | ⟨h31, h⟩
    · obtain ⟨x36, h37, h⟩ := bind_cases h
      rcases cond_cases h with ⟨h38, h⟩ | ⟨h38, h⟩
      · obtain ⟨h39, h⟩ := req_cases h
        exact run_end cfg_ok (rs := [([], [], []), ([], [(1, .idx (Int.toNat v28) (NovateTrade.cells x36))], []), ([], [], []), ([], [], []), ([], [], []), ([], [], []), ([], [(4, .fits)], [(4, .row 6 ((v29 ++ [(NovateLeg.mk (wr64 (v28 + 1)) x36.Buyer str_house x36.Product x36.Quantity x36.Price), (NovateLeg.mk (wr64 (v28 + 1)) str_house x36.Seller x36.Product x36.Quantity x36.Price)]).map NovateLeg.cells))]), ([], [], [])]) (ps := [some true, some false]) (tds := []) (m := [6]) (keep := [5, 16, 17, 18]) (r := (.norm, (f12n2S bf1 (wr64 (v28 + 1)) (v29 ++ [(NovateLeg.mk (wr64 (v28 + 1)) x36.Buyer str_house x36.Product x36.Quantity x36.Price), (NovateLeg.mk (wr64 (v28 + 1)) str_house x36.Seller x36.Product x36.Quantity x36.Price)])))) (by kernel_rfl) (ap h31 (ap (at_some h37).1 (ap (at_map NovateTrade.cells (at_some h37).2) (ap (not_t h38) (ap (fit_map (te := ti32) (xs := v29) (n := 2) (c := NovateLeg.cells) h39 rfl) (ap (app_cv (xs := v29) (ys := [(NovateLeg.mk (wr64 (v28 + 1)) x36.Buyer str_house x36.Product x36.Quantity x36.Price), (NovateLeg.mk (wr64 (v28 + 1)) str_house x36.Seller x36.Product x36.Quantity x36.Price)]) (c := NovateLeg.cells)) an)))))) (LoopQ.norm ⟨(wr64 (v28 + 1)), (v29 ++ [(NovateLeg.mk (wr64 (v28 + 1)) x36.Buyer str_house x36.Product x36.Quantity x36.Price), (NovateLeg.mk (wr64 (v28 + 1)) str_house x36.Seller x36.Product x36.Quantity x36.Price)]), rfl, h⟩)
      · exact run_end cfg_ok (rs := [([], [], []), ([], [(1, .idx (Int.toNat v28) (NovateTrade.cells x36))], []), ([], [], []), ([], [], [])]) (ps := [some true, some true]) (tds := []) (m := [0]) (keep := [5, 16, 17, 18]) (r := (.norm, (f12n2S bf1 (wr64 (v28 + 1)) v29))) (by kernel_rfl) (ap h31 (ap (at_some h37).1 (ap (at_map NovateTrade.cells (at_some h37).2) (ap (not_f h38) an)))) (LoopQ.norm ⟨(wr64 (v28 + 1)), v29, rfl, h⟩)
    · obtain rfl := some_inj h
      exact runK_end cfg_ok (k := 2) (rs := [([], [], [])]) (ps := [some false]) (tds := []) (m := [0]) (keep := [5]) (ex := (.exit 0)) (st' := (f12n2E bf1 (.exit0 v29)).2) (by kernel_rfl) (ap h31 an) (fun h => nomatch h) (LoopQ.out rfl rfl)
def f12n2L (bf1 : NovateBook) : List NovateTrade → Int → (List NovateLeg) → Option f12n2O
  | [], v28, v29 =>
    some (.exit0 v29)
  | x0 :: rest, v28, v29 =>
    bif (decide (x0.Stage = 1)) then
      req (fit (v29.length + 2) 72) <|
      (f12n2L bf1 rest (v28 + 1) (v29 ++ [(NovateLeg.mk (wr64 (v28 + 1)) x0.Buyer str_house x0.Product x0.Quantity x0.Price), (NovateLeg.mk (wr64 (v28 + 1)) str_house x0.Seller x0.Product x0.Quantity x0.Price)]))
    else
      (f12n2L bf1 rest (v28 + 1) v29)
theorem f12n2L_eq (bf1 : NovateBook) : ∀ (rest : List NovateTrade) (f k : Nat) (v29 : List NovateLeg), bf1.Trades.drop k = rest → bf1.Trades.length ≤ maxLen → rest.length < f → f12n2 f bf1 (k : Int) v29 = f12n2L bf1 rest (k : Int) v29
  | _, 0, _, _, _, _, hf => absurd hf (Nat.not_lt_zero _)
  | [], f + 1, k, v29, hd, hm, hf => by
    have hk : ¬ ((k : Int) < (bf1.Trades.length : Int)) := by have := drop_nil hd; omega
    rw [f12n2, f12n2L]
    simp only [decide_eq_false hk, cond_false]
  | x0 :: rest, f + 1, k, v29, hd, hm, hf => by
    obtain ⟨hx, hlt, hd'⟩ := drop_cons hd
    have hk : (k : Int) < (bf1.Trades.length : Int) := by omega
    have hw : wr64 ((k : Int) + 1) = (k : Int) + 1 := wr64_of (by omega) (by unfold maxLen at hm; omega)
    have ih : ∀ (v29 : List NovateLeg), f12n2 f bf1 ((k : Int) + 1) v29 = f12n2L bf1 rest ((k : Int) + 1) v29 := fun v29 => f12n2L_eq bf1 rest f (k + 1) v29 hd' hm (by simpa using hf)
    rw [f12n2, f12n2L]
    simp only [decide_eq_true hk, cond_true, at_nat, hx, Option.bind_some, hw, ih]
theorem f12n2_run (bf1 : NovateBook) (v29 : List NovateLeg) (hm : bf1.Trades.length ≤ maxLen) : f12n2 FUEL bf1 0 v29 = f12n2L bf1 bf1.Trades 0 v29 := f12n2L_eq bf1 bf1.Trades FUEL 0 v29 List.drop_zero hm (lt_FUEL hm)
inductive f12n1O where
  | norm (v44 : List NovateLeg)
def f12n1E (bf1 : NovateBook) : f12n1O → Ex × Tr × Hp
  | .norm v44 => (.norm, mkS [(5, (.own 0))], [some (.row false 6 (v44.map NovateLeg.cells))])
def f12n1S (bf1 : NovateBook) : Tr × Hp := (mkS [(1, (.bp 0 0)), (5, (.pl (.sl .nil 0 [])))], [some (.box ((NovateBook.cells bf1).map .pl))])
def f12n1 (bf1 : NovateBook) : Option f12n1O :=
  (f12n2 FUEL bf1 0 []).bind fun o41 => match o41 with
  | .exit0 v43 => some (.norm v43)
theorem f12n1_ok (bf1 : NovateBook) {o : f12n1O} (h : (f12n1 bf1) = some o) : T Try.prog Try.f12.ntmps 0 (cL (dropC 3 c12)) (f12n1S bf1) (fun r => r = f12n1E bf1 o) := by
  unfold f12n1 at h
  refine runK_norm cfg_ok (k := 1) (rs := [([], [], [(2, .val (.pl (.int .i64 (bf1.Trades.length : Int))))])]) (ps := []) (tds := [.mat 5 6]) (m := [1]) (keep := [5, 16, 17, 18]) (st' := (f12n2S bf1 0 [])) (by kernel_rfl) (ap (len_cv (xs := bf1.Trades) (c := NovateTrade.cells)) an) ?_
  obtain ⟨o41, h42, h⟩ := bind_cases h
  cases o41 with
  | exit0 v43 =>
    obtain rfl := some_inj h
    exact T.last' (T.bl (i := 0) (by kernel_rfl) (by kernel_rfl) (f12n2_ok FUEL bf1 0 [] h42)) (tds := []) (m := [0]) (keep := [5]) (st2 := (f12n1E bf1 (.norm v43)).2) (by kernel_rfl) an rfl
inductive f12n0O where
  | ret (v48 : Int) (v49 : List NovateLeg)
def f12n0E (a1 : NovateBook) : f12n0O → Ex × Tr × Hp
  | .ret v48 v49 => (.ret, mkS [(2, (.own 0)), (3, (.pl (.int .i64 v48)))], [some (.row false 6 (v49.map NovateLeg.cells))])
def f12n0S (a1 : NovateBook) : Tr × Hp := (initS [(.pl (.agg (NovateBook.cells a1)))] 0 .leaf, [])
def f12n0 (a1 : NovateBook) : Option f12n0O :=
  (f13 a1).bind fun x5 =>
  bif (decide (x5 = 0)) then
    (f12n1 a1).bind fun o45 => match o45 with
    | .norm v47 => some (.ret 0 v47)
  else
    some (.ret x5 [])
theorem f12n0_ok (a1 : NovateBook) {o : f12n0O} (h : (f12n0 a1) = some o) : T Try.prog Try.f12.ntmps 0 c12 (f12n0S a1) (fun r => r = f12n0E a1 o) := by
  unfold f12n0 at h
  obtain ⟨x5, h6, h⟩ := bind_cases h
  rcases cond_cases h with ⟨h7, h⟩ | ⟨h7, h⟩
  · refine runK_norm cfg_ok (k := 3) (rs := [([], [], []), ([], [(1, .call (.pl (.int .i64 x5)) [])], []), ([], [], []), ([], [], [])]) (ps := [some false]) (tds := []) (m := [0]) (keep := [1, 5]) (st' := (f12n1S a1)) (by kernel_rfl) (ap (f13_ok a1 h6) (ap (not_t h7) an)) ?_
    obtain ⟨o45, h46, h⟩ := bind_cases h
    cases o45 with
    | norm v47 =>
      refine T.oneN (by kernel_rfl) (f12n1_ok a1 h46) (st2 := (f12n1E a1 (.norm v47)).2) rfl ?_
      obtain rfl := some_inj h
      exact run_end cfg_ok (rs := [([], [], [])]) (ps := []) (tds := []) (m := [0]) (keep := [2, 3]) (r := (.ret, (f12n0E a1 (.ret 0 v47)).2)) (by kernel_rfl) an rfl
  · obtain rfl := some_inj h
    exact runK_end cfg_ok (k := 2) (rs := [([], [], []), ([], [(1, .call (.pl (.int .i64 x5)) [])], []), ([], [], []), ([], [], [])]) (ps := [some true]) (tds := [.mat 2 6]) (m := [1]) (keep := [2, 3]) (ex := .ret) (st' := (f12n0E a1 (.ret x5 [])).2) (by kernel_rfl) (ap (f13_ok a1 h6) (ap (not_f h7) an)) (fun h => nomatch h) rfl
def f12 (a1 : NovateBook) : Option ((List NovateLeg) × Int) := (f12n0 a1).bind fun o => match o with
  | .ret v48 v49 => some (v49, v48)
theorem f12_ok (a1 : NovateBook) {r : (List NovateLeg) × Int} (h : (f12 a1) = some r) : CallS Try.prog false 12 [(.pl (.agg (NovateBook.cells a1)))] [] (.tup [(.pl (.sl .any 6 (r.1.map NovateLeg.cells))), (.pl (.int .i64 r.2))]) [] := by
  unfold f12 at h
  obtain ⟨o, ho, h⟩ := bind_cases h
  cases o with
  | ret v48 v49 =>
    obtain rfl := some_inj h
    exact CallS.plain cfg_ok (f := Try.f12) (c := c12) (by kernel_rfl) (by kernel_rfl) (by kernel_rfl) (by kernel_rfl) ((f12n0_ok a1 ho).mono fun r e => by subst e; exact ⟨.inl rfl, (.tup [(.own 0), (.pl (.int .i64 v48))]), (.tup [(.pl (.sl .any 6 (v49.map NovateLeg.cells))), (.pl (.int .i64 v48))]), by kernel_rfl, by kernel_rfl, ((Wk.refl _) : Wk (.tup [(.pl (.sl .any 6 (v49.map NovateLeg.cells))), (.pl (.int .i64 v48))]) (.tup [(.pl (.sl .any 6 (v49.map NovateLeg.cells))), (.pl (.int .i64 v48))]))⟩)
/-! ### novation/novationref34.Legs -/
noncomputable def c25 : Code := Try.f25.body.getD .skip
inductive f25n2O where
  | exit0 (v44 : List NovateLeg)
def f25n2E (bf1 : NovateBook) : f25n2O → Ex × Tr × Hp
  | .exit0 v44 => ((.exit 0), mkS [(4, (.own 0))], [some (.row false 6 (v44.map NovateLeg.cells))])
def f25n2S (bf1 : NovateBook) (v30 : Int) (v31 : List NovateLeg) : Tr × Hp := (mkS [(1, (.bp 0 0)), (4, (.own 1)), (5, (.pl (.int .i64 v30)))], [some (.box ((NovateBook.cells bf1).map .pl)), some (.row false 6 (v31.map NovateLeg.cells))])
def f25n2 : Nat → NovateBook → Int → List NovateLeg → Option f25n2O
  | 0, _, _, _ => none
  | f + 1, bf1, v30, v31 =>
    bif (decide (v30 < (bf1.Trades.length : Int))) then
      (at? bf1.Trades v30).bind fun x39 =>
      bif (decide (x39.Stage = 1)) then
        req (fit (v31.length + 1) 72) <|
        req (fit ((v31 ++ [(NovateLeg.mk (wr64 (v30 + 1)) x39.Buyer str_house x39.Product x39.Quantity x39.Price)]).length + 1) 72) <|
        (f25n2 f bf1 (wr64 (v30 + 1)) ((v31 ++ [(NovateLeg.mk (wr64 (v30 + 1)) x39.Buyer str_house x39.Product x39.Quantity x39.Price)]) ++ [(NovateLeg.mk (wr64 (v30 + 1)) str_house x39.Seller x39.Product x39.Quantity x39.Price)]))
      else
        (f25n2 f bf1 (wr64 (v30 + 1)) v31)
    else
      some (.exit0 v31)
theorem f25n2_ok : ∀ (f : Nat) (bf1 : NovateBook) (v30 : Int) (v31 : List NovateLeg) {o : f25n2O}, (f25n2 f bf1 v30 v31) = some o → TL Try.prog Try.f25.ntmps 0 f (cL (cL (dropC 1 (cL (dropC 3 c25))))) (f25n2S bf1 v30 v31) (fun r => r = f25n2E bf1 o)
  | 0, _, _, _, o, h => by rw [f25n2] at h; cases h
  | f + 1, bf1, v30, v31, o, h => by
    rw [f25n2] at h
    refine TL.body (K := fun s => ∃ v30 : Int, ∃ v31 : List NovateLeg, s = (f25n2S bf1 v30 v31) ∧ (f25n2 f bf1 v30 v31) = some o) ?_ (by rintro _ ⟨v30, v31, rfl, hk⟩; exact f25n2_ok f _ _ _ hk)
    rcases cond_cases h with ⟨h33, h⟩ | ⟨h33, h⟩
    · obtain ⟨x39, h40, h⟩ := bind_cases h
      rcases cond_cases h with ⟨h41, h⟩ | ⟨h41, h⟩
      · obtain ⟨h42, h⟩ := req_cases h
        obtain ⟨h43, h⟩ := req_cases h
        exact run_end cfg_ok (rs := [([], [], [(3, .val (.pl (.int .i64 (bf1.Trades.length : Int))))]), ([], [(3, .idx (Int.toNat v30) (NovateTrade.cells x39))], []), ([], [], []), ([], [(13, .fits)], [(13, .row 4 ((v31 ++ [(NovateLeg.mk (wr64 (v30 + 1)) x39.Buyer str_house x39.Product x39.Quantity x39.Price)]).map NovateLeg.cells))]), ([], [(13, .fits)], [(13, .row 6 (((v31 ++ [(NovateLeg.mk (wr64 (v30 + 1)) x39.Buyer str_house x39.Product x39.Quantity x39.Price)]) ++ [(NovateLeg.mk (wr64 (v30 + 1)) str_house x39.Seller x39.Product x39.Quantity x39.Price)]).map NovateLeg.cells))]), ([], [], [])]) (ps := [some true, some true]) (tds := []) (m := [0, 6]) (keep := [1, 4, 5]) (r := (.norm, (f25n2S bf1 (wr64 (v30 + 1)) ((v31 ++ [(NovateLeg.mk (wr64 (v30 + 1)) x39.Buyer str_house x39.Product x39.Quantity x39.Price)]) ++ [(NovateLeg.mk (wr64 (v30 + 1)) str_house x39.Seller x39.Product x39.Quantity x39.Price)])))) (by kernel_rfl) (ap (len_cv (xs := bf1.Trades) (c := NovateTrade.cells)) (ap h33 (ap (at_some h40).1 (ap (at_map NovateTrade.cells (at_some h40).2) (ap h41 (ap (fit_map (te := ti32) (xs := v31) (n := 1) (c := NovateLeg.cells) h42 rfl) (ap (app_cv (xs := v31) (ys := [(NovateLeg.mk (wr64 (v30 + 1)) x39.Buyer str_house x39.Product x39.Quantity x39.Price)]) (c := NovateLeg.cells)) (ap (fit_map (te := ti32) (xs := (v31 ++ [(NovateLeg.mk (wr64 (v30 + 1)) x39.Buyer str_house x39.Product x39.Quantity x39.Price)])) (n := 1) (c := NovateLeg.cells) h43 rfl) (ap (app_cv (xs := (v31 ++ [(NovateLeg.mk (wr64 (v30 + 1)) x39.Buyer str_house x39.Product x39.Quantity x39.Price)])) (ys := [(NovateLeg.mk (wr64 (v30 + 1)) str_house x39.Seller x39.Product x39.Quantity x39.Price)]) (c := NovateLeg.cells)) an))))))))) (LoopQ.norm ⟨(wr64 (v30 + 1)), ((v31 ++ [(NovateLeg.mk (wr64 (v30 + 1)) x39.Buyer str_house x39.Product x39.Quantity x39.Price)]) ++ [(NovateLeg.mk (wr64 (v30 + 1)) str_house x39.Seller x39.Product x39.Quantity x39.Price)]), rfl, h⟩)
      · exact run_end cfg_ok (rs := [([], [], [(3, .val (.pl (.int .i64 (bf1.Trades.length : Int))))]), ([], [(3, .idx (Int.toNat v30) (NovateTrade.cells x39))], []), ([], [], []), ([], [], [])]) (ps := [some true, some false]) (tds := []) (m := [0, 1]) (keep := [1, 4, 5]) (r := (.norm, (f25n2S bf1 (wr64 (v30 + 1)) v31))) (by kernel_rfl) (ap (len_cv (xs := bf1.Trades) (c := NovateTrade.cells)) (ap h33 (ap (at_some h40).1 (ap (at_map NovateTrade.cells (at_some h40).2) (ap h41 an))))) (LoopQ.norm ⟨(wr64 (v30 + 1)), v31, rfl, h⟩)
    · obtain rfl := some_inj h
      exact runK_end cfg_ok (k := 1) (rs := [([], [], [(3, .val (.pl (.int .i64 (bf1.Trades.length : Int))))])]) (ps := [some false]) (tds := []) (m := [1]) (keep := [4]) (ex := (.exit 0)) (st' := (f25n2E bf1 (.exit0 v31)).2) (by kernel_rfl) (ap (len_cv (xs := bf1.Trades) (c := NovateTrade.cells)) (ap h33 an)) (fun h => nomatch h) (LoopQ.out rfl rfl)
def f25n2L (bf1 : NovateBook) : List NovateTrade → Int → (List NovateLeg) → Option f25n2O
  | [], v30, v31 =>
    some (.exit0 v31)
  | x0 :: rest, v30, v31 =>
    bif (decide (x0.Stage = 1)) then
      req (fit (v31.length + 1) 72) <|
      req (fit ((v31 ++ [(NovateLeg.mk (wr64 (v30 + 1)) x0.Buyer str_house x0.Product x0.Quantity x0.Price)]).length + 1) 72) <|
      (f25n2L bf1 rest (v30 + 1) ((v31 ++ [(NovateLeg.mk (wr64 (v30 + 1)) x0.Buyer str_house x0.Product x0.Quantity x0.Price)]) ++ [(NovateLeg.mk (wr64 (v30 + 1)) str_house x0.Seller x0.Product x0.Quantity x0.Price)]))
    else
      (f25n2L bf1 rest (v30 + 1) v31)
theorem f25n2L_eq (bf1 : NovateBook) : ∀ (rest : List NovateTrade) (f k : Nat) (v31 : List NovateLeg), bf1.Trades.drop k = rest → bf1.Trades.length ≤ maxLen → rest.length < f → f25n2 f bf1 (k : Int) v31 = f25n2L bf1 rest (k : Int) v31
  | _, 0, _, _, _, _, hf => absurd hf (Nat.not_lt_zero _)
  | [], f + 1, k, v31, hd, hm, hf => by
    have hk : ¬ ((k : Int) < (bf1.Trades.length : Int)) := by have := drop_nil hd; omega
    rw [f25n2, f25n2L]
    simp only [decide_eq_false hk, cond_false]
  | x0 :: rest, f + 1, k, v31, hd, hm, hf => by
    obtain ⟨hx, hlt, hd'⟩ := drop_cons hd
    have hk : (k : Int) < (bf1.Trades.length : Int) := by omega
    have hw : wr64 ((k : Int) + 1) = (k : Int) + 1 := wr64_of (by omega) (by unfold maxLen at hm; omega)
    have ih : ∀ (v31 : List NovateLeg), f25n2 f bf1 ((k : Int) + 1) v31 = f25n2L bf1 rest ((k : Int) + 1) v31 := fun v31 => f25n2L_eq bf1 rest f (k + 1) v31 hd' hm (by simpa using hf)
    rw [f25n2, f25n2L]
    simp only [decide_eq_true hk, cond_true, at_nat, hx, Option.bind_some, hw, ih]
theorem f25n2_run (bf1 : NovateBook) (v31 : List NovateLeg) (hm : bf1.Trades.length ≤ maxLen) : f25n2 FUEL bf1 0 v31 = f25n2L bf1 bf1.Trades 0 v31 := f25n2L_eq bf1 bf1.Trades FUEL 0 v31 List.drop_zero hm (lt_FUEL hm)
inductive f25n1O where
  | norm (v48 : List NovateLeg)
def f25n1E (bf1 : NovateBook) : f25n1O → Ex × Tr × Hp
  | .norm v48 => (.norm, mkS [(4, (.own 0))], [some (.row false 6 (v48.map NovateLeg.cells))])
def f25n1S (bf1 : NovateBook) : Tr × Hp := (mkS [(1, (.bp 0 0)), (4, (.pl (.sl .nil 0 [])))], [some (.box ((NovateBook.cells bf1).map .pl))])
def f25n1 (bf1 : NovateBook) : Option f25n1O :=
  (f25n2 FUEL bf1 0 []).bind fun o45 => match o45 with
  | .exit0 v47 => some (.norm v47)
theorem f25n1_ok (bf1 : NovateBook) {o : f25n1O} (h : (f25n1 bf1) = some o) : T Try.prog Try.f25.ntmps 0 (cL (dropC 3 c25)) (f25n1S bf1) (fun r => r = f25n1E bf1 o) := by
  unfold f25n1 at h
  refine runK_norm cfg_ok (k := 1) (rs := [([], [], [])]) (ps := []) (tds := [.mat 4 6]) (m := [0, 1]) (keep := [1, 4, 5]) (st' := (f25n2S bf1 0 [])) (by kernel_rfl) an ?_
  obtain ⟨o45, h46, h⟩ := bind_cases h
  cases o45 with
  | exit0 v47 =>
    obtain rfl := some_inj h
    exact T.last' (T.bl (i := 0) (by kernel_rfl) (by kernel_rfl) (f25n2_ok FUEL bf1 0 [] h46)) (tds := []) (m := [0]) (keep := [4]) (st2 := (f25n1E bf1 (.norm v47)).2) (by kernel_rfl) an rfl
inductive f25n0O where
  | ret (v52 : Int) (v53 : List NovateLeg)
def f25n0E (a1 : NovateBook) : f25n0O → Ex × Tr × Hp
  | .ret v52 v53 => (.ret, mkS [(2, (.own 0)), (3, (.pl (.int .i64 v52)))], [some (.row false 6 (v53.map NovateLeg.cells))])
def f25n0S (a1 : NovateBook) : Tr × Hp := (initS [(.pl (.agg (NovateBook.cells a1)))] 0 .leaf, [])
def f25n0 (a1 : NovateBook) : Option f25n0O :=
  (f30 a1).bind fun x5 =>
  bif (decide (x5 = 0)) then
    (f25n1 a1).bind fun o49 => match o49 with
    | .norm v51 => some (.ret 0 v51)
  else
    some (.ret 8 [])
theorem f25n0_ok (a1 : NovateBook) {o : f25n0O} (h : (f25n0 a1) = some o) : T Try.prog Try.f25.ntmps 0 c25 (f25n0S a1) (fun r => r = f25n0E a1 o) := by
  unfold f25n0 at h
  obtain ⟨x5, h6, h⟩ := bind_cases h
  rcases cond_cases h with ⟨h7, h⟩ | ⟨h7, h⟩
  · refine runK_norm cfg_ok (k := 3) (rs := [([], [], []), ([], [(1, .call (.pl (.int .i64 x5)) [])], []), ([], [], [])]) (ps := [some false]) (tds := []) (m := [0]) (keep := [1, 4]) (st' := (f25n1S a1)) (by kernel_rfl) (ap (f30_ok a1 h6) (ap (not_t h7) an)) ?_
    obtain ⟨o49, h50, h⟩ := bind_cases h
    cases o49 with
    | norm v51 =>
      refine T.oneN (by kernel_rfl) (f25n1_ok a1 h50) (st2 := (f25n1E a1 (.norm v51)).2) rfl ?_
      obtain rfl := some_inj h
      exact run_end cfg_ok (rs := [([], [], [])]) (ps := []) (tds := []) (m := [0]) (keep := [2, 3]) (r := (.ret, (f25n0E a1 (.ret 0 v51)).2)) (by kernel_rfl) an rfl
  · obtain rfl := some_inj h
    exact runK_end cfg_ok (k := 2) (rs := [([], [], []), ([], [(1, .call (.pl (.int .i64 x5)) [])], []), ([], [], [])]) (ps := [some true]) (tds := [.mat 2 6]) (m := [1]) (keep := [2, 3]) (ex := .ret) (st' := (f25n0E a1 (.ret 8 [])).2) (by kernel_rfl) (ap (f30_ok a1 h6) (ap (not_f h7) an)) (fun h => nomatch h) rfl
def f25 (a1 : NovateBook) : Option ((List NovateLeg) × Int) := (f25n0 a1).bind fun o => match o with
  | .ret v52 v53 => some (v53, v52)
theorem f25_ok (a1 : NovateBook) {r : (List NovateLeg) × Int} (h : (f25 a1) = some r) : CallS Try.prog false 25 [(.pl (.agg (NovateBook.cells a1)))] [] (.tup [(.pl (.sl .any 6 (r.1.map NovateLeg.cells))), (.pl (.int .i64 r.2))]) [] := by
  unfold f25 at h
  obtain ⟨o, ho, h⟩ := bind_cases h
  cases o with
  | ret v52 v53 =>
    obtain rfl := some_inj h
    exact CallS.plain cfg_ok (f := Try.f25) (c := c25) (by kernel_rfl) (by kernel_rfl) (by kernel_rfl) (by kernel_rfl) ((f25n0_ok a1 ho).mono fun r e => by subst e; exact ⟨.inl rfl, (.tup [(.own 0), (.pl (.int .i64 v52))]), (.tup [(.pl (.sl .any 6 (v53.map NovateLeg.cells))), (.pl (.int .i64 v52))]), by kernel_rfl, by kernel_rfl, ((Wk.refl _) : Wk (.tup [(.pl (.sl .any 6 (v53.map NovateLeg.cells))), (.pl (.int .i64 v52))]) (.tup [(.pl (.sl .any 6 (v53.map NovateLeg.cells))), (.pl (.int .i64 v52))]))⟩)
end Go.Proofs.Ytkimdlpfbojkgaa
