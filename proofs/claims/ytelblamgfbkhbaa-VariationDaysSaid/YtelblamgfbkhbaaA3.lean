/- Several texts in one. No condition. -/
import Derived.Test.YtelblamgfbkhbaaTy
import Derived.Test.YtelblamgfbkhbaaTW
import Derived.Test.YtelblamgfbkhbaaTY
import Derived.Test.YtelblamgfbkhbaaIn
import Derived.Test.YtelblamgfbkhbaaSo
namespace Go.Proofs.Ytelblamgfbkhbaa
set_option linter.unusedVariables false
set_option linter.unusedSimpArgs false
set_option maxRecDepth 100000
open Go.RowKit
def str_house : ByteArray := ⟨#[104, 111, 117, 115, 101]⟩
def str_x : ByteArray := ⟨#[]⟩
def str_p : ByteArray := ⟨#[112]⟩
def str_a : ByteArray := ⟨#[97]⟩
def str_b : ByteArray := ⟨#[98]⟩
structure VariationPrice where
  Product : ByteArray
  Price : Int
def VariationPrice.cells (x : VariationPrice) : List PV := [.str x.Product, .int .i64 x.Price]
structure Op_ where
  Kind : Int
  Buyer : ByteArray
  Seller : ByteArray
  Product : ByteArray
  Quantity : Int
  Price : Int
  Day : Int
  Prices : List VariationPrice
def Op_.cells (x : Op_) : List PV := [.int .u8 x.Kind, .str x.Buyer, .str x.Seller, .str x.Product, .int .i64 x.Quantity, .int .i64 x.Price, .int .i64 x.Day, .sl .any 2 (x.Prices.map VariationPrice.cells)]
structure VariationPosition where
  Member : ByteArray
  Product : ByteArray
  Quantity : Int
  Basis : Int
def VariationPosition.cells (x : VariationPosition) : List PV := [.str x.Member, .str x.Product, .int .i64 x.Quantity, .int .i64 x.Basis]
structure Variation where
  Day : Int
  Positions : List VariationPosition
def Variation.cells (x : Variation) : List PV := [.int .i64 x.Day, .sl .any 4 (x.Positions.map VariationPosition.cells)]
structure Sums_ where
  quantity : Int
  basis : Int
def Sums_.cells (x : Sums_) : List PV := [.int .i64 x.quantity, .int .i64 x.basis]
structure VariationPayment where
  Member : ByteArray
  Amount : Int
def VariationPayment.cells (x : VariationPayment) : List PV := [.str x.Member, .int .i64 x.Amount]
def VariationPosition.eqb (x y : VariationPosition) : Bool := seq x.Member y.Member && seq x.Product y.Product && decide (x.Quantity = y.Quantity) && decide (x.Basis = y.Basis)
theorem VariationPosition.eqb_ok (x y : VariationPosition) : eqV cfg.ty 52 (.agg (VariationPosition.cells x)) (.agg (VariationPosition.cells y)) = some (VariationPosition.eqb x y) := by
  unfold VariationPosition.eqb
  have e : eqV cfg.ty 52 (.agg (VariationPosition.cells x)) (.agg (VariationPosition.cells y)) = (match some (decide (x.Member.data.toList = y.Member.data.toList)) with | some true => (match some (decide (x.Product.data.toList = y.Product.data.toList)) with | some true => (match some (decide (x.Quantity = y.Quantity)) with | some true => (match some (decide (x.Basis = y.Basis)) with | some true => (some true) | some false => some false | none => none) | some false => some false | none => none) | some false => some false | none => none) | some false => some false | none => none) := by kernel_rfl
  rw [e]
  try simp only [seq]
  cases decide (x.Member.data.toList = y.Member.data.toList) <;> cases decide (x.Product.data.toList = y.Product.data.toList) <;> cases decide (x.Quantity = y.Quantity) <;> cases decide (x.Basis = y.Basis) <;> rfl
def Sums_.eqb (x y : Sums_) : Bool := decide (x.quantity = y.quantity) && decide (x.basis = y.basis)
theorem Sums_.eqb_ok (x y : Sums_) : eqV cfg.ty 92 (.agg (Sums_.cells x)) (.agg (Sums_.cells y)) = some (Sums_.eqb x y) := by
  unfold Sums_.eqb
  have e : eqV cfg.ty 92 (.agg (Sums_.cells x)) (.agg (Sums_.cells y)) = (match some (decide (x.quantity = y.quantity)) with | some true => (match some (decide (x.basis = y.basis)) with | some true => (some true) | some false => some false | none => none) | some false => some false | none => none) := by kernel_rfl
  rw [e]
  try simp only [seq]
  cases decide (x.quantity = y.quantity) <;> cases decide (x.basis = y.basis) <;> rfl
def VariationPayment.eqb (x y : VariationPayment) : Bool := seq x.Member y.Member && decide (x.Amount = y.Amount)
theorem VariationPayment.eqb_ok (x y : VariationPayment) : eqV cfg.ty 48 (.agg (VariationPayment.cells x)) (.agg (VariationPayment.cells y)) = some (VariationPayment.eqb x y) := by
  unfold VariationPayment.eqb
  have e : eqV cfg.ty 48 (.agg (VariationPayment.cells x)) (.agg (VariationPayment.cells y)) = (match some (decide (x.Member.data.toList = y.Member.data.toList)) with | some true => (match some (decide (x.Amount = y.Amount)) with | some true => (some true) | some false => some false | none => none) | some false => some false | none => none) := by kernel_rfl
  rw [e]
  try simp only [seq]
  cases decide (x.Member.data.toList = y.Member.data.toList) <;> cases decide (x.Amount = y.Amount) <;> rfl
theorem key_9 : KeyOK cfg 9 pStr seq := key_str (fun _ _ => by kernel_rfl) (fun _ => by kernel_rfl)
def ti52 : TI := ⟨.struct [(9, 0), (9, 1), (3, 2), (3, 3)], 4, 48, [.str ByteArray.empty, .str ByteArray.empty, .int .i64 0, .int .i64 0]⟩
def ti48 : TI := ⟨.struct [(9, 0), (3, 1)], 2, 24, [.str ByteArray.empty, .int .i64 0]⟩
def ti72 : TI := ⟨.struct [(9, 0), (3, 1)], 2, 24, [.str ByteArray.empty, .int .i64 0]⟩
def ti9 : TI := ⟨.str, 1, 16, [.str ByteArray.empty]⟩
def ti3 : TI := ⟨.int .i64, 1, 8, [.int .i64 0]⟩
def ti33 : TI := ⟨.sl 72, 1, 24, [.sl .nil 0 []]⟩
def ti25 : TI := ⟨.sl 52, 1, 24, [.sl .nil 0 []]⟩
def ti27 : TI := ⟨.struct [(3, 0), (25, 1)], 2, 32, [.int .i64 0, .sl .nil 0 []]⟩
def ti45 : TI := ⟨.sl 33, 1, 24, [.sl .nil 0 []]⟩
def VariationPrice.ok (x : VariationPrice) : Prop := (fun s : ByteArray => s.size ≤ maxLen) x.Product ∧ (okInt .i64) x.Price ∧ True
def Op_.ok (x : Op_) : Prop := (okInt .u8) x.Kind ∧ (fun s : ByteArray => s.size ≤ maxLen) x.Buyer ∧ (fun s : ByteArray => s.size ≤ maxLen) x.Seller ∧ (fun s : ByteArray => s.size ≤ maxLen) x.Product ∧ (okInt .i64) x.Quantity ∧ (okInt .i64) x.Price ∧ (okInt .i64) x.Day ∧ (fun l : List VariationPrice => l.length ≤ maxLen ∧ ∀ x ∈ l, VariationPrice.ok x) x.Prices ∧ True
def VariationPosition.ok (x : VariationPosition) : Prop := (fun s : ByteArray => s.size ≤ maxLen) x.Member ∧ (fun s : ByteArray => s.size ≤ maxLen) x.Product ∧ (okInt .i64) x.Quantity ∧ (okInt .i64) x.Basis ∧ True
def Variation.ok (x : Variation) : Prop := (okInt .i64) x.Day ∧ (fun l : List VariationPosition => l.length ≤ maxLen ∧ ∀ x ∈ l, VariationPosition.ok x) x.Positions ∧ True
def Sums_.ok (x : Sums_) : Prop := (okInt .i64) x.quantity ∧ (okInt .i64) x.basis ∧ True
def VariationPayment.ok (x : VariationPayment) : Prop := (fun s : ByteArray => s.size ≤ maxLen) x.Member ∧ (okInt .i64) x.Amount ∧ True
theorem of_9 {d : Nat} {ps : List PV} (h : WT cfg.ty (d + 1) 9 ps) : ∃ x : ByteArray, ps = cStr x ∧ (fun s : ByteArray => s.size ≤ maxLen) x := by
  obtain ⟨n, rfl, k⟩ := wt_str (ti := ti9) (by kernel_rfl) rfl h
  exact ⟨n, rfl, k⟩
theorem of_3 {d : Nat} {ps : List PV} (h : WT cfg.ty (d + 1) 3 ps) : ∃ x : Int, ps = (cInt .i64) x ∧ (okInt .i64) x := by
  obtain ⟨n, rfl, k⟩ := wt_int (ti := ti3) (by kernel_rfl) rfl h
  exact ⟨n, rfl, k⟩
theorem of_72 {d : Nat} {ps : List PV} (h : WT cfg.ty (d + 2) 72 ps) : ∃ x : VariationPrice, ps = VariationPrice.cells x ∧ VariationPrice.ok x := by
  have g := wt_struct (ti := ti72) (by kernel_rfl) rfl h
  clear h
  obtain ⟨_, _, _, rfl, _, _, h0, g0⟩ := g
  obtain ⟨x0, rfl, k0⟩ := of_9 h0
  obtain ⟨_, _, _, rfl, _, _, h1, g1⟩ := g0
  obtain ⟨x1, rfl, k1⟩ := of_3 h1
  have e : _ = [] := g1
  subst e
  exact ⟨⟨x0, x1⟩, rfl, k0, k1, trivial⟩
theorem of_33 {d : Nat} {ps : List PV} (h : WT cfg.ty (d + 3) 33 ps) : ∃ x : List VariationPrice, ps = (cLst 2 VariationPrice.cells) x ∧ (fun l : List VariationPrice => l.length ≤ maxLen ∧ ∀ x ∈ l, VariationPrice.ok x) x := by
  obtain ⟨te, es, e1, rfl, hl, hh⟩ := wt_sl (ti := ti33) (by kernel_rfl) rfl h
  obtain rfl : te = ti72 := some_inj (e1.symm.trans (by kernel_rfl : cfg.ty 72 = some ti72))
  obtain ⟨xs, rfl, hx⟩ := list_of (c := VariationPrice.cells) (ok := VariationPrice.ok) (fun ps h => of_72 h) es (fun c hc => (hh c hc).2)
  exact ⟨xs, rfl, by simpa using hl, hx⟩
theorem of_52 {d : Nat} {ps : List PV} (h : WT cfg.ty (d + 2) 52 ps) : ∃ x : VariationPosition, ps = VariationPosition.cells x ∧ VariationPosition.ok x := by
  have g := wt_struct (ti := ti52) (by kernel_rfl) rfl h
  clear h
  obtain ⟨_, _, _, rfl, _, _, h0, g0⟩ := g
  obtain ⟨x0, rfl, k0⟩ := of_9 h0
  obtain ⟨_, _, _, rfl, _, _, h1, g1⟩ := g0
  obtain ⟨x1, rfl, k1⟩ := of_9 h1
  obtain ⟨_, _, _, rfl, _, _, h2, g2⟩ := g1
  obtain ⟨x2, rfl, k2⟩ := of_3 h2
  obtain ⟨_, _, _, rfl, _, _, h3, g3⟩ := g2
  obtain ⟨x3, rfl, k3⟩ := of_3 h3
  have e : _ = [] := g3
  subst e
  exact ⟨⟨x0, x1, x2, x3⟩, rfl, k0, k1, k2, k3, trivial⟩
theorem of_25 {d : Nat} {ps : List PV} (h : WT cfg.ty (d + 3) 25 ps) : ∃ x : List VariationPosition, ps = (cLst 4 VariationPosition.cells) x ∧ (fun l : List VariationPosition => l.length ≤ maxLen ∧ ∀ x ∈ l, VariationPosition.ok x) x := by
  obtain ⟨te, es, e1, rfl, hl, hh⟩ := wt_sl (ti := ti25) (by kernel_rfl) rfl h
  obtain rfl : te = ti52 := some_inj (e1.symm.trans (by kernel_rfl : cfg.ty 52 = some ti52))
  obtain ⟨xs, rfl, hx⟩ := list_of (c := VariationPosition.cells) (ok := VariationPosition.ok) (fun ps h => of_52 h) es (fun c hc => (hh c hc).2)
  exact ⟨xs, rfl, by simpa using hl, hx⟩
theorem of_27 {d : Nat} {ps : List PV} (h : WT cfg.ty (d + 4) 27 ps) : ∃ x : Variation, ps = Variation.cells x ∧ Variation.ok x := by
  have g := wt_struct (ti := ti27) (by kernel_rfl) rfl h
  clear h
  obtain ⟨_, _, _, rfl, _, _, h0, g0⟩ := g
  obtain ⟨x0, rfl, k0⟩ := of_3 h0
  obtain ⟨_, _, _, rfl, _, _, h1, g1⟩ := g0
  obtain ⟨x1, rfl, k1⟩ := of_25 h1
  have e : _ = [] := g1
  subst e
  exact ⟨⟨x0, x1⟩, rfl, k0, k1, trivial⟩
theorem arg_27 {p : PV} (h : WV cfg.ty 4 27 p) : ∃ x : Variation, p = .agg (Variation.cells x) ∧ Variation.ok x := by
  obtain ⟨cs, rfl, g⟩ := wv_row (ti := ti27) (by kernel_rfl) rfl h
  obtain ⟨x, rfl, k⟩ := of_27 (d := 0) g
  exact ⟨x, rfl, k⟩
theorem of_45 {d : Nat} {ps : List PV} (h : WT cfg.ty (d + 4) 45 ps) : ∃ x : List (List VariationPrice), ps = (cLst 1 (cLst 2 VariationPrice.cells)) x ∧ (fun l : List (List VariationPrice) => l.length ≤ maxLen ∧ ∀ x ∈ l, (fun l : List VariationPrice => l.length ≤ maxLen ∧ ∀ x ∈ l, VariationPrice.ok x) x) x := by
  obtain ⟨te, es, e1, rfl, hl, hh⟩ := wt_sl (ti := ti45) (by kernel_rfl) rfl h
  obtain rfl : te = ti33 := some_inj (e1.symm.trans (by kernel_rfl : cfg.ty 33 = some ti33))
  obtain ⟨xs, rfl, hx⟩ := list_of (c := (cLst 2 VariationPrice.cells)) (ok := (fun l : List VariationPrice => l.length ≤ maxLen ∧ ∀ x ∈ l, VariationPrice.ok x)) (fun ps h => of_33 h) es (fun c hc => (hh c hc).2)
  exact ⟨xs, rfl, by simpa using hl, hx⟩
theorem arg_45 {p : PV} (h : WV cfg.ty 4 45 p) : ∃ x : List (List VariationPrice), p = (.sl .any 1 (x.map (cLst 2 VariationPrice.cells))) ∧ (fun l : List (List VariationPrice) => l.length ≤ maxLen ∧ ∀ x ∈ l, (fun l : List VariationPrice => l.length ≤ maxLen ∧ ∀ x ∈ l, VariationPrice.ok x) x) x := by
  obtain ⟨_, g⟩ := wv_one (ti := ti45) (by kernel_rfl) rfl h
  obtain ⟨x, e, k⟩ := of_45 (d := 0) g
  exact ⟨x, (List.cons.inj e).1, k⟩
end Go.Proofs.Ytelblamgfbkhbaa
namespace Go.Proofs.Ytelblamgfbkhbaa
set_option linter.unusedVariables false
set_option linter.unusedSimpArgs false
set_option maxRecDepth 100000
open Go.RowKit
noncomputable def c12 : Code := Try.f12.body.getD .skip
inductive f12n0O where
  | ret (v6 : Int) (v7 : Int)
def f12n0E (a1 : Int) : f12n0O → Ex × Tr × Hp
  | .ret v6 v7 => (.ret, mkS [(2, (.bp 0 0)), (3, (.pl (.int .i64 v6)))], [some (.box [(.pl (.int .i64 v7)), (.pl (.sl .nil 0 []))])])
def f12n0S (a1 : Int) : Tr × Hp := (initS [(.pl (.int .i64 a1))] 0 .leaf, [])
noncomputable def f12n0 (a1 : Int) : Option f12n0O :=
  bif (decide (a1 < 0)) then
    some (.ret 2 0)
  else
    bif (decide (99999 < a1)) then
      some (.ret 2 0)
    else
      some (.ret 0 a1)
theorem f12n0_ok (a1 : Int) {o : f12n0O} (h : (f12n0 a1) = some o) : T Try.prog Try.f12.ntmps 0 c12 (f12n0S a1) (fun r => r = f12n0E a1 o) := by
  unfold f12n0 at h
  rcases cond_cases h with ⟨h4, h⟩ | ⟨h4, h⟩
  · obtain rfl := some_inj h
    exact runK_end cfg_ok (k := 2) (rs := [([], [], []), ([(3, true), (4, true)], [(5, .bool true)], []), ([], [], [])]) (ps := [none]) (tds := []) (m := [0]) (keep := [2, 3]) (ex := .ret) (st' := (f12n0E a1 (.ret 2 0)).2) (by kernel_rfl) (ap h4 (ap h4 (ap h4 an))) (fun h => nomatch h) rfl
  · rcases cond_cases h with ⟨h5, h⟩ | ⟨h5, h⟩
    · obtain rfl := some_inj h
      exact runK_end cfg_ok (k := 2) (rs := [([], [], []), ([(3, false), (4, false)], [(5, .bool false)], []), ([], [], [])]) (ps := [some true]) (tds := []) (m := [0]) (keep := [2, 3]) (ex := .ret) (st' := (f12n0E a1 (.ret 2 0)).2) (by kernel_rfl) (ap h4 (ap h4 (ap h4 (ap h5 an)))) (fun h => nomatch h) rfl
    · obtain rfl := some_inj h
      exact run_end cfg_ok (rs := [([], [], []), ([(3, false), (4, false)], [(5, .bool false)], []), ([], [], [])]) (ps := [some false]) (tds := []) (m := [0]) (keep := [2, 3]) (r := (.ret, (f12n0E a1 (.ret 0 a1)).2)) (by kernel_rfl) (ap h4 (ap h4 (ap h4 (ap h5 an)))) rfl
noncomputable def f12 (a1 : Int) : Option (Variation × Int) := (f12n0 a1).bind fun o => match o with
  | .ret v6 v7 => some ((Variation.mk v7 []), v6)
theorem f12_ok (a1 : Int) {r : Variation × Int} (h : (f12 a1) = some r) : CallS Try.prog false 12 [(.pl (.int .i64 a1))] [] (.tup [(.pl (.agg (Variation.cells r.1))), (.pl (.int .i64 r.2))]) [] := by
  unfold f12 at h
  obtain ⟨o, ho, h⟩ := bind_cases h
  cases o with
  | ret v6 v7 =>
    obtain rfl := some_inj h
    exact CallS.plain cfg_ok (f := Try.f12) (c := c12) (by kernel_rfl) (by kernel_rfl) (by kernel_rfl) (by kernel_rfl) ((f12n0_ok a1 ho).mono fun r e => by subst e; exact ⟨.inl rfl, (.tup [(.pl (.agg [(.int .i64 v7), (.sl .nil 0 [])])), (.pl (.int .i64 v6))]), (.tup [(.pl (.agg [(.int .i64 v7), (.sl .nil 0 [])])), (.pl (.int .i64 v6))]), by kernel_rfl, by kernel_rfl, ((Wk.tup (wlc (Wk.pl (WkP.agg (wpc (WkP.refl _) (wpc (WkP.nil (f := .nil) (sz := 0) (sz' := 4)) wpn)))) (wlc (Wk.refl _) wln))) : Wk (.tup [(.pl (.agg [(.int .i64 v7), (.sl .nil 0 [])])), (.pl (.int .i64 v6))]) (.tup [(.pl (.agg (Variation.cells (Variation.mk v7 [])))), (.pl (.int .i64 v6))]))⟩)

noncomputable def c37 : Code := Try.f37.body.getD .skip
inductive f37n0O where
  | ret (v5 : Bool)
def f37n0E (a1 : Int) (a2 : Int) : f37n0O → Ex × Tr × Hp
  | .ret v5 => (.ret, mkS [(4, (.pl (.bool v5)))], [])
def f37n0S (a1 : Int) (a2 : Int) : Tr × Hp := (initS [(.pl (.int .i64 a1)), (.pl (.int .i64 a2))] 0 .leaf, [])
noncomputable def f37n0 (a1 : Int) (a2 : Int) : Option f37n0O :=
  bif (decide ((wr64 (0 - a2)) ≤ a1)) then
    some (.ret (decide (a1 ≤ a2)))
  else
    some (.ret false)
theorem f37n0_ok (a1 : Int) (a2 : Int) {o : f37n0O} (h : (f37n0 a1 a2) = some o) : T Try.prog Try.f37.ntmps 0 c37 (f37n0S a1 a2) (fun r => r = f37n0E a1 a2 o) := by
  unfold f37n0 at h
  rcases cond_cases h with ⟨h4, h⟩ | ⟨h4, h⟩
  · obtain rfl := some_inj h
    exact run_end cfg_ok (rs := [([], [], []), ([(5, true), (6, true), (7, true)], [(8, .bool true)], [])]) (ps := []) (tds := []) (m := []) (keep := [4]) (r := (.ret, (f37n0E a1 a2 (.ret (decide (a1 ≤ a2)))).2)) (by kernel_rfl) (ap h4 (ap h4 (ap h4 (ap h4 an)))) rfl
  · obtain rfl := some_inj h
    exact run_end cfg_ok (rs := [([], [], []), ([(5, false), (6, false), (7, false)], [(8, .bool false)], [])]) (ps := []) (tds := []) (m := []) (keep := [4]) (r := (.ret, (f37n0E a1 a2 (.ret false)).2)) (by kernel_rfl) (ap h4 (ap h4 (ap h4 (ap h4 an)))) rfl
noncomputable def f37 (a1 : Int) (a2 : Int) : Option Bool := (f37n0 a1 a2).bind fun o => match o with
  | .ret v5 => some v5
theorem f37_ok (a1 : Int) (a2 : Int) {r : Bool} (h : (f37 a1 a2) = some r) : CallS Try.prog false 37 [(.pl (.int .i64 a1)), (.pl (.int .i64 a2))] [] (.pl (.bool r)) [] := by
  unfold f37 at h
  obtain ⟨o, ho, h⟩ := bind_cases h
  cases o with
  | ret v5 =>
    obtain rfl := some_inj h
    exact CallS.plain cfg_ok (f := Try.f37) (c := c37) (by kernel_rfl) (by kernel_rfl) (by kernel_rfl) (by kernel_rfl) ((f37n0_ok a1 a2 ho).mono fun r e => by subst e; exact ⟨.inl rfl, (.pl (.bool v5)), (.pl (.bool v5)), by kernel_rfl, by kernel_rfl, ((Wk.refl _) : Wk (.pl (.bool v5)) (.pl (.bool v5)))⟩)

noncomputable def c62 : Code := Try.f62.body.getD .skip
inductive f62n0O where
  | ret (v10 : Bool)
def f62n0E (a1 : Int) : f62n0O → Ex × Tr × Hp
  | .ret v10 => (.ret, mkS [(2, (.pl (.bool v10)))], [])
def f62n0S (a1 : Int) : Tr × Hp := (initS [(.pl (.int .u8 a1))] 0 .leaf, [])
noncomputable def f62n0 (a1 : Int) : Option f62n0O :=
  bif (decide (97 ≤ a1)) then
    bif (decide (a1 ≤ 122)) then
      some (.ret true)
    else
      bif (decide (65 ≤ a1)) then
        some (.ret (decide (a1 ≤ 90)))
      else
        some (.ret false)
  else
    bif (decide (65 ≤ a1)) then
      some (.ret (decide (a1 ≤ 90)))
    else
      some (.ret false)
theorem f62n0_ok (a1 : Int) {o : f62n0O} (h : (f62n0 a1) = some o) : T Try.prog Try.f62.ntmps 0 c62 (f62n0S a1) (fun r => r = f62n0E a1 o) := by
  unfold f62n0 at h
  rcases cond_cases h with ⟨h6, h⟩ | ⟨h6, h⟩
  · rcases cond_cases h with ⟨h7, h⟩ | ⟨h7, h⟩
    · obtain rfl := some_inj h
      exact run_end cfg_ok (rs := [([], [], []), ([(3, true), (4, true), (7, true), (8, true), (9, true), (12, true)], [(5, .bool true), (13, .bool true)], [])]) (ps := []) (tds := []) (m := []) (keep := [2]) (r := (.ret, (f62n0E a1 (.ret true)).2)) (by kernel_rfl) (ap h6 (ap h6 (ap h6 (ap h7 (ap h7 (ap h7 (ap h7 (ap h7 an)))))))) rfl
    · rcases cond_cases h with ⟨h8, h⟩ | ⟨h8, h⟩
      · obtain rfl := some_inj h
        exact run_end cfg_ok (rs := [([], [], []), ([(3, true), (4, true), (7, false), (8, false), (9, false), (10, true), (11, true), (12, false)], [(5, .bool true), (12, .bool true), (13, .bool false)], [])]) (ps := []) (tds := []) (m := []) (keep := [2]) (r := (.ret, (f62n0E a1 (.ret (decide (a1 ≤ 90)))).2)) (by kernel_rfl) (ap h6 (ap h6 (ap h6 (ap h7 (ap h7 (ap h7 (ap h8 (ap h8 (ap h7 (ap h8 (ap h7 an))))))))))) rfl
      · obtain rfl := some_inj h
        exact run_end cfg_ok (rs := [([], [], []), ([(3, true), (4, true), (7, false), (8, false), (9, false), (10, false), (11, false), (12, false)], [(5, .bool true), (12, .bool false), (13, .bool false)], [])]) (ps := []) (tds := []) (m := []) (keep := [2]) (r := (.ret, (f62n0E a1 (.ret false)).2)) (by kernel_rfl) (ap h6 (ap h6 (ap h6 (ap h7 (ap h7 (ap h7 (ap h8 (ap h8 (ap h7 (ap h8 (ap h7 an))))))))))) rfl
  · rcases cond_cases h with ⟨h9, h⟩ | ⟨h9, h⟩
    · obtain rfl := some_inj h
      exact run_end cfg_ok (rs := [([], [], []), ([(3, false), (4, false), (10, true), (11, true)], [(5, .bool false), (12, .bool true)], [])]) (ps := []) (tds := []) (m := []) (keep := [2]) (r := (.ret, (f62n0E a1 (.ret (decide (a1 ≤ 90)))).2)) (by kernel_rfl) (ap h6 (ap h6 (ap h6 (ap h9 (ap h9 (ap h9 an)))))) rfl
    · obtain rfl := some_inj h
      exact run_end cfg_ok (rs := [([], [], []), ([(3, false), (4, false), (10, false), (11, false)], [(5, .bool false), (12, .bool false)], [])]) (ps := []) (tds := []) (m := []) (keep := [2]) (r := (.ret, (f62n0E a1 (.ret false)).2)) (by kernel_rfl) (ap h6 (ap h6 (ap h6 (ap h9 (ap h9 (ap h9 an)))))) rfl
noncomputable def f62 (a1 : Int) : Option Bool := (f62n0 a1).bind fun o => match o with
  | .ret v10 => some v10
theorem f62_ok (a1 : Int) {r : Bool} (h : (f62 a1) = some r) : CallS Try.prog false 62 [(.pl (.int .u8 a1))] [] (.pl (.bool r)) [] := by
  unfold f62 at h
  obtain ⟨o, ho, h⟩ := bind_cases h
  cases o with
  | ret v10 =>
    obtain rfl := some_inj h
    exact CallS.plain cfg_ok (f := Try.f62) (c := c62) (by kernel_rfl) (by kernel_rfl) (by kernel_rfl) (by kernel_rfl) ((f62n0_ok a1 ho).mono fun r e => by subst e; exact ⟨.inl rfl, (.pl (.bool v10)), (.pl (.bool v10)), by kernel_rfl, by kernel_rfl, ((Wk.refl _) : Wk (.pl (.bool v10)) (.pl (.bool v10)))⟩)

noncomputable def c45 : Code := Try.f45.body.getD .skip
inductive f45n2O where
  | exit0
  | ret
def f45n2E (bb1 : ByteArray) : f45n2O → Ex × Tr × Hp
  | .exit0 => ((.exit 0), mkS [], [])
  | .ret => (.ret, mkS [(2, (.pl (.bool false)))], [])
def f45n2S (bb1 : ByteArray) (v65 : Int) : Tr × Hp := (mkS [(0, (.pl (.str bb1))), (20, (.pl (.int .i64 (bb1.size : Int)))), (21, (.pl (.int .i64 v65)))], [])
noncomputable def f45n2 : Nat → ByteArray → Int → Option f45n2O
  | 0, _, _ => none
  | f + 1, bb1, v65 =>
    bif (decide (v65 < (bb1.size : Int))) then
      (at? bb1.data.toList v65).bind fun x79 =>
      (f62 (x79.toNat : Int)).bind fun x81 =>
      bif x81 then
        (f45n2 f bb1 (wr64 (v65 + 1)))
      else
        bif (decide ((x79.toNat : Int) < 48)) then
          bif (decide ((x79.toNat : Int) = 95)) then
            (f45n2 f bb1 (wr64 (v65 + 1)))
          else
            bif (decide ((x79.toNat : Int) = 45)) then
              (f45n2 f bb1 (wr64 (v65 + 1)))
            else
              some .ret
        else
          bif (decide (57 < (x79.toNat : Int))) then
            bif (decide ((x79.toNat : Int) = 95)) then
              (f45n2 f bb1 (wr64 (v65 + 1)))
            else
              bif (decide ((x79.toNat : Int) = 45)) then
                (f45n2 f bb1 (wr64 (v65 + 1)))
              else
                some .ret
          else
            (f45n2 f bb1 (wr64 (v65 + 1)))
    else
      some .exit0
theorem f45n2_ok : ∀ (f : Nat) (bb1 : ByteArray) (v65 : Int) {o : f45n2O}, (f45n2 f bb1 v65) = some o → TL Try.prog Try.f45.ntmps 0 f (cL (cL (dropC 1 (cL (dropC 2 c45))))) (f45n2S bb1 v65) (fun r => r = f45n2E bb1 o)
  | 0, _, _, o, h => by rw [f45n2] at h; cases h
  | f + 1, bb1, v65, o, h => by
    rw [f45n2] at h
    refine TL.body (K := fun s => ∃ v65 : Int, s = (f45n2S bb1 v65) ∧ (f45n2 f bb1 v65) = some o) ?_ (by rintro _ ⟨v65, rfl, hk⟩; exact f45n2_ok f _ _ hk)
    rcases cond_cases h with ⟨h67, h⟩ | ⟨h67, h⟩
    · obtain ⟨x79, h80, h⟩ := bind_cases h
      obtain ⟨x81, h82, h⟩ := bind_cases h
      rcases cond_cases h with ⟨h83, h⟩ | ⟨h83, h⟩
      · exact run_end cfg_ok (rs := [([], [], []), ([], [], []), ([], [(2, .byte (Int.toNat v65) x79)], []), ([(4, false), (5, false), (6, false), (9, false)], [(1, .call (.pl (.bool x81)) []), (10, .bool false)], []), ([], [], [])]) (ps := [some true, none]) (tds := []) (m := []) (keep := [0, 20, 21]) (r := (.norm, (f45n2S bb1 (wr64 (v65 + 1))))) (by kernel_rfl) (ap h67 (ap (at_some h80).1 (ap (at_some h80).2 (ap (not_t h83) (ap (not_t h83) (ap (not_t h83) (ap (not_t h83) (ap (not_t h83) (ap (f62_ok (x79.toNat : Int) h82) an))))))))) (LoopQ.norm ⟨(wr64 (v65 + 1)), rfl, h⟩)
      · rcases cond_cases h with ⟨h84, h⟩ | ⟨h84, h⟩
        · rcases cond_cases h with ⟨h85, h⟩ | ⟨h85, h⟩
          · exact run_end cfg_ok (rs := [([], [], []), ([], [], []), ([], [(2, .byte (Int.toNat v65) x79)], []), ([(4, true), (5, true), (6, true), (7, true), (8, true), (9, true), (16, false), (17, false)], [(1, .call (.pl (.bool x81)) []), (9, .bool true), (10, .bool true), (18, .bool false)], []), ([], [], [])]) (ps := [some true, none]) (tds := []) (m := []) (keep := [0, 20, 21]) (r := (.norm, (f45n2S bb1 (wr64 (v65 + 1))))) (by kernel_rfl) (ap h67 (ap (at_some h80).1 (ap (at_some h80).2 (ap (not_f h83) (ap (not_f h83) (ap (not_f h83) (ap h84 (ap h84 (ap (not_f h83) (ap h84 (ap (not_f h83) (ap (not_t h85) (ap (not_t h85) (ap (not_t h85) (ap (f62_ok (x79.toNat : Int) h82) an))))))))))))))) (LoopQ.norm ⟨(wr64 (v65 + 1)), rfl, h⟩)
          · rcases cond_cases h with ⟨h86, h⟩ | ⟨h86, h⟩
            · exact run_end cfg_ok (rs := [([], [], []), ([], [], []), ([], [(2, .byte (Int.toNat v65) x79)], []), ([(4, true), (5, true), (6, true), (7, true), (8, true), (9, true), (16, true), (17, true)], [(1, .call (.pl (.bool x81)) []), (9, .bool true), (10, .bool true), (18, .bool true)], []), ([], [], [])]) (ps := [some true, some false]) (tds := []) (m := []) (keep := [0, 20, 21]) (r := (.norm, (f45n2S bb1 (wr64 (v65 + 1))))) (by kernel_rfl) (ap h67 (ap (at_some h80).1 (ap (at_some h80).2 (ap (not_f h83) (ap (not_f h83) (ap (not_f h83) (ap h84 (ap h84 (ap (not_f h83) (ap h84 (ap (not_f h83) (ap (not_f h85) (ap (not_f h85) (ap (not_f h85) (ap (f62_ok (x79.toNat : Int) h82) (ap (not_t h86) an)))))))))))))))) (LoopQ.norm ⟨(wr64 (v65 + 1)), rfl, h⟩)
            · obtain rfl := some_inj h
              exact runK_end cfg_ok (k := 3) (rs := [([], [], []), ([], [], []), ([], [(2, .byte (Int.toNat v65) x79)], []), ([(4, true), (5, true), (6, true), (7, true), (8, true), (9, true), (16, true), (17, true)], [(1, .call (.pl (.bool x81)) []), (9, .bool true), (10, .bool true), (18, .bool true)], []), ([], [], [])]) (ps := [some true, some true]) (tds := []) (m := []) (keep := [2]) (ex := .ret) (st' := (f45n2E bb1 .ret).2) (by kernel_rfl) (ap h67 (ap (at_some h80).1 (ap (at_some h80).2 (ap (not_f h83) (ap (not_f h83) (ap (not_f h83) (ap h84 (ap h84 (ap (not_f h83) (ap h84 (ap (not_f h83) (ap (not_f h85) (ap (not_f h85) (ap (not_f h85) (ap (f62_ok (x79.toNat : Int) h82) (ap (not_f h86) an)))))))))))))))) (fun h => nomatch h) (LoopQ.out rfl rfl)
        · rcases cond_cases h with ⟨h87, h⟩ | ⟨h87, h⟩
          · rcases cond_cases h with ⟨h88, h⟩ | ⟨h88, h⟩
            · exact run_end cfg_ok (rs := [([], [], []), ([], [], []), ([], [(2, .byte (Int.toNat v65) x79)], []), ([(4, true), (5, true), (6, true), (7, false), (8, false), (9, true), (12, true), (13, true), (16, false), (17, false)], [(1, .call (.pl (.bool x81)) []), (9, .bool false), (10, .bool true), (14, .bool true), (18, .bool false)], []), ([], [], [])]) (ps := [some true, none]) (tds := []) (m := []) (keep := [0, 20, 21]) (r := (.norm, (f45n2S bb1 (wr64 (v65 + 1))))) (by kernel_rfl) (ap h67 (ap (at_some h80).1 (ap (at_some h80).2 (ap (not_f h83) (ap (not_f h83) (ap (not_f h83) (ap h84 (ap h84 (ap (not_f h83) (ap h84 (ap (not_f h83) (ap h87 (ap h87 (ap h87 (ap (not_t h88) (ap (not_t h88) (ap (not_t h88) (ap (f62_ok (x79.toNat : Int) h82) an)))))))))))))))))) (LoopQ.norm ⟨(wr64 (v65 + 1)), rfl, h⟩)
            · rcases cond_cases h with ⟨h89, h⟩ | ⟨h89, h⟩
              · exact run_end cfg_ok (rs := [([], [], []), ([], [], []), ([], [(2, .byte (Int.toNat v65) x79)], []), ([(4, true), (5, true), (6, true), (7, false), (8, false), (9, true), (12, true), (13, true), (16, true), (17, true)], [(1, .call (.pl (.bool x81)) []), (9, .bool false), (10, .bool true), (14, .bool true), (18, .bool true)], []), ([], [], [])]) (ps := [some true, some false]) (tds := []) (m := []) (keep := [0, 20, 21]) (r := (.norm, (f45n2S bb1 (wr64 (v65 + 1))))) (by kernel_rfl) (ap h67 (ap (at_some h80).1 (ap (at_some h80).2 (ap (not_f h83) (ap (not_f h83) (ap (not_f h83) (ap h84 (ap h84 (ap (not_f h83) (ap h84 (ap (not_f h83) (ap h87 (ap h87 (ap h87 (ap (not_f h88) (ap (not_f h88) (ap (not_f h88) (ap (f62_ok (x79.toNat : Int) h82) (ap (not_t h89) an))))))))))))))))))) (LoopQ.norm ⟨(wr64 (v65 + 1)), rfl, h⟩)
              · obtain rfl := some_inj h
                exact runK_end cfg_ok (k := 3) (rs := [([], [], []), ([], [], []), ([], [(2, .byte (Int.toNat v65) x79)], []), ([(4, true), (5, true), (6, true), (7, false), (8, false), (9, true), (12, true), (13, true), (16, true), (17, true)], [(1, .call (.pl (.bool x81)) []), (9, .bool false), (10, .bool true), (14, .bool true), (18, .bool true)], []), ([], [], [])]) (ps := [some true, some true]) (tds := []) (m := []) (keep := [2]) (ex := .ret) (st' := (f45n2E bb1 .ret).2) (by kernel_rfl) (ap h67 (ap (at_some h80).1 (ap (at_some h80).2 (ap (not_f h83) (ap (not_f h83) (ap (not_f h83) (ap h84 (ap h84 (ap (not_f h83) (ap h84 (ap (not_f h83) (ap h87 (ap h87 (ap h87 (ap (not_f h88) (ap (not_f h88) (ap (not_f h88) (ap (f62_ok (x79.toNat : Int) h82) (ap (not_f h89) an))))))))))))))))))) (fun h => nomatch h) (LoopQ.out rfl rfl)
          · exact run_end cfg_ok (rs := [([], [], []), ([], [], []), ([], [(2, .byte (Int.toNat v65) x79)], []), ([(4, true), (5, true), (6, true), (7, false), (8, false), (9, true), (12, false), (13, false)], [(1, .call (.pl (.bool x81)) []), (9, .bool false), (10, .bool true), (14, .bool false)], []), ([], [], [])]) (ps := [some true, none]) (tds := []) (m := []) (keep := [0, 20, 21]) (r := (.norm, (f45n2S bb1 (wr64 (v65 + 1))))) (by kernel_rfl) (ap h67 (ap (at_some h80).1 (ap (at_some h80).2 (ap (not_f h83) (ap (not_f h83) (ap (not_f h83) (ap h84 (ap h84 (ap (not_f h83) (ap h84 (ap (not_f h83) (ap h87 (ap h87 (ap h87 (ap (f62_ok (x79.toNat : Int) h82) an))))))))))))))) (LoopQ.norm ⟨(wr64 (v65 + 1)), rfl, h⟩)
    · obtain rfl := some_inj h
      exact runK_end cfg_ok (k := 2) (rs := [([], [], [])]) (ps := [some false]) (tds := []) (m := []) (keep := []) (ex := (.exit 0)) (st' := (f45n2E bb1 .exit0).2) (by kernel_rfl) (ap h67 an) (fun h => nomatch h) (LoopQ.out rfl rfl)
noncomputable def f45n2L (bb1 : ByteArray) : List UInt8 → Int → Option f45n2O
  | [], v65 =>
    some .exit0
  | x0 :: rest, v65 =>
    (f62 (x0.toNat : Int)).bind fun x81 =>
    bif x81 then
      (f45n2L bb1 rest (v65 + 1))
    else
      bif (decide ((x0.toNat : Int) < 48)) then
        bif (decide ((x0.toNat : Int) = 95)) then
          (f45n2L bb1 rest (v65 + 1))
        else
          bif (decide ((x0.toNat : Int) = 45)) then
            (f45n2L bb1 rest (v65 + 1))
          else
            some .ret
      else
        bif (decide (57 < (x0.toNat : Int))) then
          bif (decide ((x0.toNat : Int) = 95)) then
            (f45n2L bb1 rest (v65 + 1))
          else
            bif (decide ((x0.toNat : Int) = 45)) then
              (f45n2L bb1 rest (v65 + 1))
            else
              some .ret
        else
          (f45n2L bb1 rest (v65 + 1))
theorem f45n2L_eq (bb1 : ByteArray) : ∀ (rest : List UInt8) (f k : Nat), bb1.data.toList.drop k = rest → bb1.data.toList.length ≤ maxLen → rest.length < f → f45n2 f bb1 (k : Int) = f45n2L bb1 rest (k : Int)
  | _, 0, _, _, _, hf => absurd hf (Nat.not_lt_zero _)
  | [], f + 1, k, hd, hm, hf => by
    have hk : ¬ ((k : Int) < (bb1.data.toList.length : Int)) := by have := drop_nil hd; omega
    rw [f45n2, f45n2L]
    simp only [size_list, decide_eq_false hk, cond_false]
  | x0 :: rest, f + 1, k, hd, hm, hf => by
    obtain ⟨hx, hlt, hd'⟩ := drop_cons hd
    have hk : (k : Int) < (bb1.data.toList.length : Int) := by omega
    have hw : wr64 ((k : Int) + 1) = (k : Int) + 1 := wr64_of (by omega) (by unfold maxLen at hm; omega)
    have ih : f45n2 f bb1 ((k : Int) + 1) = f45n2L bb1 rest ((k : Int) + 1) := f45n2L_eq bb1 rest f (k + 1) hd' hm (by simpa using hf)
    rw [f45n2, f45n2L]
    simp only [size_list, decide_eq_true hk, cond_true, at_nat, hx, Option.bind_some, hw, ih]
theorem f45n2_run (bb1 : ByteArray) (hm : bb1.data.toList.length ≤ maxLen) : f45n2 FUEL bb1 0 = f45n2L bb1 bb1.data.toList 0 := f45n2L_eq bb1 bb1.data.toList FUEL 0 List.drop_zero hm (lt_FUEL hm)
inductive f45n1O where
  | norm
  | ret
def f45n1E (bb1 : ByteArray) : f45n1O → Ex × Tr × Hp
  | .norm => (.norm, mkS [], [])
  | .ret => (.ret, mkS [(2, (.pl (.bool false)))], [])
def f45n1S (bb1 : ByteArray) : Tr × Hp := (mkS [(0, (.pl (.str bb1)))], [])
noncomputable def f45n1 (bb1 : ByteArray) : Option f45n1O :=
  (f45n2 FUEL bb1 0).bind fun o90 => match o90 with
  | .exit0 => some .norm
  | .ret => some .ret
theorem f45n1_ok (bb1 : ByteArray) {o : f45n1O} (h : (f45n1 bb1) = some o) : T Try.prog Try.f45.ntmps 0 (cL (dropC 2 c45)) (f45n1S bb1) (fun r => r = f45n1E bb1 o) := by
  unfold f45n1 at h
  refine runK_norm cfg_ok (k := 1) (rs := [([], [], [])]) (ps := []) (tds := []) (m := []) (keep := [0, 20, 21]) (st' := (f45n2S bb1 0)) (by kernel_rfl) an ?_
  obtain ⟨o90, h91, h⟩ := bind_cases h
  cases o90 with
  | exit0 =>
    obtain rfl := some_inj h
    exact T.last' (T.bl (i := 0) (by kernel_rfl) (by kernel_rfl) (f45n2_ok FUEL bb1 0 h91)) (tds := []) (m := []) (keep := []) (st2 := (f45n1E bb1 .norm).2) (by kernel_rfl) an rfl
  | ret =>
    obtain rfl := some_inj h
    exact T.last' (T.bl (i := 0) (by kernel_rfl) (by kernel_rfl) (f45n2_ok FUEL bb1 0 h91)) (tds := []) (m := []) (keep := [2]) (st2 := (f45n1E bb1 .ret).2) (by kernel_rfl) an rfl
inductive f45n0O where
  | ret (v94 : Bool)
def f45n0E (a1 : ByteArray) : f45n0O → Ex × Tr × Hp
  | .ret v94 => (.ret, mkS [(2, (.pl (.bool v94)))], [])
def f45n0S (a1 : ByteArray) : Tr × Hp := (initS [(.pl (.str a1))] 0 .leaf, [])
noncomputable def f45n0 (a1 : ByteArray) : Option f45n0O :=
  bif (decide ((a1.size : Int) < 1)) then
    some (.ret false)
  else
    bif (decide (40 < (a1.size : Int))) then
      some (.ret false)
    else
      (at? a1.data.toList 0).bind fun x11 =>
      (f62 (x11.toNat : Int)).bind fun x13 =>
      bif x13 then
        (f45n1 a1).bind fun o92 => match o92 with
        | .norm => some (.ret true)
        | .ret => some (.ret false)
      else
        some (.ret false)
theorem f45n0_ok (a1 : ByteArray) {o : f45n0O} (h : (f45n0 a1) = some o) : T Try.prog Try.f45.ntmps 0 c45 (f45n0S a1) (fun r => r = f45n0E a1 o) := by
  unfold f45n0 at h
  rcases cond_cases h with ⟨h9, h⟩ | ⟨h9, h⟩
  · obtain rfl := some_inj h
    exact runK_end cfg_ok (k := 2) (rs := [([], [], []), ([(4, true), (5, true), (6, true)], [(7, .bool true)], []), ([], [], [])]) (ps := [none]) (tds := []) (m := []) (keep := [2]) (ex := .ret) (st' := (f45n0E a1 (.ret false)).2) (by kernel_rfl) (ap h9 (ap h9 (ap h9 (ap h9 an)))) (fun h => nomatch h) rfl
  · rcases cond_cases h with ⟨h10, h⟩ | ⟨h10, h⟩
    · obtain rfl := some_inj h
      exact runK_end cfg_ok (k := 2) (rs := [([], [], []), ([(4, false), (5, false), (6, false), (9, true), (10, true), (11, true), (12, true)], [(7, .bool false), (13, .bool true)], []), ([], [], [])]) (ps := [none]) (tds := []) (m := []) (keep := [2]) (ex := .ret) (st' := (f45n0E a1 (.ret false)).2) (by kernel_rfl) (ap h9 (ap h9 (ap h9 (ap h9 (ap h10 (ap h10 (ap h10 (ap h10 (ap h10 an))))))))) (fun h => nomatch h) rfl
    · obtain ⟨x11, h12, h⟩ := bind_cases h
      obtain ⟨x13, h14, h⟩ := bind_cases h
      rcases cond_cases h with ⟨h15, h⟩ | ⟨h15, h⟩
      · refine runK_norm cfg_ok (k := 2) (rs := [([], [], []), ([(4, false), (5, false), (6, false), (9, false), (10, false), (11, false), (12, false)], [(7, .bool false), (10, .byte (Int.toNat 0) x11), (11, .call (.pl (.bool x13)) []), (13, .bool false)], [])]) (ps := [some false]) (tds := []) (m := []) (keep := [0]) (st' := (f45n1S a1)) (by kernel_rfl) (ap h9 (ap h9 (ap h9 (ap h9 (ap h10 (ap h10 (ap (at_some h12).1 (ap (at_some h12).2 (ap h10 (ap h10 (ap h10 (ap (f62_ok (x11.toNat : Int) h14) (ap (not_t h15) an))))))))))))) ?_
        obtain ⟨o92, h93, h⟩ := bind_cases h
        cases o92 with
        | norm =>
          refine T.oneN (by kernel_rfl) (f45n1_ok a1 h93) (st2 := (f45n1E a1 .norm).2) rfl ?_
          obtain rfl := some_inj h
          exact run_end cfg_ok (rs := [([], [], [])]) (ps := []) (tds := []) (m := []) (keep := [2]) (r := (.ret, (f45n0E a1 (.ret true)).2)) (by kernel_rfl) an rfl
        | ret =>
          obtain rfl := some_inj h
          exact T.oneX' (by kernel_rfl) (f45n1_ok a1 h93) (tds := []) (m := []) (keep := [2]) (st2 := (f45n0E a1 (.ret false)).2) (by kernel_rfl) an rfl rfl
      · obtain rfl := some_inj h
        exact runK_end cfg_ok (k := 2) (rs := [([], [], []), ([(4, false), (5, false), (6, false), (9, false), (10, false), (11, false), (12, false)], [(7, .bool false), (10, .byte (Int.toNat 0) x11), (11, .call (.pl (.bool x13)) []), (13, .bool false)], []), ([], [], [])]) (ps := [some true]) (tds := []) (m := []) (keep := [2]) (ex := .ret) (st' := (f45n0E a1 (.ret false)).2) (by kernel_rfl) (ap h9 (ap h9 (ap h9 (ap h9 (ap h10 (ap h10 (ap (at_some h12).1 (ap (at_some h12).2 (ap h10 (ap h10 (ap h10 (ap (f62_ok (x11.toNat : Int) h14) (ap (not_f h15) an))))))))))))) (fun h => nomatch h) rfl
noncomputable def f45 (a1 : ByteArray) : Option Bool := (f45n0 a1).bind fun o => match o with
  | .ret v94 => some v94
theorem f45_ok (a1 : ByteArray) {r : Bool} (h : (f45 a1) = some r) : CallS Try.prog false 45 [(.pl (.str a1))] [] (.pl (.bool r)) [] := by
  unfold f45 at h
  obtain ⟨o, ho, h⟩ := bind_cases h
  cases o with
  | ret v94 =>
    obtain rfl := some_inj h
    exact CallS.plain cfg_ok (f := Try.f45) (c := c45) (by kernel_rfl) (by kernel_rfl) (by kernel_rfl) (by kernel_rfl) ((f45n0_ok a1 ho).mono fun r e => by subst e; exact ⟨.inl rfl, (.pl (.bool v94)), (.pl (.bool v94)), by kernel_rfl, by kernel_rfl, ((Wk.refl _) : Wk (.pl (.bool v94)) (.pl (.bool v94)))⟩)

noncomputable def c44 : Code := Try.f44.body.getD .skip
inductive f44n0O where
  | ret (v8 : Bool)
def f44n0E (a1 : ByteArray) : f44n0O → Ex × Tr × Hp
  | .ret v8 => (.ret, mkS [(2, (.pl (.bool v8)))], [])
def f44n0S (a1 : ByteArray) : Tr × Hp := (initS [(.pl (.str a1))] 0 .leaf, [])
noncomputable def f44n0 (a1 : ByteArray) : Option f44n0O :=
  bif (seq a1 str_house) then
    some (.ret false)
  else
    (f45 a1).bind fun x6 =>
    some (.ret x6)
theorem f44n0_ok (a1 : ByteArray) {o : f44n0O} (h : (f44n0 a1) = some o) : T Try.prog Try.f44.ntmps 0 c44 (f44n0S a1) (fun r => r = f44n0E a1 o) := by
  unfold f44n0 at h
  rcases cond_cases h with ⟨h5, h⟩ | ⟨h5, h⟩
  · obtain rfl := some_inj h
    exact run_end cfg_ok (rs := [([], [], []), ([(3, false), (4, false)], [(5, .bool false)], [])]) (ps := []) (tds := []) (m := []) (keep := [2]) (r := (.ret, (f44n0E a1 (.ret false)).2)) (by kernel_rfl) (ap (not_t h5) (ap (not_t h5) (ap (not_t h5) an))) rfl
  · obtain ⟨x6, h7, h⟩ := bind_cases h
    obtain rfl := some_inj h
    exact run_end cfg_ok (rs := [([], [], []), ([(3, true), (4, true)], [(4, .call (.pl (.bool x6)) []), (5, .bool true)], [])]) (ps := []) (tds := []) (m := []) (keep := [2]) (r := (.ret, (f44n0E a1 (.ret x6)).2)) (by kernel_rfl) (ap (not_f h5) (ap (not_f h5) (ap (not_f h5) (ap (f45_ok a1 h7) an)))) rfl
noncomputable def f44 (a1 : ByteArray) : Option Bool := (f44n0 a1).bind fun o => match o with
  | .ret v8 => some v8
theorem f44_ok (a1 : ByteArray) {r : Bool} (h : (f44 a1) = some r) : CallS Try.prog false 44 [(.pl (.str a1))] [] (.pl (.bool r)) [] := by
  unfold f44 at h
  obtain ⟨o, ho, h⟩ := bind_cases h
  cases o with
  | ret v8 =>
    obtain rfl := some_inj h
    exact CallS.plain cfg_ok (f := Try.f44) (c := c44) (by kernel_rfl) (by kernel_rfl) (by kernel_rfl) (by kernel_rfl) ((f44n0_ok a1 ho).mono fun r e => by subst e; exact ⟨.inl rfl, (.pl (.bool v8)), (.pl (.bool v8)), by kernel_rfl, by kernel_rfl, ((Wk.refl _) : Wk (.pl (.bool v8)) (.pl (.bool v8)))⟩)

noncomputable def c61 : Code := Try.f61.body.getD .skip
inductive f61n0O where
  | ret
def f61n0E (a1 : ByteArray) : f61n0O → Ex × Tr × Hp
  | .ret => (.ret, mkS [(2, (.pl (.bool (!(seq a1 a1)))))], [])
def f61n0S (a1 : ByteArray) : Tr × Hp := (initS [(.pl (.str a1))] 0 .leaf, [])
noncomputable def f61n0 (a1 : ByteArray) : Option f61n0O :=
  some .ret
theorem f61n0_ok (a1 : ByteArray) {o : f61n0O} (h : (f61n0 a1) = some o) : T Try.prog Try.f61.ntmps 0 c61 (f61n0S a1) (fun r => r = f61n0E a1 o) := by
  unfold f61n0 at h
  obtain rfl := some_inj h
  exact run_end cfg_ok (rs := [([], [], []), ([], [], [])]) (ps := []) (tds := []) (m := []) (keep := [2]) (r := (.ret, (f61n0E a1 .ret).2)) (by kernel_rfl) an rfl
noncomputable def f61 (a1 : ByteArray) : Option Bool := (f61n0 a1).bind fun o => match o with
  | .ret => some (!(seq a1 a1))
theorem f61_ok (a1 : ByteArray) {r : Bool} (h : (f61 a1) = some r) : CallS Try.prog false 61 [(.pl (.str a1))] [] (.pl (.bool r)) [] := by
  unfold f61 at h
  obtain ⟨o, ho, h⟩ := bind_cases h
  cases o with
  | ret =>
    obtain rfl := some_inj h
    exact CallS.plain cfg_ok (f := Try.f61) (c := c61) (by kernel_rfl) (by kernel_rfl) (by kernel_rfl) (by kernel_rfl) ((f61n0_ok a1 ho).mono fun r e => by subst e; exact ⟨.inl rfl, (.pl (.bool (!(seq a1 a1)))), (.pl (.bool (!(seq a1 a1)))), by kernel_rfl, by kernel_rfl, ((Wk.refl _) : Wk (.pl (.bool (!(seq a1 a1)))) (.pl (.bool (!(seq a1 a1)))))⟩)

noncomputable def c40 : Code := Try.f40.body.getD .skip
inductive f40n0O where
  | ret (v21 : Int)
def f40n0E (a1 : ByteArray) (a2 : ByteArray) : f40n0O → Ex × Tr × Hp
  | .ret v21 => (.ret, mkS [(4, (.pl (.int .i64 v21)))], [])
def f40n0S (a1 : ByteArray) (a2 : ByteArray) : Tr × Hp := (initS [(.pl (.str a1)), (.pl (.str a2))] 0 .leaf, [])
noncomputable def f40n0 (a1 : ByteArray) (a2 : ByteArray) : Option f40n0O :=
  (f61 a1).bind fun x5 =>
  (f61 a2).bind fun x9 =>
  bif x5 then
    bif x9 then
      some (.ret 0)
    else
      some (.ret (-1))
  else
    bif x9 then
      some (.ret 1)
    else
      bif (slt a1 a2) then
        some (.ret (-1))
      else
        bif (slt a1 a2 || seq a1 a2) then
          some (.ret 0)
        else
          some (.ret 1)
theorem f40n0_ok (a1 : ByteArray) (a2 : ByteArray) {o : f40n0O} (h : (f40n0 a1 a2) = some o) : T Try.prog Try.f40.ntmps 0 c40 (f40n0S a1 a2) (fun r => r = f40n0E a1 a2 o) := by
  unfold f40n0 at h
  obtain ⟨x5, h6, h⟩ := bind_cases h
  obtain ⟨x9, h10, h⟩ := bind_cases h
  rcases cond_cases h with ⟨h13, h⟩ | ⟨h13, h⟩
  · rcases cond_cases h with ⟨h14, h⟩ | ⟨h14, h⟩
    · obtain rfl := some_inj h
      exact runK_end cfg_ok (k := 4) (rs := [([], [], []), ([], [(1, .call (.pl (.bool x5)) [])], []), ([], [(1, .call (.pl (.bool x9)) [])], []), ([], [], []), ([], [], []), ([], [], [])]) (ps := [some true, some true]) (tds := []) (m := []) (keep := [4]) (ex := .ret) (st' := (f40n0E a1 a2 (.ret 0)).2) (by kernel_rfl) (ap (f61_ok a1 h6) (ap (f61_ok a2 h10) (ap h13 (ap h14 an)))) (fun h => nomatch h) rfl
    · obtain rfl := some_inj h
      exact runK_end cfg_ok (k := 4) (rs := [([], [], []), ([], [(1, .call (.pl (.bool x5)) [])], []), ([], [(1, .call (.pl (.bool x9)) [])], []), ([], [], []), ([], [], []), ([], [], [])]) (ps := [some true, some false]) (tds := []) (m := []) (keep := [4]) (ex := .ret) (st' := (f40n0E a1 a2 (.ret (-1))).2) (by kernel_rfl) (ap (f61_ok a1 h6) (ap (f61_ok a2 h10) (ap h13 (ap h14 an)))) (fun h => nomatch h) rfl
  · rcases cond_cases h with ⟨h16, h⟩ | ⟨h16, h⟩
    · obtain rfl := some_inj h
      exact runK_end cfg_ok (k := 5) (rs := [([], [], []), ([], [(1, .call (.pl (.bool x5)) [])], []), ([], [(1, .call (.pl (.bool x9)) [])], []), ([], [], []), ([], [], []), ([], [], [])]) (ps := [some false, some true]) (tds := []) (m := []) (keep := [4]) (ex := .ret) (st' := (f40n0E a1 a2 (.ret 1)).2) (by kernel_rfl) (ap (f61_ok a1 h6) (ap (f61_ok a2 h10) (ap h13 (ap h16 an)))) (fun h => nomatch h) rfl
    · rcases cond_cases h with ⟨h18, h⟩ | ⟨h18, h⟩
      · obtain rfl := some_inj h
        exact runK_end cfg_ok (k := 6) (rs := [([], [], []), ([], [(1, .call (.pl (.bool x5)) [])], []), ([], [(1, .call (.pl (.bool x9)) [])], []), ([], [], []), ([], [], []), ([], [], []), ([], [], [])]) (ps := [some false, some false, some true]) (tds := []) (m := []) (keep := [4]) (ex := .ret) (st' := (f40n0E a1 a2 (.ret (-1))).2) (by kernel_rfl) (ap (f61_ok a1 h6) (ap (f61_ok a2 h10) (ap h13 (ap h16 (ap h18 an))))) (fun h => nomatch h) rfl
      · rcases cond_cases h with ⟨h20, h⟩ | ⟨h20, h⟩
        · obtain rfl := some_inj h
          exact run_end cfg_ok (rs := [([], [], []), ([], [(1, .call (.pl (.bool x5)) [])], []), ([], [(1, .call (.pl (.bool x9)) [])], []), ([], [], []), ([], [], []), ([], [], []), ([], [], []), ([], [], [])]) (ps := [some false, some false, some false, some false]) (tds := []) (m := []) (keep := [4]) (r := (.ret, (f40n0E a1 a2 (.ret 0)).2)) (by kernel_rfl) (ap (f61_ok a1 h6) (ap (f61_ok a2 h10) (ap h13 (ap h16 (ap h18 (ap (not_t h20) an)))))) rfl
        · obtain rfl := some_inj h
          exact runK_end cfg_ok (k := 7) (rs := [([], [], []), ([], [(1, .call (.pl (.bool x5)) [])], []), ([], [(1, .call (.pl (.bool x9)) [])], []), ([], [], []), ([], [], []), ([], [], []), ([], [], []), ([], [], [])]) (ps := [some false, some false, some false, some true]) (tds := []) (m := []) (keep := [4]) (ex := .ret) (st' := (f40n0E a1 a2 (.ret 1)).2) (by kernel_rfl) (ap (f61_ok a1 h6) (ap (f61_ok a2 h10) (ap h13 (ap h16 (ap h18 (ap (not_f h20) an)))))) (fun h => nomatch h) rfl
noncomputable def f40 (a1 : ByteArray) (a2 : ByteArray) : Option Int := (f40n0 a1 a2).bind fun o => match o with
  | .ret v21 => some v21
theorem f40_ok (a1 : ByteArray) (a2 : ByteArray) {r : Int} (h : (f40 a1 a2) = some r) : CallS Try.prog false 40 [(.pl (.str a1)), (.pl (.str a2))] [] (.pl (.int .i64 r)) [] := by
  unfold f40 at h
  obtain ⟨o, ho, h⟩ := bind_cases h
  cases o with
  | ret v21 =>
    obtain rfl := some_inj h
    exact CallS.plain cfg_ok (f := Try.f40) (c := c40) (by kernel_rfl) (by kernel_rfl) (by kernel_rfl) (by kernel_rfl) ((f40n0_ok a1 a2 ho).mono fun r e => by subst e; exact ⟨.inl rfl, (.pl (.int .i64 v21)), (.pl (.int .i64 v21)), by kernel_rfl, by kernel_rfl, ((Wk.refl _) : Wk (.pl (.int .i64 v21)) (.pl (.int .i64 v21)))⟩)

noncomputable def c66 : Code := Try.f66.body.getD .skip
inductive f66n2O where
  | exit0
  | ret (v28 : Int)
def f66n2E (bc1 : List Int) : f66n2O → Ex × Tr × Hp
  | .exit0 => ((.exit 0), mkS [(3, (.pl (.int .i64 0)))], [])
  | .ret v28 => (.ret, mkS [(2, (.pl (.int .i64 v28)))], [])
def f66n2S (bc1 : List Int) (v19 : Int) : Tr × Hp := (mkS [(3, (.pl (.int .i64 0))), (6, (.pl (.sl .any 1 (bc1.map (cInt .i64))))), (7, (.pl (.int .i64 (bc1.length : Int)))), (8, (.pl (.int .i64 v19)))], [])
noncomputable def f66n2 : Nat → List Int → Int → Option f66n2O
  | 0, _, _ => none
  | f + 1, bc1, v19 =>
    bif (decide (v19 < (bc1.length : Int))) then
      (at? bc1 v19).bind fun x25 =>
      bif (decide (x25 = 0)) then
        (f66n2 f bc1 (wr64 (v19 + 1)))
      else
        some (.ret x25)
    else
      some .exit0
theorem f66n2_ok : ∀ (f : Nat) (bc1 : List Int) (v19 : Int) {o : f66n2O}, (f66n2 f bc1 v19) = some o → TL Try.prog Try.f66.ntmps 0 f (cL (cL (dropC 1 (cL (dropC 2 c66))))) (f66n2S bc1 v19) (fun r => r = f66n2E bc1 o)
  | 0, _, _, o, h => by rw [f66n2] at h; cases h
  | f + 1, bc1, v19, o, h => by
    rw [f66n2] at h
    refine TL.body (K := fun s => ∃ v19 : Int, s = (f66n2S bc1 v19) ∧ (f66n2 f bc1 v19) = some o) ?_ (by rintro _ ⟨v19, rfl, hk⟩; exact f66n2_ok f _ _ hk)
    rcases cond_cases h with ⟨h21, h⟩ | ⟨h21, h⟩
    · obtain ⟨x25, h26, h⟩ := bind_cases h
      rcases cond_cases h with ⟨h27, h⟩ | ⟨h27, h⟩
      · exact run_end cfg_ok (rs := [([], [], []), ([], [(0, .idx (Int.toNat v19) ((cInt .i64) x25))], []), ([], [], []), ([], [], [])]) (ps := [some true, some false]) (tds := []) (m := []) (keep := [3, 6, 7, 8]) (r := (.norm, (f66n2S bc1 (wr64 (v19 + 1))))) (by kernel_rfl) (ap h21 (ap (at_some h26).1 (ap (at_map (cInt .i64) (at_some h26).2) (ap (not_t h27) an)))) (LoopQ.norm ⟨(wr64 (v19 + 1)), rfl, h⟩)
      · obtain rfl := some_inj h
        exact runK_end cfg_ok (k := 3) (rs := [([], [], []), ([], [(0, .idx (Int.toNat v19) ((cInt .i64) x25))], []), ([], [], []), ([], [], [])]) (ps := [some true, some true]) (tds := []) (m := []) (keep := [2]) (ex := .ret) (st' := (f66n2E bc1 (.ret x25)).2) (by kernel_rfl) (ap h21 (ap (at_some h26).1 (ap (at_map (cInt .i64) (at_some h26).2) (ap (not_f h27) an)))) (fun h => nomatch h) (LoopQ.out rfl rfl)
    · obtain rfl := some_inj h
      exact runK_end cfg_ok (k := 2) (rs := [([], [], [])]) (ps := [some false]) (tds := []) (m := []) (keep := [3]) (ex := (.exit 0)) (st' := (f66n2E bc1 .exit0).2) (by kernel_rfl) (ap h21 an) (fun h => nomatch h) (LoopQ.out rfl rfl)
noncomputable def f66n2L (bc1 : List Int) : List Int → Int → Option f66n2O
  | [], v19 =>
    some .exit0
  | x0 :: rest, v19 =>
    bif (decide (x0 = 0)) then
      (f66n2L bc1 rest (v19 + 1))
    else
      some (.ret x0)
theorem f66n2L_eq (bc1 : List Int) : ∀ (rest : List Int) (f k : Nat), bc1.drop k = rest → bc1.length ≤ maxLen → rest.length < f → f66n2 f bc1 (k : Int) = f66n2L bc1 rest (k : Int)
  | _, 0, _, _, _, hf => absurd hf (Nat.not_lt_zero _)
  | [], f + 1, k, hd, hm, hf => by
    have hk : ¬ ((k : Int) < (bc1.length : Int)) := by have := drop_nil hd; omega
    rw [f66n2, f66n2L]
    simp only [decide_eq_false hk, cond_false]
  | x0 :: rest, f + 1, k, hd, hm, hf => by
    obtain ⟨hx, hlt, hd'⟩ := drop_cons hd
    have hk : (k : Int) < (bc1.length : Int) := by omega
    have hw : wr64 ((k : Int) + 1) = (k : Int) + 1 := wr64_of (by omega) (by unfold maxLen at hm; omega)
    have ih : f66n2 f bc1 ((k : Int) + 1) = f66n2L bc1 rest ((k : Int) + 1) := f66n2L_eq bc1 rest f (k + 1) hd' hm (by simpa using hf)
    rw [f66n2, f66n2L]
    simp only [decide_eq_true hk, cond_true, at_nat, hx, Option.bind_some, hw, ih]
theorem f66n2_run (bc1 : List Int) (hm : bc1.length ≤ maxLen) : f66n2 FUEL bc1 0 = f66n2L bc1 bc1 0 := f66n2L_eq bc1 bc1 FUEL 0 List.drop_zero hm (lt_FUEL hm)
inductive f66n1O where
  | norm
  | ret (v32 : Int)
def f66n1E (bc1 : List Int) : f66n1O → Ex × Tr × Hp
  | .norm => (.norm, mkS [(3, (.pl (.int .i64 0)))], [])
  | .ret v32 => (.ret, mkS [(2, (.pl (.int .i64 v32)))], [])
def f66n1S (bc1 : List Int) : Tr × Hp := (mkS [(0, (.pl (.sl .any 1 (bc1.map (cInt .i64))))), (3, (.pl (.int .i64 0)))], [])
noncomputable def f66n1 (bc1 : List Int) : Option f66n1O :=
  (f66n2 FUEL bc1 0).bind fun o29 => match o29 with
  | .exit0 => some .norm
  | .ret v31 => some (.ret v31)
theorem f66n1_ok (bc1 : List Int) {o : f66n1O} (h : (f66n1 bc1) = some o) : T Try.prog Try.f66.ntmps 0 (cL (dropC 2 c66)) (f66n1S bc1) (fun r => r = f66n1E bc1 o) := by
  unfold f66n1 at h
  refine runK_norm cfg_ok (k := 1) (rs := [([], [], [(1, .val (.pl (.int .i64 (bc1.length : Int))))])]) (ps := []) (tds := []) (m := []) (keep := [3, 6, 7, 8]) (st' := (f66n2S bc1 0)) (by kernel_rfl) (ap (len_cv (xs := bc1) (c := (cInt .i64))) an) ?_
  obtain ⟨o29, h30, h⟩ := bind_cases h
  cases o29 with
  | exit0 =>
    obtain rfl := some_inj h
    exact T.last' (T.bl (i := 0) (by kernel_rfl) (by kernel_rfl) (f66n2_ok FUEL bc1 0 h30)) (tds := []) (m := []) (keep := [3]) (st2 := (f66n1E bc1 .norm).2) (by kernel_rfl) an rfl
  | ret v31 =>
    obtain rfl := some_inj h
    exact T.last' (T.bl (i := 0) (by kernel_rfl) (by kernel_rfl) (f66n2_ok FUEL bc1 0 h30)) (tds := []) (m := []) (keep := [2]) (st2 := (f66n1E bc1 (.ret v31)).2) (by kernel_rfl) an rfl
inductive f66n0O where
  | ret (v36 : Int)
def f66n0E (a1 : List Int) : f66n0O → Ex × Tr × Hp
  | .ret v36 => (.ret, mkS [(2, (.pl (.int .i64 v36)))], [])
def f66n0S (a1 : List Int) : Tr × Hp := (initS [(.pl (.sl .any 1 (a1.map (cInt .i64))))] 0 .leaf, [])
noncomputable def f66n0 (a1 : List Int) : Option f66n0O :=
  (f66n1 a1).bind fun o33 => match o33 with
  | .norm => some (.ret 0)
  | .ret v35 => some (.ret v35)
theorem f66n0_ok (a1 : List Int) {o : f66n0O} (h : (f66n0 a1) = some o) : T Try.prog Try.f66.ntmps 0 c66 (f66n0S a1) (fun r => r = f66n0E a1 o) := by
  unfold f66n0 at h
  refine runK_norm cfg_ok (k := 2) (rs := [([], [], []), ([], [], [])]) (ps := []) (tds := []) (m := []) (keep := [0, 3]) (st' := (f66n1S a1)) (by kernel_rfl) an ?_
  obtain ⟨o33, h34, h⟩ := bind_cases h
  cases o33 with
  | norm =>
    refine T.oneN (by kernel_rfl) (f66n1_ok a1 h34) (st2 := (f66n1E a1 .norm).2) rfl ?_
    obtain rfl := some_inj h
    exact run_end cfg_ok (rs := [([], [], [])]) (ps := []) (tds := []) (m := []) (keep := [2]) (r := (.ret, (f66n0E a1 (.ret 0)).2)) (by kernel_rfl) an rfl
  | ret v35 =>
    obtain rfl := some_inj h
    exact T.oneX' (by kernel_rfl) (f66n1_ok a1 h34) (tds := []) (m := []) (keep := [2]) (st2 := (f66n0E a1 (.ret v35)).2) (by kernel_rfl) an rfl rfl
noncomputable def f66 (a1 : List Int) : Option Int := (f66n0 a1).bind fun o => match o with
  | .ret v36 => some v36
theorem f66_ok (a1 : List Int) {r : Int} (h : (f66 a1) = some r) : CallS Try.prog false 66 [(.pl (.sl .any 1 (a1.map (cInt .i64))))] [] (.pl (.int .i64 r)) [] := by
  unfold f66 at h
  obtain ⟨o, ho, h⟩ := bind_cases h
  cases o with
  | ret v36 =>
    obtain rfl := some_inj h
    exact CallS.plain cfg_ok (f := Try.f66) (c := c66) (by kernel_rfl) (by kernel_rfl) (by kernel_rfl) (by kernel_rfl) ((f66n0_ok a1 ho).mono fun r e => by subst e; exact ⟨.inl rfl, (.pl (.int .i64 v36)), (.pl (.int .i64 v36)), by kernel_rfl, by kernel_rfl, ((Wk.refl _) : Wk (.pl (.int .i64 v36)) (.pl (.int .i64 v36)))⟩)

noncomputable def c53 : Code := Try.f53.body.getD .skip
inductive f53n0O where
  | ret (v15 : Int)
def f53n0E (a1 : VariationPosition) (a2 : VariationPosition) : f53n0O → Ex × Tr × Hp
  | .ret v15 => (.ret, mkS [(4, (.pl (.int .i64 v15)))], [])
def f53n0S (a1 : VariationPosition) (a2 : VariationPosition) : Tr × Hp := (initS [(.pl (.agg (VariationPosition.cells a1))), (.pl (.agg (VariationPosition.cells a2)))] 0 .leaf, [])
noncomputable def f53n0 (a1 : VariationPosition) (a2 : VariationPosition) : Option f53n0O :=
  (f40 a1.Member a2.Member).bind fun x9 =>
  (f40 a1.Product a2.Product).bind fun x11 =>
  (f66 [x9, x11]).bind fun x13 =>
  some (.ret x13)
theorem f53n0_ok (a1 : VariationPosition) (a2 : VariationPosition) {o : f53n0O} (h : (f53n0 a1 a2) = some o) : T Try.prog Try.f53.ntmps 0 c53 (f53n0S a1 a2) (fun r => r = f53n0E a1 a2 o) := by
  unfold f53n0 at h
  obtain ⟨x9, h10, h⟩ := bind_cases h
  obtain ⟨x11, h12, h⟩ := bind_cases h
  obtain ⟨x13, h14, h⟩ := bind_cases h
  obtain rfl := some_inj h
  exact run_end cfg_ok (rs := [([], [], []), ([], [(4, .call (.pl (.int .i64 x9)) []), (9, .call (.pl (.int .i64 x11)) []), (11, .call (.pl (.int .i64 x13)) [])], [])]) (ps := []) (tds := []) (m := []) (keep := [4]) (r := (.ret, (f53n0E a1 a2 (.ret x13)).2)) (by kernel_rfl) (ap (same_val (e := ⟨false, 40, [(.pl (.str a1.Member)), (.pl (.str a2.Member))], [], (.pl (.int .i64 x9)), []⟩) (f := ⟨false, 40, [(.pl (.str a1.Product)), (.pl (.str a2.Product))], [], (.pl (.int .i64 x11)), []⟩) (fun k => by simp only [List.cons.injEq, AV.pl.injEq, PV.str.injEq, PV.int.injEq, PV.bool.injEq, PV.agg.injEq, and_true, true_and] at k; have e0 : x9 = x11 := Option.some.inj (by rw [← h10, ← h12]; simp only [k]); exact ⟨by rw [e0], rfl⟩)) (ap (f40_ok a1.Member a2.Member h10) (ap (f40_ok a1.Product a2.Product h12) (ap (f66_ok [x9, x11] h14) an)))) rfl
noncomputable def f53 (a1 : VariationPosition) (a2 : VariationPosition) : Option Int := (f53n0 a1 a2).bind fun o => match o with
  | .ret v15 => some v15
theorem f53_ok (a1 : VariationPosition) (a2 : VariationPosition) {r : Int} (h : (f53 a1 a2) = some r) : CallS Try.prog false 53 [(.pl (.agg (VariationPosition.cells a1))), (.pl (.agg (VariationPosition.cells a2)))] [] (.pl (.int .i64 r)) [] := by
  unfold f53 at h
  obtain ⟨o, ho, h⟩ := bind_cases h
  cases o with
  | ret v15 =>
    obtain rfl := some_inj h
    exact CallS.plain cfg_ok (f := Try.f53) (c := c53) (by kernel_rfl) (by kernel_rfl) (by kernel_rfl) (by kernel_rfl) ((f53n0_ok a1 a2 ho).mono fun r e => by subst e; exact ⟨.inl rfl, (.pl (.int .i64 v15)), (.pl (.int .i64 v15)), by kernel_rfl, by kernel_rfl, ((Wk.refl _) : Wk (.pl (.int .i64 v15)) (.pl (.int .i64 v15)))⟩)

noncomputable def c26 : Code := Try.f26.body.getD .skip
inductive f26n2O where
  | exit0 (v188 : List (ByteArray × Sums_))
  | ret
def f26n2E (ba1 : Variation) : f26n2O → Ex × Tr × Hp
  | .exit0 v188 => ((.exit 0), mkS [(3, (.mp 0))], [some (.map (v188.map (mkv pStr (pAgg Sums_.cells))))])
  | .ret => (.ret, mkS [(2, (.pl (.int .i64 8)))], [])
def f26n2S (ba1 : Variation) (v114 : Int) (v115 : List (ByteArray × Sums_)) : Tr × Hp := (mkS [(1, (.bp 0 0)), (3, (.mp 1)), (28, (.pl (.sl .any 4 (ba1.Positions.map VariationPosition.cells)))), (29, (.pl (.int .i64 (ba1.Positions.length : Int)))), (30, (.pl (.int .i64 v114)))], [some (.box ((Variation.cells ba1).map .pl)), some (.map (v115.map (mkv pStr (pAgg Sums_.cells))))])
noncomputable def f26n2 : Nat → Variation → Int → List (ByteArray × Sums_) → Option f26n2O
  | 0, _, _, _ => none
  | f + 1, ba1, v114, v115 =>
    bif (decide (v114 < (ba1.Positions.length : Int))) then
      (at? ba1.Positions v114).bind fun x153 =>
      bif (decide (v114 = 0)) then
        (f37 x153.Quantity 1048576).bind fun x156 =>
        bif x156 then
          (f37 x153.Basis 1125899906842624).bind fun x159 =>
          bif x159 then
            bif (VariationPosition.eqb x153 (VariationPosition.mk x153.Member x153.Product 0 0)) then
              some .ret
            else
              (f44 x153.Member).bind fun x163 =>
              bif x163 then
                (f45 x153.Product).bind fun x166 =>
                bif x166 then
                  (f26n2 f ba1 (wr64 (v114 + 1)) (mPut seq x153.Product (Sums_.mk (wr64 ((mGet seq (Sums_.mk 0 0) x153.Product v115).quantity + x153.Quantity)) (wr64 ((mGet seq (Sums_.mk 0 0) x153.Product v115).basis + x153.Basis))) v115))
                else
                  some .ret
              else
                some .ret
          else
            some .ret
        else
          some .ret
      else
        (at? ba1.Positions (wr64 (v114 - 1))).bind fun x169 =>
        (f53 x169 x153).bind fun x171 =>
        (f37 x153.Quantity 1048576).bind fun x173 =>
        bif x173 then
          (f37 x153.Basis 1125899906842624).bind fun x176 =>
          bif (decide (x171 < 0)) then
            bif x176 then
              bif (VariationPosition.eqb x153 (VariationPosition.mk x153.Member x153.Product 0 0)) then
                some .ret
              else
                (f44 x153.Member).bind fun x181 =>
                bif x181 then
                  (f45 x153.Product).bind fun x184 =>
                  bif x184 then
                    (f26n2 f ba1 (wr64 (v114 + 1)) (mPut seq x153.Product (Sums_.mk (wr64 ((mGet seq (Sums_.mk 0 0) x153.Product v115).quantity + x153.Quantity)) (wr64 ((mGet seq (Sums_.mk 0 0) x153.Product v115).basis + x153.Basis))) v115))
                  else
                    some .ret
                else
                  some .ret
            else
              some .ret
          else
            some .ret
        else
          bif (decide (x171 < 0)) then
            some .ret
          else
            some .ret
    else
      some (.exit0 v115)
theorem f26n2_ok : ∀ (f : Nat) (ba1 : Variation) (v114 : Int) (v115 : List (ByteArray × Sums_)) {o : f26n2O}, (f26n2 f ba1 v114 v115) = some o → TL Try.prog Try.f26.ntmps 0 f (cL (cL (dropC 1 (cL (dropC 3 c26))))) (f26n2S ba1 v114 v115) (fun r => r = f26n2E ba1 o)
  | 0, _, _, _, o, h => by rw [f26n2] at h; cases h
  | f + 1, ba1, v114, v115, o, h => by
    rw [f26n2] at h
    refine TL.body (K := fun s => ∃ v114 : Int, ∃ v115 : List (ByteArray × Sums_), s = (f26n2S ba1 v114 v115) ∧ (f26n2 f ba1 v114 v115) = some o) ?_ (by rintro _ ⟨v114, v115, rfl, hk⟩; exact f26n2_ok f _ _ _ hk)
    rcases cond_cases h with ⟨h117, h⟩ | ⟨h117, h⟩
    · obtain ⟨x153, h154, h⟩ := bind_cases h
      rcases cond_cases h with ⟨h155, h⟩ | ⟨h155, h⟩
      · obtain ⟨x156, h157, h⟩ := bind_cases h
        rcases cond_cases h with ⟨h158, h⟩ | ⟨h158, h⟩
        · obtain ⟨x159, h160, h⟩ := bind_cases h
          rcases cond_cases h with ⟨h161, h⟩ | ⟨h161, h⟩
          · rcases cond_cases h with ⟨h162, h⟩ | ⟨h162, h⟩
            · obtain rfl := some_inj h
              exact runK_end cfg_ok (k := 3) (rs := [([], [], []), ([], [(1, .idx (Int.toNat v114) (VariationPosition.cells x153))], []), ([(3, true), (4, true), (5, true), (6, true), (7, true), (8, true), (9, true), (10, true), (11, true)], [(12, .bool true)], []), ([(4, true), (5, true), (6, true)], [(2, .call (.pl (.bool x156)) []), (6, .call (.pl (.bool x159)) []), (7, .bool true)], []), ([], [(6, .bool (VariationPosition.eqb x153 (VariationPosition.mk x153.Member x153.Product 0 0)))], []), ([(7, false), (10, true), (11, true), (12, true), (13, true)], [(8, .bool false), (14, .bool true)], []), ([], [], [])]) (ps := [some true, none]) (tds := []) (m := []) (keep := [2]) (ex := .ret) (st' := (f26n2E ba1 .ret).2) (by kernel_rfl) (ap h117 (ap (at_some h154).1 (ap (at_map VariationPosition.cells (at_some h154).2) (ap h155 (ap h155 (ap h155 (ap h155 (ap h155 (ap h155 (ap h155 (ap h155 (ap h155 (ap h155 (ap h158 (ap h158 (ap h158 (ap h158 (ap (f37_ok x153.Quantity 1048576 h157) (ap (f37_ok x153.Basis 1125899906842624 h160) (ap (VariationPosition.eqb_ok x153 (VariationPosition.mk x153.Member x153.Product 0 0)) (ap (not_t h161) (ap (not_t h161) (ap h162 (ap h162 (ap h162 (ap h162 (ap h162 an))))))))))))))))))))))))))) (fun h => nomatch h) (LoopQ.out rfl rfl)
            · obtain ⟨x163, h164, h⟩ := bind_cases h
              rcases cond_cases h with ⟨h165, h⟩ | ⟨h165, h⟩
              · obtain ⟨x166, h167, h⟩ := bind_cases h
                rcases cond_cases h with ⟨h168, h⟩ | ⟨h168, h⟩
                · exact run_end cfg_ok (rs := [([], [], []), ([], [(1, .idx (Int.toNat v114) (VariationPosition.cells x153))], []), ([(3, true), (4, true), (5, true), (6, true), (7, true), (8, true), (9, true), (10, true), (11, true)], [(12, .bool true)], []), ([(4, true), (5, true), (6, true)], [(2, .call (.pl (.bool x156)) []), (6, .call (.pl (.bool x159)) []), (7, .bool true)], []), ([], [(6, .bool (VariationPosition.eqb x153 (VariationPosition.mk x153.Member x153.Product 0 0)))], []), ([(7, false), (10, false), (11, false), (12, false), (13, false), (16, false), (17, false), (18, false), (19, false)], [(8, .bool false), (12, .call (.pl (.bool x163)) []), (14, .bool false), (18, .call (.pl (.bool x166)) []), (20, .bool false)], []), ([], [(3, .look ((pAgg Sums_.cells) (mGet seq (Sums_.mk 0 0) x153.Product v115)) (mHas seq x153.Product v115))], []), ([], [(14, .mset ((mPut seq x153.Product (Sums_.mk (wr64 ((mGet seq (Sums_.mk 0 0) x153.Product v115).quantity + x153.Quantity)) (wr64 ((mGet seq (Sums_.mk 0 0) x153.Product v115).basis + x153.Basis))) v115).map (mkv pStr (pAgg Sums_.cells))))], []), ([], [], [])]) (ps := [some true, some false]) (tds := []) (m := [0, 1]) (keep := [1, 3, 28, 29, 30]) (r := (.norm, (f26n2S ba1 (wr64 (v114 + 1)) (mPut seq x153.Product (Sums_.mk (wr64 ((mGet seq (Sums_.mk 0 0) x153.Product v115).quantity + x153.Quantity)) (wr64 ((mGet seq (Sums_.mk 0 0) x153.Product v115).basis + x153.Basis))) v115)))) (by kernel_rfl) (ap h117 (ap (at_some h154).1 (ap (at_map VariationPosition.cells (at_some h154).2) (ap h155 (ap h155 (ap h155 (ap h155 (ap h155 (ap h155 (ap h155 (ap h155 (ap h155 (ap h155 (ap h158 (ap h158 (ap h158 (ap h158 (ap (f37_ok x153.Quantity 1048576 h157) (ap (f37_ok x153.Basis 1125899906842624 h160) (ap (VariationPosition.eqb_ok x153 (VariationPosition.mk x153.Member x153.Product 0 0)) (ap (not_t h161) (ap (not_t h161) (ap h162 (ap h162 (ap h162 (ap h162 (ap h162 (ap (not_t h165) (ap (not_t h165) (ap (not_t h165) (ap (not_t h165) (ap (not_t h165) (ap (f44_ok x153.Member h164) (ap (f45_ok x153.Product h167) (ap (not_t h168) (ap (look_map (vp := (pAgg Sums_.cells)) (e := 92) key_9 (Sums_.mk 0 0) (by kernel_rfl) x153.Product v115) (ap (mset_map (vp := (pAgg Sums_.cells)) key_9 x153.Product (Sums_.mk (wr64 ((mGet seq (Sums_.mk 0 0) x153.Product v115).quantity + x153.Quantity)) (wr64 ((mGet seq (Sums_.mk 0 0) x153.Product v115).basis + x153.Basis))) v115) an))))))))))))))))))))))))))))))))))))) (LoopQ.norm ⟨(wr64 (v114 + 1)), (mPut seq x153.Product (Sums_.mk (wr64 ((mGet seq (Sums_.mk 0 0) x153.Product v115).quantity + x153.Quantity)) (wr64 ((mGet seq (Sums_.mk 0 0) x153.Product v115).basis + x153.Basis))) v115), rfl, h⟩)
                · obtain rfl := some_inj h
                  exact runK_end cfg_ok (k := 3) (rs := [([], [], []), ([], [(1, .idx (Int.toNat v114) (VariationPosition.cells x153))], []), ([(3, true), (4, true), (5, true), (6, true), (7, true), (8, true), (9, true), (10, true), (11, true)], [(12, .bool true)], []), ([(4, true), (5, true), (6, true)], [(2, .call (.pl (.bool x156)) []), (6, .call (.pl (.bool x159)) []), (7, .bool true)], []), ([], [(6, .bool (VariationPosition.eqb x153 (VariationPosition.mk x153.Member x153.Product 0 0)))], []), ([(7, false), (10, false), (11, false), (12, false), (13, false), (16, false), (17, false), (18, false), (19, false)], [(8, .bool false), (12, .call (.pl (.bool x163)) []), (14, .bool false), (18, .call (.pl (.bool x166)) []), (20, .bool false)], []), ([], [], [])]) (ps := [some true, some true]) (tds := []) (m := []) (keep := [2]) (ex := .ret) (st' := (f26n2E ba1 .ret).2) (by kernel_rfl) (ap h117 (ap (at_some h154).1 (ap (at_map VariationPosition.cells (at_some h154).2) (ap h155 (ap h155 (ap h155 (ap h155 (ap h155 (ap h155 (ap h155 (ap h155 (ap h155 (ap h155 (ap h158 (ap h158 (ap h158 (ap h158 (ap (f37_ok x153.Quantity 1048576 h157) (ap (f37_ok x153.Basis 1125899906842624 h160) (ap (VariationPosition.eqb_ok x153 (VariationPosition.mk x153.Member x153.Product 0 0)) (ap (not_t h161) (ap (not_t h161) (ap h162 (ap h162 (ap h162 (ap h162 (ap h162 (ap (not_t h165) (ap (not_t h165) (ap (not_t h165) (ap (not_t h165) (ap (not_t h165) (ap (f44_ok x153.Member h164) (ap (f45_ok x153.Product h167) (ap (not_f h168) an))))))))))))))))))))))))))))))))))) (fun h => nomatch h) (LoopQ.out rfl rfl)
              · obtain rfl := some_inj h
                exact runK_end cfg_ok (k := 3) (rs := [([], [], []), ([], [(1, .idx (Int.toNat v114) (VariationPosition.cells x153))], []), ([(3, true), (4, true), (5, true), (6, true), (7, true), (8, true), (9, true), (10, true), (11, true)], [(12, .bool true)], []), ([(4, true), (5, true), (6, true)], [(2, .call (.pl (.bool x156)) []), (6, .call (.pl (.bool x159)) []), (7, .bool true)], []), ([], [(6, .bool (VariationPosition.eqb x153 (VariationPosition.mk x153.Member x153.Product 0 0)))], []), ([(7, false), (10, false), (11, false), (12, false), (13, false), (16, true), (17, true), (18, true), (19, true)], [(8, .bool false), (12, .call (.pl (.bool x163)) []), (14, .bool false), (20, .bool true)], []), ([], [], [])]) (ps := [some true, none]) (tds := []) (m := []) (keep := [2]) (ex := .ret) (st' := (f26n2E ba1 .ret).2) (by kernel_rfl) (ap h117 (ap (at_some h154).1 (ap (at_map VariationPosition.cells (at_some h154).2) (ap h155 (ap h155 (ap h155 (ap h155 (ap h155 (ap h155 (ap h155 (ap h155 (ap h155 (ap h155 (ap h158 (ap h158 (ap h158 (ap h158 (ap (f37_ok x153.Quantity 1048576 h157) (ap (f37_ok x153.Basis 1125899906842624 h160) (ap (VariationPosition.eqb_ok x153 (VariationPosition.mk x153.Member x153.Product 0 0)) (ap (not_t h161) (ap (not_t h161) (ap h162 (ap h162 (ap h162 (ap h162 (ap h162 (ap (not_f h165) (ap (not_f h165) (ap (not_f h165) (ap (not_f h165) (ap (not_f h165) (ap (f44_ok x153.Member h164) an))))))))))))))))))))))))))))))))) (fun h => nomatch h) (LoopQ.out rfl rfl)
          · obtain rfl := some_inj h
            exact runK_end cfg_ok (k := 3) (rs := [([], [], []), ([], [(1, .idx (Int.toNat v114) (VariationPosition.cells x153))], []), ([(3, true), (4, true), (5, true), (6, true), (7, true), (8, true), (9, true), (10, true), (11, true)], [(12, .bool true)], []), ([(4, true), (5, true), (6, true)], [(2, .call (.pl (.bool x156)) []), (6, .call (.pl (.bool x159)) []), (7, .bool true)], []), ([], [(6, .bool (VariationPosition.eqb x153 (VariationPosition.mk x153.Member x153.Product 0 0)))], []), ([(7, true)], [(8, .bool true)], []), ([], [], [])]) (ps := [some true, none]) (tds := []) (m := []) (keep := [2]) (ex := .ret) (st' := (f26n2E ba1 .ret).2) (by kernel_rfl) (ap h117 (ap (at_some h154).1 (ap (at_map VariationPosition.cells (at_some h154).2) (ap h155 (ap h155 (ap h155 (ap h155 (ap h155 (ap h155 (ap h155 (ap h155 (ap h155 (ap h155 (ap h158 (ap h158 (ap h158 (ap h158 (ap (f37_ok x153.Quantity 1048576 h157) (ap (f37_ok x153.Basis 1125899906842624 h160) (ap (VariationPosition.eqb_ok x153 (VariationPosition.mk x153.Member x153.Product 0 0)) (ap (not_f h161) (ap (not_f h161) an)))))))))))))))))))))) (fun h => nomatch h) (LoopQ.out rfl rfl)
        · obtain rfl := some_inj h
          exact runK_end cfg_ok (k := 3) (rs := [([], [], []), ([], [(1, .idx (Int.toNat v114) (VariationPosition.cells x153))], []), ([(3, true), (4, true), (5, true), (6, true), (7, true), (8, true), (9, true), (10, true), (11, true)], [(12, .bool true)], []), ([(4, false), (5, false), (6, false)], [(2, .call (.pl (.bool x156)) []), (7, .bool false)], []), ([], [(6, .bool (VariationPosition.eqb x153 (VariationPosition.mk x153.Member x153.Product 0 0)))], []), ([], [], []), ([], [], [])]) (ps := [some true, none]) (tds := []) (m := []) (keep := [2]) (ex := .ret) (st' := (f26n2E ba1 .ret).2) (by kernel_rfl) (ap h117 (ap (at_some h154).1 (ap (at_map VariationPosition.cells (at_some h154).2) (ap h155 (ap h155 (ap h155 (ap h155 (ap h155 (ap h155 (ap h155 (ap h155 (ap h155 (ap h155 (ap h158 (ap h158 (ap h158 (ap h158 (ap (f37_ok x153.Quantity 1048576 h157) (ap (VariationPosition.eqb_ok x153 (VariationPosition.mk x153.Member x153.Product 0 0)) an))))))))))))))))))) (fun h => nomatch h) (LoopQ.out rfl rfl)
      · obtain ⟨x169, h170, h⟩ := bind_cases h
        obtain ⟨x171, h172, h⟩ := bind_cases h
        obtain ⟨x173, h174, h⟩ := bind_cases h
        rcases cond_cases h with ⟨h175, h⟩ | ⟨h175, h⟩
        · obtain ⟨x176, h177, h⟩ := bind_cases h
          rcases cond_cases h with ⟨h178, h⟩ | ⟨h178, h⟩
          · rcases cond_cases h with ⟨h179, h⟩ | ⟨h179, h⟩
            · rcases cond_cases h with ⟨h180, h⟩ | ⟨h180, h⟩
              · obtain rfl := some_inj h
                exact runK_end cfg_ok (k := 3) (rs := [([], [], []), ([], [(1, .idx (Int.toNat v114) (VariationPosition.cells x153))], []), ([(3, false), (4, false), (5, false), (6, false), (7, false), (8, false), (9, false), (10, false), (11, false)], [(7, .idx (Int.toNat (wr64 (v114 - 1))) (VariationPosition.cells x169)), (10, .call (.pl (.int .i64 x171)) []), (12, .bool false)], []), ([(4, true), (5, true), (6, true)], [(2, .call (.pl (.bool x173)) []), (6, .call (.pl (.bool x176)) []), (7, .bool true)], []), ([], [(6, .bool (VariationPosition.eqb x153 (VariationPosition.mk x153.Member x153.Product 0 0)))], []), ([(3, false), (4, false), (7, false), (10, true), (11, true), (12, true), (13, true)], [(5, .bool false), (8, .bool false), (14, .bool true)], []), ([], [], [])]) (ps := [some true, none]) (tds := []) (m := []) (keep := [2]) (ex := .ret) (st' := (f26n2E ba1 .ret).2) (by kernel_rfl) (ap h117 (ap (at_some h154).1 (ap (at_map VariationPosition.cells (at_some h154).2) (ap h155 (ap h155 (ap h155 (ap h155 (ap h155 (ap (at_some h170).1 (ap (at_map VariationPosition.cells (at_some h170).2) (ap h155 (ap h155 (ap h155 (ap h155 (ap h155 (ap (f53_ok x169 x153 h172) (ap h175 (ap h175 (ap h175 (ap h175 (ap (f37_ok x153.Quantity 1048576 h174) (ap (f37_ok x153.Basis 1125899906842624 h177) (ap (VariationPosition.eqb_ok x153 (VariationPosition.mk x153.Member x153.Product 0 0)) (ap (not_t h178) (ap (not_t h178) (ap (not_t h178) (ap (not_t h179) (ap (not_t h179) (ap h180 (ap h180 (ap h180 (ap h180 (ap h180 an))))))))))))))))))))))))))))))))) (fun h => nomatch h) (LoopQ.out rfl rfl)
              · obtain ⟨x181, h182, h⟩ := bind_cases h
                rcases cond_cases h with ⟨h183, h⟩ | ⟨h183, h⟩
                · obtain ⟨x184, h185, h⟩ := bind_cases h
                  rcases cond_cases h with ⟨h186, h⟩ | ⟨h186, h⟩
                  · exact run_end cfg_ok (rs := [([], [], []), ([], [(1, .idx (Int.toNat v114) (VariationPosition.cells x153))], []), ([(3, false), (4, false), (5, false), (6, false), (7, false), (8, false), (9, false), (10, false), (11, false)], [(7, .idx (Int.toNat (wr64 (v114 - 1))) (VariationPosition.cells x169)), (10, .call (.pl (.int .i64 x171)) []), (12, .bool false)], []), ([(4, true), (5, true), (6, true)], [(2, .call (.pl (.bool x173)) []), (6, .call (.pl (.bool x176)) []), (7, .bool true)], []), ([], [(6, .bool (VariationPosition.eqb x153 (VariationPosition.mk x153.Member x153.Product 0 0)))], []), ([(3, false), (4, false), (7, false), (10, false), (11, false), (12, false), (13, false), (16, false), (17, false), (18, false), (19, false)], [(5, .bool false), (8, .bool false), (12, .call (.pl (.bool x181)) []), (14, .bool false), (18, .call (.pl (.bool x184)) []), (20, .bool false)], []), ([], [(3, .look ((pAgg Sums_.cells) (mGet seq (Sums_.mk 0 0) x153.Product v115)) (mHas seq x153.Product v115))], []), ([], [(14, .mset ((mPut seq x153.Product (Sums_.mk (wr64 ((mGet seq (Sums_.mk 0 0) x153.Product v115).quantity + x153.Quantity)) (wr64 ((mGet seq (Sums_.mk 0 0) x153.Product v115).basis + x153.Basis))) v115).map (mkv pStr (pAgg Sums_.cells))))], []), ([], [], [])]) (ps := [some true, some false]) (tds := []) (m := [0, 1]) (keep := [1, 3, 28, 29, 30]) (r := (.norm, (f26n2S ba1 (wr64 (v114 + 1)) (mPut seq x153.Product (Sums_.mk (wr64 ((mGet seq (Sums_.mk 0 0) x153.Product v115).quantity + x153.Quantity)) (wr64 ((mGet seq (Sums_.mk 0 0) x153.Product v115).basis + x153.Basis))) v115)))) (by kernel_rfl) (ap h117 (ap (at_some h154).1 (ap (at_map VariationPosition.cells (at_some h154).2) (ap h155 (ap h155 (ap h155 (ap h155 (ap h155 (ap (at_some h170).1 (ap (at_map VariationPosition.cells (at_some h170).2) (ap h155 (ap h155 (ap h155 (ap h155 (ap h155 (ap (f53_ok x169 x153 h172) (ap h175 (ap h175 (ap h175 (ap h175 (ap (f37_ok x153.Quantity 1048576 h174) (ap (f37_ok x153.Basis 1125899906842624 h177) (ap (VariationPosition.eqb_ok x153 (VariationPosition.mk x153.Member x153.Product 0 0)) (ap (not_t h178) (ap (not_t h178) (ap (not_t h178) (ap (not_t h179) (ap (not_t h179) (ap h180 (ap h180 (ap h180 (ap h180 (ap h180 (ap (not_t h183) (ap (not_t h183) (ap (not_t h183) (ap (not_t h183) (ap (not_t h183) (ap (f44_ok x153.Member h182) (ap (f45_ok x153.Product h185) (ap (not_t h186) (ap (look_map (vp := (pAgg Sums_.cells)) (e := 92) key_9 (Sums_.mk 0 0) (by kernel_rfl) x153.Product v115) (ap (mset_map (vp := (pAgg Sums_.cells)) key_9 x153.Product (Sums_.mk (wr64 ((mGet seq (Sums_.mk 0 0) x153.Product v115).quantity + x153.Quantity)) (wr64 ((mGet seq (Sums_.mk 0 0) x153.Product v115).basis + x153.Basis))) v115) an))))))))))))))))))))))))))))))))))))))))))) (LoopQ.norm ⟨(wr64 (v114 + 1)), (mPut seq x153.Product (Sums_.mk (wr64 ((mGet seq (Sums_.mk 0 0) x153.Product v115).quantity + x153.Quantity)) (wr64 ((mGet seq (Sums_.mk 0 0) x153.Product v115).basis + x153.Basis))) v115), rfl, h⟩)
                  · obtain rfl := some_inj h
                    exact runK_end cfg_ok (k := 3) (rs := [([], [], []), ([], [(1, .idx (Int.toNat v114) (VariationPosition.cells x153))], []), ([(3, false), (4, false), (5, false), (6, false), (7, false), (8, false), (9, false), (10, false), (11, false)], [(7, .idx (Int.toNat (wr64 (v114 - 1))) (VariationPosition.cells x169)), (10, .call (.pl (.int .i64 x171)) []), (12, .bool false)], []), ([(4, true), (5, true), (6, true)], [(2, .call (.pl (.bool x173)) []), (6, .call (.pl (.bool x176)) []), (7, .bool true)], []), ([], [(6, .bool (VariationPosition.eqb x153 (VariationPosition.mk x153.Member x153.Product 0 0)))], []), ([(3, false), (4, false), (7, false), (10, false), (11, false), (12, false), (13, false), (16, false), (17, false), (18, false), (19, false)], [(5, .bool false), (8, .bool false), (12, .call (.pl (.bool x181)) []), (14, .bool false), (18, .call (.pl (.bool x184)) []), (20, .bool false)], []), ([], [], [])]) (ps := [some true, some true]) (tds := []) (m := []) (keep := [2]) (ex := .ret) (st' := (f26n2E ba1 .ret).2) (by kernel_rfl) (ap h117 (ap (at_some h154).1 (ap (at_map VariationPosition.cells (at_some h154).2) (ap h155 (ap h155 (ap h155 (ap h155 (ap h155 (ap (at_some h170).1 (ap (at_map VariationPosition.cells (at_some h170).2) (ap h155 (ap h155 (ap h155 (ap h155 (ap h155 (ap (f53_ok x169 x153 h172) (ap h175 (ap h175 (ap h175 (ap h175 (ap (f37_ok x153.Quantity 1048576 h174) (ap (f37_ok x153.Basis 1125899906842624 h177) (ap (VariationPosition.eqb_ok x153 (VariationPosition.mk x153.Member x153.Product 0 0)) (ap (not_t h178) (ap (not_t h178) (ap (not_t h178) (ap (not_t h179) (ap (not_t h179) (ap h180 (ap h180 (ap h180 (ap h180 (ap h180 (ap (not_t h183) (ap (not_t h183) (ap (not_t h183) (ap (not_t h183) (ap (not_t h183) (ap (f44_ok x153.Member h182) (ap (f45_ok x153.Product h185) (ap (not_f h186) an))))))))))))))))))))))))))))))))))))))))) (fun h => nomatch h) (LoopQ.out rfl rfl)
                · obtain rfl := some_inj h
                  exact runK_end cfg_ok (k := 3) (rs := [([], [], []), ([], [(1, .idx (Int.toNat v114) (VariationPosition.cells x153))], []), ([(3, false), (4, false), (5, false), (6, false), (7, false), (8, false), (9, false), (10, false), (11, false)], [(7, .idx (Int.toNat (wr64 (v114 - 1))) (VariationPosition.cells x169)), (10, .call (.pl (.int .i64 x171)) []), (12, .bool false)], []), ([(4, true), (5, true), (6, true)], [(2, .call (.pl (.bool x173)) []), (6, .call (.pl (.bool x176)) []), (7, .bool true)], []), ([], [(6, .bool (VariationPosition.eqb x153 (VariationPosition.mk x153.Member x153.Product 0 0)))], []), ([(3, false), (4, false), (7, false), (10, false), (11, false), (12, false), (13, false), (16, true), (17, true), (18, true), (19, true)], [(5, .bool false), (8, .bool false), (12, .call (.pl (.bool x181)) []), (14, .bool false), (20, .bool true)], []), ([], [], [])]) (ps := [some true, none]) (tds := []) (m := []) (keep := [2]) (ex := .ret) (st' := (f26n2E ba1 .ret).2) (by kernel_rfl) (ap h117 (ap (at_some h154).1 (ap (at_map VariationPosition.cells (at_some h154).2) (ap h155 (ap h155 (ap h155 (ap h155 (ap h155 (ap (at_some h170).1 (ap (at_map VariationPosition.cells (at_some h170).2) (ap h155 (ap h155 (ap h155 (ap h155 (ap h155 (ap (f53_ok x169 x153 h172) (ap h175 (ap h175 (ap h175 (ap h175 (ap (f37_ok x153.Quantity 1048576 h174) (ap (f37_ok x153.Basis 1125899906842624 h177) (ap (VariationPosition.eqb_ok x153 (VariationPosition.mk x153.Member x153.Product 0 0)) (ap (not_t h178) (ap (not_t h178) (ap (not_t h178) (ap (not_t h179) (ap (not_t h179) (ap h180 (ap h180 (ap h180 (ap h180 (ap h180 (ap (not_f h183) (ap (not_f h183) (ap (not_f h183) (ap (not_f h183) (ap (not_f h183) (ap (f44_ok x153.Member h182) an))))))))))))))))))))))))))))))))))))))) (fun h => nomatch h) (LoopQ.out rfl rfl)
            · obtain rfl := some_inj h
              exact runK_end cfg_ok (k := 3) (rs := [([], [], []), ([], [(1, .idx (Int.toNat v114) (VariationPosition.cells x153))], []), ([(3, false), (4, false), (5, false), (6, false), (7, false), (8, false), (9, false), (10, false), (11, false)], [(7, .idx (Int.toNat (wr64 (v114 - 1))) (VariationPosition.cells x169)), (10, .call (.pl (.int .i64 x171)) []), (12, .bool false)], []), ([(4, true), (5, true), (6, true)], [(2, .call (.pl (.bool x173)) []), (6, .call (.pl (.bool x176)) []), (7, .bool true)], []), ([], [(6, .bool (VariationPosition.eqb x153 (VariationPosition.mk x153.Member x153.Product 0 0)))], []), ([(3, false), (4, false), (7, true)], [(5, .bool false), (8, .bool true)], []), ([], [], [])]) (ps := [some true, none]) (tds := []) (m := []) (keep := [2]) (ex := .ret) (st' := (f26n2E ba1 .ret).2) (by kernel_rfl) (ap h117 (ap (at_some h154).1 (ap (at_map VariationPosition.cells (at_some h154).2) (ap h155 (ap h155 (ap h155 (ap h155 (ap h155 (ap (at_some h170).1 (ap (at_map VariationPosition.cells (at_some h170).2) (ap h155 (ap h155 (ap h155 (ap h155 (ap h155 (ap (f53_ok x169 x153 h172) (ap h175 (ap h175 (ap h175 (ap h175 (ap (f37_ok x153.Quantity 1048576 h174) (ap (f37_ok x153.Basis 1125899906842624 h177) (ap (VariationPosition.eqb_ok x153 (VariationPosition.mk x153.Member x153.Product 0 0)) (ap (not_t h178) (ap (not_t h178) (ap (not_t h178) (ap (not_f h179) (ap (not_f h179) an)))))))))))))))))))))))))))) (fun h => nomatch h) (LoopQ.out rfl rfl)
          · obtain rfl := some_inj h
            exact runK_end cfg_ok (k := 3) (rs := [([], [], []), ([], [(1, .idx (Int.toNat v114) (VariationPosition.cells x153))], []), ([(3, false), (4, false), (5, false), (6, false), (7, false), (8, false), (9, false), (10, false), (11, false)], [(7, .idx (Int.toNat (wr64 (v114 - 1))) (VariationPosition.cells x169)), (10, .call (.pl (.int .i64 x171)) []), (12, .bool false)], []), ([(4, true), (5, true), (6, true)], [(2, .call (.pl (.bool x173)) []), (6, .call (.pl (.bool x176)) []), (7, .bool true)], []), ([], [(6, .bool (VariationPosition.eqb x153 (VariationPosition.mk x153.Member x153.Product 0 0)))], []), ([(3, true), (4, true)], [(5, .bool true)], []), ([], [], [])]) (ps := [some true, none]) (tds := []) (m := []) (keep := [2]) (ex := .ret) (st' := (f26n2E ba1 .ret).2) (by kernel_rfl) (ap h117 (ap (at_some h154).1 (ap (at_map VariationPosition.cells (at_some h154).2) (ap h155 (ap h155 (ap h155 (ap h155 (ap h155 (ap (at_some h170).1 (ap (at_map VariationPosition.cells (at_some h170).2) (ap h155 (ap h155 (ap h155 (ap h155 (ap h155 (ap (f53_ok x169 x153 h172) (ap h175 (ap h175 (ap h175 (ap h175 (ap (f37_ok x153.Quantity 1048576 h174) (ap (f37_ok x153.Basis 1125899906842624 h177) (ap (VariationPosition.eqb_ok x153 (VariationPosition.mk x153.Member x153.Product 0 0)) (ap (not_f h178) (ap (not_f h178) (ap (not_f h178) an)))))))))))))))))))))))))) (fun h => nomatch h) (LoopQ.out rfl rfl)
        · rcases cond_cases h with ⟨h187, h⟩ | ⟨h187, h⟩
          · obtain rfl := some_inj h
            exact runK_end cfg_ok (k := 3) (rs := [([], [], []), ([], [(1, .idx (Int.toNat v114) (VariationPosition.cells x153))], []), ([(3, false), (4, false), (5, false), (6, false), (7, false), (8, false), (9, false), (10, false), (11, false)], [(7, .idx (Int.toNat (wr64 (v114 - 1))) (VariationPosition.cells x169)), (10, .call (.pl (.int .i64 x171)) []), (12, .bool false)], []), ([(4, false), (5, false), (6, false)], [(2, .call (.pl (.bool x173)) []), (7, .bool false)], []), ([], [(6, .bool (VariationPosition.eqb x153 (VariationPosition.mk x153.Member x153.Product 0 0)))], []), ([(3, false), (4, false)], [(5, .bool false)], []), ([], [], [])]) (ps := [some true, none]) (tds := []) (m := []) (keep := [2]) (ex := .ret) (st' := (f26n2E ba1 .ret).2) (by kernel_rfl) (ap h117 (ap (at_some h154).1 (ap (at_map VariationPosition.cells (at_some h154).2) (ap h155 (ap h155 (ap h155 (ap h155 (ap h155 (ap (at_some h170).1 (ap (at_map VariationPosition.cells (at_some h170).2) (ap h155 (ap h155 (ap h155 (ap h155 (ap h155 (ap (f53_ok x169 x153 h172) (ap h175 (ap h175 (ap h175 (ap h175 (ap (f37_ok x153.Quantity 1048576 h174) (ap (VariationPosition.eqb_ok x153 (VariationPosition.mk x153.Member x153.Product 0 0)) (ap (not_t h187) (ap (not_t h187) (ap (not_t h187) an))))))))))))))))))))))))) (fun h => nomatch h) (LoopQ.out rfl rfl)
          · obtain rfl := some_inj h
            exact runK_end cfg_ok (k := 3) (rs := [([], [], []), ([], [(1, .idx (Int.toNat v114) (VariationPosition.cells x153))], []), ([(3, false), (4, false), (5, false), (6, false), (7, false), (8, false), (9, false), (10, false), (11, false)], [(7, .idx (Int.toNat (wr64 (v114 - 1))) (VariationPosition.cells x169)), (10, .call (.pl (.int .i64 x171)) []), (12, .bool false)], []), ([(4, false), (5, false), (6, false)], [(2, .call (.pl (.bool x173)) []), (7, .bool false)], []), ([], [(6, .bool (VariationPosition.eqb x153 (VariationPosition.mk x153.Member x153.Product 0 0)))], []), ([(3, true), (4, true)], [(5, .bool true)], []), ([], [], [])]) (ps := [some true, none]) (tds := []) (m := []) (keep := [2]) (ex := .ret) (st' := (f26n2E ba1 .ret).2) (by kernel_rfl) (ap h117 (ap (at_some h154).1 (ap (at_map VariationPosition.cells (at_some h154).2) (ap h155 (ap h155 (ap h155 (ap h155 (ap h155 (ap (at_some h170).1 (ap (at_map VariationPosition.cells (at_some h170).2) (ap h155 (ap h155 (ap h155 (ap h155 (ap h155 (ap (f53_ok x169 x153 h172) (ap h175 (ap h175 (ap h175 (ap h175 (ap (f37_ok x153.Quantity 1048576 h174) (ap (VariationPosition.eqb_ok x153 (VariationPosition.mk x153.Member x153.Product 0 0)) (ap (not_f h187) (ap (not_f h187) (ap (not_f h187) an))))))))))))))))))))))))) (fun h => nomatch h) (LoopQ.out rfl rfl)
    · obtain rfl := some_inj h
      exact runK_end cfg_ok (k := 2) (rs := [([], [], [])]) (ps := [some false]) (tds := []) (m := [1]) (keep := [3]) (ex := (.exit 0)) (st' := (f26n2E ba1 (.exit0 v115)).2) (by kernel_rfl) (ap h117 an) (fun h => nomatch h) (LoopQ.out rfl rfl)
noncomputable def f26n2L (ba1 : Variation) : List VariationPosition → Int → (List (ByteArray × Sums_)) → Option f26n2O
  | [], v114, v115 =>
    some (.exit0 v115)
  | x0 :: rest, v114, v115 =>
    bif (decide (v114 = 0)) then
      (f37 x0.Quantity 1048576).bind fun x156 =>
      bif x156 then
        (f37 x0.Basis 1125899906842624).bind fun x159 =>
        bif x159 then
          bif (VariationPosition.eqb x0 (VariationPosition.mk x0.Member x0.Product 0 0)) then
            some .ret
          else
            (f44 x0.Member).bind fun x163 =>
            bif x163 then
              (f45 x0.Product).bind fun x166 =>
              bif x166 then
                (f26n2L ba1 rest (v114 + 1) (mPut seq x0.Product (Sums_.mk (wr64 ((mGet seq (Sums_.mk 0 0) x0.Product v115).quantity + x0.Quantity)) (wr64 ((mGet seq (Sums_.mk 0 0) x0.Product v115).basis + x0.Basis))) v115))
              else
                some .ret
            else
              some .ret
        else
          some .ret
      else
        some .ret
    else
      (at? ba1.Positions (wr64 (v114 - 1))).bind fun x169 =>
      (f53 x169 x0).bind fun x171 =>
      (f37 x0.Quantity 1048576).bind fun x173 =>
      bif x173 then
        (f37 x0.Basis 1125899906842624).bind fun x176 =>
        bif (decide (x171 < 0)) then
          bif x176 then
            bif (VariationPosition.eqb x0 (VariationPosition.mk x0.Member x0.Product 0 0)) then
              some .ret
            else
              (f44 x0.Member).bind fun x181 =>
              bif x181 then
                (f45 x0.Product).bind fun x184 =>
                bif x184 then
                  (f26n2L ba1 rest (v114 + 1) (mPut seq x0.Product (Sums_.mk (wr64 ((mGet seq (Sums_.mk 0 0) x0.Product v115).quantity + x0.Quantity)) (wr64 ((mGet seq (Sums_.mk 0 0) x0.Product v115).basis + x0.Basis))) v115))
                else
                  some .ret
              else
                some .ret
          else
            some .ret
        else
          some .ret
      else
        bif (decide (x171 < 0)) then
          some .ret
        else
          some .ret
theorem f26n2L_eq (ba1 : Variation) : ∀ (rest : List VariationPosition) (f k : Nat) (v115 : List (ByteArray × Sums_)), ba1.Positions.drop k = rest → ba1.Positions.length ≤ maxLen → rest.length < f → f26n2 f ba1 (k : Int) v115 = f26n2L ba1 rest (k : Int) v115
  | _, 0, _, _, _, _, hf => absurd hf (Nat.not_lt_zero _)
  | [], f + 1, k, v115, hd, hm, hf => by
    have hk : ¬ ((k : Int) < (ba1.Positions.length : Int)) := by have := drop_nil hd; omega
    rw [f26n2, f26n2L]
    simp only [decide_eq_false hk, cond_false]
  | x0 :: rest, f + 1, k, v115, hd, hm, hf => by
    obtain ⟨hx, hlt, hd'⟩ := drop_cons hd
    have hk : (k : Int) < (ba1.Positions.length : Int) := by omega
    have hw : wr64 ((k : Int) + 1) = (k : Int) + 1 := wr64_of (by omega) (by unfold maxLen at hm; omega)
    have ih : ∀ (v115 : List (ByteArray × Sums_)), f26n2 f ba1 ((k : Int) + 1) v115 = f26n2L ba1 rest ((k : Int) + 1) v115 := fun v115 => f26n2L_eq ba1 rest f (k + 1) v115 hd' hm (by simpa using hf)
    rw [f26n2, f26n2L]
    simp only [decide_eq_true hk, cond_true, at_nat, hx, Option.bind_some, hw, ih]
theorem f26n2_run (ba1 : Variation) (v115 : List (ByteArray × Sums_)) (hm : ba1.Positions.length ≤ maxLen) : f26n2 FUEL ba1 0 v115 = f26n2L ba1 ba1.Positions 0 v115 := f26n2L_eq ba1 ba1.Positions FUEL 0 v115 List.drop_zero hm (lt_FUEL hm)
inductive f26n1O where
  | norm (v192 : List (ByteArray × Sums_))
  | ret
def f26n1E (ba1 : Variation) : f26n1O → Ex × Tr × Hp
  | .norm v192 => (.norm, mkS [(3, (.mp 0))], [some (.map (v192.map (mkv pStr (pAgg Sums_.cells))))])
  | .ret => (.ret, mkS [(2, (.pl (.int .i64 8)))], [])
def f26n1S (ba1 : Variation) : Tr × Hp := (mkS [(1, (.bp 0 0)), (3, (.mp 1))], [some (.box ((Variation.cells ba1).map .pl)), some (.map ([].map (mkv pStr (pAgg Sums_.cells))))])
noncomputable def f26n1 (ba1 : Variation) : Option f26n1O :=
  (f26n2 FUEL ba1 0 []).bind fun o189 => match o189 with
  | .exit0 v191 => some (.norm v191)
  | .ret => some .ret
theorem f26n1_ok (ba1 : Variation) {o : f26n1O} (h : (f26n1 ba1) = some o) : T Try.prog Try.f26.ntmps 0 (cL (dropC 3 c26)) (f26n1S ba1) (fun r => r = f26n1E ba1 o) := by
  unfold f26n1 at h
  refine runK_norm cfg_ok (k := 1) (rs := [([], [], [(2, .val (.pl (.int .i64 (ba1.Positions.length : Int))))])]) (ps := []) (tds := []) (m := [0, 1]) (keep := [1, 3, 28, 29, 30]) (st' := (f26n2S ba1 0 [])) (by kernel_rfl) (ap (len_cv (xs := ba1.Positions) (c := VariationPosition.cells)) an) ?_
  obtain ⟨o189, h190, h⟩ := bind_cases h
  cases o189 with
  | exit0 v191 =>
    obtain rfl := some_inj h
    exact T.last' (T.bl (i := 0) (by kernel_rfl) (by kernel_rfl) (f26n2_ok FUEL ba1 0 [] h190)) (tds := []) (m := [0]) (keep := [3]) (st2 := (f26n1E ba1 (.norm v191)).2) (by kernel_rfl) an rfl
  | ret =>
    obtain rfl := some_inj h
    exact T.last' (T.bl (i := 0) (by kernel_rfl) (by kernel_rfl) (f26n2_ok FUEL ba1 0 [] h190)) (tds := []) (m := []) (keep := [2]) (st2 := (f26n1E ba1 .ret).2) (by kernel_rfl) an rfl
inductive f26n4O where
  | exit2
  | ret
def f26n4E (bd1 : List (ByteArray × Sums_)) : f26n4O → Ex × Tr × Hp
  | .exit2 => ((.exit 2), mkS [], [])
  | .ret => (.ret, mkS [(2, (.pl (.int .i64 8)))], [])
def f26n4S (bd1 : List (ByteArray × Sums_)) (sn0 : List Nat) : Tr × Hp := (mkS [(104, (.it 0))], [some (.iter 1 (bd1.map (mkv pStr (pAgg Sums_.cells))).length sn0), some (.map (bd1.map (mkv pStr (pAgg Sums_.cells))))])
noncomputable def f26n4 (bd1 : List (ByteArray × Sums_)) : List (ByteArray × Sums_) → Option f26n4O
  | [] =>
    some .exit2
  | x202 :: rest =>
    bif (Sums_.eqb x202.2 (Sums_.mk 0 0)) then
      (f26n4 bd1 rest)
    else
      some .ret
theorem f26n4_ok (bd1 : List (ByteArray × Sums_)) : ∀ (f : Nat) (sn0 rem : List Nat) {o : f26n4O}, Rem bd1.length sn0 rem → rem.length < f → (∀ p, p.Perm rem → f26n4 bd1 (ords bd1 p) = some o) → TL Try.prog Try.f26.ntmps 0 f (cL (cL (dropC 1 (cL (dropC 0 (dropC 1 (dropC 3 c26))))))) (f26n4S bd1 sn0) (fun r => r = f26n4E bd1 o)
  | 0, _, _, _, _, hf, _ => absurd hf (Nat.not_lt_zero _)
  | f + 1, sn0, rem, o, hR, hf, H => by
    refine TL.body (K := fun s => ∃ (sn0 rem : List Nat), s = f26n4S bd1 sn0 ∧ Rem bd1.length sn0 rem ∧ rem.length < f ∧ (∀ p, p.Perm rem → f26n4 bd1 (ords bd1 p) = some o)) ?_ (by rintro _ ⟨sn0, rem, rfl, h1, h2, h3⟩; exact f26n4_ok bd1 f sn0 rem h1 h2 h3)
    refine T.oneNext cfg_ok (x := .tmp 104) (t := 105) (tb := 106) (i := 0) (o := 1) (m := (bd1.map (mkv pStr (pAgg Sums_.cells))).length) (seen := sn0) (kvs := (bd1.map (mkv pStr (pAgg Sums_.cells)))) (by kernel_rfl) (by kernel_rfl) (by kernel_rfl) (by kernel_rfl) (by kernel_rfl) (by kernel_rfl) rfl (fun hs => ?_) (fun j201 k v hj hs hx => ?_)
    · obtain rfl := hR.none (by simpa using hs)
      have h : f26n4 bd1 [] = some o := H [] (List.Perm.refl _)
      rw [f26n4] at h
      obtain rfl := some_inj h
      exact runK_end cfg_ok (k := 1) (rs := []) (ps := [none]) (tds := []) (m := []) (keep := []) (ex := (.exit 2)) (st' := (f26n4E bd1 .exit2).2) (by kernel_rfl) an (fun h => nomatch h) (LoopQ.out rfl rfl)
    · obtain ⟨x202, h203, rfl, rfl⟩ := mkv_at hx
      obtain ⟨hR2, hlen, hP⟩ := hR.step (j := j201) (by simpa using hj) hs
      have H2 : ∀ p, p.Perm (rem.erase j201) → f26n4 bd1 (x202 :: ords bd1 p) = some o := fun p hp => by have h := H _ (hP p hp); rwa [ords_cons h203] at h
      have h := H2 _ (List.Perm.refl _)
      rw [f26n4] at h
      rcases cond_cases h with ⟨h205, h⟩ | ⟨h205, h⟩
      · exact run_end cfg_ok (rs := [([], [(0, .entr j201 (pStr x202.1) ((pAgg Sums_.cells) x202.2))], []), ([], [(2, .bool (Sums_.eqb x202.2 (Sums_.mk 0 0)))], [])]) (ps := [none, some false]) (tds := []) (m := [0, 1]) (keep := [104]) (r := (.norm, (f26n4S bd1 (sn0 ++ [j201])))) (by kernel_rfl) (ap (last_app (seen := sn0) (j := j201)) (ap (rfl : (bd1.map (mkv pStr (pAgg Sums_.cells))).length = (bd1.map (mkv pStr (pAgg Sums_.cells))).length) (ap (at_mkv (kp := pStr) (vp := (pAgg Sums_.cells)) h203) (ap (Sums_.eqb_ok x202.2 (Sums_.mk 0 0)) (ap (not_t h205) an))))) (LoopQ.norm ⟨sn0 ++ [j201], rem.erase j201, rfl, hR2, by omega, fun p hp => by have h := H2 p hp; rw [f26n4] at h; simp only [h205, cond_true, cond_false, Option.bind_some, req] at h; exact h⟩)
      · obtain rfl := some_inj h
        exact run_end cfg_ok (rs := [([], [(0, .entr j201 (pStr x202.1) ((pAgg Sums_.cells) x202.2))], []), ([], [(2, .bool (Sums_.eqb x202.2 (Sums_.mk 0 0)))], []), ([], [], [])]) (ps := [none, some true]) (tds := []) (m := []) (keep := [2]) (r := (.ret, (f26n4E bd1 .ret).2)) (by kernel_rfl) (ap (last_app (seen := sn0) (j := j201)) (ap (rfl : (bd1.map (mkv pStr (pAgg Sums_.cells))).length = (bd1.map (mkv pStr (pAgg Sums_.cells))).length) (ap (at_mkv (kp := pStr) (vp := (pAgg Sums_.cells)) h203) (ap (Sums_.eqb_ok x202.2 (Sums_.mk 0 0)) (ap (not_f h205) an))))) (LoopQ.out rfl rfl)
inductive f26n3O where
  | norm
  | ret
def f26n3E (bd1 : List (ByteArray × Sums_)) : f26n3O → Ex × Tr × Hp
  | .norm => (.norm, mkS [], [])
  | .ret => (.ret, mkS [(2, (.pl (.int .i64 8)))], [])
def f26n3S (bd1 : List (ByteArray × Sums_)) : Tr × Hp := (mkS [(3, (.mp 0))], [some (.map (bd1.map (mkv pStr (pAgg Sums_.cells))))])
noncomputable def f26n3 (bd1 : List (ByteArray × Sums_)) : Option f26n3O :=
  (anyOrder bd1 fun p => (f26n4 bd1 p)).bind fun o206 => match o206 with
  | .exit2 => some .norm
  | .ret => some .ret
theorem f26n3_ok (bd1 : List (ByteArray × Sums_)) {o : f26n3O} (h : (f26n3 bd1) = some o) : T Try.prog Try.f26.ntmps 0 (cL (dropC 0 (dropC 1 (dropC 3 c26)))) (f26n3S bd1) (fun r => r = f26n3E bd1 o) := by
  unfold f26n3 at h
  refine runK_norm cfg_ok (k := 1) (rs := [([], [], [])]) (ps := []) (tds := []) (m := [1, 0]) (keep := [104]) (st' := (f26n4S bd1 [])) (by kernel_rfl) an ?_
  obtain ⟨o206, h207, h⟩ := bind_cases h
  cases o206 with
  | exit2 =>
    obtain rfl := some_inj h
    exact T.last' (T.bl (i := 2) (by kernel_rfl) (by kernel_rfl) (f26n4_ok bd1 _ [] (List.range bd1.length) (Rem.start _) (Nat.lt_succ_self _) (fun p hp => anyOrder_at h207 _ (ords_perm hp)))) (tds := []) (m := []) (keep := []) (st2 := (f26n3E bd1 .norm).2) (by kernel_rfl) an rfl
  | ret =>
    obtain rfl := some_inj h
    exact T.last' (T.bl (i := 2) (by kernel_rfl) (by kernel_rfl) (f26n4_ok bd1 _ [] (List.range bd1.length) (Rem.start _) (Nat.lt_succ_self _) (fun p hp => anyOrder_at h207 _ (ords_perm hp)))) (tds := []) (m := []) (keep := [2]) (st2 := (f26n3E bd1 .ret).2) (by kernel_rfl) an rfl
inductive f26n0O where
  | ret (v210 : Int)
def f26n0E (a1 : Variation) : f26n0O → Ex × Tr × Hp
  | .ret v210 => (.ret, mkS [(2, (.pl (.int .i64 v210)))], [])
def f26n0S (a1 : Variation) : Tr × Hp := (initS [(.pl (.agg (Variation.cells a1)))] 0 .leaf, [])
noncomputable def f26n0 (a1 : Variation) : Option f26n0O :=
  bif (decide (a1.Day < 0)) then
    some (.ret 8)
  else
    bif (decide (99999 < a1.Day)) then
      some (.ret 8)
    else
      bif (decide (200 < (a1.Positions.length : Int))) then
        some (.ret 8)
      else
        (f26n1 a1).bind fun o193 => match o193 with
        | .norm v195 => (f26n3 v195).bind fun o208 => match o208 with
          | .norm => some (.ret 0)
          | .ret => some (.ret 8)
        | .ret => some (.ret 8)
theorem f26n0_ok (a1 : Variation) {o : f26n0O} (h : (f26n0 a1) = some o) : T Try.prog Try.f26.ntmps 0 c26 (f26n0S a1) (fun r => r = f26n0E a1 o) := by
  unfold f26n0 at h
  rcases cond_cases h with ⟨h5, h⟩ | ⟨h5, h⟩
  · obtain rfl := some_inj h
    exact runK_end cfg_ok (k := 2) (rs := [([], [], []), ([(4, true), (5, true), (6, true)], [(7, .bool true)], []), ([], [], [])]) (ps := [none]) (tds := []) (m := []) (keep := [2]) (ex := .ret) (st' := (f26n0E a1 (.ret 8)).2) (by kernel_rfl) (ap h5 (ap h5 (ap h5 (ap h5 an)))) (fun h => nomatch h) rfl
  · rcases cond_cases h with ⟨h6, h⟩ | ⟨h6, h⟩
    · obtain rfl := some_inj h
      exact runK_end cfg_ok (k := 2) (rs := [([], [], []), ([(4, false), (5, false), (6, false), (9, true), (10, true), (11, true), (12, true)], [(7, .bool false), (13, .bool true)], []), ([], [], [])]) (ps := [none]) (tds := []) (m := []) (keep := [2]) (ex := .ret) (st' := (f26n0E a1 (.ret 8)).2) (by kernel_rfl) (ap h5 (ap h5 (ap h5 (ap h5 (ap h6 (ap h6 (ap h6 (ap h6 (ap h6 an))))))))) (fun h => nomatch h) rfl
    · rcases cond_cases h with ⟨h7, h⟩ | ⟨h7, h⟩
      · obtain rfl := some_inj h
        exact runK_end cfg_ok (k := 2) (rs := [([], [], []), ([(4, false), (5, false), (6, false), (9, false), (10, false), (11, false), (12, false)], [(7, .bool false), (13, .bool false)], [(11, .val (.pl (.int .i64 (a1.Positions.length : Int))))]), ([], [], [])]) (ps := [some true]) (tds := []) (m := []) (keep := [2]) (ex := .ret) (st' := (f26n0E a1 (.ret 8)).2) (by kernel_rfl) (ap h5 (ap h5 (ap h5 (ap h5 (ap h6 (ap h6 (ap h6 (ap (len_cv (xs := a1.Positions) (c := VariationPosition.cells)) (ap h6 (ap h6 (ap h7 an))))))))))) (fun h => nomatch h) rfl
      · refine runK_norm cfg_ok (k := 3) (rs := [([], [], []), ([(4, false), (5, false), (6, false), (9, false), (10, false), (11, false), (12, false)], [(7, .bool false), (13, .bool false)], [(11, .val (.pl (.int .i64 (a1.Positions.length : Int))))]), ([], [], [])]) (ps := [some false]) (tds := []) (m := [0, 1]) (keep := [1, 3]) (st' := (f26n1S a1)) (by kernel_rfl) (ap h5 (ap h5 (ap h5 (ap h5 (ap h6 (ap h6 (ap h6 (ap (len_cv (xs := a1.Positions) (c := VariationPosition.cells)) (ap h6 (ap h6 (ap h7 an))))))))))) ?_
        obtain ⟨o193, h194, h⟩ := bind_cases h
        cases o193 with
        | norm v195 =>
          refine T.oneN (by kernel_rfl) (f26n1_ok a1 h194) (st2 := (f26n1E a1 (.norm v195)).2) rfl ?_
          refine runK_norm cfg_ok (k := 0) (rs := []) (ps := []) (tds := []) (m := [0]) (keep := [3]) (st' := (f26n3S v195)) (by kernel_rfl) an ?_
          obtain ⟨o208, h209, h⟩ := bind_cases h
          cases o208 with
          | norm =>
            refine T.oneN (by kernel_rfl) (f26n3_ok v195 h209) (st2 := (f26n3E v195 .norm).2) rfl ?_
            obtain rfl := some_inj h
            exact run_end cfg_ok (rs := [([], [], [])]) (ps := []) (tds := []) (m := []) (keep := [2]) (r := (.ret, (f26n0E a1 (.ret 0)).2)) (by kernel_rfl) an rfl
          | ret =>
            obtain rfl := some_inj h
            exact T.oneX' (by kernel_rfl) (f26n3_ok v195 h209) (tds := []) (m := []) (keep := [2]) (st2 := (f26n0E a1 (.ret 8)).2) (by kernel_rfl) an rfl rfl
        | ret =>
          obtain rfl := some_inj h
          exact T.oneX' (by kernel_rfl) (f26n1_ok a1 h194) (tds := []) (m := []) (keep := [2]) (st2 := (f26n0E a1 (.ret 8)).2) (by kernel_rfl) an rfl rfl
noncomputable def f26 (a1 : Variation) : Option Int := (f26n0 a1).bind fun o => match o with
  | .ret v210 => some v210
theorem f26_ok (a1 : Variation) {r : Int} (h : (f26 a1) = some r) : CallS Try.prog false 26 [(.pl (.agg (Variation.cells a1)))] [] (.pl (.int .i64 r)) [] := by
  unfold f26 at h
  obtain ⟨o, ho, h⟩ := bind_cases h
  cases o with
  | ret v210 =>
    obtain rfl := some_inj h
    exact CallS.plain cfg_ok (f := Try.f26) (c := c26) (by kernel_rfl) (by kernel_rfl) (by kernel_rfl) (by kernel_rfl) ((f26n0_ok a1 ho).mono fun r e => by subst e; exact ⟨.inl rfl, (.pl (.int .i64 v210)), (.pl (.int .i64 v210)), by kernel_rfl, by kernel_rfl, ((Wk.refl _) : Wk (.pl (.int .i64 v210)) (.pl (.int .i64 v210)))⟩)

noncomputable def c47 : Code := Try.f47.body.getD .skip
inductive f47r1n0O where
  | ret (v5 : List VariationPosition)
def f47r1n0E (a1 : List VariationPosition) : f47r1n0O → Ex × Tr × Hp
  | .ret v5 => (.ret, mkS [(2, (.own 0))], [some (.row false 4 (v5.map VariationPosition.cells))])
def f47r1n0S (a1 : List VariationPosition) : Tr × Hp := (initS [(.pl (.sl .any 4 (a1.map VariationPosition.cells)))] 0 .leaf, [])
noncomputable def f47r1n0 (a1 : List VariationPosition) : Option f47r1n0O :=
  bif (a1.isEmpty) then
    some (.ret [])
  else
    req (fit a1.length 48) <|
    some (.ret a1)
theorem f47r1n0_ok (a1 : List VariationPosition) {o : f47r1n0O} (h : (f47r1n0 a1) = some o) : T Try.prog Try.f47.ntmps 0 c47 (f47r1n0S a1) (fun r => r = f47r1n0E a1 o) := by
  unfold f47r1n0 at h
  refine runK_norm cfg_ok (k := 1) (rs := [([], [], [])]) (ps := []) (tds := []) (m := []) (keep := [0]) (st' := (mkS [(0, (.pl (.sl .any 4 (a1.map VariationPosition.cells))))], [])) (by kernel_rfl) an ?_
  refine T.nest (by kernel_rfl) ?_
  rcases cond_cases h with ⟨h2, h⟩ | ⟨h2, h⟩
  · refine runK_norm cfg_ok (k := 0) (rs := []) (ps := []) (tds := []) (m := []) (keep := [0]) (st' := (mkS [(0, (.pl (.sl .any 4 (a1.map VariationPosition.cells))))], [])) (by kernel_rfl) an ?_
    refine T.oneNil cfg_ok (x := .tmp 0) (t := 25) (t3 := 3) (t4 := 4) (sz := 4) (es := (a1.map VariationPosition.cells)) (by kernel_rfl) (by kernel_rfl) (by kernel_rfl) (by kernel_rfl) (by kernel_rfl) (fun b hb => ?_)
    cases b
    · refine run_end cfg_ok (rs := []) (ps := [none]) (tds := []) (m := []) (keep := [0]) (r := (.norm, (mkS [(0, (.pl (.sl .any 4 (a1.map VariationPosition.cells))))], []))) (by kernel_rfl) an (ThenQ.norm ?_)
      obtain rfl := some_inj h
      exact run_end cfg_ok (rs := [([], [(2, .app false)], [])]) (ps := []) (tds := []) (m := [0]) (keep := [2]) (r := (.ret, (f47r1n0E a1 (.ret [])).2)) (by kernel_rfl) (ap (nil_map (c := VariationPosition.cells) h2) an) rfl
    · obtain rfl := some_inj h
      exact run_end cfg_ok (rs := [([], [], [])]) (ps := [none]) (tds := [.mat 2 4]) (m := [0]) (keep := [2]) (r := (.ret, (f47r1n0E a1 (.ret [])).2)) (by kernel_rfl) an (ThenQ.out rfl rfl)
  · refine runK_norm cfg_ok (k := 0) (rs := []) (ps := []) (tds := []) (m := []) (keep := [0]) (st' := (mkS [(0, (.pl (.sl .any 4 (a1.map VariationPosition.cells))))], [])) (by kernel_rfl) an ?_
    refine T.oneNil cfg_ok (x := .tmp 0) (t := 25) (t3 := 3) (t4 := 4) (sz := 4) (es := (a1.map VariationPosition.cells)) (by kernel_rfl) (by kernel_rfl) (by kernel_rfl) (by kernel_rfl) (by kernel_rfl) (fun b hb => ?_)
    cases b
    · refine run_end cfg_ok (rs := []) (ps := [none]) (tds := []) (m := []) (keep := [0]) (r := (.norm, (mkS [(0, (.pl (.sl .any 4 (a1.map VariationPosition.cells))))], []))) (by kernel_rfl) an (ThenQ.norm ?_)
      obtain ⟨h4, h⟩ := req_cases h
      obtain rfl := some_inj h
      exact run_end cfg_ok (rs := [([], [(2, .app true)], [])]) (ps := []) (tds := []) (m := [1]) (keep := [2]) (r := (.ret, (f47r1n0E a1 (.ret a1)).2)) (by kernel_rfl) (ap (fit_map0z (te := ti52) (xs := a1) (c := VariationPosition.cells) h4 rfl) (ap (ne_map (c := VariationPosition.cells) h2) (ap (len_all (c := VariationPosition.cells) (xs := a1) (n := 4) (fun _ => rfl)) an))) rfl
    · exact absurd (hb rfl) (ne_map (c := VariationPosition.cells) h2)
noncomputable def f47r1 (a1 : List VariationPosition) : Option (List VariationPosition) := (f47r1n0 a1).bind fun o => match o with
  | .ret v5 => some v5
theorem f47r1_ok (a1 : List VariationPosition) {r : List VariationPosition} (h : (f47r1 a1) = some r) : CallS Try.prog true 47 [(.pl (.sl .any 4 (a1.map VariationPosition.cells)))] [] (.own 0) [some (.row false 4 (r.map VariationPosition.cells))] := by
  unfold f47r1 at h
  obtain ⟨o, ho, h⟩ := bind_cases h
  cases o with
  | ret v5 =>
    obtain rfl := some_inj h
    exact CallS.shared cfg_ok (f := Try.f47) (c := c47) (by kernel_rfl) (by kernel_rfl) (by kernel_rfl) ((f47r1n0_ok a1 ho).mono fun r e => by subst e; exact ⟨.inl rfl, by kernel_rfl, by kernel_rfl⟩)

noncomputable def c63 : Code := Try.f63.body.getD .skip
inductive f63_53n1O where
  | exit0 (v43 : Int)
def f63_53n1E (a1 : List VariationPosition) (a2 : VariationPosition) : f63_53n1O → Ex × Tr × Hp
  | .exit0 v43 => ((.exit 0), mkS [(0, (.pl (.sl .any 4 (a1.map VariationPosition.cells)))), (2, (.pl (.fn 53))), (4, (.bp 0 0)), (8, (.pl (.int .i64 (a1.length : Int)))), (9, (.pl (.int .i64 v43)))], [some (.box ((VariationPosition.cells a2).map .pl))])
def f63_53n1S (a1 : List VariationPosition) (a2 : VariationPosition) (v29 : Int) (v30 : Int) : Tr × Hp := (mkS [(0, (.pl (.sl .any 4 (a1.map VariationPosition.cells)))), (2, (.pl (.fn 53))), (4, (.bp 0 0)), (8, (.pl (.int .i64 (a1.length : Int)))), (9, (.pl (.int .i64 v29))), (10, (.pl (.int .i64 v30)))], [some (.box ((VariationPosition.cells a2).map .pl))])
noncomputable def f63_53n1 : Nat → List VariationPosition → VariationPosition → Int → Int → Option f63_53n1O
  | 0, _, _, _, _ => none
  | f + 1, a1, a2, v29, v30 =>
    bif (decide (v29 < v30)) then
      (at? a1 (wr64 (shrK .u64 (wru64 (wr64 (v29 + v30))) 1))).bind fun x38 =>
      (f53 x38 a2).bind fun x40 =>
      bif (decide (x40 < 0)) then
        (f63_53n1 f a1 a2 (wr64 ((wr64 (shrK .u64 (wru64 (wr64 (v29 + v30))) 1)) + 1)) v30)
      else
        (f63_53n1 f a1 a2 v29 (wr64 (shrK .u64 (wru64 (wr64 (v29 + v30))) 1)))
    else
      some (.exit0 v29)
theorem f63_53n1_ok : ∀ (f : Nat) (a1 : List VariationPosition) (a2 : VariationPosition) (v29 : Int) (v30 : Int) {o : f63_53n1O}, (f63_53n1 f a1 a2 v29 v30) = some o → TL Try.prog Try.f63.ntmps 0 f (cL (cL (cL (dropC 3 c63)))) (f63_53n1S a1 a2 v29 v30) (fun r => r = f63_53n1E a1 a2 o)
  | 0, _, _, _, _, o, h => by rw [f63_53n1] at h; cases h
  | f + 1, a1, a2, v29, v30, o, h => by
    rw [f63_53n1] at h
    refine TL.body (K := fun s => ∃ v29 : Int, ∃ v30 : Int, s = (f63_53n1S a1 a2 v29 v30) ∧ (f63_53n1 f a1 a2 v29 v30) = some o) ?_ (by rintro _ ⟨v29, v30, rfl, hk⟩; exact f63_53n1_ok f _ _ _ _ hk)
    rcases cond_cases h with ⟨h32, h⟩ | ⟨h32, h⟩
    · obtain ⟨x38, h39, h⟩ := bind_cases h
      obtain ⟨x40, h41, h⟩ := bind_cases h
      rcases cond_cases h with ⟨h42, h⟩ | ⟨h42, h⟩
      · exact run_end cfg_ok (rs := [([], [], []), ([], [], []), ([], [(3, .idx (Int.toNat (wr64 (shrK .u64 (wru64 (wr64 (v29 + v30))) 1))) (VariationPosition.cells x38)), (6, .call (.pl (.int .i64 x40)) [])], []), ([], [], [])]) (ps := [some true, some true]) (tds := []) (m := [0]) (keep := [0, 2, 4, 8, 9, 10]) (r := (.norm, (f63_53n1S a1 a2 (wr64 ((wr64 (shrK .u64 (wru64 (wr64 (v29 + v30))) 1)) + 1)) v30))) (by kernel_rfl) (ap h32 (ap (at_some h39).1 (ap (at_map VariationPosition.cells (at_some h39).2) (ap (f53_ok x38 a2 h41) (ap h42 an))))) (LoopQ.norm ⟨(wr64 ((wr64 (shrK .u64 (wru64 (wr64 (v29 + v30))) 1)) + 1)), v30, rfl, h⟩)
      · exact run_end cfg_ok (rs := [([], [], []), ([], [], []), ([], [(3, .idx (Int.toNat (wr64 (shrK .u64 (wru64 (wr64 (v29 + v30))) 1))) (VariationPosition.cells x38)), (6, .call (.pl (.int .i64 x40)) [])], []), ([], [], [])]) (ps := [some true, some false]) (tds := []) (m := [0]) (keep := [0, 2, 4, 8, 9, 10]) (r := (.norm, (f63_53n1S a1 a2 v29 (wr64 (shrK .u64 (wru64 (wr64 (v29 + v30))) 1))))) (by kernel_rfl) (ap h32 (ap (at_some h39).1 (ap (at_map VariationPosition.cells (at_some h39).2) (ap (f53_ok x38 a2 h41) (ap h42 an))))) (LoopQ.norm ⟨v29, (wr64 (shrK .u64 (wru64 (wr64 (v29 + v30))) 1)), rfl, h⟩)
    · obtain rfl := some_inj h
      exact runK_end cfg_ok (k := 1) (rs := [([], [], [])]) (ps := [some false]) (tds := []) (m := [0]) (keep := [0, 2, 4, 8, 9]) (ex := (.exit 0)) (st' := (f63_53n1E a1 a2 (.exit0 v29)).2) (by kernel_rfl) (ap h32 an) (fun h => nomatch h) (LoopQ.out rfl rfl)
inductive f63_53n0O where
  | ret (v57 : Int) (v58 : Bool)
def f63_53n0E (a1 : List VariationPosition) (a2 : VariationPosition) : f63_53n0O → Ex × Tr × Hp
  | .ret v57 v58 => (.ret, mkS [(6, (.pl (.int .i64 v57))), (7, (.pl (.bool v58)))], [])
def f63_53n0S (a1 : List VariationPosition) (a2 : VariationPosition) : Tr × Hp := (initS [(.pl (.sl .any 4 (a1.map VariationPosition.cells))), (.pl (.agg (VariationPosition.cells a2))), (.pl (.fn 53))] 0 .leaf, [])
noncomputable def f63_53n0 (a1 : List VariationPosition) (a2 : VariationPosition) : Option f63_53n0O :=
  (f63_53n1 FUEL a1 a2 0 (a1.length : Int)).bind fun o44 => match o44 with
  | .exit0 v46 => bif (decide (v46 < (a1.length : Int))) then
      (at? a1 v46).bind fun x53 =>
      (f53 x53 a2).bind fun x55 =>
      some (.ret v46 (decide (x55 = 0)))
    else
      some (.ret v46 false)
theorem f63_53n0_ok (a1 : List VariationPosition) (a2 : VariationPosition) {o : f63_53n0O} (h : (f63_53n0 a1 a2) = some o) : T Try.prog Try.f63.ntmps 0 c63 (f63_53n0S a1 a2) (fun r => r = f63_53n0E a1 a2 o) := by
  unfold f63_53n0 at h
  refine runK_norm cfg_ok (k := 3) (rs := [([], [], []), ([], [], [(1, .val (.pl (.int .i64 (a1.length : Int))))]), ([], [], [])]) (ps := []) (tds := []) (m := [0]) (keep := [0, 2, 4, 8, 9, 10]) (st' := (f63_53n1S a1 a2 0 (a1.length : Int))) (by kernel_rfl) (ap (len_cv (xs := a1) (c := VariationPosition.cells)) an) ?_
  obtain ⟨o44, h45, h⟩ := bind_cases h
  cases o44 with
  | exit0 v46 =>
    refine T.oneN (by kernel_rfl) (T.bl (i := 0) (by kernel_rfl) (by kernel_rfl) (f63_53n1_ok FUEL a1 a2 0 (a1.length : Int) h45)) (st2 := (f63_53n1E a1 a2 (.exit0 v46)).2) rfl ?_
    rcases cond_cases h with ⟨h52, h⟩ | ⟨h52, h⟩
    · obtain ⟨x53, h54, h⟩ := bind_cases h
      obtain ⟨x55, h56, h⟩ := bind_cases h
      obtain rfl := some_inj h
      exact run_end cfg_ok (rs := [([(5, true), (6, true), (7, true), (8, true), (9, true), (10, true), (11, true), (12, true)], [(8, .idx (Int.toNat v46) (VariationPosition.cells x53)), (11, .call (.pl (.int .i64 x55)) []), (13, .bool true)], [])]) (ps := []) (tds := []) (m := []) (keep := [6, 7]) (r := (.ret, (f63_53n0E a1 a2 (.ret v46 (decide (x55 = 0)))).2)) (by kernel_rfl) (ap h52 (ap h52 (ap h52 (ap h52 (ap (at_some h54).1 (ap (at_map VariationPosition.cells (at_some h54).2) (ap h52 (ap h52 (ap h52 (ap h52 (ap h52 (ap (f53_ok x53 a2 h56) an)))))))))))) rfl
    · obtain rfl := some_inj h
      exact run_end cfg_ok (rs := [([(5, false), (6, false), (7, false), (8, false), (9, false), (10, false), (11, false), (12, false)], [(13, .bool false)], [])]) (ps := []) (tds := []) (m := []) (keep := [6, 7]) (r := (.ret, (f63_53n0E a1 a2 (.ret v46 false)).2)) (by kernel_rfl) (ap h52 (ap h52 (ap h52 (ap h52 (ap h52 (ap h52 (ap h52 (ap h52 (ap h52 an))))))))) rfl
noncomputable def f63_53 (a1 : List VariationPosition) (a2 : VariationPosition) : Option (Int × Bool) := (f63_53n0 a1 a2).bind fun o => match o with
  | .ret v57 v58 => some (v57, v58)
theorem f63_53_ok (a1 : List VariationPosition) (a2 : VariationPosition) {r : Int × Bool} (h : (f63_53 a1 a2) = some r) : CallS Try.prog false 63 [(.pl (.sl .any 4 (a1.map VariationPosition.cells))), (.pl (.agg (VariationPosition.cells a2))), (.pl (.fn 53))] [] (.tup [(.pl (.int .i64 r.1)), (.pl (.bool r.2))]) [] := by
  unfold f63_53 at h
  obtain ⟨o, ho, h⟩ := bind_cases h
  cases o with
  | ret v57 v58 =>
    obtain rfl := some_inj h
    exact CallS.plain cfg_ok (f := Try.f63) (c := c63) (by kernel_rfl) (by kernel_rfl) (by kernel_rfl) (by kernel_rfl) ((f63_53n0_ok a1 a2 ho).mono fun r e => by subst e; exact ⟨.inl rfl, (.tup [(.pl (.int .i64 v57)), (.pl (.bool v58))]), (.tup [(.pl (.int .i64 v57)), (.pl (.bool v58))]), by kernel_rfl, by kernel_rfl, ((Wk.refl _) : Wk (.tup [(.pl (.int .i64 v57)), (.pl (.bool v58))]) (.tup [(.pl (.int .i64 v57)), (.pl (.bool v58))]))⟩)

def in64 (xs : List VariationPosition) (i : Int) (vs : List VariationPosition) : Option (List VariationPosition) := match vs with
  | [e] => bif decide (0 ≤ i) && (decide (i ≤ (xs.length : Int)) && fitsB (xs.length + 1) te52) then some (xs.take i.toNat ++ e :: xs.drop i.toNat) else none
  | _ => none
theorem in64_ok (xs : List VariationPosition) (i : Int) (vs : List VariationPosition) {r : List VariationPosition} (h : in64 xs i vs = some r) :
    CallS Try.prog true 64 [.own 0, .pl (.int .i64 i), .own 1] [some (.row false 4 (xs.map VariationPosition.cells)), some (.row false 4 (vs.map VariationPosition.cells))] (.own 2) [none, some (.row false 4 (vs.map VariationPosition.cells)), some (.row false 4 (r.map VariationPosition.cells))] := by
  match vs, h with
  | [e], h =>
    simp only [in64] at h
    cases hc : (decide (0 ≤ i) && (decide (i ≤ (xs.length : Int)) && fitsB (xs.length + 1) te52)) with
    | false => rw [hc] at h; cases h
    | true =>
      rw [hc] at h
      simp only [cond_true, Option.some.injEq] at h
      simp only [Bool.and_eq_true, decide_eq_true_eq] at hc
      obtain ⟨h1, h2, h3⟩ := hc
      subst h
      have := ins_callS (xs.map VariationPosition.cells) (VariationPosition.cells e) i.toNat (by rw [List.length_map]; omega) (by rw [List.length_map]; exact h3)
      rw [show ((i.toNat : Nat) : Int) = i by omega] at this
      simp only [List.map_append, List.map_cons, List.map_take, List.map_drop, List.map_nil]
      exact this


def de65 (xs : List VariationPosition) (i j : Int) : Option (List VariationPosition) := bif decide (0 ≤ i) && (decide (i < (xs.length : Int)) && decide (j = i + 1)) then some (xs.take i.toNat ++ xs.drop (i.toNat + 1)) else none
theorem de65_ok (xs : List VariationPosition) (i j : Int) {r : List VariationPosition} (h : de65 xs i j = some r) :
    CallS Try.prog true 65 [.own 0, .pl (.int .i64 i), .pl (.int .i64 j)] [some (.row false 4 (xs.map VariationPosition.cells))] (.own 1) [none, some (.row false 4 (r.map VariationPosition.cells))] := by
  unfold de65 at h
  cases hc : (decide (0 ≤ i) && (decide (i < (xs.length : Int)) && decide (j = i + 1))) with
  | false => rw [hc] at h; cases h
  | true =>
    rw [hc] at h
    simp only [cond_true, Option.some.injEq] at h
    simp only [Bool.and_eq_true, decide_eq_true_eq] at hc
    obtain ⟨h1, h2, h3⟩ := hc
    subst h
    have := del_callS (xs.map VariationPosition.cells) i.toNat (by rw [List.length_map]; omega)
    rw [show ((i.toNat : Nat) : Int) = i by omega, show ((i.toNat + 1 : Nat) : Int) = j by omega] at this
    simp only [List.map_append, List.map_take, List.map_drop]
    exact this


noncomputable def c46 : Code := Try.f46.body.getD .skip
inductive f46r1n1O where
  | norm (v19 : List VariationPosition)
def f46r1n1E (be1 : Int) (be2 : Int) (bf3 : Int × Bool) (bg4 : List VariationPosition) (bb5 : ByteArray) (bb6 : ByteArray) : f46r1n1O → Ex × Tr × Hp
  | .norm v19 => (.norm, mkS [(0, (.own 1)), (3, (.pl (.int .i64 be1))), (4, (.pl (.int .i64 be2))), (11, (.bp 2 0)), (12, (.bp 3 0)), (13, (.pl (.int .i64 bf3.1)))], [none, some (.row false 4 (v19.map VariationPosition.cells)), some (.box ((VariationPosition.cells (VariationPosition.mk str_x str_x 0 0)).map .pl)), some (.box ((VariationPosition.cells (VariationPosition.mk bb5 bb6 0 0)).map .pl))])
def f46r1n1S (be1 : Int) (be2 : Int) (bf3 : Int × Bool) (bg4 : List VariationPosition) (bb5 : ByteArray) (bb6 : ByteArray) : Tr × Hp := (mkS [(0, (.own 0)), (3, (.pl (.int .i64 be1))), (4, (.pl (.int .i64 be2))), (11, (.bp 1 0)), (12, (.bp 2 0)), (13, (.pl (.int .i64 bf3.1))), (14, (.pl (.bool bf3.2)))], [some (.row false 4 (bg4.map VariationPosition.cells)), some (.box ((VariationPosition.cells (VariationPosition.mk str_x str_x 0 0)).map .pl)), some (.box ((VariationPosition.cells (VariationPosition.mk bb5 bb6 0 0)).map .pl))])
noncomputable def f46r1n1 (be1 : Int) (be2 : Int) (bf3 : Int × Bool) (bg4 : List VariationPosition) (bb5 : ByteArray) (bb6 : ByteArray) : Option f46r1n1O :=
  bif bf3.2 then
    some (.norm bg4)
  else
    (in64 bg4 bf3.1 [(VariationPosition.mk bb5 bb6 0 0)]).bind fun x17 =>
    some (.norm x17)
theorem f46r1n1_ok (be1 : Int) (be2 : Int) (bf3 : Int × Bool) (bg4 : List VariationPosition) (bb5 : ByteArray) (bb6 : ByteArray) {o : f46r1n1O} (h : (f46r1n1 be1 be2 bf3 bg4 bb5 bb6) = some o) : T Try.prog Try.f46.ntmps 1 (cL (dropC 3 c46)) (f46r1n1S be1 be2 bf3 bg4 bb5 bb6) (fun r => r = f46r1n1E be1 be2 bf3 bg4 bb5 bb6 o) := by
  unfold f46r1n1 at h
  rcases cond_cases h with ⟨h16, h⟩ | ⟨h16, h⟩
  · obtain rfl := some_inj h
    exact run_end cfg_ok (rs := [([], [], [])]) (ps := [some false]) (tds := [.mov 0]) (m := [3, 1, 2]) (keep := [0, 3, 4, 11, 12, 13]) (r := (.norm, (f46r1n1E be1 be2 bf3 bg4 bb5 bb6 (.norm bg4)).2)) (by kernel_rfl) (ap (not_t h16) an) rfl
  · obtain ⟨x17, h18, h⟩ := bind_cases h
    obtain rfl := some_inj h
    exact run_end cfg_ok (rs := [([], [], []), ([], [(4, .call (.own 4) [none, none, none, some (.row false 4 ([(VariationPosition.mk bb5 bb6 0 0)].map VariationPosition.cells)), some (.row false 4 (x17.map VariationPosition.cells))])], [])]) (ps := [some true]) (tds := []) (m := [4, 1, 2]) (keep := [0, 3, 4, 11, 12, 13]) (r := (.norm, (f46r1n1E be1 be2 bf3 bg4 bb5 bb6 (.norm x17)).2)) (by kernel_rfl) (ap (not_f h16) (ap (CallS.ren (args' := [(.own 0), (.pl (.int .i64 bf3.1)), (.own 3)]) (v' := (.own 4)) (B := [some (.row false 4 (bg4.map VariationPosition.cells)), none, none, some (.row false 4 ([(VariationPosition.mk bb5 bb6 0 0)].map VariationPosition.cells))]) (B' := [none, none, none, some (.row false 4 ([(VariationPosition.mk bb5 bb6 0 0)].map VariationPosition.cells)), some (.row false 4 (x17.map VariationPosition.cells))]) 4 [0, 3] (in64_ok bg4 bf3.1 [(VariationPosition.mk bb5 bb6 0 0)] h18) (by kernel_rfl) (by kernel_rfl) (by kernel_rfl) (by kernel_rfl) (by kernel_rfl) (by kernel_rfl)) an)) rfl
inductive f46r1n0O where
  | ret (v33 : List VariationPosition) (v34 : VariationPosition)
def f46r1n0E (a1 : ByteArray) (a2 : ByteArray) (a3 : Int) (a4 : Int) (a5 : List VariationPosition) : f46r1n0O → Ex × Tr × Hp
  | .ret v33 v34 => (.ret, mkS [(10, (.own 1)), (11, (.bp 2 0))], [none, some (.row false 4 (v33.map VariationPosition.cells)), some (.box ((VariationPosition.cells v34).map .pl))])
def f46r1n0S (a1 : ByteArray) (a2 : ByteArray) (a3 : Int) (a4 : Int) (a5 : List VariationPosition) : Tr × Hp := (initS [(.own 0), (.pl (.str a1)), (.pl (.str a2)), (.pl (.int .i64 a3)), (.pl (.int .i64 a4))] 0 .leaf, [some (.row false 4 (a5.map VariationPosition.cells))])
noncomputable def f46r1n0 (a1 : ByteArray) (a2 : ByteArray) (a3 : Int) (a4 : Int) (a5 : List VariationPosition) : Option f46r1n0O :=
  (f63_53 a5 (VariationPosition.mk a1 a2 0 0)).bind fun x8 =>
  (f46r1n1 a3 a4 x8 a5 a1 a2).bind fun o20 => match o20 with
  | .norm v22 => (at? v22 x8.1).bind fun x25 =>
    bif (VariationPosition.eqb (VariationPosition.mk x25.Member x25.Product (wr64 (x25.Quantity + a3)) (wr64 (x25.Basis + a4))) (VariationPosition.mk a1 a2 0 0)) then
      (de65 ((v22.set (Int.toNat x8.1) (VariationPosition.mk x25.Member x25.Product (wr64 (x25.Quantity + a3)) x25.Basis)).set (Int.toNat x8.1) (VariationPosition.mk x25.Member x25.Product (wr64 (x25.Quantity + a3)) (wr64 (x25.Basis + a4)))) x8.1 (wr64 (x8.1 + 1))).bind fun x31 =>
      some (.ret x31 (VariationPosition.mk x25.Member x25.Product (wr64 (x25.Quantity + a3)) (wr64 (x25.Basis + a4))))
    else
      some (.ret ((v22.set (Int.toNat x8.1) (VariationPosition.mk x25.Member x25.Product (wr64 (x25.Quantity + a3)) x25.Basis)).set (Int.toNat x8.1) (VariationPosition.mk x25.Member x25.Product (wr64 (x25.Quantity + a3)) (wr64 (x25.Basis + a4)))) (VariationPosition.mk x25.Member x25.Product (wr64 (x25.Quantity + a3)) (wr64 (x25.Basis + a4))))
theorem f46r1n0_ok (a1 : ByteArray) (a2 : ByteArray) (a3 : Int) (a4 : Int) (a5 : List VariationPosition) {o : f46r1n0O} (h : (f46r1n0 a1 a2 a3 a4 a5) = some o) : T Try.prog Try.f46.ntmps 1 c46 (f46r1n0S a1 a2 a3 a4 a5) (fun r => r = f46r1n0E a1 a2 a3 a4 a5 o) := by
  unfold f46r1n0 at h
  obtain ⟨x8, h9, h⟩ := bind_cases h
  refine runK_norm cfg_ok (k := 3) (rs := [([], [], []), ([], [], []), ([], [(2, .call (.tup [(.pl (.int .i64 x8.1)), (.pl (.bool x8.2))]) [])], [])]) (ps := []) (tds := []) (m := [1, 2]) (keep := [0, 3, 4, 11, 12, 13, 14]) (st' := (f46r1n1S a3 a4 x8 a5 a1 a2)) (by kernel_rfl) (ap (f63_53_ok a5 (VariationPosition.mk a1 a2 0 0) h9) an) ?_
  obtain ⟨o20, h21, h⟩ := bind_cases h
  cases o20 with
  | norm v22 =>
    refine T.oneN (by kernel_rfl) (f46r1n1_ok a3 a4 x8 a5 a1 a2 h21) (st2 := (f46r1n1E a3 a4 x8 a5 a1 a2 (.norm v22)).2) rfl ?_
    obtain ⟨x25, h26, h⟩ := bind_cases h
    rcases cond_cases h with ⟨h30, h⟩ | ⟨h30, h⟩
    · obtain ⟨x31, h32, h⟩ := bind_cases h
      obtain rfl := some_inj h
      exact run_end cfg_ok (rs := [([], [(2, .at_ (Int.toNat x8.1)), (4, .idx 0 (VariationPosition.cells x25)), (7, .at_ (Int.toNat x8.1)), (9, .idx 0 (VariationPosition.cells x25))], [(9, .row 1 ((v22.set (Int.toNat x8.1) (VariationPosition.mk x25.Member x25.Product (wr64 (x25.Quantity + a3)) x25.Basis)).map VariationPosition.cells))]), ([], [(2, .at_ (Int.toNat x8.1)), (4, .idx 0 (VariationPosition.cells (VariationPosition.mk x25.Member x25.Product (wr64 (x25.Quantity + a3)) x25.Basis))), (7, .at_ (Int.toNat x8.1)), (9, .idx 0 (VariationPosition.cells (VariationPosition.mk x25.Member x25.Product (wr64 (x25.Quantity + a3)) x25.Basis)))], [(9, .row 1 (((v22.set (Int.toNat x8.1) (VariationPosition.mk x25.Member x25.Product (wr64 (x25.Quantity + a3)) x25.Basis)).set (Int.toNat x8.1) (VariationPosition.mk x25.Member x25.Product (wr64 (x25.Quantity + a3)) (wr64 (x25.Basis + a4)))).map VariationPosition.cells))]), ([], [(2, .at_ (Int.toNat x8.1)), (3, .idx 0 (VariationPosition.cells (VariationPosition.mk x25.Member x25.Product (wr64 (x25.Quantity + a3)) (wr64 (x25.Basis + a4)))))], []), ([], [(2, .bool (VariationPosition.eqb (VariationPosition.mk x25.Member x25.Product (wr64 (x25.Quantity + a3)) (wr64 (x25.Basis + a4))) (VariationPosition.mk a1 a2 0 0)))], []), ([], [(4, .call (.own 5) [none, none, none, none, none, some (.row false 4 (x31.map VariationPosition.cells))])], []), ([], [], [])]) (ps := [some true]) (tds := []) (m := [5, 2]) (keep := [10, 11]) (r := (.ret, (f46r1n0E a1 a2 a3 a4 a5 (.ret x31 (VariationPosition.mk x25.Member x25.Product (wr64 (x25.Quantity + a3)) (wr64 (x25.Basis + a4))))).2)) (by kernel_rfl) (ap (at_some h26).1 (ap (lt_map VariationPosition.cells (at_some h26).2) (ap (at_map VariationPosition.cells (at_some h26).2) (ap (at_some h26).1 (ap (lt_map VariationPosition.cells (at_some h26).2) (ap (at_map VariationPosition.cells (at_some h26).2) (ap (set_cv (xs := v22) (c := VariationPosition.cells) (k := (Int.toNat x8.1)) (x := (VariationPosition.mk x25.Member x25.Product (wr64 (x25.Quantity + a3)) x25.Basis))) (ap (at_some h26).1 (ap (lt_map VariationPosition.cells (set_at (xs := v22) (k := (Int.toNat x8.1)) (VariationPosition.mk x25.Member x25.Product (wr64 (x25.Quantity + a3)) x25.Basis) (at_some h26).2)) (ap (at_map VariationPosition.cells (set_at (xs := v22) (k := (Int.toNat x8.1)) (VariationPosition.mk x25.Member x25.Product (wr64 (x25.Quantity + a3)) x25.Basis) (at_some h26).2)) (ap (at_some h26).1 (ap (lt_map VariationPosition.cells (set_at (xs := v22) (k := (Int.toNat x8.1)) (VariationPosition.mk x25.Member x25.Product (wr64 (x25.Quantity + a3)) x25.Basis) (at_some h26).2)) (ap (at_map VariationPosition.cells (set_at (xs := v22) (k := (Int.toNat x8.1)) (VariationPosition.mk x25.Member x25.Product (wr64 (x25.Quantity + a3)) x25.Basis) (at_some h26).2)) (ap (set_cv (xs := (v22.set (Int.toNat x8.1) (VariationPosition.mk x25.Member x25.Product (wr64 (x25.Quantity + a3)) x25.Basis))) (c := VariationPosition.cells) (k := (Int.toNat x8.1)) (x := (VariationPosition.mk x25.Member x25.Product (wr64 (x25.Quantity + a3)) (wr64 (x25.Basis + a4))))) (ap (at_some h26).1 (ap (lt_map VariationPosition.cells (set_at (xs := (v22.set (Int.toNat x8.1) (VariationPosition.mk x25.Member x25.Product (wr64 (x25.Quantity + a3)) x25.Basis))) (k := (Int.toNat x8.1)) (VariationPosition.mk x25.Member x25.Product (wr64 (x25.Quantity + a3)) (wr64 (x25.Basis + a4))) (set_at (xs := v22) (k := (Int.toNat x8.1)) (VariationPosition.mk x25.Member x25.Product (wr64 (x25.Quantity + a3)) x25.Basis) (at_some h26).2))) (ap (at_map VariationPosition.cells (set_at (xs := (v22.set (Int.toNat x8.1) (VariationPosition.mk x25.Member x25.Product (wr64 (x25.Quantity + a3)) x25.Basis))) (k := (Int.toNat x8.1)) (VariationPosition.mk x25.Member x25.Product (wr64 (x25.Quantity + a3)) (wr64 (x25.Basis + a4))) (set_at (xs := v22) (k := (Int.toNat x8.1)) (VariationPosition.mk x25.Member x25.Product (wr64 (x25.Quantity + a3)) x25.Basis) (at_some h26).2))) (ap (VariationPosition.eqb_ok (VariationPosition.mk x25.Member x25.Product (wr64 (x25.Quantity + a3)) (wr64 (x25.Basis + a4))) (VariationPosition.mk a1 a2 0 0)) (ap h30 (ap (CallS.ren (args' := [(.own 1), (.pl (.int .i64 x8.1)), (.pl (.int .i64 (wr64 (x8.1 + 1))))]) (v' := (.own 5)) (B := [none, some (.row false 4 (((v22.set (Int.toNat x8.1) (VariationPosition.mk x25.Member x25.Product (wr64 (x25.Quantity + a3)) x25.Basis)).set (Int.toNat x8.1) (VariationPosition.mk x25.Member x25.Product (wr64 (x25.Quantity + a3)) (wr64 (x25.Basis + a4)))).map VariationPosition.cells)), none, none, none]) (B' := [none, none, none, none, none, some (.row false 4 (x31.map VariationPosition.cells))]) 5 [1] (de65_ok ((v22.set (Int.toNat x8.1) (VariationPosition.mk x25.Member x25.Product (wr64 (x25.Quantity + a3)) x25.Basis)).set (Int.toNat x8.1) (VariationPosition.mk x25.Member x25.Product (wr64 (x25.Quantity + a3)) (wr64 (x25.Basis + a4)))) x8.1 (wr64 (x8.1 + 1)) h32) (by kernel_rfl) (by kernel_rfl) (by kernel_rfl) (by kernel_rfl) (by kernel_rfl) (by kernel_rfl)) an)))))))))))))))))))) rfl
    · obtain rfl := some_inj h
      exact run_end cfg_ok (rs := [([], [(2, .at_ (Int.toNat x8.1)), (4, .idx 0 (VariationPosition.cells x25)), (7, .at_ (Int.toNat x8.1)), (9, .idx 0 (VariationPosition.cells x25))], [(9, .row 1 ((v22.set (Int.toNat x8.1) (VariationPosition.mk x25.Member x25.Product (wr64 (x25.Quantity + a3)) x25.Basis)).map VariationPosition.cells))]), ([], [(2, .at_ (Int.toNat x8.1)), (4, .idx 0 (VariationPosition.cells (VariationPosition.mk x25.Member x25.Product (wr64 (x25.Quantity + a3)) x25.Basis))), (7, .at_ (Int.toNat x8.1)), (9, .idx 0 (VariationPosition.cells (VariationPosition.mk x25.Member x25.Product (wr64 (x25.Quantity + a3)) x25.Basis)))], [(9, .row 1 (((v22.set (Int.toNat x8.1) (VariationPosition.mk x25.Member x25.Product (wr64 (x25.Quantity + a3)) x25.Basis)).set (Int.toNat x8.1) (VariationPosition.mk x25.Member x25.Product (wr64 (x25.Quantity + a3)) (wr64 (x25.Basis + a4)))).map VariationPosition.cells))]), ([], [(2, .at_ (Int.toNat x8.1)), (3, .idx 0 (VariationPosition.cells (VariationPosition.mk x25.Member x25.Product (wr64 (x25.Quantity + a3)) (wr64 (x25.Basis + a4)))))], []), ([], [(2, .bool (VariationPosition.eqb (VariationPosition.mk x25.Member x25.Product (wr64 (x25.Quantity + a3)) (wr64 (x25.Basis + a4))) (VariationPosition.mk a1 a2 0 0)))], []), ([], [], [])]) (ps := [some false]) (tds := []) (m := [1, 2]) (keep := [10, 11]) (r := (.ret, (f46r1n0E a1 a2 a3 a4 a5 (.ret ((v22.set (Int.toNat x8.1) (VariationPosition.mk x25.Member x25.Product (wr64 (x25.Quantity + a3)) x25.Basis)).set (Int.toNat x8.1) (VariationPosition.mk x25.Member x25.Product (wr64 (x25.Quantity + a3)) (wr64 (x25.Basis + a4)))) (VariationPosition.mk x25.Member x25.Product (wr64 (x25.Quantity + a3)) (wr64 (x25.Basis + a4))))).2)) (by kernel_rfl) (ap (at_some h26).1 (ap (lt_map VariationPosition.cells (at_some h26).2) (ap (at_map VariationPosition.cells (at_some h26).2) (ap (at_some h26).1 (ap (lt_map VariationPosition.cells (at_some h26).2) (ap (at_map VariationPosition.cells (at_some h26).2) (ap (set_cv (xs := v22) (c := VariationPosition.cells) (k := (Int.toNat x8.1)) (x := (VariationPosition.mk x25.Member x25.Product (wr64 (x25.Quantity + a3)) x25.Basis))) (ap (at_some h26).1 (ap (lt_map VariationPosition.cells (set_at (xs := v22) (k := (Int.toNat x8.1)) (VariationPosition.mk x25.Member x25.Product (wr64 (x25.Quantity + a3)) x25.Basis) (at_some h26).2)) (ap (at_map VariationPosition.cells (set_at (xs := v22) (k := (Int.toNat x8.1)) (VariationPosition.mk x25.Member x25.Product (wr64 (x25.Quantity + a3)) x25.Basis) (at_some h26).2)) (ap (at_some h26).1 (ap (lt_map VariationPosition.cells (set_at (xs := v22) (k := (Int.toNat x8.1)) (VariationPosition.mk x25.Member x25.Product (wr64 (x25.Quantity + a3)) x25.Basis) (at_some h26).2)) (ap (at_map VariationPosition.cells (set_at (xs := v22) (k := (Int.toNat x8.1)) (VariationPosition.mk x25.Member x25.Product (wr64 (x25.Quantity + a3)) x25.Basis) (at_some h26).2)) (ap (set_cv (xs := (v22.set (Int.toNat x8.1) (VariationPosition.mk x25.Member x25.Product (wr64 (x25.Quantity + a3)) x25.Basis))) (c := VariationPosition.cells) (k := (Int.toNat x8.1)) (x := (VariationPosition.mk x25.Member x25.Product (wr64 (x25.Quantity + a3)) (wr64 (x25.Basis + a4))))) (ap (at_some h26).1 (ap (lt_map VariationPosition.cells (set_at (xs := (v22.set (Int.toNat x8.1) (VariationPosition.mk x25.Member x25.Product (wr64 (x25.Quantity + a3)) x25.Basis))) (k := (Int.toNat x8.1)) (VariationPosition.mk x25.Member x25.Product (wr64 (x25.Quantity + a3)) (wr64 (x25.Basis + a4))) (set_at (xs := v22) (k := (Int.toNat x8.1)) (VariationPosition.mk x25.Member x25.Product (wr64 (x25.Quantity + a3)) x25.Basis) (at_some h26).2))) (ap (at_map VariationPosition.cells (set_at (xs := (v22.set (Int.toNat x8.1) (VariationPosition.mk x25.Member x25.Product (wr64 (x25.Quantity + a3)) x25.Basis))) (k := (Int.toNat x8.1)) (VariationPosition.mk x25.Member x25.Product (wr64 (x25.Quantity + a3)) (wr64 (x25.Basis + a4))) (set_at (xs := v22) (k := (Int.toNat x8.1)) (VariationPosition.mk x25.Member x25.Product (wr64 (x25.Quantity + a3)) x25.Basis) (at_some h26).2))) (ap (VariationPosition.eqb_ok (VariationPosition.mk x25.Member x25.Product (wr64 (x25.Quantity + a3)) (wr64 (x25.Basis + a4))) (VariationPosition.mk a1 a2 0 0)) (ap h30 an))))))))))))))))))) rfl
noncomputable def f46r1 (a1 : ByteArray) (a2 : ByteArray) (a3 : Int) (a4 : Int) (a5 : List VariationPosition) : Option ((List VariationPosition) × VariationPosition) := (f46r1n0 a1 a2 a3 a4 a5).bind fun o => match o with
  | .ret v33 v34 => some (v33, v34)
theorem f46r1_ok (a1 : ByteArray) (a2 : ByteArray) (a3 : Int) (a4 : Int) (a5 : List VariationPosition) {r : (List VariationPosition) × VariationPosition} (h : (f46r1 a1 a2 a3 a4 a5) = some r) : CallS Try.prog true 46 [(.own 0), (.pl (.str a1)), (.pl (.str a2)), (.pl (.int .i64 a3)), (.pl (.int .i64 a4))] [some (.row false 4 (a5.map VariationPosition.cells))] (.tup [(.own 1), (.pl (.agg (VariationPosition.cells r.2)))]) [none, some (.row false 4 (r.1.map VariationPosition.cells)), some (.box ((VariationPosition.cells r.2).map .pl))] := by
  unfold f46r1 at h
  obtain ⟨o, ho, h⟩ := bind_cases h
  cases o with
  | ret v33 v34 =>
    obtain rfl := some_inj h
    exact CallS.shared cfg_ok (f := Try.f46) (c := c46) (by kernel_rfl) (by kernel_rfl) (by kernel_rfl) ((f46r1n0_ok a1 a2 a3 a4 a5 ho).mono fun r e => by subst e; exact ⟨.inl rfl, by kernel_rfl, by kernel_rfl⟩)
end Go.Proofs.Ytelblamgfbkhbaa
namespace Go.Proofs.Ytelblamgfbkhbaa
set_option linter.unusedVariables false
set_option linter.unusedSimpArgs false
set_option maxRecDepth 100000
open Go.RowKit
noncomputable def c16 : Code := Try.f16.body.getD .skip
inductive f16n0O where
  | ret (v81 : Int) (v82 : Int) (v83 : List VariationPosition)
def f16n0E (a1 : Variation) (a2 : ByteArray) (a3 : ByteArray) (a4 : ByteArray) (a5 : Int) (a6 : Int) : f16n0O → Ex × Tr × Hp
  | .ret v81 v82 v83 => (.ret, mkS [(12, (.bp 0 0)), (13, (.pl (.int .i64 v81)))], [some (.box [(.pl (.int .i64 v82)), (.own 1)]), some (.row false 4 (v83.map VariationPosition.cells))])
def f16n0S (a1 : Variation) (a2 : ByteArray) (a3 : ByteArray) (a4 : ByteArray) (a5 : Int) (a6 : Int) : Tr × Hp := (initS [(.pl (.agg (Variation.cells a1))), (.pl (.str a2)), (.pl (.str a3)), (.pl (.str a4)), (.pl (.int .i64 a5)), (.pl (.int .i64 a6))] 0 .leaf, [])
noncomputable def f16n0 (a1 : Variation) (a2 : ByteArray) (a3 : ByteArray) (a4 : ByteArray) (a5 : Int) (a6 : Int) : Option f16n0O :=
  (f26 a1).bind fun x10 =>
  bif (decide (x10 = 0)) then
    (f44 a2).bind fun x28 =>
    bif x28 then
      (f44 a3).bind fun x31 =>
      bif x31 then
        bif (seq a2 a3) then
          some (.ret 2 0 [])
        else
          (f45 a4).bind fun x35 =>
          bif x35 then
            bif (decide (a5 < 1)) then
              some (.ret 2 0 [])
            else
              bif (decide (1048576 < a5)) then
                some (.ret 2 0 [])
              else
                (f37 a6 536870912).bind fun x40 =>
                bif x40 then
                  (f47r1 a1.Positions).bind fun x47 =>
                  (f46r1 a2 a4 a5 (wr64 (a5 * a6)) x47).bind fun x49 =>
                  (f46r1 a3 a4 (wr64 (0 - a5)) (wr64 ((wr64 (0 - a5)) * a6)) x49.1).bind fun x53 =>
                  (f37 x53.2.Quantity 1048576).bind fun x68 =>
                  bif x68 then
                    (f37 x49.2.Quantity 1048576).bind fun x71 =>
                    bif x71 then
                      (f37 x53.2.Basis 1125899906842624).bind fun x74 =>
                      bif x74 then
                        (f37 x49.2.Basis 1125899906842624).bind fun x77 =>
                        bif x77 then
                          bif (decide (200 < (x53.1.length : Int))) then
                            some (.ret 22 0 [])
                          else
                            some (.ret 0 a1.Day x53.1)
                        else
                          some (.ret 14 0 [])
                      else
                        some (.ret 14 0 [])
                    else
                      some (.ret 52 0 [])
                  else
                    some (.ret 52 0 [])
                else
                  some (.ret 2 0 [])
          else
            some (.ret 2 0 [])
      else
        some (.ret 2 0 [])
    else
      some (.ret 2 0 [])
  else
    some (.ret x10 0 [])
theorem f16n0_ok (a1 : Variation) (a2 : ByteArray) (a3 : ByteArray) (a4 : ByteArray) (a5 : Int) (a6 : Int) {o : f16n0O} (h : (f16n0 a1 a2 a3 a4 a5 a6) = some o) : T Try.prog Try.f16.ntmps 0 c16 (f16n0S a1 a2 a3 a4 a5 a6) (fun r => r = f16n0E a1 a2 a3 a4 a5 a6 o) := by
  unfold f16n0 at h
  obtain ⟨x10, h11, h⟩ := bind_cases h
  rcases cond_cases h with ⟨h12, h⟩ | ⟨h12, h⟩
  · obtain ⟨x28, h29, h⟩ := bind_cases h
    rcases cond_cases h with ⟨h30, h⟩ | ⟨h30, h⟩
    · obtain ⟨x31, h32, h⟩ := bind_cases h
      rcases cond_cases h with ⟨h33, h⟩ | ⟨h33, h⟩
      · rcases cond_cases h with ⟨h34, h⟩ | ⟨h34, h⟩
        · obtain rfl := some_inj h
          exact runK_end cfg_ok (k := 3) (rs := [([], [], []), ([], [(1, .call (.pl (.int .i64 x10)) [])], []), ([], [], []), ([(4, false), (5, false), (6, false), (9, false), (10, false), (11, false), (14, true), (15, true), (16, true)], [(1, .call (.pl (.bool x28)) []), (5, .call (.pl (.bool x31)) []), (7, .bool false), (12, .bool false), (17, .bool true)], []), ([], [], [])]) (ps := [some false, none]) (tds := [.matC 1 1 4]) (m := [1, 2]) (keep := [12, 13]) (ex := .ret) (st' := (f16n0E a1 a2 a3 a4 a5 a6 (.ret 2 0 [])).2) (by kernel_rfl) (ap (f26_ok a1 h11) (ap (not_t h12) (ap (not_t h30) (ap (not_t h30) (ap (not_t h30) (ap (not_t h30) (ap (not_t h33) (ap (not_t h33) (ap (not_t h33) (ap (not_t h33) (ap h34 (ap h34 (ap h34 (ap h34 (ap (f44_ok a2 h29) (ap (f44_ok a3 h32) an)))))))))))))))) (fun h => nomatch h) rfl
        · obtain ⟨x35, h36, h⟩ := bind_cases h
          rcases cond_cases h with ⟨h37, h⟩ | ⟨h37, h⟩
          · rcases cond_cases h with ⟨h38, h⟩ | ⟨h38, h⟩
            · obtain rfl := some_inj h
              exact runK_end cfg_ok (k := 3) (rs := [([], [], []), ([], [(1, .call (.pl (.int .i64 x10)) [])], []), ([], [], []), ([(4, false), (5, false), (6, false), (9, false), (10, false), (11, false), (14, false), (15, false), (16, false), (19, false), (20, false), (23, true), (24, true)], [(1, .call (.pl (.bool x28)) []), (5, .call (.pl (.bool x31)) []), (7, .bool false), (12, .bool false), (15, .call (.pl (.bool x35)) []), (17, .bool false), (21, .bool false), (25, .bool true)], []), ([], [], [])]) (ps := [some false, none]) (tds := [.matC 1 1 4]) (m := [1, 2]) (keep := [12, 13]) (ex := .ret) (st' := (f16n0E a1 a2 a3 a4 a5 a6 (.ret 2 0 [])).2) (by kernel_rfl) (ap (f26_ok a1 h11) (ap (not_t h12) (ap (not_t h30) (ap (not_t h30) (ap (not_t h30) (ap (not_t h30) (ap (not_t h33) (ap (not_t h33) (ap (not_t h33) (ap (not_t h33) (ap h34 (ap h34 (ap h34 (ap h34 (ap (not_t h37) (ap (not_t h37) (ap (not_t h37) (ap h38 (ap h38 (ap h38 (ap (f44_ok a2 h29) (ap (f44_ok a3 h32) (ap (f45_ok a4 h36) an))))))))))))))))))))))) (fun h => nomatch h) rfl
            · rcases cond_cases h with ⟨h39, h⟩ | ⟨h39, h⟩
              · obtain rfl := some_inj h
                exact runK_end cfg_ok (k := 3) (rs := [([], [], []), ([], [(1, .call (.pl (.int .i64 x10)) [])], []), ([], [], []), ([(4, false), (5, false), (6, false), (9, false), (10, false), (11, false), (14, false), (15, false), (16, false), (19, false), (20, false), (23, false), (24, false), (27, true), (28, true), (29, true)], [(1, .call (.pl (.bool x28)) []), (5, .call (.pl (.bool x31)) []), (7, .bool false), (12, .bool false), (15, .call (.pl (.bool x35)) []), (17, .bool false), (21, .bool false), (25, .bool false), (30, .bool true)], []), ([], [], [])]) (ps := [some false, none]) (tds := [.matC 1 1 4]) (m := [1, 2]) (keep := [12, 13]) (ex := .ret) (st' := (f16n0E a1 a2 a3 a4 a5 a6 (.ret 2 0 [])).2) (by kernel_rfl) (ap (f26_ok a1 h11) (ap (not_t h12) (ap (not_t h30) (ap (not_t h30) (ap (not_t h30) (ap (not_t h30) (ap (not_t h33) (ap (not_t h33) (ap (not_t h33) (ap (not_t h33) (ap h34 (ap h34 (ap h34 (ap h34 (ap (not_t h37) (ap (not_t h37) (ap (not_t h37) (ap h38 (ap h38 (ap h38 (ap h39 (ap h39 (ap h39 (ap h39 (ap (f44_ok a2 h29) (ap (f44_ok a3 h32) (ap (f45_ok a4 h36) an))))))))))))))))))))))))))) (fun h => nomatch h) rfl
              · obtain ⟨x40, h41, h⟩ := bind_cases h
                rcases cond_cases h with ⟨h42, h⟩ | ⟨h42, h⟩
                · obtain ⟨x47, h48, h⟩ := bind_cases h
                  obtain ⟨x49, h50, h⟩ := bind_cases h
                  obtain ⟨x53, h54, h⟩ := bind_cases h
                  obtain ⟨x68, h69, h⟩ := bind_cases h
                  rcases cond_cases h with ⟨h70, h⟩ | ⟨h70, h⟩
                  · obtain ⟨x71, h72, h⟩ := bind_cases h
                    rcases cond_cases h with ⟨h73, h⟩ | ⟨h73, h⟩
                    · obtain ⟨x74, h75, h⟩ := bind_cases h
                      rcases cond_cases h with ⟨h76, h⟩ | ⟨h76, h⟩
                      · obtain ⟨x77, h78, h⟩ := bind_cases h
                        rcases cond_cases h with ⟨h79, h⟩ | ⟨h79, h⟩
                        · rcases cond_cases h with ⟨h80, h⟩ | ⟨h80, h⟩
                          · obtain rfl := some_inj h
                            exact runK_end cfg_ok (k := 6) (rs := [([], [], []), ([], [(1, .call (.pl (.int .i64 x10)) [])], []), ([], [], []), ([(4, false), (5, false), (6, false), (9, false), (10, false), (11, false), (14, false), (15, false), (16, false), (19, false), (20, false), (23, false), (24, false), (27, false), (28, false), (29, false)], [(1, .call (.pl (.bool x28)) []), (5, .call (.pl (.bool x31)) []), (7, .bool false), (12, .bool false), (15, .call (.pl (.bool x35)) []), (17, .bool false), (21, .bool false), (25, .bool false), (28, .call (.pl (.bool x40)) []), (30, .bool false)], []), ([], [(2, .call (.own 2) [none, none, some (.row false 4 (x47.map VariationPosition.cells))]), (9, .call (.tup [(.own 3), (.pl (.agg (VariationPosition.cells x49.2)))]) [none, none, none, some (.row false 4 (x49.1.map VariationPosition.cells)), some (.box ((VariationPosition.cells x49.2).map .pl))])], []), ([], [(9, .call (.tup [(.own 6), (.pl (.agg (VariationPosition.cells x53.2)))]) [none, none, none, none, none, none, some (.row false 4 (x53.1.map VariationPosition.cells)), some (.box ((VariationPosition.cells x53.2).map .pl))])], []), ([(5, false), (6, false), (7, false), (8, false)], [(2, .call (.pl (.bool x68)) []), (7, .call (.pl (.bool x71)) []), (9, .bool false)], []), ([(5, false), (6, false), (7, false), (8, false)], [(2, .call (.pl (.bool x74)) []), (7, .call (.pl (.bool x77)) []), (9, .bool false)], []), ([], [], [(1, .val (.pl (.int .i64 (x53.1.length : Int))))]), ([], [], [])]) (ps := [some false, some false, some false, some false, some true]) (tds := [.matC 1 1 4]) (m := [1, 9]) (keep := [12, 13]) (ex := .ret) (st' := (f16n0E a1 a2 a3 a4 a5 a6 (.ret 22 0 [])).2) (by kernel_rfl) (ap (f26_ok a1 h11) (ap (not_t h12) (ap (not_t h30) (ap (not_t h30) (ap (not_t h30) (ap (not_t h30) (ap (not_t h33) (ap (not_t h33) (ap (not_t h33) (ap (not_t h33) (ap h34 (ap h34 (ap h34 (ap h34 (ap (not_t h37) (ap (not_t h37) (ap (not_t h37) (ap h38 (ap h38 (ap h38 (ap h39 (ap h39 (ap h39 (ap h39 (ap (f44_ok a2 h29) (ap (f44_ok a3 h32) (ap (f45_ok a4 h36) (ap (f37_ok a6 536870912 h41) (ap (not_t h42) (ap (CallS.ren (args' := [(.pl (.sl .any 4 (a1.Positions.map VariationPosition.cells)))]) (v' := (.own 2)) (B := [none, none]) (B' := [none, none, some (.row false 4 (x47.map VariationPosition.cells))]) 2 [] (f47r1_ok a1.Positions h48) (by kernel_rfl) (by kernel_rfl) (by kernel_rfl) (by kernel_rfl) (by kernel_rfl) (by kernel_rfl)) (ap (CallS.ren (args' := [(.own 2), (.pl (.str a2)), (.pl (.str a4)), (.pl (.int .i64 a5)), (.pl (.int .i64 (wr64 (a5 * a6))))]) (v' := (.tup [(.own 3), (.pl (.agg (VariationPosition.cells x49.2)))])) (B := [none, none, some (.row false 4 (x47.map VariationPosition.cells))]) (B' := [none, none, none, some (.row false 4 (x49.1.map VariationPosition.cells)), some (.box ((VariationPosition.cells x49.2).map .pl))]) 3 [2] (f46r1_ok a2 a4 a5 (wr64 (a5 * a6)) x47 h50) (by kernel_rfl) (by kernel_rfl) (by kernel_rfl) (by kernel_rfl) (by kernel_rfl) (by kernel_rfl)) (ap (CallS.ren (args' := [(.own 3), (.pl (.str a3)), (.pl (.str a4)), (.pl (.int .i64 (wr64 (0 - a5)))), (.pl (.int .i64 (wr64 ((wr64 (0 - a5)) * a6))))]) (v' := (.tup [(.own 6), (.pl (.agg (VariationPosition.cells x53.2)))])) (B := [none, none, none, some (.row false 4 (x49.1.map VariationPosition.cells)), none, none]) (B' := [none, none, none, none, none, none, some (.row false 4 (x53.1.map VariationPosition.cells)), some (.box ((VariationPosition.cells x53.2).map .pl))]) 6 [3] (f46r1_ok a3 a4 (wr64 (0 - a5)) (wr64 ((wr64 (0 - a5)) * a6)) x49.1 h54) (by kernel_rfl) (by kernel_rfl) (by kernel_rfl) (by kernel_rfl) (by kernel_rfl) (by kernel_rfl)) (ap (not_t h70) (ap (not_t h70) (ap (not_t h70) (ap (not_t h70) (ap (not_t h70) (ap (f37_ok x53.2.Quantity 1048576 h69) (ap (f37_ok x49.2.Quantity 1048576 h72) (ap (not_t h73) (ap (not_t h76) (ap (not_t h76) (ap (not_t h76) (ap (not_t h76) (ap (not_t h76) (ap (f37_ok x53.2.Basis 1125899906842624 h75) (ap (f37_ok x49.2.Basis 1125899906842624 h78) (ap (not_t h79) (ap (len_cv (xs := x53.1) (c := VariationPosition.cells)) (ap h80 an)))))))))))))))))))))))))))))))))))))))))))))))))) (fun h => nomatch h) rfl
                          · obtain rfl := some_inj h
                            exact run_end cfg_ok (rs := [([], [], []), ([], [(1, .call (.pl (.int .i64 x10)) [])], []), ([], [], []), ([(4, false), (5, false), (6, false), (9, false), (10, false), (11, false), (14, false), (15, false), (16, false), (19, false), (20, false), (23, false), (24, false), (27, false), (28, false), (29, false)], [(1, .call (.pl (.bool x28)) []), (5, .call (.pl (.bool x31)) []), (7, .bool false), (12, .bool false), (15, .call (.pl (.bool x35)) []), (17, .bool false), (21, .bool false), (25, .bool false), (28, .call (.pl (.bool x40)) []), (30, .bool false)], []), ([], [(2, .call (.own 2) [none, none, some (.row false 4 (x47.map VariationPosition.cells))]), (9, .call (.tup [(.own 3), (.pl (.agg (VariationPosition.cells x49.2)))]) [none, none, none, some (.row false 4 (x49.1.map VariationPosition.cells)), some (.box ((VariationPosition.cells x49.2).map .pl))])], []), ([], [(9, .call (.tup [(.own 6), (.pl (.agg (VariationPosition.cells x53.2)))]) [none, none, none, none, none, none, some (.row false 4 (x53.1.map VariationPosition.cells)), some (.box ((VariationPosition.cells x53.2).map .pl))])], []), ([(5, false), (6, false), (7, false), (8, false)], [(2, .call (.pl (.bool x68)) []), (7, .call (.pl (.bool x71)) []), (9, .bool false)], []), ([(5, false), (6, false), (7, false), (8, false)], [(2, .call (.pl (.bool x74)) []), (7, .call (.pl (.bool x77)) []), (9, .bool false)], []), ([], [], [(1, .val (.pl (.int .i64 (x53.1.length : Int))))]), ([], [], [])]) (ps := [some false, some false, some false, some false, some false]) (tds := []) (m := [1, 6]) (keep := [12, 13]) (r := (.ret, (f16n0E a1 a2 a3 a4 a5 a6 (.ret 0 a1.Day x53.1)).2)) (by kernel_rfl) (ap (f26_ok a1 h11) (ap (not_t h12) (ap (not_t h30) (ap (not_t h30) (ap (not_t h30) (ap (not_t h30) (ap (not_t h33) (ap (not_t h33) (ap (not_t h33) (ap (not_t h33) (ap h34 (ap h34 (ap h34 (ap h34 (ap (not_t h37) (ap (not_t h37) (ap (not_t h37) (ap h38 (ap h38 (ap h38 (ap h39 (ap h39 (ap h39 (ap h39 (ap (f44_ok a2 h29) (ap (f44_ok a3 h32) (ap (f45_ok a4 h36) (ap (f37_ok a6 536870912 h41) (ap (not_t h42) (ap (CallS.ren (args' := [(.pl (.sl .any 4 (a1.Positions.map VariationPosition.cells)))]) (v' := (.own 2)) (B := [none, none]) (B' := [none, none, some (.row false 4 (x47.map VariationPosition.cells))]) 2 [] (f47r1_ok a1.Positions h48) (by kernel_rfl) (by kernel_rfl) (by kernel_rfl) (by kernel_rfl) (by kernel_rfl) (by kernel_rfl)) (ap (CallS.ren (args' := [(.own 2), (.pl (.str a2)), (.pl (.str a4)), (.pl (.int .i64 a5)), (.pl (.int .i64 (wr64 (a5 * a6))))]) (v' := (.tup [(.own 3), (.pl (.agg (VariationPosition.cells x49.2)))])) (B := [none, none, some (.row false 4 (x47.map VariationPosition.cells))]) (B' := [none, none, none, some (.row false 4 (x49.1.map VariationPosition.cells)), some (.box ((VariationPosition.cells x49.2).map .pl))]) 3 [2] (f46r1_ok a2 a4 a5 (wr64 (a5 * a6)) x47 h50) (by kernel_rfl) (by kernel_rfl) (by kernel_rfl) (by kernel_rfl) (by kernel_rfl) (by kernel_rfl)) (ap (CallS.ren (args' := [(.own 3), (.pl (.str a3)), (.pl (.str a4)), (.pl (.int .i64 (wr64 (0 - a5)))), (.pl (.int .i64 (wr64 ((wr64 (0 - a5)) * a6))))]) (v' := (.tup [(.own 6), (.pl (.agg (VariationPosition.cells x53.2)))])) (B := [none, none, none, some (.row false 4 (x49.1.map VariationPosition.cells)), none, none]) (B' := [none, none, none, none, none, none, some (.row false 4 (x53.1.map VariationPosition.cells)), some (.box ((VariationPosition.cells x53.2).map .pl))]) 6 [3] (f46r1_ok a3 a4 (wr64 (0 - a5)) (wr64 ((wr64 (0 - a5)) * a6)) x49.1 h54) (by kernel_rfl) (by kernel_rfl) (by kernel_rfl) (by kernel_rfl) (by kernel_rfl) (by kernel_rfl)) (ap (not_t h70) (ap (not_t h70) (ap (not_t h70) (ap (not_t h70) (ap (not_t h70) (ap (f37_ok x53.2.Quantity 1048576 h69) (ap (f37_ok x49.2.Quantity 1048576 h72) (ap (not_t h73) (ap (not_t h76) (ap (not_t h76) (ap (not_t h76) (ap (not_t h76) (ap (not_t h76) (ap (f37_ok x53.2.Basis 1125899906842624 h75) (ap (f37_ok x49.2.Basis 1125899906842624 h78) (ap (not_t h79) (ap (len_cv (xs := x53.1) (c := VariationPosition.cells)) (ap h80 an)))))))))))))))))))))))))))))))))))))))))))))))))) rfl
                        · obtain rfl := some_inj h
                          exact runK_end cfg_ok (k := 6) (rs := [([], [], []), ([], [(1, .call (.pl (.int .i64 x10)) [])], []), ([], [], []), ([(4, false), (5, false), (6, false), (9, false), (10, false), (11, false), (14, false), (15, false), (16, false), (19, false), (20, false), (23, false), (24, false), (27, false), (28, false), (29, false)], [(1, .call (.pl (.bool x28)) []), (5, .call (.pl (.bool x31)) []), (7, .bool false), (12, .bool false), (15, .call (.pl (.bool x35)) []), (17, .bool false), (21, .bool false), (25, .bool false), (28, .call (.pl (.bool x40)) []), (30, .bool false)], []), ([], [(2, .call (.own 2) [none, none, some (.row false 4 (x47.map VariationPosition.cells))]), (9, .call (.tup [(.own 3), (.pl (.agg (VariationPosition.cells x49.2)))]) [none, none, none, some (.row false 4 (x49.1.map VariationPosition.cells)), some (.box ((VariationPosition.cells x49.2).map .pl))])], []), ([], [(9, .call (.tup [(.own 6), (.pl (.agg (VariationPosition.cells x53.2)))]) [none, none, none, none, none, none, some (.row false 4 (x53.1.map VariationPosition.cells)), some (.box ((VariationPosition.cells x53.2).map .pl))])], []), ([(5, false), (6, false), (7, false), (8, false)], [(2, .call (.pl (.bool x68)) []), (7, .call (.pl (.bool x71)) []), (9, .bool false)], []), ([(5, false), (6, false), (7, false), (8, false)], [(2, .call (.pl (.bool x74)) []), (7, .call (.pl (.bool x77)) []), (9, .bool false)], []), ([], [], [])]) (ps := [some false, some false, some false, some true]) (tds := [.matC 1 1 4]) (m := [1, 9]) (keep := [12, 13]) (ex := .ret) (st' := (f16n0E a1 a2 a3 a4 a5 a6 (.ret 14 0 [])).2) (by kernel_rfl) (ap (f26_ok a1 h11) (ap (not_t h12) (ap (not_t h30) (ap (not_t h30) (ap (not_t h30) (ap (not_t h30) (ap (not_t h33) (ap (not_t h33) (ap (not_t h33) (ap (not_t h33) (ap h34 (ap h34 (ap h34 (ap h34 (ap (not_t h37) (ap (not_t h37) (ap (not_t h37) (ap h38 (ap h38 (ap h38 (ap h39 (ap h39 (ap h39 (ap h39 (ap (f44_ok a2 h29) (ap (f44_ok a3 h32) (ap (f45_ok a4 h36) (ap (f37_ok a6 536870912 h41) (ap (not_t h42) (ap (CallS.ren (args' := [(.pl (.sl .any 4 (a1.Positions.map VariationPosition.cells)))]) (v' := (.own 2)) (B := [none, none]) (B' := [none, none, some (.row false 4 (x47.map VariationPosition.cells))]) 2 [] (f47r1_ok a1.Positions h48) (by kernel_rfl) (by kernel_rfl) (by kernel_rfl) (by kernel_rfl) (by kernel_rfl) (by kernel_rfl)) (ap (CallS.ren (args' := [(.own 2), (.pl (.str a2)), (.pl (.str a4)), (.pl (.int .i64 a5)), (.pl (.int .i64 (wr64 (a5 * a6))))]) (v' := (.tup [(.own 3), (.pl (.agg (VariationPosition.cells x49.2)))])) (B := [none, none, some (.row false 4 (x47.map VariationPosition.cells))]) (B' := [none, none, none, some (.row false 4 (x49.1.map VariationPosition.cells)), some (.box ((VariationPosition.cells x49.2).map .pl))]) 3 [2] (f46r1_ok a2 a4 a5 (wr64 (a5 * a6)) x47 h50) (by kernel_rfl) (by kernel_rfl) (by kernel_rfl) (by kernel_rfl) (by kernel_rfl) (by kernel_rfl)) (ap (CallS.ren (args' := [(.own 3), (.pl (.str a3)), (.pl (.str a4)), (.pl (.int .i64 (wr64 (0 - a5)))), (.pl (.int .i64 (wr64 ((wr64 (0 - a5)) * a6))))]) (v' := (.tup [(.own 6), (.pl (.agg (VariationPosition.cells x53.2)))])) (B := [none, none, none, some (.row false 4 (x49.1.map VariationPosition.cells)), none, none]) (B' := [none, none, none, none, none, none, some (.row false 4 (x53.1.map VariationPosition.cells)), some (.box ((VariationPosition.cells x53.2).map .pl))]) 6 [3] (f46r1_ok a3 a4 (wr64 (0 - a5)) (wr64 ((wr64 (0 - a5)) * a6)) x49.1 h54) (by kernel_rfl) (by kernel_rfl) (by kernel_rfl) (by kernel_rfl) (by kernel_rfl) (by kernel_rfl)) (ap (not_t h70) (ap (not_t h70) (ap (not_t h70) (ap (not_t h70) (ap (not_t h70) (ap (f37_ok x53.2.Quantity 1048576 h69) (ap (f37_ok x49.2.Quantity 1048576 h72) (ap (not_t h73) (ap (not_t h76) (ap (not_t h76) (ap (not_t h76) (ap (not_t h76) (ap (not_t h76) (ap (f37_ok x53.2.Basis 1125899906842624 h75) (ap (f37_ok x49.2.Basis 1125899906842624 h78) (ap (not_f h79) an)))))))))))))))))))))))))))))))))))))))))))))))) (fun h => nomatch h) rfl
                      · obtain rfl := some_inj h
                        exact runK_end cfg_ok (k := 6) (rs := [([], [], []), ([], [(1, .call (.pl (.int .i64 x10)) [])], []), ([], [], []), ([(4, false), (5, false), (6, false), (9, false), (10, false), (11, false), (14, false), (15, false), (16, false), (19, false), (20, false), (23, false), (24, false), (27, false), (28, false), (29, false)], [(1, .call (.pl (.bool x28)) []), (5, .call (.pl (.bool x31)) []), (7, .bool false), (12, .bool false), (15, .call (.pl (.bool x35)) []), (17, .bool false), (21, .bool false), (25, .bool false), (28, .call (.pl (.bool x40)) []), (30, .bool false)], []), ([], [(2, .call (.own 2) [none, none, some (.row false 4 (x47.map VariationPosition.cells))]), (9, .call (.tup [(.own 3), (.pl (.agg (VariationPosition.cells x49.2)))]) [none, none, none, some (.row false 4 (x49.1.map VariationPosition.cells)), some (.box ((VariationPosition.cells x49.2).map .pl))])], []), ([], [(9, .call (.tup [(.own 6), (.pl (.agg (VariationPosition.cells x53.2)))]) [none, none, none, none, none, none, some (.row false 4 (x53.1.map VariationPosition.cells)), some (.box ((VariationPosition.cells x53.2).map .pl))])], []), ([(5, false), (6, false), (7, false), (8, false)], [(2, .call (.pl (.bool x68)) []), (7, .call (.pl (.bool x71)) []), (9, .bool false)], []), ([(5, true), (6, true), (7, true), (8, true)], [(2, .call (.pl (.bool x74)) []), (9, .bool true)], []), ([], [], [])]) (ps := [some false, some false, some false, none]) (tds := [.matC 1 1 4]) (m := [1, 9]) (keep := [12, 13]) (ex := .ret) (st' := (f16n0E a1 a2 a3 a4 a5 a6 (.ret 14 0 [])).2) (by kernel_rfl) (ap (f26_ok a1 h11) (ap (not_t h12) (ap (not_t h30) (ap (not_t h30) (ap (not_t h30) (ap (not_t h30) (ap (not_t h33) (ap (not_t h33) (ap (not_t h33) (ap (not_t h33) (ap h34 (ap h34 (ap h34 (ap h34 (ap (not_t h37) (ap (not_t h37) (ap (not_t h37) (ap h38 (ap h38 (ap h38 (ap h39 (ap h39 (ap h39 (ap h39 (ap (f44_ok a2 h29) (ap (f44_ok a3 h32) (ap (f45_ok a4 h36) (ap (f37_ok a6 536870912 h41) (ap (not_t h42) (ap (CallS.ren (args' := [(.pl (.sl .any 4 (a1.Positions.map VariationPosition.cells)))]) (v' := (.own 2)) (B := [none, none]) (B' := [none, none, some (.row false 4 (x47.map VariationPosition.cells))]) 2 [] (f47r1_ok a1.Positions h48) (by kernel_rfl) (by kernel_rfl) (by kernel_rfl) (by kernel_rfl) (by kernel_rfl) (by kernel_rfl)) (ap (CallS.ren (args' := [(.own 2), (.pl (.str a2)), (.pl (.str a4)), (.pl (.int .i64 a5)), (.pl (.int .i64 (wr64 (a5 * a6))))]) (v' := (.tup [(.own 3), (.pl (.agg (VariationPosition.cells x49.2)))])) (B := [none, none, some (.row false 4 (x47.map VariationPosition.cells))]) (B' := [none, none, none, some (.row false 4 (x49.1.map VariationPosition.cells)), some (.box ((VariationPosition.cells x49.2).map .pl))]) 3 [2] (f46r1_ok a2 a4 a5 (wr64 (a5 * a6)) x47 h50) (by kernel_rfl) (by kernel_rfl) (by kernel_rfl) (by kernel_rfl) (by kernel_rfl) (by kernel_rfl)) (ap (CallS.ren (args' := [(.own 3), (.pl (.str a3)), (.pl (.str a4)), (.pl (.int .i64 (wr64 (0 - a5)))), (.pl (.int .i64 (wr64 ((wr64 (0 - a5)) * a6))))]) (v' := (.tup [(.own 6), (.pl (.agg (VariationPosition.cells x53.2)))])) (B := [none, none, none, some (.row false 4 (x49.1.map VariationPosition.cells)), none, none]) (B' := [none, none, none, none, none, none, some (.row false 4 (x53.1.map VariationPosition.cells)), some (.box ((VariationPosition.cells x53.2).map .pl))]) 6 [3] (f46r1_ok a3 a4 (wr64 (0 - a5)) (wr64 ((wr64 (0 - a5)) * a6)) x49.1 h54) (by kernel_rfl) (by kernel_rfl) (by kernel_rfl) (by kernel_rfl) (by kernel_rfl) (by kernel_rfl)) (ap (not_t h70) (ap (not_t h70) (ap (not_t h70) (ap (not_t h70) (ap (not_t h70) (ap (f37_ok x53.2.Quantity 1048576 h69) (ap (f37_ok x49.2.Quantity 1048576 h72) (ap (not_t h73) (ap (not_f h76) (ap (not_f h76) (ap (not_f h76) (ap (not_f h76) (ap (not_f h76) (ap (f37_ok x53.2.Basis 1125899906842624 h75) an)))))))))))))))))))))))))))))))))))))))))))))) (fun h => nomatch h) rfl
                    · obtain rfl := some_inj h
                      exact runK_end cfg_ok (k := 6) (rs := [([], [], []), ([], [(1, .call (.pl (.int .i64 x10)) [])], []), ([], [], []), ([(4, false), (5, false), (6, false), (9, false), (10, false), (11, false), (14, false), (15, false), (16, false), (19, false), (20, false), (23, false), (24, false), (27, false), (28, false), (29, false)], [(1, .call (.pl (.bool x28)) []), (5, .call (.pl (.bool x31)) []), (7, .bool false), (12, .bool false), (15, .call (.pl (.bool x35)) []), (17, .bool false), (21, .bool false), (25, .bool false), (28, .call (.pl (.bool x40)) []), (30, .bool false)], []), ([], [(2, .call (.own 2) [none, none, some (.row false 4 (x47.map VariationPosition.cells))]), (9, .call (.tup [(.own 3), (.pl (.agg (VariationPosition.cells x49.2)))]) [none, none, none, some (.row false 4 (x49.1.map VariationPosition.cells)), some (.box ((VariationPosition.cells x49.2).map .pl))])], []), ([], [(9, .call (.tup [(.own 6), (.pl (.agg (VariationPosition.cells x53.2)))]) [none, none, none, none, none, none, some (.row false 4 (x53.1.map VariationPosition.cells)), some (.box ((VariationPosition.cells x53.2).map .pl))])], []), ([(5, false), (6, false), (7, false), (8, false)], [(2, .call (.pl (.bool x68)) []), (7, .call (.pl (.bool x71)) []), (9, .bool false)], []), ([], [], [])]) (ps := [some false, some false, some true]) (tds := [.matC 1 1 4]) (m := [1, 9]) (keep := [12, 13]) (ex := .ret) (st' := (f16n0E a1 a2 a3 a4 a5 a6 (.ret 52 0 [])).2) (by kernel_rfl) (ap (f26_ok a1 h11) (ap (not_t h12) (ap (not_t h30) (ap (not_t h30) (ap (not_t h30) (ap (not_t h30) (ap (not_t h33) (ap (not_t h33) (ap (not_t h33) (ap (not_t h33) (ap h34 (ap h34 (ap h34 (ap h34 (ap (not_t h37) (ap (not_t h37) (ap (not_t h37) (ap h38 (ap h38 (ap h38 (ap h39 (ap h39 (ap h39 (ap h39 (ap (f44_ok a2 h29) (ap (f44_ok a3 h32) (ap (f45_ok a4 h36) (ap (f37_ok a6 536870912 h41) (ap (not_t h42) (ap (CallS.ren (args' := [(.pl (.sl .any 4 (a1.Positions.map VariationPosition.cells)))]) (v' := (.own 2)) (B := [none, none]) (B' := [none, none, some (.row false 4 (x47.map VariationPosition.cells))]) 2 [] (f47r1_ok a1.Positions h48) (by kernel_rfl) (by kernel_rfl) (by kernel_rfl) (by kernel_rfl) (by kernel_rfl) (by kernel_rfl)) (ap (CallS.ren (args' := [(.own 2), (.pl (.str a2)), (.pl (.str a4)), (.pl (.int .i64 a5)), (.pl (.int .i64 (wr64 (a5 * a6))))]) (v' := (.tup [(.own 3), (.pl (.agg (VariationPosition.cells x49.2)))])) (B := [none, none, some (.row false 4 (x47.map VariationPosition.cells))]) (B' := [none, none, none, some (.row false 4 (x49.1.map VariationPosition.cells)), some (.box ((VariationPosition.cells x49.2).map .pl))]) 3 [2] (f46r1_ok a2 a4 a5 (wr64 (a5 * a6)) x47 h50) (by kernel_rfl) (by kernel_rfl) (by kernel_rfl) (by kernel_rfl) (by kernel_rfl) (by kernel_rfl)) (ap (CallS.ren (args' := [(.own 3), (.pl (.str a3)), (.pl (.str a4)), (.pl (.int .i64 (wr64 (0 - a5)))), (.pl (.int .i64 (wr64 ((wr64 (0 - a5)) * a6))))]) (v' := (.tup [(.own 6), (.pl (.agg (VariationPosition.cells x53.2)))])) (B := [none, none, none, some (.row false 4 (x49.1.map VariationPosition.cells)), none, none]) (B' := [none, none, none, none, none, none, some (.row false 4 (x53.1.map VariationPosition.cells)), some (.box ((VariationPosition.cells x53.2).map .pl))]) 6 [3] (f46r1_ok a3 a4 (wr64 (0 - a5)) (wr64 ((wr64 (0 - a5)) * a6)) x49.1 h54) (by kernel_rfl) (by kernel_rfl) (by kernel_rfl) (by kernel_rfl) (by kernel_rfl) (by kernel_rfl)) (ap (not_t h70) (ap (not_t h70) (ap (not_t h70) (ap (not_t h70) (ap (not_t h70) (ap (f37_ok x53.2.Quantity 1048576 h69) (ap (f37_ok x49.2.Quantity 1048576 h72) (ap (not_f h73) an)))))))))))))))))))))))))))))))))))))))) (fun h => nomatch h) rfl
                  · obtain rfl := some_inj h
                    exact runK_end cfg_ok (k := 6) (rs := [([], [], []), ([], [(1, .call (.pl (.int .i64 x10)) [])], []), ([], [], []), ([(4, false), (5, false), (6, false), (9, false), (10, false), (11, false), (14, false), (15, false), (16, false), (19, false), (20, false), (23, false), (24, false), (27, false), (28, false), (29, false)], [(1, .call (.pl (.bool x28)) []), (5, .call (.pl (.bool x31)) []), (7, .bool false), (12, .bool false), (15, .call (.pl (.bool x35)) []), (17, .bool false), (21, .bool false), (25, .bool false), (28, .call (.pl (.bool x40)) []), (30, .bool false)], []), ([], [(2, .call (.own 2) [none, none, some (.row false 4 (x47.map VariationPosition.cells))]), (9, .call (.tup [(.own 3), (.pl (.agg (VariationPosition.cells x49.2)))]) [none, none, none, some (.row false 4 (x49.1.map VariationPosition.cells)), some (.box ((VariationPosition.cells x49.2).map .pl))])], []), ([], [(9, .call (.tup [(.own 6), (.pl (.agg (VariationPosition.cells x53.2)))]) [none, none, none, none, none, none, some (.row false 4 (x53.1.map VariationPosition.cells)), some (.box ((VariationPosition.cells x53.2).map .pl))])], []), ([(5, true), (6, true), (7, true), (8, true)], [(2, .call (.pl (.bool x68)) []), (9, .bool true)], []), ([], [], [])]) (ps := [some false, some false, none]) (tds := [.matC 1 1 4]) (m := [1, 9]) (keep := [12, 13]) (ex := .ret) (st' := (f16n0E a1 a2 a3 a4 a5 a6 (.ret 52 0 [])).2) (by kernel_rfl) (ap (f26_ok a1 h11) (ap (not_t h12) (ap (not_t h30) (ap (not_t h30) (ap (not_t h30) (ap (not_t h30) (ap (not_t h33) (ap (not_t h33) (ap (not_t h33) (ap (not_t h33) (ap h34 (ap h34 (ap h34 (ap h34 (ap (not_t h37) (ap (not_t h37) (ap (not_t h37) (ap h38 (ap h38 (ap h38 (ap h39 (ap h39 (ap h39 (ap h39 (ap (f44_ok a2 h29) (ap (f44_ok a3 h32) (ap (f45_ok a4 h36) (ap (f37_ok a6 536870912 h41) (ap (not_t h42) (ap (CallS.ren (args' := [(.pl (.sl .any 4 (a1.Positions.map VariationPosition.cells)))]) (v' := (.own 2)) (B := [none, none]) (B' := [none, none, some (.row false 4 (x47.map VariationPosition.cells))]) 2 [] (f47r1_ok a1.Positions h48) (by kernel_rfl) (by kernel_rfl) (by kernel_rfl) (by kernel_rfl) (by kernel_rfl) (by kernel_rfl)) (ap (CallS.ren (args' := [(.own 2), (.pl (.str a2)), (.pl (.str a4)), (.pl (.int .i64 a5)), (.pl (.int .i64 (wr64 (a5 * a6))))]) (v' := (.tup [(.own 3), (.pl (.agg (VariationPosition.cells x49.2)))])) (B := [none, none, some (.row false 4 (x47.map VariationPosition.cells))]) (B' := [none, none, none, some (.row false 4 (x49.1.map VariationPosition.cells)), some (.box ((VariationPosition.cells x49.2).map .pl))]) 3 [2] (f46r1_ok a2 a4 a5 (wr64 (a5 * a6)) x47 h50) (by kernel_rfl) (by kernel_rfl) (by kernel_rfl) (by kernel_rfl) (by kernel_rfl) (by kernel_rfl)) (ap (CallS.ren (args' := [(.own 3), (.pl (.str a3)), (.pl (.str a4)), (.pl (.int .i64 (wr64 (0 - a5)))), (.pl (.int .i64 (wr64 ((wr64 (0 - a5)) * a6))))]) (v' := (.tup [(.own 6), (.pl (.agg (VariationPosition.cells x53.2)))])) (B := [none, none, none, some (.row false 4 (x49.1.map VariationPosition.cells)), none, none]) (B' := [none, none, none, none, none, none, some (.row false 4 (x53.1.map VariationPosition.cells)), some (.box ((VariationPosition.cells x53.2).map .pl))]) 6 [3] (f46r1_ok a3 a4 (wr64 (0 - a5)) (wr64 ((wr64 (0 - a5)) * a6)) x49.1 h54) (by kernel_rfl) (by kernel_rfl) (by kernel_rfl) (by kernel_rfl) (by kernel_rfl) (by kernel_rfl)) (ap (not_f h70) (ap (not_f h70) (ap (not_f h70) (ap (not_f h70) (ap (not_f h70) (ap (f37_ok x53.2.Quantity 1048576 h69) an)))))))))))))))))))))))))))))))))))))) (fun h => nomatch h) rfl
                · obtain rfl := some_inj h
                  exact runK_end cfg_ok (k := 3) (rs := [([], [], []), ([], [(1, .call (.pl (.int .i64 x10)) [])], []), ([], [], []), ([(4, false), (5, false), (6, false), (9, false), (10, false), (11, false), (14, false), (15, false), (16, false), (19, false), (20, false), (23, false), (24, false), (27, false), (28, false), (29, false)], [(1, .call (.pl (.bool x28)) []), (5, .call (.pl (.bool x31)) []), (7, .bool false), (12, .bool false), (15, .call (.pl (.bool x35)) []), (17, .bool false), (21, .bool false), (25, .bool false), (28, .call (.pl (.bool x40)) []), (30, .bool false)], []), ([], [], [])]) (ps := [some false, some true]) (tds := [.matC 1 1 4]) (m := [1, 2]) (keep := [12, 13]) (ex := .ret) (st' := (f16n0E a1 a2 a3 a4 a5 a6 (.ret 2 0 [])).2) (by kernel_rfl) (ap (f26_ok a1 h11) (ap (not_t h12) (ap (not_t h30) (ap (not_t h30) (ap (not_t h30) (ap (not_t h30) (ap (not_t h33) (ap (not_t h33) (ap (not_t h33) (ap (not_t h33) (ap h34 (ap h34 (ap h34 (ap h34 (ap (not_t h37) (ap (not_t h37) (ap (not_t h37) (ap h38 (ap h38 (ap h38 (ap h39 (ap h39 (ap h39 (ap h39 (ap (f44_ok a2 h29) (ap (f44_ok a3 h32) (ap (f45_ok a4 h36) (ap (f37_ok a6 536870912 h41) (ap (not_f h42) an))))))))))))))))))))))))))))) (fun h => nomatch h) rfl
          · obtain rfl := some_inj h
            exact runK_end cfg_ok (k := 3) (rs := [([], [], []), ([], [(1, .call (.pl (.int .i64 x10)) [])], []), ([], [], []), ([(4, false), (5, false), (6, false), (9, false), (10, false), (11, false), (14, false), (15, false), (16, false), (19, true), (20, true)], [(1, .call (.pl (.bool x28)) []), (5, .call (.pl (.bool x31)) []), (7, .bool false), (12, .bool false), (15, .call (.pl (.bool x35)) []), (17, .bool false), (21, .bool true)], []), ([], [], [])]) (ps := [some false, none]) (tds := [.matC 1 1 4]) (m := [1, 2]) (keep := [12, 13]) (ex := .ret) (st' := (f16n0E a1 a2 a3 a4 a5 a6 (.ret 2 0 [])).2) (by kernel_rfl) (ap (f26_ok a1 h11) (ap (not_t h12) (ap (not_t h30) (ap (not_t h30) (ap (not_t h30) (ap (not_t h30) (ap (not_t h33) (ap (not_t h33) (ap (not_t h33) (ap (not_t h33) (ap h34 (ap h34 (ap h34 (ap h34 (ap (not_f h37) (ap (not_f h37) (ap (not_f h37) (ap (f44_ok a2 h29) (ap (f44_ok a3 h32) (ap (f45_ok a4 h36) an)))))))))))))))))))) (fun h => nomatch h) rfl
      · obtain rfl := some_inj h
        exact runK_end cfg_ok (k := 3) (rs := [([], [], []), ([], [(1, .call (.pl (.int .i64 x10)) [])], []), ([], [], []), ([(4, false), (5, false), (6, false), (9, true), (10, true), (11, true)], [(1, .call (.pl (.bool x28)) []), (5, .call (.pl (.bool x31)) []), (7, .bool false), (12, .bool true)], []), ([], [], [])]) (ps := [some false, none]) (tds := [.matC 1 1 4]) (m := [1, 2]) (keep := [12, 13]) (ex := .ret) (st' := (f16n0E a1 a2 a3 a4 a5 a6 (.ret 2 0 [])).2) (by kernel_rfl) (ap (f26_ok a1 h11) (ap (not_t h12) (ap (not_t h30) (ap (not_t h30) (ap (not_t h30) (ap (not_t h30) (ap (not_f h33) (ap (not_f h33) (ap (not_f h33) (ap (not_f h33) (ap (f44_ok a2 h29) (ap (f44_ok a3 h32) an)))))))))))) (fun h => nomatch h) rfl
    · obtain rfl := some_inj h
      exact runK_end cfg_ok (k := 3) (rs := [([], [], []), ([], [(1, .call (.pl (.int .i64 x10)) [])], []), ([], [], []), ([(4, true), (5, true), (6, true)], [(1, .call (.pl (.bool x28)) []), (7, .bool true)], []), ([], [], [])]) (ps := [some false, none]) (tds := [.matC 1 1 4]) (m := [1, 2]) (keep := [12, 13]) (ex := .ret) (st' := (f16n0E a1 a2 a3 a4 a5 a6 (.ret 2 0 [])).2) (by kernel_rfl) (ap (f26_ok a1 h11) (ap (not_t h12) (ap (not_f h30) (ap (not_f h30) (ap (not_f h30) (ap (not_f h30) (ap (f44_ok a2 h29) an))))))) (fun h => nomatch h) rfl
  · obtain rfl := some_inj h
    exact runK_end cfg_ok (k := 2) (rs := [([], [], []), ([], [(1, .call (.pl (.int .i64 x10)) [])], []), ([], [], []), ([], [], [])]) (ps := [some true]) (tds := [.matC 1 1 4]) (m := [1, 2]) (keep := [12, 13]) (ex := .ret) (st' := (f16n0E a1 a2 a3 a4 a5 a6 (.ret x10 0 [])).2) (by kernel_rfl) (ap (f26_ok a1 h11) (ap (not_f h12) an)) (fun h => nomatch h) rfl
noncomputable def f16 (a1 : Variation) (a2 : ByteArray) (a3 : ByteArray) (a4 : ByteArray) (a5 : Int) (a6 : Int) : Option (Variation × Int) := (f16n0 a1 a2 a3 a4 a5 a6).bind fun o => match o with
  | .ret v81 v82 v83 => some ((Variation.mk v82 v83), v81)
theorem f16_ok (a1 : Variation) (a2 : ByteArray) (a3 : ByteArray) (a4 : ByteArray) (a5 : Int) (a6 : Int) {r : Variation × Int} (h : (f16 a1 a2 a3 a4 a5 a6) = some r) : CallS Try.prog false 16 [(.pl (.agg (Variation.cells a1))), (.pl (.str a2)), (.pl (.str a3)), (.pl (.str a4)), (.pl (.int .i64 a5)), (.pl (.int .i64 a6))] [] (.tup [(.pl (.agg (Variation.cells r.1))), (.pl (.int .i64 r.2))]) [] := by
  unfold f16 at h
  obtain ⟨o, ho, h⟩ := bind_cases h
  cases o with
  | ret v81 v82 v83 =>
    obtain rfl := some_inj h
    exact CallS.plain cfg_ok (f := Try.f16) (c := c16) (by kernel_rfl) (by kernel_rfl) (by kernel_rfl) (by kernel_rfl) ((f16n0_ok a1 a2 a3 a4 a5 a6 ho).mono fun r e => by subst e; exact ⟨.inl rfl, (.tup [(.agg [(.pl (.int .i64 v82)), (.own 1)]), (.pl (.int .i64 v81))]), (.tup [(.pl (.agg (Variation.cells (Variation.mk v82 v83)))), (.pl (.int .i64 v81))]), by kernel_rfl, by kernel_rfl, ((Wk.refl _) : Wk (.tup [(.pl (.agg (Variation.cells (Variation.mk v82 v83)))), (.pl (.int .i64 v81))]) (.tup [(.pl (.agg (Variation.cells (Variation.mk v82 v83)))), (.pl (.int .i64 v81))]))⟩)

noncomputable def c23 : Code := Try.f23.body.getD .skip
inductive f23r1n0O where
  | ret
def f23r1n0E (a1 : Int) : f23r1n0O → Ex × Tr × Hp
  | .ret => (.ret, mkS [(2, (.own 0))], [some (.row false 2 ([(VariationPrice.mk str_p a1)].map VariationPrice.cells))])
def f23r1n0S (a1 : Int) : Tr × Hp := (initS [(.pl (.int .i64 a1))] 0 .leaf, [])
noncomputable def f23r1n0 (a1 : Int) : Option f23r1n0O :=
  some .ret
theorem f23r1n0_ok (a1 : Int) {o : f23r1n0O} (h : (f23r1n0 a1) = some o) : T Try.prog Try.f23.ntmps 0 c23 (f23r1n0S a1) (fun r => r = f23r1n0E a1 o) := by
  unfold f23r1n0 at h
  obtain rfl := some_inj h
  exact run_end cfg_ok (rs := [([], [], []), ([], [], [])]) (ps := []) (tds := []) (m := [0]) (keep := [2]) (r := (.ret, (f23r1n0E a1 .ret).2)) (by kernel_rfl) an rfl
noncomputable def f23r1 (a1 : Int) : Option Unit := (f23r1n0 a1).bind fun o => match o with
  | .ret => some ()
theorem f23r1_ok (a1 : Int) {r : Unit} (h : (f23r1 a1) = some r) : CallS Try.prog true 23 [(.pl (.int .i64 a1))] [] (.own 0) [some (.row false 2 ([(VariationPrice.mk str_p a1)].map VariationPrice.cells))] := by
  unfold f23r1 at h
  obtain ⟨o, ho, h⟩ := bind_cases h
  cases o with
  | ret =>
    obtain rfl := some_inj h
    exact CallS.shared cfg_ok (f := Try.f23) (c := c23) (by kernel_rfl) (by kernel_rfl) (by kernel_rfl) ((f23r1n0_ok a1 ho).mono fun r e => by subst e; exact ⟨.inl rfl, by kernel_rfl, by kernel_rfl⟩)

noncomputable def c35 : Code := Try.f35.body.getD .skip
inductive f35n2O where
  | exit0
  | ret
def f35n2E (bh1 : List VariationPrice) : f35n2O → Ex × Tr × Hp
  | .exit0 => ((.exit 0), mkS [(0, (.pl (.sl .any 2 (bh1.map VariationPrice.cells))))], [])
  | .ret => (.ret, mkS [(2, (.pl (.bool false)))], [])
def f35n2S (bh1 : List VariationPrice) (v59 : Int) : Tr × Hp := (mkS [(0, (.pl (.sl .any 2 (bh1.map VariationPrice.cells)))), (5, (.pl (.sl .any 2 (bh1.map VariationPrice.cells)))), (6, (.pl (.int .i64 (bh1.length : Int)))), (7, (.pl (.int .i64 v59)))], [])
noncomputable def f35n2 : Nat → List VariationPrice → Int → Option f35n2O
  | 0, _, _ => none
  | f + 1, bh1, v59 =>
    bif (decide (v59 < (bh1.length : Int))) then
      (at? bh1 v59).bind fun x80 =>
      bif (decide (0 < v59)) then
        (at? bh1 (wr64 (v59 - 1))).bind fun x83 =>
        bif (slt x83.Product x80.Product) then
          (f45 x80.Product).bind fun x86 =>
          bif x86 then
            (f37 x80.Price 536870912).bind fun x89 =>
            bif x89 then
              (f35n2 f bh1 (wr64 (v59 + 1)))
            else
              some .ret
          else
            some .ret
        else
          some .ret
      else
        (f45 x80.Product).bind fun x92 =>
        bif x92 then
          (f37 x80.Price 536870912).bind fun x95 =>
          bif x95 then
            (f35n2 f bh1 (wr64 (v59 + 1)))
          else
            some .ret
        else
          some .ret
    else
      some .exit0
theorem f35n2_ok : ∀ (f : Nat) (bh1 : List VariationPrice) (v59 : Int) {o : f35n2O}, (f35n2 f bh1 v59) = some o → TL Try.prog Try.f35.ntmps 0 f (cL (cL (dropC 1 (cL (dropC 1 c35))))) (f35n2S bh1 v59) (fun r => r = f35n2E bh1 o)
  | 0, _, _, o, h => by rw [f35n2] at h; cases h
  | f + 1, bh1, v59, o, h => by
    rw [f35n2] at h
    refine TL.body (K := fun s => ∃ v59 : Int, s = (f35n2S bh1 v59) ∧ (f35n2 f bh1 v59) = some o) ?_ (by rintro _ ⟨v59, rfl, hk⟩; exact f35n2_ok f _ _ hk)
    rcases cond_cases h with ⟨h61, h⟩ | ⟨h61, h⟩
    · obtain ⟨x80, h81, h⟩ := bind_cases h
      rcases cond_cases h with ⟨h82, h⟩ | ⟨h82, h⟩
      · obtain ⟨x83, h84, h⟩ := bind_cases h
        rcases cond_cases h with ⟨h85, h⟩ | ⟨h85, h⟩
        · obtain ⟨x86, h87, h⟩ := bind_cases h
          rcases cond_cases h with ⟨h88, h⟩ | ⟨h88, h⟩
          · obtain ⟨x89, h90, h⟩ := bind_cases h
            rcases cond_cases h with ⟨h91, h⟩ | ⟨h91, h⟩
            · exact run_end cfg_ok (rs := [([], [], []), ([], [(1, .idx (Int.toNat v59) (VariationPrice.cells x80))], []), ([(3, true), (4, true), (5, true), (6, true), (7, true), (8, true), (9, true), (10, true), (11, true), (14, false), (15, false), (16, false), (17, false), (20, false), (21, false), (22, false), (23, false)], [(6, .idx (Int.toNat (wr64 (v59 - 1))) (VariationPrice.cells x83)), (12, .bool true), (16, .call (.pl (.bool x86)) []), (18, .bool false), (22, .call (.pl (.bool x89)) []), (24, .bool false)], []), ([], [], [])]) (ps := [some true, some false]) (tds := []) (m := []) (keep := [0, 5, 6, 7]) (r := (.norm, (f35n2S bh1 (wr64 (v59 + 1))))) (by kernel_rfl) (ap h61 (ap (at_some h81).1 (ap (at_map VariationPrice.cells (at_some h81).2) (ap h82 (ap h82 (ap h82 (ap h82 (ap (at_some h84).1 (ap (at_map VariationPrice.cells (at_some h84).2) (ap h82 (ap h82 (ap h82 (ap h82 (ap h82 (ap h82 (ap (not_t h85) (ap (not_t h85) (ap (not_t h85) (ap (not_t h85) (ap (not_t h85) (ap (not_t h88) (ap (not_t h88) (ap (not_t h88) (ap (not_t h88) (ap (not_t h88) (ap (f45_ok x80.Product h87) (ap (f37_ok x80.Price 536870912 h90) (ap (not_t h91) an)))))))))))))))))))))))))))) (LoopQ.norm ⟨(wr64 (v59 + 1)), rfl, h⟩)
            · obtain rfl := some_inj h
              exact runK_end cfg_ok (k := 3) (rs := [([], [], []), ([], [(1, .idx (Int.toNat v59) (VariationPrice.cells x80))], []), ([(3, true), (4, true), (5, true), (6, true), (7, true), (8, true), (9, true), (10, true), (11, true), (14, false), (15, false), (16, false), (17, false), (20, false), (21, false), (22, false), (23, false)], [(6, .idx (Int.toNat (wr64 (v59 - 1))) (VariationPrice.cells x83)), (12, .bool true), (16, .call (.pl (.bool x86)) []), (18, .bool false), (22, .call (.pl (.bool x89)) []), (24, .bool false)], []), ([], [], [])]) (ps := [some true, some true]) (tds := []) (m := []) (keep := [2]) (ex := .ret) (st' := (f35n2E bh1 .ret).2) (by kernel_rfl) (ap h61 (ap (at_some h81).1 (ap (at_map VariationPrice.cells (at_some h81).2) (ap h82 (ap h82 (ap h82 (ap h82 (ap (at_some h84).1 (ap (at_map VariationPrice.cells (at_some h84).2) (ap h82 (ap h82 (ap h82 (ap h82 (ap h82 (ap h82 (ap (not_t h85) (ap (not_t h85) (ap (not_t h85) (ap (not_t h85) (ap (not_t h85) (ap (not_t h88) (ap (not_t h88) (ap (not_t h88) (ap (not_t h88) (ap (not_t h88) (ap (f45_ok x80.Product h87) (ap (f37_ok x80.Price 536870912 h90) (ap (not_f h91) an)))))))))))))))))))))))))))) (fun h => nomatch h) (LoopQ.out rfl rfl)
          · obtain rfl := some_inj h
            exact runK_end cfg_ok (k := 3) (rs := [([], [], []), ([], [(1, .idx (Int.toNat v59) (VariationPrice.cells x80))], []), ([(3, true), (4, true), (5, true), (6, true), (7, true), (8, true), (9, true), (10, true), (11, true), (14, false), (15, false), (16, false), (17, false), (20, true), (21, true), (22, true), (23, true)], [(6, .idx (Int.toNat (wr64 (v59 - 1))) (VariationPrice.cells x83)), (12, .bool true), (16, .call (.pl (.bool x86)) []), (18, .bool false), (24, .bool true)], []), ([], [], [])]) (ps := [some true, none]) (tds := []) (m := []) (keep := [2]) (ex := .ret) (st' := (f35n2E bh1 .ret).2) (by kernel_rfl) (ap h61 (ap (at_some h81).1 (ap (at_map VariationPrice.cells (at_some h81).2) (ap h82 (ap h82 (ap h82 (ap h82 (ap (at_some h84).1 (ap (at_map VariationPrice.cells (at_some h84).2) (ap h82 (ap h82 (ap h82 (ap h82 (ap h82 (ap h82 (ap (not_t h85) (ap (not_t h85) (ap (not_t h85) (ap (not_t h85) (ap (not_t h85) (ap (not_f h88) (ap (not_f h88) (ap (not_f h88) (ap (not_f h88) (ap (not_f h88) (ap (f45_ok x80.Product h87) an)))))))))))))))))))))))))) (fun h => nomatch h) (LoopQ.out rfl rfl)
        · obtain rfl := some_inj h
          exact runK_end cfg_ok (k := 3) (rs := [([], [], []), ([], [(1, .idx (Int.toNat v59) (VariationPrice.cells x80))], []), ([(3, true), (4, true), (5, true), (6, true), (7, true), (8, true), (9, true), (10, true), (11, true), (14, true), (15, true), (16, true), (17, true)], [(6, .idx (Int.toNat (wr64 (v59 - 1))) (VariationPrice.cells x83)), (12, .bool true), (18, .bool true)], []), ([], [], [])]) (ps := [some true, none]) (tds := []) (m := []) (keep := [2]) (ex := .ret) (st' := (f35n2E bh1 .ret).2) (by kernel_rfl) (ap h61 (ap (at_some h81).1 (ap (at_map VariationPrice.cells (at_some h81).2) (ap h82 (ap h82 (ap h82 (ap h82 (ap (at_some h84).1 (ap (at_map VariationPrice.cells (at_some h84).2) (ap h82 (ap h82 (ap h82 (ap h82 (ap h82 (ap h82 (ap (not_f h85) (ap (not_f h85) (ap (not_f h85) (ap (not_f h85) (ap (not_f h85) an)))))))))))))))))))) (fun h => nomatch h) (LoopQ.out rfl rfl)
      · obtain ⟨x92, h93, h⟩ := bind_cases h
        rcases cond_cases h with ⟨h94, h⟩ | ⟨h94, h⟩
        · obtain ⟨x95, h96, h⟩ := bind_cases h
          rcases cond_cases h with ⟨h97, h⟩ | ⟨h97, h⟩
          · exact run_end cfg_ok (rs := [([], [], []), ([], [(1, .idx (Int.toNat v59) (VariationPrice.cells x80))], []), ([(3, false), (4, false), (5, false), (6, false), (7, false), (8, false), (9, false), (10, false), (11, false), (20, false), (21, false), (22, false), (23, false)], [(12, .bool false), (16, .call (.pl (.bool x92)) []), (22, .call (.pl (.bool x95)) []), (24, .bool false)], []), ([], [], [])]) (ps := [some true, some false]) (tds := []) (m := []) (keep := [0, 5, 6, 7]) (r := (.norm, (f35n2S bh1 (wr64 (v59 + 1))))) (by kernel_rfl) (ap h61 (ap (at_some h81).1 (ap (at_map VariationPrice.cells (at_some h81).2) (ap h82 (ap h82 (ap h82 (ap h82 (ap h82 (ap h82 (ap h82 (ap h82 (ap h82 (ap h82 (ap (not_t h94) (ap (not_t h94) (ap (not_t h94) (ap (not_t h94) (ap (not_t h94) (ap (f45_ok x80.Product h93) (ap (f37_ok x80.Price 536870912 h96) (ap (not_t h97) an))))))))))))))))))))) (LoopQ.norm ⟨(wr64 (v59 + 1)), rfl, h⟩)
          · obtain rfl := some_inj h
            exact runK_end cfg_ok (k := 3) (rs := [([], [], []), ([], [(1, .idx (Int.toNat v59) (VariationPrice.cells x80))], []), ([(3, false), (4, false), (5, false), (6, false), (7, false), (8, false), (9, false), (10, false), (11, false), (20, false), (21, false), (22, false), (23, false)], [(12, .bool false), (16, .call (.pl (.bool x92)) []), (22, .call (.pl (.bool x95)) []), (24, .bool false)], []), ([], [], [])]) (ps := [some true, some true]) (tds := []) (m := []) (keep := [2]) (ex := .ret) (st' := (f35n2E bh1 .ret).2) (by kernel_rfl) (ap h61 (ap (at_some h81).1 (ap (at_map VariationPrice.cells (at_some h81).2) (ap h82 (ap h82 (ap h82 (ap h82 (ap h82 (ap h82 (ap h82 (ap h82 (ap h82 (ap h82 (ap (not_t h94) (ap (not_t h94) (ap (not_t h94) (ap (not_t h94) (ap (not_t h94) (ap (f45_ok x80.Product h93) (ap (f37_ok x80.Price 536870912 h96) (ap (not_f h97) an))))))))))))))))))))) (fun h => nomatch h) (LoopQ.out rfl rfl)
        · obtain rfl := some_inj h
          exact runK_end cfg_ok (k := 3) (rs := [([], [], []), ([], [(1, .idx (Int.toNat v59) (VariationPrice.cells x80))], []), ([(3, false), (4, false), (5, false), (6, false), (7, false), (8, false), (9, false), (10, false), (11, false), (20, true), (21, true), (22, true), (23, true)], [(12, .bool false), (16, .call (.pl (.bool x92)) []), (24, .bool true)], []), ([], [], [])]) (ps := [some true, none]) (tds := []) (m := []) (keep := [2]) (ex := .ret) (st' := (f35n2E bh1 .ret).2) (by kernel_rfl) (ap h61 (ap (at_some h81).1 (ap (at_map VariationPrice.cells (at_some h81).2) (ap h82 (ap h82 (ap h82 (ap h82 (ap h82 (ap h82 (ap h82 (ap h82 (ap h82 (ap h82 (ap (not_f h94) (ap (not_f h94) (ap (not_f h94) (ap (not_f h94) (ap (not_f h94) (ap (f45_ok x80.Product h93) an))))))))))))))))))) (fun h => nomatch h) (LoopQ.out rfl rfl)
    · obtain rfl := some_inj h
      exact runK_end cfg_ok (k := 2) (rs := [([], [], [])]) (ps := [some false]) (tds := []) (m := []) (keep := [0]) (ex := (.exit 0)) (st' := (f35n2E bh1 .exit0).2) (by kernel_rfl) (ap h61 an) (fun h => nomatch h) (LoopQ.out rfl rfl)
noncomputable def f35n2L (bh1 : List VariationPrice) : List VariationPrice → Int → Option f35n2O
  | [], v59 =>
    some .exit0
  | x0 :: rest, v59 =>
    bif (decide (0 < v59)) then
      (at? bh1 (wr64 (v59 - 1))).bind fun x83 =>
      bif (slt x83.Product x0.Product) then
        (f45 x0.Product).bind fun x86 =>
        bif x86 then
          (f37 x0.Price 536870912).bind fun x89 =>
          bif x89 then
            (f35n2L bh1 rest (v59 + 1))
          else
            some .ret
        else
          some .ret
      else
        some .ret
    else
      (f45 x0.Product).bind fun x92 =>
      bif x92 then
        (f37 x0.Price 536870912).bind fun x95 =>
        bif x95 then
          (f35n2L bh1 rest (v59 + 1))
        else
          some .ret
      else
        some .ret
theorem f35n2L_eq (bh1 : List VariationPrice) : ∀ (rest : List VariationPrice) (f k : Nat), bh1.drop k = rest → bh1.length ≤ maxLen → rest.length < f → f35n2 f bh1 (k : Int) = f35n2L bh1 rest (k : Int)
  | _, 0, _, _, _, hf => absurd hf (Nat.not_lt_zero _)
  | [], f + 1, k, hd, hm, hf => by
    have hk : ¬ ((k : Int) < (bh1.length : Int)) := by have := drop_nil hd; omega
    rw [f35n2, f35n2L]
    simp only [decide_eq_false hk, cond_false]
  | x0 :: rest, f + 1, k, hd, hm, hf => by
    obtain ⟨hx, hlt, hd'⟩ := drop_cons hd
    have hk : (k : Int) < (bh1.length : Int) := by omega
    have hw : wr64 ((k : Int) + 1) = (k : Int) + 1 := wr64_of (by omega) (by unfold maxLen at hm; omega)
    have ih : f35n2 f bh1 ((k : Int) + 1) = f35n2L bh1 rest ((k : Int) + 1) := f35n2L_eq bh1 rest f (k + 1) hd' hm (by simpa using hf)
    rw [f35n2, f35n2L]
    simp only [decide_eq_true hk, cond_true, at_nat, hx, Option.bind_some, hw, ih]
theorem f35n2_run (bh1 : List VariationPrice) (hm : bh1.length ≤ maxLen) : f35n2 FUEL bh1 0 = f35n2L bh1 bh1 0 := f35n2L_eq bh1 bh1 FUEL 0 List.drop_zero hm (lt_FUEL hm)
inductive f35n1O where
  | norm
  | ret
def f35n1E (bh1 : List VariationPrice) : f35n1O → Ex × Tr × Hp
  | .norm => (.norm, mkS [(0, (.pl (.sl .any 2 (bh1.map VariationPrice.cells))))], [])
  | .ret => (.ret, mkS [(2, (.pl (.bool false)))], [])
def f35n1S (bh1 : List VariationPrice) : Tr × Hp := (mkS [(0, (.pl (.sl .any 2 (bh1.map VariationPrice.cells))))], [])
noncomputable def f35n1 (bh1 : List VariationPrice) : Option f35n1O :=
  (f35n2 FUEL bh1 0).bind fun o98 => match o98 with
  | .exit0 => some .norm
  | .ret => some .ret
theorem f35n1_ok (bh1 : List VariationPrice) {o : f35n1O} (h : (f35n1 bh1) = some o) : T Try.prog Try.f35.ntmps 0 (cL (dropC 1 c35)) (f35n1S bh1) (fun r => r = f35n1E bh1 o) := by
  unfold f35n1 at h
  refine runK_norm cfg_ok (k := 1) (rs := [([], [], [(1, .val (.pl (.int .i64 (bh1.length : Int))))])]) (ps := []) (tds := []) (m := []) (keep := [0, 5, 6, 7]) (st' := (f35n2S bh1 0)) (by kernel_rfl) (ap (len_cv (xs := bh1) (c := VariationPrice.cells)) an) ?_
  obtain ⟨o98, h99, h⟩ := bind_cases h
  cases o98 with
  | exit0 =>
    obtain rfl := some_inj h
    exact T.last' (T.bl (i := 0) (by kernel_rfl) (by kernel_rfl) (f35n2_ok FUEL bh1 0 h99)) (tds := []) (m := []) (keep := [0]) (st2 := (f35n1E bh1 .norm).2) (by kernel_rfl) an rfl
  | ret =>
    obtain rfl := some_inj h
    exact T.last' (T.bl (i := 0) (by kernel_rfl) (by kernel_rfl) (f35n2_ok FUEL bh1 0 h99)) (tds := []) (m := []) (keep := [2]) (st2 := (f35n1E bh1 .ret).2) (by kernel_rfl) an rfl
inductive f35n0O where
  | ret (v102 : Bool)
def f35n0E (a1 : List VariationPrice) : f35n0O → Ex × Tr × Hp
  | .ret v102 => (.ret, mkS [(2, (.pl (.bool v102)))], [])
def f35n0S (a1 : List VariationPrice) : Tr × Hp := (initS [(.pl (.sl .any 2 (a1.map VariationPrice.cells)))] 0 .leaf, [])
noncomputable def f35n0 (a1 : List VariationPrice) : Option f35n0O :=
  (f35n1 a1).bind fun o100 => match o100 with
  | .norm => some (.ret (decide ((a1.length : Int) ≤ 200)))
  | .ret => some (.ret false)
theorem f35n0_ok (a1 : List VariationPrice) {o : f35n0O} (h : (f35n0 a1) = some o) : T Try.prog Try.f35.ntmps 0 c35 (f35n0S a1) (fun r => r = f35n0E a1 o) := by
  unfold f35n0 at h
  refine runK_norm cfg_ok (k := 1) (rs := [([], [], [])]) (ps := []) (tds := []) (m := []) (keep := [0]) (st' := (f35n1S a1)) (by kernel_rfl) an ?_
  obtain ⟨o100, h101, h⟩ := bind_cases h
  cases o100 with
  | norm =>
    refine T.oneN (by kernel_rfl) (f35n1_ok a1 h101) (st2 := (f35n1E a1 .norm).2) rfl ?_
    obtain rfl := some_inj h
    exact run_end cfg_ok (rs := [([], [], [(1, .val (.pl (.int .i64 (a1.length : Int))))])]) (ps := []) (tds := []) (m := []) (keep := [2]) (r := (.ret, (f35n0E a1 (.ret (decide ((a1.length : Int) ≤ 200)))).2)) (by kernel_rfl) (ap (len_cv (xs := a1) (c := VariationPrice.cells)) an) rfl
  | ret =>
    obtain rfl := some_inj h
    exact T.oneX' (by kernel_rfl) (f35n1_ok a1 h101) (tds := []) (m := []) (keep := [2]) (st2 := (f35n0E a1 (.ret false)).2) (by kernel_rfl) an rfl rfl
noncomputable def f35 (a1 : List VariationPrice) : Option Bool := (f35n0 a1).bind fun o => match o with
  | .ret v102 => some v102
theorem f35_ok (a1 : List VariationPrice) {r : Bool} (h : (f35 a1) = some r) : CallS Try.prog false 35 [(.pl (.sl .any 2 (a1.map VariationPrice.cells)))] [] (.pl (.bool r)) [] := by
  unfold f35 at h
  obtain ⟨o, ho, h⟩ := bind_cases h
  cases o with
  | ret v102 =>
    obtain rfl := some_inj h
    exact CallS.plain cfg_ok (f := Try.f35) (c := c35) (by kernel_rfl) (by kernel_rfl) (by kernel_rfl) (by kernel_rfl) ((f35n0_ok a1 ho).mono fun r e => by subst e; exact ⟨.inl rfl, (.pl (.bool v102)), (.pl (.bool v102)), by kernel_rfl, by kernel_rfl, ((Wk.refl _) : Wk (.pl (.bool v102)) (.pl (.bool v102)))⟩)

noncomputable def c58 : Code := Try.f58.body.getD .skip
inductive f58n0O where
  | ret (v7 : Int)
def f58n0E (a1 : VariationPrice) (a2 : ByteArray) : f58n0O → Ex × Tr × Hp
  | .ret v7 => (.ret, mkS [(4, (.pl (.int .i64 v7)))], [])
def f58n0S (a1 : VariationPrice) (a2 : ByteArray) : Tr × Hp := (initS [(.pl (.agg (VariationPrice.cells a1))), (.pl (.str a2))] 0 .leaf, [])
noncomputable def f58n0 (a1 : VariationPrice) (a2 : ByteArray) : Option f58n0O :=
  (f40 a1.Product a2).bind fun x5 =>
  some (.ret x5)
theorem f58n0_ok (a1 : VariationPrice) (a2 : ByteArray) {o : f58n0O} (h : (f58n0 a1 a2) = some o) : T Try.prog Try.f58.ntmps 0 c58 (f58n0S a1 a2) (fun r => r = f58n0E a1 a2 o) := by
  unfold f58n0 at h
  obtain ⟨x5, h6, h⟩ := bind_cases h
  obtain rfl := some_inj h
  exact run_end cfg_ok (rs := [([], [], []), ([], [(3, .call (.pl (.int .i64 x5)) [])], [])]) (ps := []) (tds := []) (m := []) (keep := [4]) (r := (.ret, (f58n0E a1 a2 (.ret x5)).2)) (by kernel_rfl) (ap (f40_ok a1.Product a2 h6) an) rfl
noncomputable def f58 (a1 : VariationPrice) (a2 : ByteArray) : Option Int := (f58n0 a1 a2).bind fun o => match o with
  | .ret v7 => some v7
theorem f58_ok (a1 : VariationPrice) (a2 : ByteArray) {r : Int} (h : (f58 a1 a2) = some r) : CallS Try.prog false 58 [(.pl (.agg (VariationPrice.cells a1))), (.pl (.str a2))] [] (.pl (.int .i64 r)) [] := by
  unfold f58 at h
  obtain ⟨o, ho, h⟩ := bind_cases h
  cases o with
  | ret v7 =>
    obtain rfl := some_inj h
    exact CallS.plain cfg_ok (f := Try.f58) (c := c58) (by kernel_rfl) (by kernel_rfl) (by kernel_rfl) (by kernel_rfl) ((f58n0_ok a1 a2 ho).mono fun r e => by subst e; exact ⟨.inl rfl, (.pl (.int .i64 v7)), (.pl (.int .i64 v7)), by kernel_rfl, by kernel_rfl, ((Wk.refl _) : Wk (.pl (.int .i64 v7)) (.pl (.int .i64 v7)))⟩)

noncomputable def c57 : Code := Try.f57.body.getD .skip
inductive f57_58n1O where
  | exit0 (v43 : Int)
def f57_58n1E (a1 : List VariationPrice) (a2 : ByteArray) : f57_58n1O → Ex × Tr × Hp
  | .exit0 v43 => ((.exit 0), mkS [(0, (.pl (.sl .any 2 (a1.map VariationPrice.cells)))), (1, (.pl (.str a2))), (2, (.pl (.fn 58))), (8, (.pl (.int .i64 (a1.length : Int)))), (9, (.pl (.int .i64 v43)))], [])
def f57_58n1S (a1 : List VariationPrice) (a2 : ByteArray) (v29 : Int) (v30 : Int) : Tr × Hp := (mkS [(0, (.pl (.sl .any 2 (a1.map VariationPrice.cells)))), (1, (.pl (.str a2))), (2, (.pl (.fn 58))), (8, (.pl (.int .i64 (a1.length : Int)))), (9, (.pl (.int .i64 v29))), (10, (.pl (.int .i64 v30)))], [])
noncomputable def f57_58n1 : Nat → List VariationPrice → ByteArray → Int → Int → Option f57_58n1O
  | 0, _, _, _, _ => none
  | f + 1, a1, a2, v29, v30 =>
    bif (decide (v29 < v30)) then
      (at? a1 (wr64 (shrK .u64 (wru64 (wr64 (v29 + v30))) 1))).bind fun x38 =>
      (f58 x38 a2).bind fun x40 =>
      bif (decide (x40 < 0)) then
        (f57_58n1 f a1 a2 (wr64 ((wr64 (shrK .u64 (wru64 (wr64 (v29 + v30))) 1)) + 1)) v30)
      else
        (f57_58n1 f a1 a2 v29 (wr64 (shrK .u64 (wru64 (wr64 (v29 + v30))) 1)))
    else
      some (.exit0 v29)
theorem f57_58n1_ok : ∀ (f : Nat) (a1 : List VariationPrice) (a2 : ByteArray) (v29 : Int) (v30 : Int) {o : f57_58n1O}, (f57_58n1 f a1 a2 v29 v30) = some o → TL Try.prog Try.f57.ntmps 0 f (cL (cL (cL (dropC 3 c57)))) (f57_58n1S a1 a2 v29 v30) (fun r => r = f57_58n1E a1 a2 o)
  | 0, _, _, _, _, o, h => by rw [f57_58n1] at h; cases h
  | f + 1, a1, a2, v29, v30, o, h => by
    rw [f57_58n1] at h
    refine TL.body (K := fun s => ∃ v29 : Int, ∃ v30 : Int, s = (f57_58n1S a1 a2 v29 v30) ∧ (f57_58n1 f a1 a2 v29 v30) = some o) ?_ (by rintro _ ⟨v29, v30, rfl, hk⟩; exact f57_58n1_ok f _ _ _ _ hk)
    rcases cond_cases h with ⟨h32, h⟩ | ⟨h32, h⟩
    · obtain ⟨x38, h39, h⟩ := bind_cases h
      obtain ⟨x40, h41, h⟩ := bind_cases h
      rcases cond_cases h with ⟨h42, h⟩ | ⟨h42, h⟩
      · exact run_end cfg_ok (rs := [([], [], []), ([], [], []), ([], [(3, .idx (Int.toNat (wr64 (shrK .u64 (wru64 (wr64 (v29 + v30))) 1))) (VariationPrice.cells x38)), (6, .call (.pl (.int .i64 x40)) [])], []), ([], [], [])]) (ps := [some true, some true]) (tds := []) (m := []) (keep := [0, 1, 2, 8, 9, 10]) (r := (.norm, (f57_58n1S a1 a2 (wr64 ((wr64 (shrK .u64 (wru64 (wr64 (v29 + v30))) 1)) + 1)) v30))) (by kernel_rfl) (ap h32 (ap (at_some h39).1 (ap (at_map VariationPrice.cells (at_some h39).2) (ap (f58_ok x38 a2 h41) (ap h42 an))))) (LoopQ.norm ⟨(wr64 ((wr64 (shrK .u64 (wru64 (wr64 (v29 + v30))) 1)) + 1)), v30, rfl, h⟩)
      · exact run_end cfg_ok (rs := [([], [], []), ([], [], []), ([], [(3, .idx (Int.toNat (wr64 (shrK .u64 (wru64 (wr64 (v29 + v30))) 1))) (VariationPrice.cells x38)), (6, .call (.pl (.int .i64 x40)) [])], []), ([], [], [])]) (ps := [some true, some false]) (tds := []) (m := []) (keep := [0, 1, 2, 8, 9, 10]) (r := (.norm, (f57_58n1S a1 a2 v29 (wr64 (shrK .u64 (wru64 (wr64 (v29 + v30))) 1))))) (by kernel_rfl) (ap h32 (ap (at_some h39).1 (ap (at_map VariationPrice.cells (at_some h39).2) (ap (f58_ok x38 a2 h41) (ap h42 an))))) (LoopQ.norm ⟨v29, (wr64 (shrK .u64 (wru64 (wr64 (v29 + v30))) 1)), rfl, h⟩)
    · obtain rfl := some_inj h
      exact runK_end cfg_ok (k := 1) (rs := [([], [], [])]) (ps := [some false]) (tds := []) (m := []) (keep := [0, 1, 2, 8, 9]) (ex := (.exit 0)) (st' := (f57_58n1E a1 a2 (.exit0 v29)).2) (by kernel_rfl) (ap h32 an) (fun h => nomatch h) (LoopQ.out rfl rfl)
inductive f57_58n0O where
  | ret (v57 : Int) (v58 : Bool)
def f57_58n0E (a1 : List VariationPrice) (a2 : ByteArray) : f57_58n0O → Ex × Tr × Hp
  | .ret v57 v58 => (.ret, mkS [(6, (.pl (.int .i64 v57))), (7, (.pl (.bool v58)))], [])
def f57_58n0S (a1 : List VariationPrice) (a2 : ByteArray) : Tr × Hp := (initS [(.pl (.sl .any 2 (a1.map VariationPrice.cells))), (.pl (.str a2)), (.pl (.fn 58))] 0 .leaf, [])
noncomputable def f57_58n0 (a1 : List VariationPrice) (a2 : ByteArray) : Option f57_58n0O :=
  (f57_58n1 FUEL a1 a2 0 (a1.length : Int)).bind fun o44 => match o44 with
  | .exit0 v46 => bif (decide (v46 < (a1.length : Int))) then
      (at? a1 v46).bind fun x53 =>
      (f58 x53 a2).bind fun x55 =>
      some (.ret v46 (decide (x55 = 0)))
    else
      some (.ret v46 false)
theorem f57_58n0_ok (a1 : List VariationPrice) (a2 : ByteArray) {o : f57_58n0O} (h : (f57_58n0 a1 a2) = some o) : T Try.prog Try.f57.ntmps 0 c57 (f57_58n0S a1 a2) (fun r => r = f57_58n0E a1 a2 o) := by
  unfold f57_58n0 at h
  refine runK_norm cfg_ok (k := 3) (rs := [([], [], []), ([], [], [(1, .val (.pl (.int .i64 (a1.length : Int))))]), ([], [], [])]) (ps := []) (tds := []) (m := []) (keep := [0, 1, 2, 8, 9, 10]) (st' := (f57_58n1S a1 a2 0 (a1.length : Int))) (by kernel_rfl) (ap (len_cv (xs := a1) (c := VariationPrice.cells)) an) ?_
  obtain ⟨o44, h45, h⟩ := bind_cases h
  cases o44 with
  | exit0 v46 =>
    refine T.oneN (by kernel_rfl) (T.bl (i := 0) (by kernel_rfl) (by kernel_rfl) (f57_58n1_ok FUEL a1 a2 0 (a1.length : Int) h45)) (st2 := (f57_58n1E a1 a2 (.exit0 v46)).2) rfl ?_
    rcases cond_cases h with ⟨h52, h⟩ | ⟨h52, h⟩
    · obtain ⟨x53, h54, h⟩ := bind_cases h
      obtain ⟨x55, h56, h⟩ := bind_cases h
      obtain rfl := some_inj h
      exact run_end cfg_ok (rs := [([(5, true), (6, true), (7, true), (8, true), (9, true), (10, true), (11, true), (12, true)], [(8, .idx (Int.toNat v46) (VariationPrice.cells x53)), (11, .call (.pl (.int .i64 x55)) []), (13, .bool true)], [])]) (ps := []) (tds := []) (m := []) (keep := [6, 7]) (r := (.ret, (f57_58n0E a1 a2 (.ret v46 (decide (x55 = 0)))).2)) (by kernel_rfl) (ap h52 (ap h52 (ap h52 (ap h52 (ap (at_some h54).1 (ap (at_map VariationPrice.cells (at_some h54).2) (ap h52 (ap h52 (ap h52 (ap h52 (ap h52 (ap (f58_ok x53 a2 h56) an)))))))))))) rfl
    · obtain rfl := some_inj h
      exact run_end cfg_ok (rs := [([(5, false), (6, false), (7, false), (8, false), (9, false), (10, false), (11, false), (12, false)], [(13, .bool false)], [])]) (ps := []) (tds := []) (m := []) (keep := [6, 7]) (r := (.ret, (f57_58n0E a1 a2 (.ret v46 false)).2)) (by kernel_rfl) (ap h52 (ap h52 (ap h52 (ap h52 (ap h52 (ap h52 (ap h52 (ap h52 (ap h52 an))))))))) rfl
noncomputable def f57_58 (a1 : List VariationPrice) (a2 : ByteArray) : Option (Int × Bool) := (f57_58n0 a1 a2).bind fun o => match o with
  | .ret v57 v58 => some (v57, v58)
theorem f57_58_ok (a1 : List VariationPrice) (a2 : ByteArray) {r : Int × Bool} (h : (f57_58 a1 a2) = some r) : CallS Try.prog false 57 [(.pl (.sl .any 2 (a1.map VariationPrice.cells))), (.pl (.str a2)), (.pl (.fn 58))] [] (.tup [(.pl (.int .i64 r.1)), (.pl (.bool r.2))]) [] := by
  unfold f57_58 at h
  obtain ⟨o, ho, h⟩ := bind_cases h
  cases o with
  | ret v57 v58 =>
    obtain rfl := some_inj h
    exact CallS.plain cfg_ok (f := Try.f57) (c := c57) (by kernel_rfl) (by kernel_rfl) (by kernel_rfl) (by kernel_rfl) ((f57_58n0_ok a1 a2 ho).mono fun r e => by subst e; exact ⟨.inl rfl, (.tup [(.pl (.int .i64 v57)), (.pl (.bool v58))]), (.tup [(.pl (.int .i64 v57)), (.pl (.bool v58))]), by kernel_rfl, by kernel_rfl, ((Wk.refl _) : Wk (.tup [(.pl (.int .i64 v57)), (.pl (.bool v58))]) (.tup [(.pl (.int .i64 v57)), (.pl (.bool v58))]))⟩)

noncomputable def c36 : Code := Try.f36.body.getD .skip
inductive f36n0O where
  | ret (v15 : Int) (v16 : Bool)
def f36n0E (a1 : VariationPosition) (a2 : List VariationPrice) : f36n0O → Ex × Tr × Hp
  | .ret v15 v16 => (.ret, mkS [(4, (.pl (.int .i64 v15))), (5, (.pl (.bool v16)))], [])
def f36n0S (a1 : VariationPosition) (a2 : List VariationPrice) : Tr × Hp := (initS [(.pl (.agg (VariationPosition.cells a1))), (.pl (.sl .any 2 (a2.map VariationPrice.cells)))] 0 .leaf, [])
noncomputable def f36n0 (a1 : VariationPosition) (a2 : List VariationPrice) : Option f36n0O :=
  bif (decide (a1.Quantity = 0)) then
    some (.ret 0 true)
  else
    (f57_58 a2 a1.Product).bind fun x7 =>
    bif x7.2 then
      (at? a2 x7.1).bind fun x13 =>
      some (.ret (wr64 (a1.Quantity * x13.Price)) true)
    else
      some (.ret 0 false)
theorem f36n0_ok (a1 : VariationPosition) (a2 : List VariationPrice) {o : f36n0O} (h : (f36n0 a1 a2) = some o) : T Try.prog Try.f36.ntmps 0 c36 (f36n0S a1 a2) (fun r => r = f36n0E a1 a2 o) := by
  unfold f36n0 at h
  rcases cond_cases h with ⟨h4, h⟩ | ⟨h4, h⟩
  · obtain rfl := some_inj h
    exact runK_end cfg_ok (k := 2) (rs := [([], [], []), ([], [], []), ([], [], [])]) (ps := [some true]) (tds := []) (m := []) (keep := [4, 5]) (ex := .ret) (st' := (f36n0E a1 a2 (.ret 0 true)).2) (by kernel_rfl) (ap h4 an) (fun h => nomatch h) rfl
  · obtain ⟨x7, h8, h⟩ := bind_cases h
    rcases cond_cases h with ⟨h10, h⟩ | ⟨h10, h⟩
    · obtain ⟨x13, h14, h⟩ := bind_cases h
      obtain rfl := some_inj h
      exact run_end cfg_ok (rs := [([], [], []), ([], [], []), ([], [(3, .call (.tup [(.pl (.int .i64 x7.1)), (.pl (.bool x7.2))]) [])], []), ([], [], []), ([], [(4, .idx (Int.toNat x7.1) (VariationPrice.cells x13))], [])]) (ps := [some false, some false]) (tds := []) (m := []) (keep := [4, 5]) (r := (.ret, (f36n0E a1 a2 (.ret (wr64 (a1.Quantity * x13.Price)) true)).2)) (by kernel_rfl) (ap h4 (ap (f57_58_ok a2 a1.Product h8) (ap (not_t h10) (ap (at_some h14).1 (ap (at_map VariationPrice.cells (at_some h14).2) an))))) rfl
    · obtain rfl := some_inj h
      exact runK_end cfg_ok (k := 4) (rs := [([], [], []), ([], [], []), ([], [(3, .call (.tup [(.pl (.int .i64 x7.1)), (.pl (.bool x7.2))]) [])], []), ([], [], []), ([], [], [])]) (ps := [some false, some true]) (tds := []) (m := []) (keep := [4, 5]) (ex := .ret) (st' := (f36n0E a1 a2 (.ret 0 false)).2) (by kernel_rfl) (ap h4 (ap (f57_58_ok a2 a1.Product h8) (ap (not_f h10) an))) (fun h => nomatch h) rfl
noncomputable def f36 (a1 : VariationPosition) (a2 : List VariationPrice) : Option (Int × Bool) := (f36n0 a1 a2).bind fun o => match o with
  | .ret v15 v16 => some (v15, v16)
theorem f36_ok (a1 : VariationPosition) (a2 : List VariationPrice) {r : Int × Bool} (h : (f36 a1 a2) = some r) : CallS Try.prog false 36 [(.pl (.agg (VariationPosition.cells a1))), (.pl (.sl .any 2 (a2.map VariationPrice.cells)))] [] (.tup [(.pl (.int .i64 r.1)), (.pl (.bool r.2))]) [] := by
  unfold f36 at h
  obtain ⟨o, ho, h⟩ := bind_cases h
  cases o with
  | ret v15 v16 =>
    obtain rfl := some_inj h
    exact CallS.plain cfg_ok (f := Try.f36) (c := c36) (by kernel_rfl) (by kernel_rfl) (by kernel_rfl) (by kernel_rfl) ((f36n0_ok a1 a2 ho).mono fun r e => by subst e; exact ⟨.inl rfl, (.tup [(.pl (.int .i64 v15)), (.pl (.bool v16))]), (.tup [(.pl (.int .i64 v15)), (.pl (.bool v16))]), by kernel_rfl, by kernel_rfl, ((Wk.refl _) : Wk (.tup [(.pl (.int .i64 v15)), (.pl (.bool v16))]) (.tup [(.pl (.int .i64 v15)), (.pl (.bool v16))]))⟩)

noncomputable def c39 : Code := Try.f39.body.getD .skip
inductive f39n0O where
  | ret (v7 : Int)
def f39n0E (a1 : VariationPayment) (a2 : VariationPayment) : f39n0O → Ex × Tr × Hp
  | .ret v7 => (.ret, mkS [(4, (.pl (.int .i64 v7)))], [])
def f39n0S (a1 : VariationPayment) (a2 : VariationPayment) : Tr × Hp := (initS [(.pl (.agg (VariationPayment.cells a1))), (.pl (.agg (VariationPayment.cells a2)))] 0 .leaf, [])
noncomputable def f39n0 (a1 : VariationPayment) (a2 : VariationPayment) : Option f39n0O :=
  (f40 a1.Member a2.Member).bind fun x5 =>
  some (.ret x5)
theorem f39n0_ok (a1 : VariationPayment) (a2 : VariationPayment) {o : f39n0O} (h : (f39n0 a1 a2) = some o) : T Try.prog Try.f39.ntmps 0 c39 (f39n0S a1 a2) (fun r => r = f39n0E a1 a2 o) := by
  unfold f39n0 at h
  obtain ⟨x5, h6, h⟩ := bind_cases h
  obtain rfl := some_inj h
  exact run_end cfg_ok (rs := [([], [], []), ([], [(4, .call (.pl (.int .i64 x5)) [])], [])]) (ps := []) (tds := []) (m := []) (keep := [4]) (r := (.ret, (f39n0E a1 a2 (.ret x5)).2)) (by kernel_rfl) (ap (f40_ok a1.Member a2.Member h6) an) rfl
noncomputable def f39 (a1 : VariationPayment) (a2 : VariationPayment) : Option Int := (f39n0 a1 a2).bind fun o => match o with
  | .ret v7 => some v7
theorem f39_ok (a1 : VariationPayment) (a2 : VariationPayment) {r : Int} (h : (f39 a1 a2) = some r) : CallS Try.prog false 39 [(.pl (.agg (VariationPayment.cells a1))), (.pl (.agg (VariationPayment.cells a2)))] [] (.pl (.int .i64 r)) [] := by
  unfold f39 at h
  obtain ⟨o, ho, h⟩ := bind_cases h
  cases o with
  | ret v7 =>
    obtain rfl := some_inj h
    exact CallS.plain cfg_ok (f := Try.f39) (c := c39) (by kernel_rfl) (by kernel_rfl) (by kernel_rfl) (by kernel_rfl) ((f39n0_ok a1 a2 ho).mono fun r e => by subst e; exact ⟨.inl rfl, (.pl (.int .i64 v7)), (.pl (.int .i64 v7)), by kernel_rfl, by kernel_rfl, ((Wk.refl _) : Wk (.pl (.int .i64 v7)) (.pl (.int .i64 v7)))⟩)

instance : Inhabited VariationPayment := ⟨by constructor <;> exact default⟩
theorem f61_val (a : ByteArray) : f61 a = some false := by
  unfold f61 f61n0
  simp [seq_refl]
theorem f40_val (a b : ByteArray) : f40 a b = some (cmpB a b) := by
  unfold f40 f40n0 cmpB
  rw [f61_val, f61_val]
  simp only [Option.bind_some, cond_false]
  cases slt a b <;> cases seq a b <;> rfl
theorem f39_val (x y : VariationPayment) : f39 x y = some (cmpB x.Member y.Member) := by
  unfold f39 f39n0
  rw [f40_val]
  rfl
def so38_39 (xs : List VariationPayment) : Option (List VariationPayment) := bif decide (xs.length < 4611686018427387904) && nodupK (fun x => x.Member) xs then some (isort (fun x => x.Member) xs) else none
theorem so38_39_ok (xs : List VariationPayment) {r : List VariationPayment} (h : so38_39 xs = some r) :
    CallS Try.prog true 38 [.own 0, .pl (.fn 39)] [some (.row false 2 (xs.map VariationPayment.cells))] (.tup []) [some (.row false 2 (r.map VariationPayment.cells))] := by
  unfold so38_39 at h
  cases hc : (decide (xs.length < 4611686018427387904) && nodupK (fun x => x.Member) xs) with
  | false => rw [hc] at h; cases h
  | true =>
    rw [hc] at h
    simp only [cond_true, Option.some.injEq] at h
    rw [Bool.and_eq_true] at hc
    subst h
    rw [← sortL_isort (fun x : VariationPayment => x.Member) hc.2]
    exact sort_callS (cells := VariationPayment.cells) so_lays rfl so_agg so_size (enters_of Try.func38 (by kernel_rfl) rfl) (fun _ => rfl) (fun x q hq => by
      simp only [VariationPayment.cells, List.mem_cons, List.not_mem_nil, or_false] at hq
      rcases hq with rfl | rfl <;> rfl) _ (swo_key fun x => x.Member) (fun x y => f39_ok _ _ (f39_val x y)) xs (of_decide_eq_true hc.1)


noncomputable def c14 : Code := Try.f14.body.getD .skip
inductive f14n1O where
  | norm (v29 : Int)
def f14n1E (be1 : Int) (bh2 : List VariationPrice) (be3 : Int) (ba4 : Variation) : f14n1O → Ex × Tr × Hp
  | .norm v29 => (.norm, mkS [(1, (.pl (.int .i64 be1))), (2, (.pl (.sl .any 2 (bh2.map VariationPrice.cells)))), (3, (.bp 0 0)), (6, (.bp 1 0)), (9, (.pl (.int .i64 v29)))], [some (.box ((Variation.cells ba4).map .pl)), some (.box [(.pl (.int .i64 0)), (.pl (.sl .nil 0 []))])])
def f14n1S (be1 : Int) (bh2 : List VariationPrice) (be3 : Int) (ba4 : Variation) : Tr × Hp := (mkS [(1, (.pl (.int .i64 be1))), (2, (.pl (.sl .any 2 (bh2.map VariationPrice.cells)))), (3, (.bp 0 0)), (6, (.bp 1 0)), (9, (.pl (.int .i64 be3)))], [some (.box ((Variation.cells ba4).map .pl)), some (.box [(.pl (.int .i64 0)), (.pl (.sl .nil 0 []))])])
noncomputable def f14n1 (be1 : Int) (bh2 : List VariationPrice) (be3 : Int) (ba4 : Variation) : Option f14n1O :=
  bif (decide (be3 = 0)) then
    bif (decide (be1 < 0)) then
      some (.norm 2)
    else
      bif (decide (99999 < be1)) then
        some (.norm 2)
      else
        (f35 bh2).bind fun x25 =>
        bif x25 then
          bif (decide (be1 ≤ ba4.Day)) then
            some (.norm 21)
          else
            some (.norm be3)
        else
          some (.norm 2)
  else
    some (.norm be3)
theorem f14n1_ok (be1 : Int) (bh2 : List VariationPrice) (be3 : Int) (ba4 : Variation) {o : f14n1O} (h : (f14n1 be1 bh2 be3 ba4) = some o) : T Try.prog Try.f14.ntmps 0 (cL (dropC 2 c14)) (f14n1S be1 bh2 be3 ba4) (fun r => r = f14n1E be1 bh2 be3 ba4 o) := by
  unfold f14n1 at h
  rcases cond_cases h with ⟨h22, h⟩ | ⟨h22, h⟩
  · rcases cond_cases h with ⟨h23, h⟩ | ⟨h23, h⟩
    · obtain rfl := some_inj h
      exact run_end cfg_ok (rs := [([], [], []), ([(3, true), (4, true)], [(5, .bool true)], []), ([], [], [])]) (ps := [some false, none]) (tds := []) (m := [0, 1]) (keep := [1, 2, 3, 6, 9]) (r := (.norm, (f14n1E be1 bh2 be3 ba4 (.norm 2)).2)) (by kernel_rfl) (ap (not_t h22) (ap h23 (ap h23 (ap h23 an)))) rfl
    · rcases cond_cases h with ⟨h24, h⟩ | ⟨h24, h⟩
      · obtain rfl := some_inj h
        exact run_end cfg_ok (rs := [([], [], []), ([(3, false), (4, false), (7, true), (8, true), (9, true)], [(5, .bool false), (10, .bool true)], []), ([], [], [])]) (ps := [some false, none]) (tds := []) (m := [0, 1]) (keep := [1, 2, 3, 6, 9]) (r := (.norm, (f14n1E be1 bh2 be3 ba4 (.norm 2)).2)) (by kernel_rfl) (ap (not_t h22) (ap h23 (ap h23 (ap h23 (ap h24 (ap h24 (ap h24 (ap h24 an)))))))) rfl
      · obtain ⟨x25, h26, h⟩ := bind_cases h
        rcases cond_cases h with ⟨h27, h⟩ | ⟨h27, h⟩
        · rcases cond_cases h with ⟨h28, h⟩ | ⟨h28, h⟩
          · obtain rfl := some_inj h
            exact run_end cfg_ok (rs := [([], [], []), ([(3, false), (4, false), (7, false), (8, false), (9, false)], [(5, .bool false), (8, .call (.pl (.bool x25)) []), (10, .bool false)], []), ([], [], []), ([], [], [])]) (ps := [some false, some false, some true]) (tds := []) (m := [0, 1]) (keep := [1, 2, 3, 6, 9]) (r := (.norm, (f14n1E be1 bh2 be3 ba4 (.norm 21)).2)) (by kernel_rfl) (ap (not_t h22) (ap h23 (ap h23 (ap h23 (ap h24 (ap h24 (ap h24 (ap h24 (ap (f35_ok bh2 h26) (ap (not_t h27) (ap h28 an))))))))))) rfl
          · obtain rfl := some_inj h
            exact run_end cfg_ok (rs := [([], [], []), ([(3, false), (4, false), (7, false), (8, false), (9, false)], [(5, .bool false), (8, .call (.pl (.bool x25)) []), (10, .bool false)], []), ([], [], [])]) (ps := [some false, some false, some false]) (tds := []) (m := [0, 1]) (keep := [1, 2, 3, 6, 9]) (r := (.norm, (f14n1E be1 bh2 be3 ba4 (.norm be3)).2)) (by kernel_rfl) (ap (not_t h22) (ap h23 (ap h23 (ap h23 (ap h24 (ap h24 (ap h24 (ap h24 (ap (f35_ok bh2 h26) (ap (not_t h27) (ap h28 an))))))))))) rfl
        · obtain rfl := some_inj h
          exact run_end cfg_ok (rs := [([], [], []), ([(3, false), (4, false), (7, false), (8, false), (9, false)], [(5, .bool false), (8, .call (.pl (.bool x25)) []), (10, .bool false)], []), ([], [], [])]) (ps := [some false, some true]) (tds := []) (m := [0, 1]) (keep := [1, 2, 3, 6, 9]) (r := (.norm, (f14n1E be1 bh2 be3 ba4 (.norm 2)).2)) (by kernel_rfl) (ap (not_t h22) (ap h23 (ap h23 (ap h23 (ap h24 (ap h24 (ap h24 (ap h24 (ap (f35_ok bh2 h26) (ap (not_f h27) an)))))))))) rfl
  · obtain rfl := some_inj h
    exact run_end cfg_ok (rs := [([], [], [])]) (ps := [some true]) (tds := []) (m := [0, 1]) (keep := [1, 2, 3, 6, 9]) (r := (.norm, (f14n1E be1 bh2 be3 ba4 (.norm be3)).2)) (by kernel_rfl) (ap (not_f h22) an) rfl
inductive f14n3O where
  | exit1 (v87 : List (ByteArray × Int)) (v88 : List VariationPosition)
  | ret
def f14n3E (bh1 : List VariationPrice) (ba2 : Variation) (be3 : Int) : f14n3O → Ex × Tr × Hp
  | .exit1 v87 v88 => ((.exit 1), mkS [(6, (.bp 0 0)), (10, (.bp 1 0)), (11, (.mp 2))], [some (.box [(.pl (.int .i64 0)), (.pl (.sl .nil 0 []))]), some (.box [(.pl (.int .i64 be3)), (.own 3)]), some (.map (v87.map (mkv pStr (pInt .i64)))), some (.row false 4 (v88.map VariationPosition.cells))])
  | .ret => (.ret, mkS [(6, (.bp 0 0)), (7, (.pl (.sl .nil 0 []))), (8, (.pl (.int .i64 30)))], [some (.box [(.pl (.int .i64 0)), (.pl (.sl .nil 0 []))])])
def f14n3S (bh1 : List VariationPrice) (ba2 : Variation) (be3 : Int) (v68 : Int) (v69 : List (ByteArray × Int)) (v70 : List VariationPosition) : Tr × Hp := (mkS [(2, (.pl (.sl .any 2 (bh1.map VariationPrice.cells)))), (6, (.bp 0 0)), (10, (.bp 1 0)), (11, (.mp 2)), (49, (.pl (.sl .any 4 (ba2.Positions.map VariationPosition.cells)))), (50, (.pl (.int .i64 (ba2.Positions.length : Int)))), (51, (.pl (.int .i64 v68)))], [some (.box [(.pl (.int .i64 0)), (.pl (.sl .nil 0 []))]), some (.box [(.pl (.int .i64 be3)), (.own 3)]), some (.map (v69.map (mkv pStr (pInt .i64)))), some (.row false 4 (v70.map VariationPosition.cells))])
noncomputable def f14n3 : Nat → List VariationPrice → Variation → Int → Int → List (ByteArray × Int) → List VariationPosition → Option f14n3O
  | 0, _, _, _, _, _, _ => none
  | f + 1, bh1, ba2, be3, v68, v69, v70 =>
    bif (decide (v68 < (ba2.Positions.length : Int))) then
      (at? ba2.Positions v68).bind fun x80 =>
      (f36 x80 bh1).bind fun x82 =>
      bif x82.2 then
        bif (decide (x80.Quantity = 0)) then
          (f14n3 f bh1 ba2 be3 (wr64 (v68 + 1)) (mPut seq x80.Member (wr64 ((mGet seq 0 x80.Member v69) + (wr64 (x82.1 - x80.Basis)))) v69) v70)
        else
          req (fit (v70.length + 1) 48) <|
          (f14n3 f bh1 ba2 be3 (wr64 (v68 + 1)) (mPut seq x80.Member (wr64 ((mGet seq 0 x80.Member v69) + (wr64 (x82.1 - x80.Basis)))) v69) (v70 ++ [(VariationPosition.mk x80.Member x80.Product x80.Quantity x82.1)]))
      else
        some .ret
    else
      some (.exit1 v69 v70)
theorem f14n3_ok : ∀ (f : Nat) (bh1 : List VariationPrice) (ba2 : Variation) (be3 : Int) (v68 : Int) (v69 : List (ByteArray × Int)) (v70 : List VariationPosition) {o : f14n3O}, (f14n3 f bh1 ba2 be3 v68 v69 v70) = some o → TL Try.prog Try.f14.ntmps 0 f (cL (cL (dropC 1 (cL (dropC 3 (dropC 1 (dropC 2 c14))))))) (f14n3S bh1 ba2 be3 v68 v69 v70) (fun r => r = f14n3E bh1 ba2 be3 o)
  | 0, _, _, _, _, _, _, o, h => by rw [f14n3] at h; cases h
  | f + 1, bh1, ba2, be3, v68, v69, v70, o, h => by
    rw [f14n3] at h
    refine TL.body (K := fun s => ∃ v68 : Int, ∃ v69 : List (ByteArray × Int), ∃ v70 : List VariationPosition, s = (f14n3S bh1 ba2 be3 v68 v69 v70) ∧ (f14n3 f bh1 ba2 be3 v68 v69 v70) = some o) ?_ (by rintro _ ⟨v68, v69, v70, rfl, hk⟩; exact f14n3_ok f _ _ _ _ _ _ hk)
    rcases cond_cases h with ⟨h72, h⟩ | ⟨h72, h⟩
    · obtain ⟨x80, h81, h⟩ := bind_cases h
      obtain ⟨x82, h83, h⟩ := bind_cases h
      rcases cond_cases h with ⟨h84, h⟩ | ⟨h84, h⟩
      · rcases cond_cases h with ⟨h85, h⟩ | ⟨h85, h⟩
        · exact run_end cfg_ok (rs := [([], [], []), ([], [(0, .idx (Int.toNat v68) (VariationPosition.cells x80))], []), ([], [(2, .call (.tup [(.pl (.int .i64 x82.1)), (.pl (.bool x82.2))]) [])], []), ([], [], []), ([], [(3, .look ((pInt .i64) (mGet seq 0 x80.Member v69)) (mHas seq x80.Member v69)), (9, .mset ((mPut seq x80.Member (wr64 ((mGet seq 0 x80.Member v69) + (wr64 (x82.1 - x80.Basis)))) v69).map (mkv pStr (pInt .i64))))], []), ([], [], []), ([], [], []), ([], [], [])]) (ps := [some true, some false, some false]) (tds := []) (m := [0, 1, 2, 3]) (keep := [2, 6, 10, 11, 49, 50, 51]) (r := (.norm, (f14n3S bh1 ba2 be3 (wr64 (v68 + 1)) (mPut seq x80.Member (wr64 ((mGet seq 0 x80.Member v69) + (wr64 (x82.1 - x80.Basis)))) v69) v70))) (by kernel_rfl) (ap h72 (ap (at_some h81).1 (ap (at_map VariationPosition.cells (at_some h81).2) (ap (f36_ok x80 bh1 h83) (ap (not_t h84) (ap (look_map (vp := (pInt .i64)) (e := 3) key_9 0 (by kernel_rfl) x80.Member v69) (ap (mset_map (vp := (pInt .i64)) key_9 x80.Member (wr64 ((mGet seq 0 x80.Member v69) + (wr64 (x82.1 - x80.Basis)))) v69) (ap (not_t h85) an)))))))) (LoopQ.norm ⟨(wr64 (v68 + 1)), (mPut seq x80.Member (wr64 ((mGet seq 0 x80.Member v69) + (wr64 (x82.1 - x80.Basis)))) v69), v70, rfl, h⟩)
        · obtain ⟨h86, h⟩ := req_cases h
          exact run_end cfg_ok (rs := [([], [], []), ([], [(0, .idx (Int.toNat v68) (VariationPosition.cells x80))], []), ([], [(2, .call (.tup [(.pl (.int .i64 x82.1)), (.pl (.bool x82.2))]) [])], []), ([], [], []), ([], [(3, .look ((pInt .i64) (mGet seq 0 x80.Member v69)) (mHas seq x80.Member v69)), (9, .mset ((mPut seq x80.Member (wr64 ((mGet seq 0 x80.Member v69) + (wr64 (x82.1 - x80.Basis)))) v69).map (mkv pStr (pInt .i64))))], []), ([], [], []), ([], [], []), ([], [(4, .fits)], [(4, .row 6 ((v70 ++ [(VariationPosition.mk x80.Member x80.Product x80.Quantity x82.1)]).map VariationPosition.cells))]), ([], [], [])]) (ps := [some true, some false, some true]) (tds := []) (m := [0, 1, 2, 6]) (keep := [2, 6, 10, 11, 49, 50, 51]) (r := (.norm, (f14n3S bh1 ba2 be3 (wr64 (v68 + 1)) (mPut seq x80.Member (wr64 ((mGet seq 0 x80.Member v69) + (wr64 (x82.1 - x80.Basis)))) v69) (v70 ++ [(VariationPosition.mk x80.Member x80.Product x80.Quantity x82.1)])))) (by kernel_rfl) (ap h72 (ap (at_some h81).1 (ap (at_map VariationPosition.cells (at_some h81).2) (ap (f36_ok x80 bh1 h83) (ap (not_t h84) (ap (look_map (vp := (pInt .i64)) (e := 3) key_9 0 (by kernel_rfl) x80.Member v69) (ap (mset_map (vp := (pInt .i64)) key_9 x80.Member (wr64 ((mGet seq 0 x80.Member v69) + (wr64 (x82.1 - x80.Basis)))) v69) (ap (not_f h85) (ap (fit_map (te := ti52) (xs := v70) (n := 1) (c := VariationPosition.cells) h86 rfl) (ap (app_cv (xs := v70) (ys := [(VariationPosition.mk x80.Member x80.Product x80.Quantity x82.1)]) (c := VariationPosition.cells)) an)))))))))) (LoopQ.norm ⟨(wr64 (v68 + 1)), (mPut seq x80.Member (wr64 ((mGet seq 0 x80.Member v69) + (wr64 (x82.1 - x80.Basis)))) v69), (v70 ++ [(VariationPosition.mk x80.Member x80.Product x80.Quantity x82.1)]), rfl, h⟩)
      · obtain rfl := some_inj h
        exact runK_end cfg_ok (k := 3) (rs := [([], [], []), ([], [(0, .idx (Int.toNat v68) (VariationPosition.cells x80))], []), ([], [(2, .call (.tup [(.pl (.int .i64 x82.1)), (.pl (.bool x82.2))]) [])], []), ([], [], []), ([], [], [])]) (ps := [some true, some true]) (tds := []) (m := [0]) (keep := [6, 7, 8]) (ex := .ret) (st' := (f14n3E bh1 ba2 be3 .ret).2) (by kernel_rfl) (ap h72 (ap (at_some h81).1 (ap (at_map VariationPosition.cells (at_some h81).2) (ap (f36_ok x80 bh1 h83) (ap (not_f h84) an))))) (fun h => nomatch h) (LoopQ.out rfl rfl)
    · obtain rfl := some_inj h
      exact runK_end cfg_ok (k := 2) (rs := [([], [], [])]) (ps := [some false]) (tds := []) (m := [0, 1, 2, 3]) (keep := [6, 10, 11]) (ex := (.exit 1)) (st' := (f14n3E bh1 ba2 be3 (.exit1 v69 v70)).2) (by kernel_rfl) (ap h72 an) (fun h => nomatch h) (LoopQ.out rfl rfl)
noncomputable def f14n3L (bh1 : List VariationPrice) (ba2 : Variation) (be3 : Int) : List VariationPosition → Int → (List (ByteArray × Int)) → (List VariationPosition) → Option f14n3O
  | [], v68, v69, v70 =>
    some (.exit1 v69 v70)
  | x0 :: rest, v68, v69, v70 =>
    (f36 x0 bh1).bind fun x82 =>
    bif x82.2 then
      bif (decide (x0.Quantity = 0)) then
        (f14n3L bh1 ba2 be3 rest (v68 + 1) (mPut seq x0.Member (wr64 ((mGet seq 0 x0.Member v69) + (wr64 (x82.1 - x0.Basis)))) v69) v70)
      else
        req (fit (v70.length + 1) 48) <|
        (f14n3L bh1 ba2 be3 rest (v68 + 1) (mPut seq x0.Member (wr64 ((mGet seq 0 x0.Member v69) + (wr64 (x82.1 - x0.Basis)))) v69) (v70 ++ [(VariationPosition.mk x0.Member x0.Product x0.Quantity x82.1)]))
    else
      some .ret
theorem f14n3L_eq (bh1 : List VariationPrice) (ba2 : Variation) (be3 : Int) : ∀ (rest : List VariationPosition) (f k : Nat) (v69 : List (ByteArray × Int)) (v70 : List VariationPosition), ba2.Positions.drop k = rest → ba2.Positions.length ≤ maxLen → rest.length < f → f14n3 f bh1 ba2 be3 (k : Int) v69 v70 = f14n3L bh1 ba2 be3 rest (k : Int) v69 v70
  | _, 0, _, _, _, _, _, hf => absurd hf (Nat.not_lt_zero _)
  | [], f + 1, k, v69, v70, hd, hm, hf => by
    have hk : ¬ ((k : Int) < (ba2.Positions.length : Int)) := by have := drop_nil hd; omega
    rw [f14n3, f14n3L]
    simp only [decide_eq_false hk, cond_false]
  | x0 :: rest, f + 1, k, v69, v70, hd, hm, hf => by
    obtain ⟨hx, hlt, hd'⟩ := drop_cons hd
    have hk : (k : Int) < (ba2.Positions.length : Int) := by omega
    have hw : wr64 ((k : Int) + 1) = (k : Int) + 1 := wr64_of (by omega) (by unfold maxLen at hm; omega)
    have ih : ∀ (v69 : List (ByteArray × Int)) (v70 : List VariationPosition), f14n3 f bh1 ba2 be3 ((k : Int) + 1) v69 v70 = f14n3L bh1 ba2 be3 rest ((k : Int) + 1) v69 v70 := fun v69 v70 => f14n3L_eq bh1 ba2 be3 rest f (k + 1) v69 v70 hd' hm (by simpa using hf)
    rw [f14n3, f14n3L]
    simp only [decide_eq_true hk, cond_true, at_nat, hx, Option.bind_some, hw, ih]
theorem f14n3_run (bh1 : List VariationPrice) (ba2 : Variation) (be3 : Int) (v69 : List (ByteArray × Int)) (v70 : List VariationPosition) (hm : ba2.Positions.length ≤ maxLen) : f14n3 FUEL bh1 ba2 be3 0 v69 v70 = f14n3L bh1 ba2 be3 ba2.Positions 0 v69 v70 := f14n3L_eq bh1 ba2 be3 ba2.Positions FUEL 0 v69 v70 List.drop_zero hm (lt_FUEL hm)
inductive f14n2O where
  | norm (v93 : List (ByteArray × Int)) (v94 : List VariationPosition)
  | ret
def f14n2E (bh1 : List VariationPrice) (ba2 : Variation) (be3 : Int) : f14n2O → Ex × Tr × Hp
  | .norm v93 v94 => (.norm, mkS [(6, (.bp 0 0)), (10, (.bp 1 0)), (11, (.mp 2))], [some (.box [(.pl (.int .i64 0)), (.pl (.sl .nil 0 []))]), some (.box [(.pl (.int .i64 be3)), (.own 3)]), some (.map (v93.map (mkv pStr (pInt .i64)))), some (.row false 4 (v94.map VariationPosition.cells))])
  | .ret => (.ret, mkS [(6, (.bp 0 0)), (7, (.pl (.sl .nil 0 []))), (8, (.pl (.int .i64 30)))], [some (.box [(.pl (.int .i64 0)), (.pl (.sl .nil 0 []))])])
def f14n2S (bh1 : List VariationPrice) (ba2 : Variation) (be3 : Int) : Tr × Hp := (mkS [(2, (.pl (.sl .any 2 (bh1.map VariationPrice.cells)))), (3, (.bp 0 0)), (6, (.bp 1 0)), (10, (.bp 2 0)), (11, (.mp 3))], [some (.box ((Variation.cells ba2).map .pl)), some (.box [(.pl (.int .i64 0)), (.pl (.sl .nil 0 []))]), some (.box [(.pl (.int .i64 be3)), (.pl (.sl .nil 0 []))]), some (.map ([].map (mkv pStr (pInt .i64))))])
noncomputable def f14n2 (bh1 : List VariationPrice) (ba2 : Variation) (be3 : Int) : Option f14n2O :=
  (f14n3 FUEL bh1 ba2 be3 0 [] []).bind fun o89 => match o89 with
  | .exit1 v91 v92 => some (.norm v91 v92)
  | .ret => some .ret
theorem f14n2_ok (bh1 : List VariationPrice) (ba2 : Variation) (be3 : Int) {o : f14n2O} (h : (f14n2 bh1 ba2 be3) = some o) : T Try.prog Try.f14.ntmps 0 (cL (dropC 3 (dropC 1 (dropC 2 c14)))) (f14n2S bh1 ba2 be3) (fun r => r = f14n2E bh1 ba2 be3 o) := by
  unfold f14n2 at h
  refine runK_norm cfg_ok (k := 1) (rs := [([], [], [(2, .val (.pl (.int .i64 (ba2.Positions.length : Int))))])]) (ps := []) (tds := [.matC 2 1 4]) (m := [1, 2, 3, 4]) (keep := [2, 6, 10, 11, 49, 50, 51]) (st' := (f14n3S bh1 ba2 be3 0 [] [])) (by kernel_rfl) (ap (len_cv (xs := ba2.Positions) (c := VariationPosition.cells)) an) ?_
  obtain ⟨o89, h90, h⟩ := bind_cases h
  cases o89 with
  | exit1 v91 v92 =>
    obtain rfl := some_inj h
    exact T.last' (T.bl (i := 1) (by kernel_rfl) (by kernel_rfl) (f14n3_ok FUEL bh1 ba2 be3 0 [] [] h90)) (tds := []) (m := [0, 1, 2, 3]) (keep := [6, 10, 11]) (st2 := (f14n2E bh1 ba2 be3 (.norm v91 v92)).2) (by kernel_rfl) an rfl
  | ret =>
    obtain rfl := some_inj h
    exact T.last' (T.bl (i := 1) (by kernel_rfl) (by kernel_rfl) (f14n3_ok FUEL bh1 ba2 be3 0 [] [] h90)) (tds := []) (m := [0]) (keep := [6, 7, 8]) (st2 := (f14n2E bh1 ba2 be3 .ret).2) (by kernel_rfl) an rfl
inductive f14n5O where
  | exit3 (v138 : List VariationPayment)
  | ret
def f14n5E (be1 : Int) (bg3 : List VariationPosition) (bi2 : List (ByteArray × Int)) : f14n5O → Ex × Tr × Hp
  | .exit3 v138 => ((.exit 3), mkS [(6, (.bp 0 0)), (10, (.bp 1 0)), (16, (.own 2))], [some (.box [(.pl (.int .i64 0)), (.pl (.sl .nil 0 []))]), some (.box [(.pl (.int .i64 be1)), (.own 3)]), some (.row false 2 (v138.map VariationPayment.cells)), some (.row false 4 (bg3.map VariationPosition.cells))])
  | .ret => (.ret, mkS [(6, (.bp 0 0)), (7, (.pl (.sl .nil 0 []))), (8, (.pl (.int .i64 14)))], [some (.box [(.pl (.int .i64 0)), (.pl (.sl .nil 0 []))])])
def f14n5S (be1 : Int) (bg3 : List VariationPosition) (bi2 : List (ByteArray × Int)) (v124 : List VariationPayment) (sn0 : List Nat) : Tr × Hp := (mkS [(6, (.bp 0 0)), (10, (.bp 1 0)), (16, (.own 2)), (86, (.it 3))], [some (.box [(.pl (.int .i64 0)), (.pl (.sl .nil 0 []))]), some (.box [(.pl (.int .i64 be1)), (.own 4)]), some (.row false 2 (v124.map VariationPayment.cells)), some (.iter 5 (bi2.map (mkv pStr (pInt .i64))).length sn0), some (.row false 4 (bg3.map VariationPosition.cells)), some (.map (bi2.map (mkv pStr (pInt .i64))))])
noncomputable def f14n5 (be1 : Int) (bg3 : List VariationPosition) (bi2 : List (ByteArray × Int)) : List (ByteArray × Int) → (List VariationPayment) → Option f14n5O
  | [], v124 =>
    some (.exit3 v124)
  | x126 :: rest, v124 =>
    (f37 x126.2 1125899906842624).bind fun x133 =>
    bif x133 then
      bif (decide (x126.2 = 0)) then
        (f14n5 be1 bg3 bi2 rest v124)
      else
        req (fit (v124.length + 1) 24) <|
        (f14n5 be1 bg3 bi2 rest (v124 ++ [(VariationPayment.mk x126.1 x126.2)]))
    else
      some .ret
theorem f14n5_ok (be1 : Int) (bg3 : List VariationPosition) (bi2 : List (ByteArray × Int)) : ∀ (f : Nat) (sn0 rem : List Nat) (v124 : List VariationPayment) {Q : f14n5O → Prop}, Rem bi2.length sn0 rem → rem.length < f → (∀ p, p.Perm rem → ∃ o, f14n5 be1 bg3 bi2 (ords bi2 p) v124 = some o ∧ Q o) → TL Try.prog Try.f14.ntmps 0 f (cL (cL (dropC 1 (cL (dropC 1 (dropC 1 (dropC 3 (dropC 1 (dropC 2 c14))))))))) (f14n5S be1 bg3 bi2 v124 sn0) (fun r => ∃ o, Q o ∧ r = f14n5E be1 bg3 bi2 o)
  | 0, _, _, _, _, _, hf, _ => absurd hf (Nat.not_lt_zero _)
  | f + 1, sn0, rem, v124, Q, hR, hf, H => by
    refine TL.bodyQ (K := fun s => ∃ (sn0 rem : List Nat) (v124 : List VariationPayment), s = f14n5S be1 bg3 bi2 v124 sn0 ∧ Rem bi2.length sn0 rem ∧ rem.length < f ∧ (∀ p, p.Perm rem → ∃ o, f14n5 be1 bg3 bi2 (ords bi2 p) v124 = some o ∧ Q o)) ?_ (by rintro _ ⟨sn0, rem, v124, rfl, h1, h2, h3⟩; exact f14n5_ok be1 bg3 bi2 f sn0 rem v124 h1 h2 h3)
    refine T.oneNext cfg_ok (x := .tmp 86) (t := 87) (tb := 88) (i := 3) (o := 5) (m := (bi2.map (mkv pStr (pInt .i64))).length) (seen := sn0) (kvs := (bi2.map (mkv pStr (pInt .i64)))) (by kernel_rfl) (by kernel_rfl) (by kernel_rfl) (by kernel_rfl) (by kernel_rfl) (by kernel_rfl) rfl (fun hs => ?_) (fun j125 k v hj hs hx => ?_)
    · obtain rfl := hR.none (by simpa using hs)
      obtain ⟨o, h0, hq⟩ := H [] (List.Perm.refl _)
      have h : f14n5 be1 bg3 bi2 [] v124 = some o := h0
      rw [f14n5] at h
      obtain rfl := some_inj h
      exact runK_end cfg_ok (k := 1) (rs := []) (ps := [none]) (tds := []) (m := [0, 1, 2, 4]) (keep := [6, 10, 16]) (ex := (.exit 3)) (st' := (f14n5E be1 bg3 bi2 (.exit3 v124)).2) (by kernel_rfl) an (fun h => nomatch h) (LoopQ2.out ⟨_, hq, rfl⟩ rfl)
    · obtain ⟨x126, h127, rfl, rfl⟩ := mkv_at hx
      obtain ⟨hR2, hlen, hP⟩ := hR.step (j := j125) (by simpa using hj) hs
      have H2 : ∀ p, p.Perm (rem.erase j125) → ∃ o, f14n5 be1 bg3 bi2 (x126 :: ords bi2 p) v124 = some o ∧ Q o := fun p hp => by obtain ⟨o, h, hq⟩ := H _ (hP p hp); rw [ords_cons h127] at h; exact ⟨o, h, hq⟩
      obtain ⟨o, h, hq⟩ := H2 _ (List.Perm.refl _)
      rw [f14n5] at h
      obtain ⟨x133, h134, h⟩ := bind_cases h
      rcases cond_cases h with ⟨h135, h⟩ | ⟨h135, h⟩
      · rcases cond_cases h with ⟨h136, h⟩ | ⟨h136, h⟩
        · exact run_end cfg_ok (rs := [([], [(0, .entr j125 (pStr x126.1) ((pInt .i64) x126.2))], []), ([], [(1, .call (.pl (.bool x133)) [])], []), ([], [], [])]) (ps := [none, some false, some false]) (tds := []) (m := [0, 1, 2, 3, 4, 5]) (keep := [6, 10, 16, 86]) (r := (.norm, (f14n5S be1 bg3 bi2 v124 (sn0 ++ [j125])))) (by kernel_rfl) (ap (last_app (seen := sn0) (j := j125)) (ap (rfl : (bi2.map (mkv pStr (pInt .i64))).length = (bi2.map (mkv pStr (pInt .i64))).length) (ap (at_mkv (kp := pStr) (vp := (pInt .i64)) h127) (ap (f37_ok x126.2 1125899906842624 h134) (ap (not_t h135) (ap (not_t h136) an)))))) (LoopQ2.norm ⟨sn0 ++ [j125], rem.erase j125, v124, rfl, hR2, by omega, fun p hp => by obtain ⟨o, h, hq⟩ := H2 p hp; refine ⟨o, ?_, hq⟩; rw [f14n5] at h; simp only [h134, h135, h136, cond_true, cond_false, Option.bind_some, req] at h; exact h⟩)
        · obtain ⟨h137, h⟩ := req_cases h
          exact run_end cfg_ok (rs := [([], [(0, .entr j125 (pStr x126.1) ((pInt .i64) x126.2))], []), ([], [(1, .call (.pl (.bool x133)) [])], []), ([], [], []), ([], [(5, .fits)], [(5, .row 7 ((v124 ++ [(VariationPayment.mk x126.1 x126.2)]).map VariationPayment.cells))])]) (ps := [none, some false, some true]) (tds := []) (m := [0, 1, 7, 3, 4, 5]) (keep := [6, 10, 16, 86]) (r := (.norm, (f14n5S be1 bg3 bi2 (v124 ++ [(VariationPayment.mk x126.1 x126.2)]) (sn0 ++ [j125])))) (by kernel_rfl) (ap (last_app (seen := sn0) (j := j125)) (ap (rfl : (bi2.map (mkv pStr (pInt .i64))).length = (bi2.map (mkv pStr (pInt .i64))).length) (ap (at_mkv (kp := pStr) (vp := (pInt .i64)) h127) (ap (f37_ok x126.2 1125899906842624 h134) (ap (not_t h135) (ap (not_f h136) (ap (fit_map (te := ti48) (xs := v124) (n := 1) (c := VariationPayment.cells) h137 rfl) (ap (app_cv (xs := v124) (ys := [(VariationPayment.mk x126.1 x126.2)]) (c := VariationPayment.cells)) an)))))))) (LoopQ2.norm ⟨sn0 ++ [j125], rem.erase j125, (v124 ++ [(VariationPayment.mk x126.1 x126.2)]), rfl, hR2, by omega, fun p hp => by obtain ⟨o, h, hq⟩ := H2 p hp; refine ⟨o, ?_, hq⟩; rw [f14n5] at h; simp only [h134, h135, h136, h137, cond_true, cond_false, Option.bind_some, req] at h; exact h⟩)
      · obtain rfl := some_inj h
        exact run_end cfg_ok (rs := [([], [(0, .entr j125 (pStr x126.1) ((pInt .i64) x126.2))], []), ([], [(1, .call (.pl (.bool x133)) [])], []), ([], [], [])]) (ps := [none, some true]) (tds := []) (m := [0]) (keep := [6, 7, 8]) (r := (.ret, (f14n5E be1 bg3 bi2 .ret).2)) (by kernel_rfl) (ap (last_app (seen := sn0) (j := j125)) (ap (rfl : (bi2.map (mkv pStr (pInt .i64))).length = (bi2.map (mkv pStr (pInt .i64))).length) (ap (at_mkv (kp := pStr) (vp := (pInt .i64)) h127) (ap (f37_ok x126.2 1125899906842624 h134) (ap (not_f h135) an))))) (LoopQ2.out ⟨_, hq, rfl⟩ rfl)
inductive f14n4O where
  | norm (v142 : List VariationPayment)
  | ret
def f14n4E (be1 : Int) (bi2 : List (ByteArray × Int)) (bg3 : List VariationPosition) : f14n4O → Ex × Tr × Hp
  | .norm v142 => (.norm, mkS [(6, (.bp 0 0)), (10, (.bp 1 0)), (16, (.own 2))], [some (.box [(.pl (.int .i64 0)), (.pl (.sl .nil 0 []))]), some (.box [(.pl (.int .i64 be1)), (.own 3)]), some (.row false 2 (v142.map VariationPayment.cells)), some (.row false 4 (bg3.map VariationPosition.cells))])
  | .ret => (.ret, mkS [(6, (.bp 0 0)), (7, (.pl (.sl .nil 0 []))), (8, (.pl (.int .i64 14)))], [some (.box [(.pl (.int .i64 0)), (.pl (.sl .nil 0 []))])])
def f14n4S (be1 : Int) (bi2 : List (ByteArray × Int)) (bg3 : List VariationPosition) : Tr × Hp := (mkS [(6, (.bp 0 0)), (10, (.bp 1 0)), (11, (.mp 2)), (16, (.pl (.sl .nil 0 [])))], [some (.box [(.pl (.int .i64 0)), (.pl (.sl .nil 0 []))]), some (.box [(.pl (.int .i64 be1)), (.own 3)]), some (.map (bi2.map (mkv pStr (pInt .i64)))), some (.row false 4 (bg3.map VariationPosition.cells))])
noncomputable def f14n4 (be1 : Int) (bi2 : List (ByteArray × Int)) (bg3 : List VariationPosition) (p : List (ByteArray × Int)) : Option f14n4O :=
  (f14n5 be1 bg3 bi2 p []).bind fun o139 => match o139 with
  | .exit3 v141 => some (.norm v141)
  | .ret => some .ret
theorem f14n4_ok (be1 : Int) (bi2 : List (ByteArray × Int)) (bg3 : List VariationPosition) {Q : f14n4O → Prop} (H : ∀ p, p.Perm bi2 → ∃ o, f14n4 be1 bi2 bg3 p = some o ∧ Q o) : T Try.prog Try.f14.ntmps 0 (cL (dropC 1 (dropC 1 (dropC 3 (dropC 1 (dropC 2 c14)))))) (f14n4S be1 bi2 bg3) (fun r => ∃ o, Q o ∧ r = f14n4E be1 bi2 bg3 o) := by
  refine runK_norm cfg_ok (k := 1) (rs := [([], [], [])]) (ps := []) (tds := [.mat 16 2]) (m := [0, 1, 5, 4, 3, 2]) (keep := [6, 10, 16, 86]) (st' := (f14n5S be1 bg3 bi2 [] [])) (by kernel_rfl) an ?_
  refine T.lastQ (T.blQ (i := 3) (by kernel_rfl) (by kernel_rfl) (f14n5_ok be1 bg3 bi2 _ [] (List.range bi2.length) [] (Rem.start _) (Nat.lt_succ_self _) (Q := fun y => ∃ o, (match y with | .exit3 v141 => some (.norm v141) | .ret => some .ret) = some o ∧ Q o) (fun p hp => by obtain ⟨o, h, hq⟩ := H _ (ords_perm hp); unfold f14n4 at h; obtain ⟨y, hy, h⟩ := bind_ex h; exact ⟨y, hy, o, h, hq⟩))) ?_
  rintro y ⟨o, h, hq⟩
  cases y with
  | exit3 v141 =>
    obtain rfl := some_inj h
    exact Tidy.of [] [0, 1, 2, 3] [6, 10, 16] ((f14n4E be1 bi2 bg3 (.norm v141)).2) (by kernel_rfl) an ⟨_, hq, rfl⟩
  | ret =>
    obtain rfl := some_inj h
    exact Tidy.of [] [0] [6, 7, 8] ((f14n4E be1 bi2 bg3 .ret).2) (by kernel_rfl) an ⟨_, hq, rfl⟩
inductive f14n0O where
  | ret (v150 : Int) (v151 : Int) (v152 : List VariationPayment) (v153 : List VariationPosition)
def f14n0E (a1 : Variation) (a2 : Int) (a3 : List VariationPrice) : f14n0O → Ex × Tr × Hp
  | .ret v150 v151 v152 v153 => (.ret, mkS [(6, (.bp 0 0)), (7, (.own 1)), (8, (.pl (.int .i64 v150)))], [some (.box [(.pl (.int .i64 v151)), (.own 2)]), some (.row false 2 (v152.map VariationPayment.cells)), some (.row false 4 (v153.map VariationPosition.cells))])
def f14n0S (a1 : Variation) (a2 : Int) (a3 : List VariationPrice) : Tr × Hp := (initS [(.pl (.agg (Variation.cells a1))), (.pl (.int .i64 a2)), (.pl (.sl .any 2 (a3.map VariationPrice.cells)))] 0 .leaf, [])
noncomputable def f14n0 (a1 : Variation) (a2 : Int) (a3 : List VariationPrice) : Option f14n0O :=
  (f26 a1).bind fun x6 =>
  (f14n1 a2 a3 x6 a1).bind fun o30 => match o30 with
  | .norm v32 => bif (decide (v32 = 0)) then
      (f14n2 a3 a1 a2).bind fun o95 => match o95 with
      | .norm v97 v98 => (anyOrder v97 fun p => (f14n4 a2 v97 v98 p).bind fun o143 => match o143 with
        | .norm v145 => (so38_39 v145).bind fun x148 =>
          some (.ret 0 a2 x148 v98)
        | .ret => some (.ret 14 0 [] []))
      | .ret => some (.ret 30 0 [] [])
    else
      some (.ret v32 0 [] [])
theorem f14n0_ok (a1 : Variation) (a2 : Int) (a3 : List VariationPrice) {o : f14n0O} (h : (f14n0 a1 a2 a3) = some o) : T Try.prog Try.f14.ntmps 0 c14 (f14n0S a1 a2 a3) (fun r => r = f14n0E a1 a2 a3 o) := by
  unfold f14n0 at h
  obtain ⟨x6, h7, h⟩ := bind_cases h
  refine runK_norm cfg_ok (k := 2) (rs := [([], [], []), ([], [(1, .call (.pl (.int .i64 x6)) [])], [])]) (ps := []) (tds := []) (m := [0, 1]) (keep := [1, 2, 3, 6, 9]) (st' := (f14n1S a2 a3 x6 a1)) (by kernel_rfl) (ap (f26_ok a1 h7) an) ?_
  obtain ⟨o30, h31, h⟩ := bind_cases h
  cases o30 with
  | norm v32 =>
    refine T.oneN (by kernel_rfl) (f14n1_ok a2 a3 x6 a1 h31) (st2 := (f14n1E a2 a3 x6 a1 (.norm v32)).2) rfl ?_
    rcases cond_cases h with ⟨h34, h⟩ | ⟨h34, h⟩
    · refine runK_norm cfg_ok (k := 3) (rs := [([], [], []), ([], [], []), ([], [], [])]) (ps := [some false]) (tds := []) (m := [0, 1, 2, 3]) (keep := [2, 3, 6, 10, 11]) (st' := (f14n2S a3 a1 a2)) (by kernel_rfl) (ap (not_t h34) an) ?_
      obtain ⟨o95, h96, h⟩ := bind_cases h
      cases o95 with
      | norm v97 v98 =>
        refine T.oneN (by kernel_rfl) (f14n2_ok a3 a1 a2 h96) (st2 := (f14n2E a3 a1 a2 (.norm v97 v98)).2) rfl ?_
        refine runK_norm cfg_ok (k := 1) (rs := [([], [], [])]) (ps := []) (tds := []) (m := [0, 1, 2, 3]) (keep := [6, 10, 11, 16]) (st' := (f14n4S a2 v97 v98)) (by kernel_rfl) an ?_
        refine T.oneQ (by kernel_rfl) (f14n4_ok a2 v97 v98 (fun p hp => bind_ex (anyOrder_at h p hp))) ?_
        intro o143 h
        cases o143 with
        | norm v145 =>
          refine OneR.go ((f14n4E a2 v97 v98 (.norm v145)).2) rfl ?_
          obtain ⟨x148, h149, h⟩ := bind_cases h
          obtain rfl := some_inj h
          exact run_end cfg_ok (rs := [([], [(1, .call (.tup []) [none, none, some (.row false 2 (x148.map VariationPayment.cells)), none])], []), ([], [], [])]) (ps := []) (tds := []) (m := [0, 2, 3]) (keep := [6, 7, 8]) (r := (.ret, (f14n0E a1 a2 a3 (.ret 0 a2 x148 v98)).2)) (by kernel_rfl) (ap (CallS.ren (args' := [(.own 2), (.pl (.fn 39))]) (v' := (.tup [])) (B := [none, none, some (.row false 2 (v145.map VariationPayment.cells)), none]) (B' := [none, none, some (.row false 2 (x148.map VariationPayment.cells)), none]) 4 [2] (so38_39_ok v145 h149) (by kernel_rfl) (by kernel_rfl) (by kernel_rfl) (by kernel_rfl) (by kernel_rfl) (by kernel_rfl)) an) rfl
        | ret =>
          obtain rfl := some_inj h
          exact OneR.out [.mat 7 2, .matC 0 1 4] [0, 1, 2] [6, 7, 8] ((f14n0E a1 a2 a3 (.ret 14 0 [] [])).2) (by kernel_rfl) an rfl rfl
      | ret =>
        obtain rfl := some_inj h
        exact T.oneX' (by kernel_rfl) (f14n2_ok a3 a1 a2 h96) (tds := [.mat 7 2, .matC 0 1 4]) (m := [0, 1, 2]) (keep := [6, 7, 8]) (st2 := (f14n0E a1 a2 a3 (.ret 30 0 [] [])).2) (by kernel_rfl) an rfl rfl
    · obtain rfl := some_inj h
      exact runK_end cfg_ok (k := 1) (rs := [([], [], []), ([], [], [])]) (ps := [some true]) (tds := [.mat 7 2, .matC 1 1 4]) (m := [1, 2, 3]) (keep := [6, 7, 8]) (ex := .ret) (st' := (f14n0E a1 a2 a3 (.ret v32 0 [] [])).2) (by kernel_rfl) (ap (not_f h34) an) (fun h => nomatch h) rfl
noncomputable def f14 (a1 : Variation) (a2 : Int) (a3 : List VariationPrice) : Option (Variation × (List VariationPayment) × Int) := (f14n0 a1 a2 a3).bind fun o => match o with
  | .ret v150 v151 v152 v153 => some ((Variation.mk v151 v153), v152, v150)
theorem f14_ok (a1 : Variation) (a2 : Int) (a3 : List VariationPrice) {r : Variation × (List VariationPayment) × Int} (h : (f14 a1 a2 a3) = some r) : CallS Try.prog false 14 [(.pl (.agg (Variation.cells a1))), (.pl (.int .i64 a2)), (.pl (.sl .any 2 (a3.map VariationPrice.cells)))] [] (.tup [(.pl (.agg (Variation.cells r.1))), (.pl (.sl .any 2 (r.2.1.map VariationPayment.cells))), (.pl (.int .i64 r.2.2))]) [] := by
  unfold f14 at h
  obtain ⟨o, ho, h⟩ := bind_cases h
  cases o with
  | ret v150 v151 v152 v153 =>
    obtain rfl := some_inj h
    exact CallS.plain cfg_ok (f := Try.f14) (c := c14) (by kernel_rfl) (by kernel_rfl) (by kernel_rfl) (by kernel_rfl) ((f14n0_ok a1 a2 a3 ho).mono fun r e => by subst e; exact ⟨.inl rfl, (.tup [(.agg [(.pl (.int .i64 v151)), (.own 2)]), (.own 1), (.pl (.int .i64 v150))]), (.tup [(.pl (.agg (Variation.cells (Variation.mk v151 v153)))), (.pl (.sl .any 2 (v152.map VariationPayment.cells))), (.pl (.int .i64 v150))]), by kernel_rfl, by kernel_rfl, ((Wk.refl _) : Wk (.tup [(.pl (.agg (Variation.cells (Variation.mk v151 v153)))), (.pl (.sl .any 2 (v152.map VariationPayment.cells))), (.pl (.int .i64 v150))]) (.tup [(.pl (.agg (Variation.cells (Variation.mk v151 v153)))), (.pl (.sl .any 2 (v152.map VariationPayment.cells))), (.pl (.int .i64 v150))]))⟩)

noncomputable def c25 : Code := Try.f25.body.getD .skip
inductive f25n0O where
  | ret
def f25n0E (a1 : Int) : f25n0O → Ex × Tr × Hp
  | .ret => (.ret, mkS [(2, (.own 0))], [some (.row false 2 ([(VariationPayment.mk str_a (wr64 (0 - a1))), (VariationPayment.mk str_b a1)].map VariationPayment.cells))])
def f25n0S (a1 : Int) : Tr × Hp := (initS [(.pl (.int .i64 a1))] 0 .leaf, [])
noncomputable def f25n0 (a1 : Int) : Option f25n0O :=
  some .ret
theorem f25n0_ok (a1 : Int) {o : f25n0O} (h : (f25n0 a1) = some o) : T Try.prog Try.f25.ntmps 0 c25 (f25n0S a1) (fun r => r = f25n0E a1 o) := by
  unfold f25n0 at h
  obtain rfl := some_inj h
  exact run_end cfg_ok (rs := [([], [], []), ([], [], [])]) (ps := []) (tds := []) (m := [0]) (keep := [2]) (r := (.ret, (f25n0E a1 .ret).2)) (by kernel_rfl) an rfl
noncomputable def f25 (a1 : Int) : Option (List VariationPayment) := (f25n0 a1).bind fun o => match o with
  | .ret => some [(VariationPayment.mk str_a (wr64 (0 - a1))), (VariationPayment.mk str_b a1)]
theorem f25_ok (a1 : Int) {r : List VariationPayment} (h : (f25 a1) = some r) : CallS Try.prog false 25 [(.pl (.int .i64 a1))] [] (.pl (.sl .any 2 (r.map VariationPayment.cells))) [] := by
  unfold f25 at h
  obtain ⟨o, ho, h⟩ := bind_cases h
  cases o with
  | ret =>
    obtain rfl := some_inj h
    exact CallS.plain cfg_ok (f := Try.f25) (c := c25) (by kernel_rfl) (by kernel_rfl) (by kernel_rfl) (by kernel_rfl) ((f25n0_ok a1 ho).mono fun r e => by subst e; exact ⟨.inl rfl, (.own 0), (.pl (.sl .any 2 ([(VariationPayment.mk str_a (wr64 (0 - a1))), (VariationPayment.mk str_b a1)].map VariationPayment.cells))), by kernel_rfl, by kernel_rfl, ((Wk.refl _) : Wk (.pl (.sl .any 2 ([(VariationPayment.mk str_a (wr64 (0 - a1))), (VariationPayment.mk str_b a1)].map VariationPayment.cells))) (.pl (.sl .any 2 ([(VariationPayment.mk str_a (wr64 (0 - a1))), (VariationPayment.mk str_b a1)].map VariationPayment.cells))))⟩)

noncomputable def c19 : Code := Try.f19.body.getD .skip
inductive f19n2O where
  | exit0
  | ret
def f19n2E (bj1 : List VariationPayment) (bj2 : List VariationPayment) : f19n2O → Ex × Tr × Hp
  | .exit0 => ((.exit 0), mkS [], [])
  | .ret => (.ret, mkS [(4, (.pl (.bool false)))], [])
def f19n2S (bj1 : List VariationPayment) (bj2 : List VariationPayment) (v30 : Int) : Tr × Hp := (mkS [(0, (.pl (.sl .any 2 (bj1.map VariationPayment.cells)))), (1, (.pl (.sl .any 2 (bj2.map VariationPayment.cells)))), (5, (.pl (.int .i64 v30)))], [])
noncomputable def f19n2 : Nat → List VariationPayment → List VariationPayment → Int → Option f19n2O
  | 0, _, _, _ => none
  | f + 1, bj1, bj2, v30 =>
    bif (decide (v30 < (bj1.length : Int))) then
      (at? bj1 v30).bind fun x38 =>
      (at? bj2 v30).bind fun x40 =>
      bif (VariationPayment.eqb x38 x40) then
        (f19n2 f bj1 bj2 (wr64 (v30 + 1)))
      else
        some .ret
    else
      some .exit0
theorem f19n2_ok : ∀ (f : Nat) (bj1 : List VariationPayment) (bj2 : List VariationPayment) (v30 : Int) {o : f19n2O}, (f19n2 f bj1 bj2 v30) = some o → TL Try.prog Try.f19.ntmps 0 f (cL (cL (dropC 1 (cL (dropC 2 c19))))) (f19n2S bj1 bj2 v30) (fun r => r = f19n2E bj1 bj2 o)
  | 0, _, _, _, o, h => by rw [f19n2] at h; cases h
  | f + 1, bj1, bj2, v30, o, h => by
    rw [f19n2] at h
    refine TL.body (K := fun s => ∃ v30 : Int, s = (f19n2S bj1 bj2 v30) ∧ (f19n2 f bj1 bj2 v30) = some o) ?_ (by rintro _ ⟨v30, rfl, hk⟩; exact f19n2_ok f _ _ _ hk)
    rcases cond_cases h with ⟨h32, h⟩ | ⟨h32, h⟩
    · obtain ⟨x38, h39, h⟩ := bind_cases h
      obtain ⟨x40, h41, h⟩ := bind_cases h
      rcases cond_cases h with ⟨h42, h⟩ | ⟨h42, h⟩
      · exact run_end cfg_ok (rs := [([], [], [(2, .val (.pl (.int .i64 (bj1.length : Int))))]), ([], [(2, .idx (Int.toNat v30) (VariationPayment.cells x38)), (6, .idx (Int.toNat v30) (VariationPayment.cells x40)), (8, .bool (VariationPayment.eqb x38 x40))], []), ([], [], [])]) (ps := [some true, some false]) (tds := []) (m := []) (keep := [0, 1, 5]) (r := (.norm, (f19n2S bj1 bj2 (wr64 (v30 + 1))))) (by kernel_rfl) (ap (len_cv (xs := bj1) (c := VariationPayment.cells)) (ap h32 (ap (at_some h39).1 (ap (at_map VariationPayment.cells (at_some h39).2) (ap (at_some h41).1 (ap (at_map VariationPayment.cells (at_some h41).2) (ap (VariationPayment.eqb_ok x38 x40) (ap (not_t h42) an)))))))) (LoopQ.norm ⟨(wr64 (v30 + 1)), rfl, h⟩)
      · obtain rfl := some_inj h
        exact runK_end cfg_ok (k := 2) (rs := [([], [], [(2, .val (.pl (.int .i64 (bj1.length : Int))))]), ([], [(2, .idx (Int.toNat v30) (VariationPayment.cells x38)), (6, .idx (Int.toNat v30) (VariationPayment.cells x40)), (8, .bool (VariationPayment.eqb x38 x40))], []), ([], [], [])]) (ps := [some true, some true]) (tds := []) (m := []) (keep := [4]) (ex := .ret) (st' := (f19n2E bj1 bj2 .ret).2) (by kernel_rfl) (ap (len_cv (xs := bj1) (c := VariationPayment.cells)) (ap h32 (ap (at_some h39).1 (ap (at_map VariationPayment.cells (at_some h39).2) (ap (at_some h41).1 (ap (at_map VariationPayment.cells (at_some h41).2) (ap (VariationPayment.eqb_ok x38 x40) (ap (not_f h42) an)))))))) (fun h => nomatch h) (LoopQ.out rfl rfl)
    · obtain rfl := some_inj h
      exact runK_end cfg_ok (k := 1) (rs := [([], [], [(2, .val (.pl (.int .i64 (bj1.length : Int))))])]) (ps := [some false]) (tds := []) (m := []) (keep := []) (ex := (.exit 0)) (st' := (f19n2E bj1 bj2 .exit0).2) (by kernel_rfl) (ap (len_cv (xs := bj1) (c := VariationPayment.cells)) (ap h32 an)) (fun h => nomatch h) (LoopQ.out rfl rfl)
inductive f19n1O where
  | norm
  | ret
def f19n1E (bj1 : List VariationPayment) (bj2 : List VariationPayment) : f19n1O → Ex × Tr × Hp
  | .norm => (.norm, mkS [], [])
  | .ret => (.ret, mkS [(4, (.pl (.bool false)))], [])
def f19n1S (bj1 : List VariationPayment) (bj2 : List VariationPayment) : Tr × Hp := (mkS [(0, (.pl (.sl .any 2 (bj1.map VariationPayment.cells)))), (1, (.pl (.sl .any 2 (bj2.map VariationPayment.cells))))], [])
noncomputable def f19n1 (bj1 : List VariationPayment) (bj2 : List VariationPayment) : Option f19n1O :=
  (f19n2 FUEL bj1 bj2 0).bind fun o43 => match o43 with
  | .exit0 => some .norm
  | .ret => some .ret
theorem f19n1_ok (bj1 : List VariationPayment) (bj2 : List VariationPayment) {o : f19n1O} (h : (f19n1 bj1 bj2) = some o) : T Try.prog Try.f19.ntmps 0 (cL (dropC 2 c19)) (f19n1S bj1 bj2) (fun r => r = f19n1E bj1 bj2 o) := by
  unfold f19n1 at h
  refine runK_norm cfg_ok (k := 1) (rs := [([], [], [])]) (ps := []) (tds := []) (m := []) (keep := [0, 1, 5]) (st' := (f19n2S bj1 bj2 0)) (by kernel_rfl) an ?_
  obtain ⟨o43, h44, h⟩ := bind_cases h
  cases o43 with
  | exit0 =>
    obtain rfl := some_inj h
    exact T.last' (T.bl (i := 0) (by kernel_rfl) (by kernel_rfl) (f19n2_ok FUEL bj1 bj2 0 h44)) (tds := []) (m := []) (keep := []) (st2 := (f19n1E bj1 bj2 .norm).2) (by kernel_rfl) an rfl
  | ret =>
    obtain rfl := some_inj h
    exact T.last' (T.bl (i := 0) (by kernel_rfl) (by kernel_rfl) (f19n2_ok FUEL bj1 bj2 0 h44)) (tds := []) (m := []) (keep := [4]) (st2 := (f19n1E bj1 bj2 .ret).2) (by kernel_rfl) an rfl
inductive f19n0O where
  | ret (v47 : Bool)
def f19n0E (a1 : List VariationPayment) (a2 : List VariationPayment) : f19n0O → Ex × Tr × Hp
  | .ret v47 => (.ret, mkS [(4, (.pl (.bool v47)))], [])
def f19n0S (a1 : List VariationPayment) (a2 : List VariationPayment) : Tr × Hp := (initS [(.pl (.sl .any 2 (a1.map VariationPayment.cells))), (.pl (.sl .any 2 (a2.map VariationPayment.cells)))] 0 .leaf, [])
noncomputable def f19n0 (a1 : List VariationPayment) (a2 : List VariationPayment) : Option f19n0O :=
  bif (decide ((a1.length : Int) = (a2.length : Int))) then
    (f19n1 a1 a2).bind fun o45 => match o45 with
    | .norm => some (.ret true)
    | .ret => some (.ret false)
  else
    some (.ret false)
theorem f19n0_ok (a1 : List VariationPayment) (a2 : List VariationPayment) {o : f19n0O} (h : (f19n0 a1 a2) = some o) : T Try.prog Try.f19.ntmps 0 c19 (f19n0S a1 a2) (fun r => r = f19n0E a1 a2 o) := by
  unfold f19n0 at h
  rcases cond_cases h with ⟨h4, h⟩ | ⟨h4, h⟩
  · refine runK_norm cfg_ok (k := 2) (rs := [([], [], []), ([], [], [(1, .val (.pl (.int .i64 (a1.length : Int)))), (3, .val (.pl (.int .i64 (a2.length : Int))))])]) (ps := [some false]) (tds := []) (m := []) (keep := [0, 1]) (st' := (f19n1S a1 a2)) (by kernel_rfl) (ap (len_cv (xs := a1) (c := VariationPayment.cells)) (ap (len_cv (xs := a2) (c := VariationPayment.cells)) (ap (not_t h4) an))) ?_
    obtain ⟨o45, h46, h⟩ := bind_cases h
    cases o45 with
    | norm =>
      refine T.oneN (by kernel_rfl) (f19n1_ok a1 a2 h46) (st2 := (f19n1E a1 a2 .norm).2) rfl ?_
      obtain rfl := some_inj h
      exact run_end cfg_ok (rs := [([], [], [])]) (ps := []) (tds := []) (m := []) (keep := [4]) (r := (.ret, (f19n0E a1 a2 (.ret true)).2)) (by kernel_rfl) an rfl
    | ret =>
      obtain rfl := some_inj h
      exact T.oneX' (by kernel_rfl) (f19n1_ok a1 a2 h46) (tds := []) (m := []) (keep := [4]) (st2 := (f19n0E a1 a2 (.ret false)).2) (by kernel_rfl) an rfl rfl
  · obtain rfl := some_inj h
    exact runK_end cfg_ok (k := 2) (rs := [([], [], []), ([], [], [(1, .val (.pl (.int .i64 (a1.length : Int)))), (3, .val (.pl (.int .i64 (a2.length : Int))))]), ([], [], [])]) (ps := [some true]) (tds := []) (m := []) (keep := [4]) (ex := .ret) (st' := (f19n0E a1 a2 (.ret false)).2) (by kernel_rfl) (ap (len_cv (xs := a1) (c := VariationPayment.cells)) (ap (len_cv (xs := a2) (c := VariationPayment.cells)) (ap (not_f h4) an))) (fun h => nomatch h) rfl
noncomputable def f19 (a1 : List VariationPayment) (a2 : List VariationPayment) : Option Bool := (f19n0 a1 a2).bind fun o => match o with
  | .ret v47 => some v47
theorem f19_ok (a1 : List VariationPayment) (a2 : List VariationPayment) {r : Bool} (h : (f19 a1 a2) = some r) : CallS Try.prog false 19 [(.pl (.sl .any 2 (a1.map VariationPayment.cells))), (.pl (.sl .any 2 (a2.map VariationPayment.cells)))] [] (.pl (.bool r)) [] := by
  unfold f19 at h
  obtain ⟨o, ho, h⟩ := bind_cases h
  cases o with
  | ret v47 =>
    obtain rfl := some_inj h
    exact CallS.plain cfg_ok (f := Try.f19) (c := c19) (by kernel_rfl) (by kernel_rfl) (by kernel_rfl) (by kernel_rfl) ((f19n0_ok a1 a2 ho).mono fun r e => by subst e; exact ⟨.inl rfl, (.pl (.bool v47)), (.pl (.bool v47)), by kernel_rfl, by kernel_rfl, ((Wk.refl _) : Wk (.pl (.bool v47)) (.pl (.bool v47)))⟩)
end Go.Proofs.Ytelblamgfbkhbaa
namespace Go.Proofs.Ytelblamgfbkhbaa
set_option linter.unusedVariables false
set_option linter.unusedSimpArgs false
set_option maxRecDepth 100000
open Go.RowKit
noncomputable def c10 : Code := Try.f10.body.getD .skip
inductive f10n0O where
  | ret (v71 : Bool)
def f10n0E : f10n0O → Ex × Tr × Hp
  | .ret v71 => (.ret, mkS [(0, (.pl (.bool v71)))], [])
def f10n0S : Tr × Hp := (initS [] 0 .leaf, [])
noncomputable def f10n0 : Option f10n0O :=
  (f12 0).bind fun x3 =>
  (f16 x3.1 str_b str_a str_p 3 10).bind fun x7 =>
  (f23r1 12).bind fun x13 =>
  (f14 x7.1 1 [(VariationPrice.mk str_p 12)]).bind fun x15 =>
  (f23r1 11).bind fun x21 =>
  (f14 x15.1 2 [(VariationPrice.mk str_p 11)]).bind fun x23 =>
  (f23r1 11).bind fun x29 =>
  (f14 x7.1 2 [(VariationPrice.mk str_p 11)]).bind fun x31 =>
  bif (decide (x3.2 = 0)) then
    bif (decide (x7.2 = 0)) then
      bif (decide (x15.2.2 = 0)) then
        (f25 6).bind fun x55 =>
        (f19 x15.2.1 x55).bind fun x57 =>
        bif x57 then
          bif (decide (x23.2.2 = 0)) then
            (f25 (-3)).bind fun x61 =>
            (f19 x23.2.1 x61).bind fun x63 =>
            bif x63 then
              bif (decide (x31.2.2 = 0)) then
                (f25 3).bind fun x67 =>
                (f19 x31.2.1 x67).bind fun x69 =>
                some (.ret x69)
              else
                some (.ret false)
            else
              some (.ret false)
          else
            some (.ret false)
        else
          some (.ret false)
      else
        some (.ret false)
    else
      some (.ret false)
  else
    some (.ret false)
theorem f10n0_ok {o : f10n0O} (h : f10n0 = some o) : T Try.prog Try.f10.ntmps 0 c10 f10n0S (fun r => r = f10n0E o) := by
  unfold f10n0 at h
  obtain ⟨x3, h4, h⟩ := bind_cases h
  obtain ⟨x7, h8, h⟩ := bind_cases h
  obtain ⟨x13, h14, h⟩ := bind_cases h
  obtain ⟨x15, h16, h⟩ := bind_cases h
  obtain ⟨x21, h22, h⟩ := bind_cases h
  obtain ⟨x23, h24, h⟩ := bind_cases h
  obtain ⟨x29, h30, h⟩ := bind_cases h
  obtain ⟨x31, h32, h⟩ := bind_cases h
  rcases cond_cases h with ⟨h52, h⟩ | ⟨h52, h⟩
  · rcases cond_cases h with ⟨h53, h⟩ | ⟨h53, h⟩
    · rcases cond_cases h with ⟨h54, h⟩ | ⟨h54, h⟩
      · obtain ⟨x55, h56, h⟩ := bind_cases h
        obtain ⟨x57, h58, h⟩ := bind_cases h
        rcases cond_cases h with ⟨h59, h⟩ | ⟨h59, h⟩
        · rcases cond_cases h with ⟨h60, h⟩ | ⟨h60, h⟩
          · obtain ⟨x61, h62, h⟩ := bind_cases h
            obtain ⟨x63, h64, h⟩ := bind_cases h
            rcases cond_cases h with ⟨h65, h⟩ | ⟨h65, h⟩
            · rcases cond_cases h with ⟨h66, h⟩ | ⟨h66, h⟩
              · obtain ⟨x67, h68, h⟩ := bind_cases h
                obtain ⟨x69, h70, h⟩ := bind_cases h
                obtain rfl := some_inj h
                exact run_end cfg_ok (rs := [([], [], []), ([], [(0, .call (.tup [(.pl (.agg (Variation.cells x3.1))), (.pl (.int .i64 x3.2))]) [])], []), ([], [(1, .call (.tup [(.pl (.agg (Variation.cells x7.1))), (.pl (.int .i64 x7.2))]) [])], []), ([], [(1, .call (.own 3) [none, none, none, some (.row false 2 ([(VariationPrice.mk str_p 12)].map VariationPrice.cells))]), (2, .call (.tup [(.pl (.agg (Variation.cells x15.1))), (.pl (.sl .any 2 (x15.2.1.map VariationPayment.cells))), (.pl (.int .i64 x15.2.2))]) [])], []), ([], [(1, .call (.own 6) [none, none, none, none, none, none, some (.row false 2 ([(VariationPrice.mk str_p 11)].map VariationPrice.cells))]), (2, .call (.tup [(.pl (.agg (Variation.cells x23.1))), (.pl (.sl .any 2 (x23.2.1.map VariationPayment.cells))), (.pl (.int .i64 x23.2.2))]) [])], []), ([], [(1, .call (.own 9) [none, none, none, none, none, none, none, none, none, some (.row false 2 ([(VariationPrice.mk str_p 11)].map VariationPrice.cells))]), (2, .call (.tup [(.pl (.agg (Variation.cells x31.1))), (.pl (.sl .any 2 (x31.2.1.map VariationPayment.cells))), (.pl (.int .i64 x31.2.2))]) [])], []), ([(3, true), (4, true), (7, true), (8, true), (11, true), (12, true), (13, true), (16, true), (17, true), (20, true), (21, true), (22, true), (25, true), (26, true), (29, true), (30, true), (31, true)], [(5, .bool true), (9, .bool true), (12, .call (.pl (.sl .any 2 (x55.map VariationPayment.cells))) []), (13, .call (.pl (.bool x57)) []), (14, .bool true), (18, .bool true), (21, .call (.pl (.sl .any 2 (x61.map VariationPayment.cells))) []), (22, .call (.pl (.bool x63)) []), (23, .bool true), (27, .bool true), (30, .call (.pl (.sl .any 2 (x67.map VariationPayment.cells))) []), (31, .call (.pl (.bool x69)) []), (32, .bool true)], [])]) (ps := []) (tds := []) (m := []) (keep := [0]) (r := (.ret, (f10n0E (.ret x69)).2)) (by kernel_rfl) (ap (f12_ok 0 h4) (ap (f16_ok x3.1 str_b str_a str_p 3 10 h8) (ap (CallS.ren (args' := [(.pl (.int .i64 12))]) (v' := (.own 3)) (B := [none, none, none]) (B' := [none, none, none, some (.row false 2 ([(VariationPrice.mk str_p 12)].map VariationPrice.cells))]) 3 [] (f23r1_ok 12 h14) (by kernel_rfl) (by kernel_rfl) (by kernel_rfl) (by kernel_rfl) (by kernel_rfl) (by kernel_rfl)) (ap (f14_ok x7.1 1 [(VariationPrice.mk str_p 12)] h16) (ap (CallS.ren (args' := [(.pl (.int .i64 11))]) (v' := (.own 6)) (B := [none, none, none, none, none, none]) (B' := [none, none, none, none, none, none, some (.row false 2 ([(VariationPrice.mk str_p 11)].map VariationPrice.cells))]) 6 [] (f23r1_ok 11 h22) (by kernel_rfl) (by kernel_rfl) (by kernel_rfl) (by kernel_rfl) (by kernel_rfl) (by kernel_rfl)) (ap (f14_ok x15.1 2 [(VariationPrice.mk str_p 11)] h24) (ap (CallS.ren (args' := [(.pl (.int .i64 11))]) (v' := (.own 9)) (B := [none, none, none, none, none, none, none, none, none]) (B' := [none, none, none, none, none, none, none, none, none, some (.row false 2 ([(VariationPrice.mk str_p 11)].map VariationPrice.cells))]) 9 [] (f23r1_ok 11 h30) (by kernel_rfl) (by kernel_rfl) (by kernel_rfl) (by kernel_rfl) (by kernel_rfl) (by kernel_rfl)) (ap (f14_ok x7.1 2 [(VariationPrice.mk str_p 11)] h32) (ap h52 (ap h52 (ap h52 (ap h53 (ap h53 (ap h53 (ap h54 (ap h54 (ap h54 (ap h54 (ap h59 (ap h59 (ap h59 (ap h60 (ap h60 (ap h60 (ap h60 (ap h65 (ap h65 (ap h65 (ap h66 (ap h66 (ap h66 (ap h66 (ap (f25_ok 6 h56) (ap (f19_ok x15.2.1 x55 h58) (ap (f25_ok (-3) h62) (ap (f19_ok x23.2.1 x61 h64) (ap (f25_ok 3 h68) (ap (f19_ok x31.2.1 x67 h70) an)))))))))))))))))))))))))))))))))))))) rfl
              · obtain rfl := some_inj h
                exact run_end cfg_ok (rs := [([], [], []), ([], [(0, .call (.tup [(.pl (.agg (Variation.cells x3.1))), (.pl (.int .i64 x3.2))]) [])], []), ([], [(1, .call (.tup [(.pl (.agg (Variation.cells x7.1))), (.pl (.int .i64 x7.2))]) [])], []), ([], [(1, .call (.own 3) [none, none, none, some (.row false 2 ([(VariationPrice.mk str_p 12)].map VariationPrice.cells))]), (2, .call (.tup [(.pl (.agg (Variation.cells x15.1))), (.pl (.sl .any 2 (x15.2.1.map VariationPayment.cells))), (.pl (.int .i64 x15.2.2))]) [])], []), ([], [(1, .call (.own 6) [none, none, none, none, none, none, some (.row false 2 ([(VariationPrice.mk str_p 11)].map VariationPrice.cells))]), (2, .call (.tup [(.pl (.agg (Variation.cells x23.1))), (.pl (.sl .any 2 (x23.2.1.map VariationPayment.cells))), (.pl (.int .i64 x23.2.2))]) [])], []), ([], [(1, .call (.own 9) [none, none, none, none, none, none, none, none, none, some (.row false 2 ([(VariationPrice.mk str_p 11)].map VariationPrice.cells))]), (2, .call (.tup [(.pl (.agg (Variation.cells x31.1))), (.pl (.sl .any 2 (x31.2.1.map VariationPayment.cells))), (.pl (.int .i64 x31.2.2))]) [])], []), ([(3, true), (4, true), (7, true), (8, true), (11, true), (12, true), (13, true), (16, true), (17, true), (20, true), (21, true), (22, true), (25, true), (26, true), (29, false), (30, false), (31, false)], [(5, .bool true), (9, .bool true), (12, .call (.pl (.sl .any 2 (x55.map VariationPayment.cells))) []), (13, .call (.pl (.bool x57)) []), (14, .bool true), (18, .bool true), (21, .call (.pl (.sl .any 2 (x61.map VariationPayment.cells))) []), (22, .call (.pl (.bool x63)) []), (23, .bool true), (27, .bool true), (32, .bool false)], [])]) (ps := []) (tds := []) (m := []) (keep := [0]) (r := (.ret, (f10n0E (.ret false)).2)) (by kernel_rfl) (ap (f12_ok 0 h4) (ap (f16_ok x3.1 str_b str_a str_p 3 10 h8) (ap (CallS.ren (args' := [(.pl (.int .i64 12))]) (v' := (.own 3)) (B := [none, none, none]) (B' := [none, none, none, some (.row false 2 ([(VariationPrice.mk str_p 12)].map VariationPrice.cells))]) 3 [] (f23r1_ok 12 h14) (by kernel_rfl) (by kernel_rfl) (by kernel_rfl) (by kernel_rfl) (by kernel_rfl) (by kernel_rfl)) (ap (f14_ok x7.1 1 [(VariationPrice.mk str_p 12)] h16) (ap (CallS.ren (args' := [(.pl (.int .i64 11))]) (v' := (.own 6)) (B := [none, none, none, none, none, none]) (B' := [none, none, none, none, none, none, some (.row false 2 ([(VariationPrice.mk str_p 11)].map VariationPrice.cells))]) 6 [] (f23r1_ok 11 h22) (by kernel_rfl) (by kernel_rfl) (by kernel_rfl) (by kernel_rfl) (by kernel_rfl) (by kernel_rfl)) (ap (f14_ok x15.1 2 [(VariationPrice.mk str_p 11)] h24) (ap (CallS.ren (args' := [(.pl (.int .i64 11))]) (v' := (.own 9)) (B := [none, none, none, none, none, none, none, none, none]) (B' := [none, none, none, none, none, none, none, none, none, some (.row false 2 ([(VariationPrice.mk str_p 11)].map VariationPrice.cells))]) 9 [] (f23r1_ok 11 h30) (by kernel_rfl) (by kernel_rfl) (by kernel_rfl) (by kernel_rfl) (by kernel_rfl) (by kernel_rfl)) (ap (f14_ok x7.1 2 [(VariationPrice.mk str_p 11)] h32) (ap h52 (ap h52 (ap h52 (ap h53 (ap h53 (ap h53 (ap h54 (ap h54 (ap h54 (ap h54 (ap h59 (ap h59 (ap h59 (ap h60 (ap h60 (ap h60 (ap h60 (ap h65 (ap h65 (ap h65 (ap h66 (ap h66 (ap h66 (ap h66 (ap (f25_ok 6 h56) (ap (f19_ok x15.2.1 x55 h58) (ap (f25_ok (-3) h62) (ap (f19_ok x23.2.1 x61 h64) an)))))))))))))))))))))))))))))))))))) rfl
            · obtain rfl := some_inj h
              exact run_end cfg_ok (rs := [([], [], []), ([], [(0, .call (.tup [(.pl (.agg (Variation.cells x3.1))), (.pl (.int .i64 x3.2))]) [])], []), ([], [(1, .call (.tup [(.pl (.agg (Variation.cells x7.1))), (.pl (.int .i64 x7.2))]) [])], []), ([], [(1, .call (.own 3) [none, none, none, some (.row false 2 ([(VariationPrice.mk str_p 12)].map VariationPrice.cells))]), (2, .call (.tup [(.pl (.agg (Variation.cells x15.1))), (.pl (.sl .any 2 (x15.2.1.map VariationPayment.cells))), (.pl (.int .i64 x15.2.2))]) [])], []), ([], [(1, .call (.own 6) [none, none, none, none, none, none, some (.row false 2 ([(VariationPrice.mk str_p 11)].map VariationPrice.cells))]), (2, .call (.tup [(.pl (.agg (Variation.cells x23.1))), (.pl (.sl .any 2 (x23.2.1.map VariationPayment.cells))), (.pl (.int .i64 x23.2.2))]) [])], []), ([], [(1, .call (.own 9) [none, none, none, none, none, none, none, none, none, some (.row false 2 ([(VariationPrice.mk str_p 11)].map VariationPrice.cells))]), (2, .call (.tup [(.pl (.agg (Variation.cells x31.1))), (.pl (.sl .any 2 (x31.2.1.map VariationPayment.cells))), (.pl (.int .i64 x31.2.2))]) [])], []), ([(3, true), (4, true), (7, true), (8, true), (11, true), (12, true), (13, true), (16, true), (17, true), (20, true), (21, true), (22, true), (25, false), (26, false)], [(5, .bool true), (9, .bool true), (12, .call (.pl (.sl .any 2 (x55.map VariationPayment.cells))) []), (13, .call (.pl (.bool x57)) []), (14, .bool true), (18, .bool true), (21, .call (.pl (.sl .any 2 (x61.map VariationPayment.cells))) []), (22, .call (.pl (.bool x63)) []), (23, .bool true), (27, .bool false)], [])]) (ps := []) (tds := []) (m := []) (keep := [0]) (r := (.ret, (f10n0E (.ret false)).2)) (by kernel_rfl) (ap (f12_ok 0 h4) (ap (f16_ok x3.1 str_b str_a str_p 3 10 h8) (ap (CallS.ren (args' := [(.pl (.int .i64 12))]) (v' := (.own 3)) (B := [none, none, none]) (B' := [none, none, none, some (.row false 2 ([(VariationPrice.mk str_p 12)].map VariationPrice.cells))]) 3 [] (f23r1_ok 12 h14) (by kernel_rfl) (by kernel_rfl) (by kernel_rfl) (by kernel_rfl) (by kernel_rfl) (by kernel_rfl)) (ap (f14_ok x7.1 1 [(VariationPrice.mk str_p 12)] h16) (ap (CallS.ren (args' := [(.pl (.int .i64 11))]) (v' := (.own 6)) (B := [none, none, none, none, none, none]) (B' := [none, none, none, none, none, none, some (.row false 2 ([(VariationPrice.mk str_p 11)].map VariationPrice.cells))]) 6 [] (f23r1_ok 11 h22) (by kernel_rfl) (by kernel_rfl) (by kernel_rfl) (by kernel_rfl) (by kernel_rfl) (by kernel_rfl)) (ap (f14_ok x15.1 2 [(VariationPrice.mk str_p 11)] h24) (ap (CallS.ren (args' := [(.pl (.int .i64 11))]) (v' := (.own 9)) (B := [none, none, none, none, none, none, none, none, none]) (B' := [none, none, none, none, none, none, none, none, none, some (.row false 2 ([(VariationPrice.mk str_p 11)].map VariationPrice.cells))]) 9 [] (f23r1_ok 11 h30) (by kernel_rfl) (by kernel_rfl) (by kernel_rfl) (by kernel_rfl) (by kernel_rfl) (by kernel_rfl)) (ap (f14_ok x7.1 2 [(VariationPrice.mk str_p 11)] h32) (ap h52 (ap h52 (ap h52 (ap h53 (ap h53 (ap h53 (ap h54 (ap h54 (ap h54 (ap h54 (ap h59 (ap h59 (ap h59 (ap h60 (ap h60 (ap h60 (ap h60 (ap h65 (ap h65 (ap h65 (ap (f25_ok 6 h56) (ap (f19_ok x15.2.1 x55 h58) (ap (f25_ok (-3) h62) (ap (f19_ok x23.2.1 x61 h64) an)))))))))))))))))))))))))))))))) rfl
          · obtain rfl := some_inj h
            exact run_end cfg_ok (rs := [([], [], []), ([], [(0, .call (.tup [(.pl (.agg (Variation.cells x3.1))), (.pl (.int .i64 x3.2))]) [])], []), ([], [(1, .call (.tup [(.pl (.agg (Variation.cells x7.1))), (.pl (.int .i64 x7.2))]) [])], []), ([], [(1, .call (.own 3) [none, none, none, some (.row false 2 ([(VariationPrice.mk str_p 12)].map VariationPrice.cells))]), (2, .call (.tup [(.pl (.agg (Variation.cells x15.1))), (.pl (.sl .any 2 (x15.2.1.map VariationPayment.cells))), (.pl (.int .i64 x15.2.2))]) [])], []), ([], [(1, .call (.own 6) [none, none, none, none, none, none, some (.row false 2 ([(VariationPrice.mk str_p 11)].map VariationPrice.cells))]), (2, .call (.tup [(.pl (.agg (Variation.cells x23.1))), (.pl (.sl .any 2 (x23.2.1.map VariationPayment.cells))), (.pl (.int .i64 x23.2.2))]) [])], []), ([], [(1, .call (.own 9) [none, none, none, none, none, none, none, none, none, some (.row false 2 ([(VariationPrice.mk str_p 11)].map VariationPrice.cells))]), (2, .call (.tup [(.pl (.agg (Variation.cells x31.1))), (.pl (.sl .any 2 (x31.2.1.map VariationPayment.cells))), (.pl (.int .i64 x31.2.2))]) [])], []), ([(3, true), (4, true), (7, true), (8, true), (11, true), (12, true), (13, true), (16, true), (17, true), (20, false), (21, false), (22, false)], [(5, .bool true), (9, .bool true), (12, .call (.pl (.sl .any 2 (x55.map VariationPayment.cells))) []), (13, .call (.pl (.bool x57)) []), (14, .bool true), (18, .bool true), (23, .bool false)], [])]) (ps := []) (tds := []) (m := []) (keep := [0]) (r := (.ret, (f10n0E (.ret false)).2)) (by kernel_rfl) (ap (f12_ok 0 h4) (ap (f16_ok x3.1 str_b str_a str_p 3 10 h8) (ap (CallS.ren (args' := [(.pl (.int .i64 12))]) (v' := (.own 3)) (B := [none, none, none]) (B' := [none, none, none, some (.row false 2 ([(VariationPrice.mk str_p 12)].map VariationPrice.cells))]) 3 [] (f23r1_ok 12 h14) (by kernel_rfl) (by kernel_rfl) (by kernel_rfl) (by kernel_rfl) (by kernel_rfl) (by kernel_rfl)) (ap (f14_ok x7.1 1 [(VariationPrice.mk str_p 12)] h16) (ap (CallS.ren (args' := [(.pl (.int .i64 11))]) (v' := (.own 6)) (B := [none, none, none, none, none, none]) (B' := [none, none, none, none, none, none, some (.row false 2 ([(VariationPrice.mk str_p 11)].map VariationPrice.cells))]) 6 [] (f23r1_ok 11 h22) (by kernel_rfl) (by kernel_rfl) (by kernel_rfl) (by kernel_rfl) (by kernel_rfl) (by kernel_rfl)) (ap (f14_ok x15.1 2 [(VariationPrice.mk str_p 11)] h24) (ap (CallS.ren (args' := [(.pl (.int .i64 11))]) (v' := (.own 9)) (B := [none, none, none, none, none, none, none, none, none]) (B' := [none, none, none, none, none, none, none, none, none, some (.row false 2 ([(VariationPrice.mk str_p 11)].map VariationPrice.cells))]) 9 [] (f23r1_ok 11 h30) (by kernel_rfl) (by kernel_rfl) (by kernel_rfl) (by kernel_rfl) (by kernel_rfl) (by kernel_rfl)) (ap (f14_ok x7.1 2 [(VariationPrice.mk str_p 11)] h32) (ap h52 (ap h52 (ap h52 (ap h53 (ap h53 (ap h53 (ap h54 (ap h54 (ap h54 (ap h54 (ap h59 (ap h59 (ap h59 (ap h60 (ap h60 (ap h60 (ap h60 (ap (f25_ok 6 h56) (ap (f19_ok x15.2.1 x55 h58) an))))))))))))))))))))))))))) rfl
        · obtain rfl := some_inj h
          exact run_end cfg_ok (rs := [([], [], []), ([], [(0, .call (.tup [(.pl (.agg (Variation.cells x3.1))), (.pl (.int .i64 x3.2))]) [])], []), ([], [(1, .call (.tup [(.pl (.agg (Variation.cells x7.1))), (.pl (.int .i64 x7.2))]) [])], []), ([], [(1, .call (.own 3) [none, none, none, some (.row false 2 ([(VariationPrice.mk str_p 12)].map VariationPrice.cells))]), (2, .call (.tup [(.pl (.agg (Variation.cells x15.1))), (.pl (.sl .any 2 (x15.2.1.map VariationPayment.cells))), (.pl (.int .i64 x15.2.2))]) [])], []), ([], [(1, .call (.own 6) [none, none, none, none, none, none, some (.row false 2 ([(VariationPrice.mk str_p 11)].map VariationPrice.cells))]), (2, .call (.tup [(.pl (.agg (Variation.cells x23.1))), (.pl (.sl .any 2 (x23.2.1.map VariationPayment.cells))), (.pl (.int .i64 x23.2.2))]) [])], []), ([], [(1, .call (.own 9) [none, none, none, none, none, none, none, none, none, some (.row false 2 ([(VariationPrice.mk str_p 11)].map VariationPrice.cells))]), (2, .call (.tup [(.pl (.agg (Variation.cells x31.1))), (.pl (.sl .any 2 (x31.2.1.map VariationPayment.cells))), (.pl (.int .i64 x31.2.2))]) [])], []), ([(3, true), (4, true), (7, true), (8, true), (11, true), (12, true), (13, true), (16, false), (17, false)], [(5, .bool true), (9, .bool true), (12, .call (.pl (.sl .any 2 (x55.map VariationPayment.cells))) []), (13, .call (.pl (.bool x57)) []), (14, .bool true), (18, .bool false)], [])]) (ps := []) (tds := []) (m := []) (keep := [0]) (r := (.ret, (f10n0E (.ret false)).2)) (by kernel_rfl) (ap (f12_ok 0 h4) (ap (f16_ok x3.1 str_b str_a str_p 3 10 h8) (ap (CallS.ren (args' := [(.pl (.int .i64 12))]) (v' := (.own 3)) (B := [none, none, none]) (B' := [none, none, none, some (.row false 2 ([(VariationPrice.mk str_p 12)].map VariationPrice.cells))]) 3 [] (f23r1_ok 12 h14) (by kernel_rfl) (by kernel_rfl) (by kernel_rfl) (by kernel_rfl) (by kernel_rfl) (by kernel_rfl)) (ap (f14_ok x7.1 1 [(VariationPrice.mk str_p 12)] h16) (ap (CallS.ren (args' := [(.pl (.int .i64 11))]) (v' := (.own 6)) (B := [none, none, none, none, none, none]) (B' := [none, none, none, none, none, none, some (.row false 2 ([(VariationPrice.mk str_p 11)].map VariationPrice.cells))]) 6 [] (f23r1_ok 11 h22) (by kernel_rfl) (by kernel_rfl) (by kernel_rfl) (by kernel_rfl) (by kernel_rfl) (by kernel_rfl)) (ap (f14_ok x15.1 2 [(VariationPrice.mk str_p 11)] h24) (ap (CallS.ren (args' := [(.pl (.int .i64 11))]) (v' := (.own 9)) (B := [none, none, none, none, none, none, none, none, none]) (B' := [none, none, none, none, none, none, none, none, none, some (.row false 2 ([(VariationPrice.mk str_p 11)].map VariationPrice.cells))]) 9 [] (f23r1_ok 11 h30) (by kernel_rfl) (by kernel_rfl) (by kernel_rfl) (by kernel_rfl) (by kernel_rfl) (by kernel_rfl)) (ap (f14_ok x7.1 2 [(VariationPrice.mk str_p 11)] h32) (ap h52 (ap h52 (ap h52 (ap h53 (ap h53 (ap h53 (ap h54 (ap h54 (ap h54 (ap h54 (ap h59 (ap h59 (ap h59 (ap (f25_ok 6 h56) (ap (f19_ok x15.2.1 x55 h58) an))))))))))))))))))))))) rfl
      · obtain rfl := some_inj h
        exact run_end cfg_ok (rs := [([], [], []), ([], [(0, .call (.tup [(.pl (.agg (Variation.cells x3.1))), (.pl (.int .i64 x3.2))]) [])], []), ([], [(1, .call (.tup [(.pl (.agg (Variation.cells x7.1))), (.pl (.int .i64 x7.2))]) [])], []), ([], [(1, .call (.own 3) [none, none, none, some (.row false 2 ([(VariationPrice.mk str_p 12)].map VariationPrice.cells))]), (2, .call (.tup [(.pl (.agg (Variation.cells x15.1))), (.pl (.sl .any 2 (x15.2.1.map VariationPayment.cells))), (.pl (.int .i64 x15.2.2))]) [])], []), ([], [(1, .call (.own 6) [none, none, none, none, none, none, some (.row false 2 ([(VariationPrice.mk str_p 11)].map VariationPrice.cells))]), (2, .call (.tup [(.pl (.agg (Variation.cells x23.1))), (.pl (.sl .any 2 (x23.2.1.map VariationPayment.cells))), (.pl (.int .i64 x23.2.2))]) [])], []), ([], [(1, .call (.own 9) [none, none, none, none, none, none, none, none, none, some (.row false 2 ([(VariationPrice.mk str_p 11)].map VariationPrice.cells))]), (2, .call (.tup [(.pl (.agg (Variation.cells x31.1))), (.pl (.sl .any 2 (x31.2.1.map VariationPayment.cells))), (.pl (.int .i64 x31.2.2))]) [])], []), ([(3, true), (4, true), (7, true), (8, true), (11, false), (12, false), (13, false)], [(5, .bool true), (9, .bool true), (14, .bool false)], [])]) (ps := []) (tds := []) (m := []) (keep := [0]) (r := (.ret, (f10n0E (.ret false)).2)) (by kernel_rfl) (ap (f12_ok 0 h4) (ap (f16_ok x3.1 str_b str_a str_p 3 10 h8) (ap (CallS.ren (args' := [(.pl (.int .i64 12))]) (v' := (.own 3)) (B := [none, none, none]) (B' := [none, none, none, some (.row false 2 ([(VariationPrice.mk str_p 12)].map VariationPrice.cells))]) 3 [] (f23r1_ok 12 h14) (by kernel_rfl) (by kernel_rfl) (by kernel_rfl) (by kernel_rfl) (by kernel_rfl) (by kernel_rfl)) (ap (f14_ok x7.1 1 [(VariationPrice.mk str_p 12)] h16) (ap (CallS.ren (args' := [(.pl (.int .i64 11))]) (v' := (.own 6)) (B := [none, none, none, none, none, none]) (B' := [none, none, none, none, none, none, some (.row false 2 ([(VariationPrice.mk str_p 11)].map VariationPrice.cells))]) 6 [] (f23r1_ok 11 h22) (by kernel_rfl) (by kernel_rfl) (by kernel_rfl) (by kernel_rfl) (by kernel_rfl) (by kernel_rfl)) (ap (f14_ok x15.1 2 [(VariationPrice.mk str_p 11)] h24) (ap (CallS.ren (args' := [(.pl (.int .i64 11))]) (v' := (.own 9)) (B := [none, none, none, none, none, none, none, none, none]) (B' := [none, none, none, none, none, none, none, none, none, some (.row false 2 ([(VariationPrice.mk str_p 11)].map VariationPrice.cells))]) 9 [] (f23r1_ok 11 h30) (by kernel_rfl) (by kernel_rfl) (by kernel_rfl) (by kernel_rfl) (by kernel_rfl) (by kernel_rfl)) (ap (f14_ok x7.1 2 [(VariationPrice.mk str_p 11)] h32) (ap h52 (ap h52 (ap h52 (ap h53 (ap h53 (ap h53 (ap h54 (ap h54 (ap h54 (ap h54 an)))))))))))))))))) rfl
    · obtain rfl := some_inj h
      exact run_end cfg_ok (rs := [([], [], []), ([], [(0, .call (.tup [(.pl (.agg (Variation.cells x3.1))), (.pl (.int .i64 x3.2))]) [])], []), ([], [(1, .call (.tup [(.pl (.agg (Variation.cells x7.1))), (.pl (.int .i64 x7.2))]) [])], []), ([], [(1, .call (.own 3) [none, none, none, some (.row false 2 ([(VariationPrice.mk str_p 12)].map VariationPrice.cells))]), (2, .call (.tup [(.pl (.agg (Variation.cells x15.1))), (.pl (.sl .any 2 (x15.2.1.map VariationPayment.cells))), (.pl (.int .i64 x15.2.2))]) [])], []), ([], [(1, .call (.own 6) [none, none, none, none, none, none, some (.row false 2 ([(VariationPrice.mk str_p 11)].map VariationPrice.cells))]), (2, .call (.tup [(.pl (.agg (Variation.cells x23.1))), (.pl (.sl .any 2 (x23.2.1.map VariationPayment.cells))), (.pl (.int .i64 x23.2.2))]) [])], []), ([], [(1, .call (.own 9) [none, none, none, none, none, none, none, none, none, some (.row false 2 ([(VariationPrice.mk str_p 11)].map VariationPrice.cells))]), (2, .call (.tup [(.pl (.agg (Variation.cells x31.1))), (.pl (.sl .any 2 (x31.2.1.map VariationPayment.cells))), (.pl (.int .i64 x31.2.2))]) [])], []), ([(3, true), (4, true), (7, false), (8, false)], [(5, .bool true), (9, .bool false)], [])]) (ps := []) (tds := []) (m := []) (keep := [0]) (r := (.ret, (f10n0E (.ret false)).2)) (by kernel_rfl) (ap (f12_ok 0 h4) (ap (f16_ok x3.1 str_b str_a str_p 3 10 h8) (ap (CallS.ren (args' := [(.pl (.int .i64 12))]) (v' := (.own 3)) (B := [none, none, none]) (B' := [none, none, none, some (.row false 2 ([(VariationPrice.mk str_p 12)].map VariationPrice.cells))]) 3 [] (f23r1_ok 12 h14) (by kernel_rfl) (by kernel_rfl) (by kernel_rfl) (by kernel_rfl) (by kernel_rfl) (by kernel_rfl)) (ap (f14_ok x7.1 1 [(VariationPrice.mk str_p 12)] h16) (ap (CallS.ren (args' := [(.pl (.int .i64 11))]) (v' := (.own 6)) (B := [none, none, none, none, none, none]) (B' := [none, none, none, none, none, none, some (.row false 2 ([(VariationPrice.mk str_p 11)].map VariationPrice.cells))]) 6 [] (f23r1_ok 11 h22) (by kernel_rfl) (by kernel_rfl) (by kernel_rfl) (by kernel_rfl) (by kernel_rfl) (by kernel_rfl)) (ap (f14_ok x15.1 2 [(VariationPrice.mk str_p 11)] h24) (ap (CallS.ren (args' := [(.pl (.int .i64 11))]) (v' := (.own 9)) (B := [none, none, none, none, none, none, none, none, none]) (B' := [none, none, none, none, none, none, none, none, none, some (.row false 2 ([(VariationPrice.mk str_p 11)].map VariationPrice.cells))]) 9 [] (f23r1_ok 11 h30) (by kernel_rfl) (by kernel_rfl) (by kernel_rfl) (by kernel_rfl) (by kernel_rfl) (by kernel_rfl)) (ap (f14_ok x7.1 2 [(VariationPrice.mk str_p 11)] h32) (ap h52 (ap h52 (ap h52 (ap h53 (ap h53 (ap h53 an)))))))))))))) rfl
  · obtain rfl := some_inj h
    exact run_end cfg_ok (rs := [([], [], []), ([], [(0, .call (.tup [(.pl (.agg (Variation.cells x3.1))), (.pl (.int .i64 x3.2))]) [])], []), ([], [(1, .call (.tup [(.pl (.agg (Variation.cells x7.1))), (.pl (.int .i64 x7.2))]) [])], []), ([], [(1, .call (.own 3) [none, none, none, some (.row false 2 ([(VariationPrice.mk str_p 12)].map VariationPrice.cells))]), (2, .call (.tup [(.pl (.agg (Variation.cells x15.1))), (.pl (.sl .any 2 (x15.2.1.map VariationPayment.cells))), (.pl (.int .i64 x15.2.2))]) [])], []), ([], [(1, .call (.own 6) [none, none, none, none, none, none, some (.row false 2 ([(VariationPrice.mk str_p 11)].map VariationPrice.cells))]), (2, .call (.tup [(.pl (.agg (Variation.cells x23.1))), (.pl (.sl .any 2 (x23.2.1.map VariationPayment.cells))), (.pl (.int .i64 x23.2.2))]) [])], []), ([], [(1, .call (.own 9) [none, none, none, none, none, none, none, none, none, some (.row false 2 ([(VariationPrice.mk str_p 11)].map VariationPrice.cells))]), (2, .call (.tup [(.pl (.agg (Variation.cells x31.1))), (.pl (.sl .any 2 (x31.2.1.map VariationPayment.cells))), (.pl (.int .i64 x31.2.2))]) [])], []), ([(3, false), (4, false)], [(5, .bool false)], [])]) (ps := []) (tds := []) (m := []) (keep := [0]) (r := (.ret, (f10n0E (.ret false)).2)) (by kernel_rfl) (ap (f12_ok 0 h4) (ap (f16_ok x3.1 str_b str_a str_p 3 10 h8) (ap (CallS.ren (args' := [(.pl (.int .i64 12))]) (v' := (.own 3)) (B := [none, none, none]) (B' := [none, none, none, some (.row false 2 ([(VariationPrice.mk str_p 12)].map VariationPrice.cells))]) 3 [] (f23r1_ok 12 h14) (by kernel_rfl) (by kernel_rfl) (by kernel_rfl) (by kernel_rfl) (by kernel_rfl) (by kernel_rfl)) (ap (f14_ok x7.1 1 [(VariationPrice.mk str_p 12)] h16) (ap (CallS.ren (args' := [(.pl (.int .i64 11))]) (v' := (.own 6)) (B := [none, none, none, none, none, none]) (B' := [none, none, none, none, none, none, some (.row false 2 ([(VariationPrice.mk str_p 11)].map VariationPrice.cells))]) 6 [] (f23r1_ok 11 h22) (by kernel_rfl) (by kernel_rfl) (by kernel_rfl) (by kernel_rfl) (by kernel_rfl) (by kernel_rfl)) (ap (f14_ok x15.1 2 [(VariationPrice.mk str_p 11)] h24) (ap (CallS.ren (args' := [(.pl (.int .i64 11))]) (v' := (.own 9)) (B := [none, none, none, none, none, none, none, none, none]) (B' := [none, none, none, none, none, none, none, none, none, some (.row false 2 ([(VariationPrice.mk str_p 11)].map VariationPrice.cells))]) 9 [] (f23r1_ok 11 h30) (by kernel_rfl) (by kernel_rfl) (by kernel_rfl) (by kernel_rfl) (by kernel_rfl) (by kernel_rfl)) (ap (f14_ok x7.1 2 [(VariationPrice.mk str_p 11)] h32) (ap h52 (ap h52 (ap h52 an))))))))))) rfl
noncomputable def f10 : Option Bool := f10n0.bind fun o => match o with
  | .ret v71 => some v71
theorem f10_ok {r : Bool} (h : f10 = some r) : CallS Try.prog false 10 [] [] (.pl (.bool r)) [] := by
  unfold f10 at h
  obtain ⟨o, ho, h⟩ := bind_cases h
  cases o with
  | ret v71 =>
    obtain rfl := some_inj h
    exact CallS.plain cfg_ok (f := Try.f10) (c := c10) (by kernel_rfl) (by kernel_rfl) (by kernel_rfl) (by kernel_rfl) ((f10n0_ok  ho).mono fun r e => by subst e; exact ⟨.inl rfl, (.pl (.bool v71)), (.pl (.bool v71)), by kernel_rfl, by kernel_rfl, ((Wk.refl _) : Wk (.pl (.bool v71)) (.pl (.bool v71)))⟩)








end Go.Proofs.Ytelblamgfbkhbaa
