/- Several texts in one. No condition. -/
import Derived.Test.YtelblamgfbkhbaaTyM
import Derived.Test.YtelblamgfbkhbaaTW
import Derived.Test.YtelblamgfbkhbaaTY
import Derived.Test.YtelblamgfbkhbaaInM
import Derived.Test.YtelblamgfbkhbaaSo
namespace Go.Proofs.Ytelblamgfbkhbaa
set_option linter.unusedVariables false
set_option linter.unusedSimpArgs false
set_option maxRecDepth 100000
open Go.RowKit
def str_house : ByteArray := ⟨#[104, 111, 117, 115, 101]⟩
def str_x : ByteArray := ⟨#[]⟩
def Qcw : ByteArray := ⟨#[112]⟩
def str_a : ByteArray := ⟨#[97]⟩
def str_b : ByteArray := ⟨#[98]⟩
structure Qa where
 Member : ByteArray
 Product : ByteArray
 Quantity : Int
 Basis : Int
def Qa.cells (x : Qa) : List PV := [.str x.Member, .str x.Product, .int .i64 x.Quantity, .int .i64 x.Basis]
structure Qd where
 Day : Int
 Positions : List Qa
def Qd.cells (x : Qd) : List PV := [.int .i64 x.Day, .sl .any 4 (x.Positions.map Qa.cells)]
structure Qc where
 Product : ByteArray
 Price : Int
def Qc.cells (x : Qc) : List PV := [.str x.Product, .int .i64 x.Price]
structure Op_ where
 Kind : Int
 Buyer : ByteArray
 Seller : ByteArray
 Product : ByteArray
 Quantity : Int
 Price : Int
 Day : Int
 Prices : List Qc
def Op_.cells (x : Op_) : List PV := [.int .u8 x.Kind, .str x.Buyer, .str x.Seller, .str x.Product, .int .i64 x.Quantity, .int .i64 x.Price, .int .i64 x.Day, .sl .any 2 (x.Prices.map Qc.cells)]
structure Qt where
 quantity : Int
 basis : Int
def Qt.cells (x : Qt) : List PV := [.int .i64 x.quantity, .int .i64 x.basis]
structure Qb where
 Member : ByteArray
 Amount : Int
def Qb.cells (x : Qb) : List PV := [.str x.Member, .int .i64 x.Amount]
def Qa.eqb (x y : Qa) : Bool := seq x.Member y.Member && seq x.Product y.Product && decide (x.Quantity = y.Quantity) && decide (x.Basis = y.Basis)
theorem Qa.eqb_ok (x y : Qa) : eqV cfg.ty 52 (.agg (Qa.cells x)) (.agg (Qa.cells y)) = some (Qa.eqb x y) := by
 unfold Qa.eqb
 have e : eqV cfg.ty 52 (.agg (Qa.cells x)) (.agg (Qa.cells y)) = (match some (decide (x.Member.data.toList = y.Member.data.toList)) with | some true => (match some (decide (x.Product.data.toList = y.Product.data.toList)) with | some true => (match some (decide (x.Quantity = y.Quantity)) with | some true => (match some (decide (x.Basis = y.Basis)) with | some true => (some true) | some false => some false | none => none) | some false => some false | none => none) | some false => some false | none => none) | some false => some false | none => none) := by kernel_rfl
 rw [e]
 try simp only [seq]
 cases decide (x.Member.data.toList = y.Member.data.toList) <;> cases decide (x.Product.data.toList = y.Product.data.toList) <;> cases decide (x.Quantity = y.Quantity) <;> cases decide (x.Basis = y.Basis) <;> rfl
def Qt.eqb (x y : Qt) : Bool := decide (x.quantity = y.quantity) && decide (x.basis = y.basis)
theorem Qt.eqb_ok (x y : Qt) : eqV cfg.ty 92 (.agg (Qt.cells x)) (.agg (Qt.cells y)) = some (Qt.eqb x y) := by
 unfold Qt.eqb
 have e : eqV cfg.ty 92 (.agg (Qt.cells x)) (.agg (Qt.cells y)) = (match some (decide (x.quantity = y.quantity)) with | some true => (match some (decide (x.basis = y.basis)) with | some true => (some true) | some false => some false | none => none) | some false => some false | none => none) := by kernel_rfl
 rw [e]
 try simp only [seq]
 cases decide (x.quantity = y.quantity) <;> cases decide (x.basis = y.basis) <;> rfl
def Qb.eqb (x y : Qb) : Bool := seq x.Member y.Member && decide (x.Amount = y.Amount)
theorem Qb.eqb_ok (x y : Qb) : eqV cfg.ty 48 (.agg (Qb.cells x)) (.agg (Qb.cells y)) = some (Qb.eqb x y) := by
 unfold Qb.eqb
 have e : eqV cfg.ty 48 (.agg (Qb.cells x)) (.agg (Qb.cells y)) = (match some (decide (x.Member.data.toList = y.Member.data.toList)) with | some true => (match some (decide (x.Amount = y.Amount)) with | some true => (some true) | some false => some false | none => none) | some false => some false | none => none) := by kernel_rfl
 rw [e]
 try simp only [seq]
 cases decide (x.Member.data.toList = y.Member.data.toList) <;> cases decide (x.Amount = y.Amount) <;> rfl
def Qc.eqb (x y : Qc) : Bool := seq x.Product y.Product && decide (x.Price = y.Price)
theorem Qc.eqb_ok (x y : Qc) : eqV cfg.ty 72 (.agg (Qc.cells x)) (.agg (Qc.cells y)) = some (Qc.eqb x y) := by
 unfold Qc.eqb
 have e : eqV cfg.ty 72 (.agg (Qc.cells x)) (.agg (Qc.cells y)) = (match some (decide (x.Product.data.toList = y.Product.data.toList)) with | some true => (match some (decide (x.Price = y.Price)) with | some true => (some true) | some false => some false | none => none) | some false => some false | none => none) := by kernel_rfl
 rw [e]
 try simp only [seq]
 cases decide (x.Product.data.toList = y.Product.data.toList) <;> cases decide (x.Price = y.Price) <;> rfl
theorem key_9 : KeyOK cfg 9 pStr seq := key_str (fun _ _ => by kernel_rfl) (fun _ => by kernel_rfl)
def ti52 : TI := ⟨.struct [(9, 0), (9, 1), (3, 2), (3, 3)], 4, 48, [.str ByteArray.empty, .str ByteArray.empty, .int .i64 0, .int .i64 0]⟩
def ti48 : TI := ⟨.struct [(9, 0), (3, 1)], 2, 24, [.str ByteArray.empty, .int .i64 0]⟩
def ti72 : TI := ⟨.struct [(9, 0), (3, 1)], 2, 24, [.str ByteArray.empty, .int .i64 0]⟩
def ti3 : TI := ⟨.int .i64, 1, 8, [.int .i64 0]⟩
def ti9 : TI := ⟨.str, 1, 16, [.str ByteArray.empty]⟩
def ti25 : TI := ⟨.sl 52, 1, 24, [.sl .nil 0 []]⟩
def ti27 : TI := ⟨.struct [(3, 0), (25, 1)], 2, 32, [.int .i64 0, .sl .nil 0 []]⟩
def ti5 : TI := ⟨.int .u8, 1, 1, [.int .u8 0]⟩
def ti33 : TI := ⟨.sl 72, 1, 24, [.sl .nil 0 []]⟩
def ti35 : TI := ⟨.struct [(5, 0), (9, 1), (9, 2), (9, 3), (3, 4), (3, 5), (3, 6), (33, 7)], 8, 104, [.int .u8 0, .str ByteArray.empty, .str ByteArray.empty, .str ByteArray.empty, .int .i64 0, .int .i64 0, .int .i64 0, .sl .nil 0 []]⟩
def Qa.ok (x : Qa) : Prop := (fun s : ByteArray => s.size ≤ maxLen) x.Member ∧ (fun s : ByteArray => s.size ≤ maxLen) x.Product ∧ (okInt .i64) x.Quantity ∧ (okInt .i64) x.Basis ∧ True
def Qd.ok (x : Qd) : Prop := (okInt .i64) x.Day ∧ (fun l : List Qa => l.length ≤ maxLen ∧ ∀ x ∈ l, Qa.ok x) x.Positions ∧ True
def Qc.ok (x : Qc) : Prop := (fun s : ByteArray => s.size ≤ maxLen) x.Product ∧ (okInt .i64) x.Price ∧ True
def Op_.ok (x : Op_) : Prop := (okInt .u8) x.Kind ∧ (fun s : ByteArray => s.size ≤ maxLen) x.Buyer ∧ (fun s : ByteArray => s.size ≤ maxLen) x.Seller ∧ (fun s : ByteArray => s.size ≤ maxLen) x.Product ∧ (okInt .i64) x.Quantity ∧ (okInt .i64) x.Price ∧ (okInt .i64) x.Day ∧ (fun l : List Qc => l.length ≤ maxLen ∧ ∀ x ∈ l, Qc.ok x) x.Prices ∧ True
def Qt.ok (x : Qt) : Prop := (okInt .i64) x.quantity ∧ (okInt .i64) x.basis ∧ True
def Qb.ok (x : Qb) : Prop := (fun s : ByteArray => s.size ≤ maxLen) x.Member ∧ (okInt .i64) x.Amount ∧ True
theorem of_3 {d : Nat} {ps : List PV} (h : WT cfg.ty (d + 1) 3 ps) : ∃ x : Int, ps = (cInt .i64) x ∧ (okInt .i64) x := by
 obtain ⟨n, rfl, k⟩ := wt_int (ti := ti3) (by kernel_rfl) rfl h
 exact ⟨n, rfl, k⟩
theorem of_9 {d : Nat} {ps : List PV} (h : WT cfg.ty (d + 1) 9 ps) : ∃ x : ByteArray, ps = cStr x ∧ (fun s : ByteArray => s.size ≤ maxLen) x := by
 obtain ⟨n, rfl, k⟩ := wt_str (ti := ti9) (by kernel_rfl) rfl h
 exact ⟨n, rfl, k⟩
theorem of_52 {d : Nat} {ps : List PV} (h : WT cfg.ty (d + 2) 52 ps) : ∃ x : Qa, ps = Qa.cells x ∧ Qa.ok x := by
 have g := wt_struct (ti := ti52) (by kernel_rfl) rfl h
 clear h
 obtain ⟨_, _, _, rfl, _, _, h0, g0⟩ := g
 obtain ⟨x0, rfl, k0⟩ := of_9 h0
 obtain ⟨_, _, _, rfl, _, _, h1, g1⟩ := g0
 obtain ⟨x1, rfl, k1⟩ := of_9 h1
 obtain ⟨_, _, _, rfl, _, _, h2, g2⟩ := g1
 obtain ⟨x2, rfl, k2⟩ := of_3 h2
 obtain ⟨_, _, _, rfl, _, _, h3, g3⟩ := g2
 obtain ⟨x3, rfl, k3⟩ := of_3 h3
 have e : _ = [] := g3
 subst e
 exact ⟨⟨x0, x1, x2, x3⟩, rfl, k0, k1, k2, k3, trivial⟩
theorem of_25 {d : Nat} {ps : List PV} (h : WT cfg.ty (d + 3) 25 ps) : ∃ x : List Qa, ps = (cLst 4 Qa.cells) x ∧ (fun l : List Qa => l.length ≤ maxLen ∧ ∀ x ∈ l, Qa.ok x) x := by
 obtain ⟨te, es, e1, rfl, hl, hh⟩ := wt_sl (ti := ti25) (by kernel_rfl) rfl h
 obtain rfl : te = ti52 := Qf (e1.symm.trans (by kernel_rfl : cfg.ty 52 = some ti52))
 obtain ⟨xs, rfl, hx⟩ := list_of (c := Qa.cells) (ok := Qa.ok) (fun ps h => of_52 h) es (fun c hc => (hh c hc).2)
 exact ⟨xs, rfl, by simpa using hl, hx⟩
theorem of_27 {d : Nat} {ps : List PV} (h : WT cfg.ty (d + 4) 27 ps) : ∃ x : Qd, ps = Qd.cells x ∧ Qd.ok x := by
 have g := wt_struct (ti := ti27) (by kernel_rfl) rfl h
 clear h
 obtain ⟨_, _, _, rfl, _, _, h0, g0⟩ := g
 obtain ⟨x0, rfl, k0⟩ := of_3 h0
 obtain ⟨_, _, _, rfl, _, _, h1, g1⟩ := g0
 obtain ⟨x1, rfl, k1⟩ := of_25 h1
 have e : _ = [] := g1
 subst e
 exact ⟨⟨x0, x1⟩, rfl, k0, k1, trivial⟩
theorem arg_27 {p : PV} (h : WV cfg.ty 4 27 p) : ∃ x : Qd, p = .agg (Qd.cells x) ∧ Qd.ok x := by
 obtain ⟨cs, rfl, g⟩ := wv_row (ti := ti27) (by kernel_rfl) rfl h
 obtain ⟨x, rfl, k⟩ := of_27 (d := 0) g
 exact ⟨x, rfl, k⟩
theorem of_5 {d : Nat} {ps : List PV} (h : WT cfg.ty (d + 1) 5 ps) : ∃ x : Int, ps = (cInt .u8) x ∧ (okInt .u8) x := by
 obtain ⟨n, rfl, k⟩ := wt_int (ti := ti5) (by kernel_rfl) rfl h
 exact ⟨n, rfl, k⟩
theorem of_72 {d : Nat} {ps : List PV} (h : WT cfg.ty (d + 2) 72 ps) : ∃ x : Qc, ps = Qc.cells x ∧ Qc.ok x := by
 have g := wt_struct (ti := ti72) (by kernel_rfl) rfl h
 clear h
 obtain ⟨_, _, _, rfl, _, _, h0, g0⟩ := g
 obtain ⟨x0, rfl, k0⟩ := of_9 h0
 obtain ⟨_, _, _, rfl, _, _, h1, g1⟩ := g0
 obtain ⟨x1, rfl, k1⟩ := of_3 h1
 have e : _ = [] := g1
 subst e
 exact ⟨⟨x0, x1⟩, rfl, k0, k1, trivial⟩
theorem of_33 {d : Nat} {ps : List PV} (h : WT cfg.ty (d + 3) 33 ps) : ∃ x : List Qc, ps = (cLst 2 Qc.cells) x ∧ (fun l : List Qc => l.length ≤ maxLen ∧ ∀ x ∈ l, Qc.ok x) x := by
 obtain ⟨te, es, e1, rfl, hl, hh⟩ := wt_sl (ti := ti33) (by kernel_rfl) rfl h
 obtain rfl : te = ti72 := Qf (e1.symm.trans (by kernel_rfl : cfg.ty 72 = some ti72))
 obtain ⟨xs, rfl, hx⟩ := list_of (c := Qc.cells) (ok := Qc.ok) (fun ps h => of_72 h) es (fun c hc => (hh c hc).2)
 exact ⟨xs, rfl, by simpa using hl, hx⟩
theorem of_35 {d : Nat} {ps : List PV} (h : WT cfg.ty (d + 4) 35 ps) : ∃ x : Op_, ps = Op_.cells x ∧ Op_.ok x := by
 have g := wt_struct (ti := ti35) (by kernel_rfl) rfl h
 clear h
 obtain ⟨_, _, _, rfl, _, _, h0, g0⟩ := g
 obtain ⟨x0, rfl, k0⟩ := of_5 h0
 obtain ⟨_, _, _, rfl, _, _, h1, g1⟩ := g0
 obtain ⟨x1, rfl, k1⟩ := of_9 h1
 obtain ⟨_, _, _, rfl, _, _, h2, g2⟩ := g1
 obtain ⟨x2, rfl, k2⟩ := of_9 h2
 obtain ⟨_, _, _, rfl, _, _, h3, g3⟩ := g2
 obtain ⟨x3, rfl, k3⟩ := of_9 h3
 obtain ⟨_, _, _, rfl, _, _, h4, g4⟩ := g3
 obtain ⟨x4, rfl, k4⟩ := of_3 h4
 obtain ⟨_, _, _, rfl, _, _, h5, g5⟩ := g4
 obtain ⟨x5, rfl, k5⟩ := of_3 h5
 obtain ⟨_, _, _, rfl, _, _, h6, g6⟩ := g5
 obtain ⟨x6, rfl, k6⟩ := of_3 h6
 obtain ⟨_, _, _, rfl, _, _, h7, g7⟩ := g6
 obtain ⟨x7, rfl, k7⟩ := of_33 h7
 have e : _ = [] := g7
 subst e
 exact ⟨⟨x0, x1, x2, x3, x4, x5, x6, x7⟩, rfl, k0, k1, k2, k3, k4, k5, k6, k7, trivial⟩
theorem arg_35 {p : PV} (h : WV cfg.ty 4 35 p) : ∃ x : Op_, p = .agg (Op_.cells x) ∧ Op_.ok x := by
 obtain ⟨cs, rfl, g⟩ := wv_row (ti := ti35) (by kernel_rfl) rfl h
 obtain ⟨x, rfl, k⟩ := of_35 (d := 0) g
 exact ⟨x, rfl, k⟩
theorem arg_9 {p : PV} (h : WV cfg.ty 1 9 p) : ∃ x : ByteArray, p = (.str x) ∧ (fun s : ByteArray => s.size ≤ maxLen) x := by
 obtain ⟨_, g⟩ := wv_one (ti := ti9) (by kernel_rfl) rfl h
 obtain ⟨x, e, k⟩ := of_9 (d := 0) g
 exact ⟨x, (List.cons.inj e).1, k⟩
end Go.Proofs.Ytelblamgfbkhbaa
namespace Go.Proofs.Ytelblamgfbkhbaa
set_option linter.unusedVariables false
set_option linter.unusedSimpArgs false
set_option maxRecDepth 100000
open Go.RowKit
noncomputable def c12 : Code := Try.f12.body.getD .skip
inductive f12n0O where
 | ret (v6 : Int) (v7 : Int)
def f12n0E (a1 : Int) : f12n0O → Ex × Tr × Hp
 | .ret v6 v7 => (.ret, mkS [(2, (.bp 0 0)), (3, (jI v6))], [some (.box [(jI v7), (.pl (.sl .nil 0 []))])])
def f12n0S (a1 : Int) : Tr × Hp := (Qal [(jI a1)] 0 .leaf, [])
noncomputable def f12n0 (a1 : Int) : Option f12n0O :=
 bif (decide (a1 < 0)) then
  some (.ret 2 0)
 else
  bif (decide (99999 < a1)) then
   some (.ret 2 0)
  else
   some (.ret 0 a1)
theorem f12n0_ok (a1 : Int) {o : f12n0O} (h : (f12n0 a1) = some o) : T Try.prog Try.f12.ntmps 0 c12 (f12n0S a1) (fun r => r = f12n0E a1 o) := by
 unfold f12n0 at h
 rcases Qg h with ⟨h4, h⟩ | ⟨h4, h⟩
 ·obtain rfl := Qf h
  exact rK Qi 2 [j3, ([(3, true), (4, true)], [(5, .bool true)], []), j3] [none] [] [0] [2, 3] .ret ((f12n0E a1 (.ret 2 0)).2) (ap3 h4 an) rfl
 ·rcases Qg h with ⟨h5, h⟩ | ⟨h5, h⟩
  ·obtain rfl := Qf h
   exact rK Qi 2 [j3, ([(3, false), (4, false)], [(5, .bool false)], []), j3] [some true] [] [0] [2, 3] .ret ((f12n0E a1 (.ret 2 0)).2) (ap3 h4 (ap h5 an)) rfl
  ·obtain rfl := Qf h
   exact rE Qi [j3, ([(3, false), (4, false)], [(5, .bool false)], []), j3] [some false] [] [0] [2, 3] (.ret, (f12n0E a1 (.ret 0 a1)).2) (ap3 h4 (ap h5 an)) rfl
noncomputable def f12 (a1 : Int) : Option (Qd × Int) := (f12n0 a1).bind fun o => match o with
 | .ret v6 v7 => some ((Qd.mk v7 []), v6)
theorem f12_ok (a1 : Int) {r : Qd × Int} (h : (f12 a1) = some r) : Qq Try.prog false 12 [(jI a1)] [] (.tup [(jA Qd.cells r.1), (jI r.2)]) [] := by
 unfold f12 at h
 obtain ⟨o, ho, h⟩ := Qe h
 cases o with
 | ret v6 v7 =>
  obtain rfl := Qf h
  exact Qq.plain Qi (f := Try.f12) (c := c12) (by kernel_rfl) (by kernel_rfl) (by kernel_rfl) (by kernel_rfl) ((f12n0_ok a1 ho).mono fun r e => by subst e; exact ⟨.inl rfl, (.tup [(.pl (.agg [(.int .i64 v7), (.sl .nil 0 [])])), (jI v6)]), (.tup [(.pl (.agg [(.int .i64 v7), (.sl .nil 0 [])])), (jI v6)]), by kernel_rfl, by kernel_rfl, ((Wk.tup (wlc (Wk.pl (WkP.agg (wpc (WkP.refl _) (wpc (WkP.nil (f := .nil) (sz := 0) (sz' := 4)) wpn)))) (wlc (Wk.refl _) wln))) : Wk (.tup [(.pl (.agg [(.int .i64 v7), (.sl .nil 0 [])])), (jI v6)]) (.tup [(.pl (.agg (Qd.cells (Qd.mk v7 [])))), (jI v6)]))⟩)

noncomputable def c37 : Code := Try.f37.body.getD .skip
inductive f37n0O where
 | ret (v5 : Bool)
def f37n0E (a1 : Int) (a2 : Int) : f37n0O → Ex × Tr × Hp
 | .ret v5 => (.ret, mkS [(4, (jB v5))], [])
def f37n0S (a1 : Int) (a2 : Int) : Tr × Hp := (Qal [(jI a1), (jI a2)] 0 .leaf, [])
noncomputable def f37n0 (a1 : Int) (a2 : Int) : Option f37n0O :=
 bif (decide ((wr64 (0 - a2)) ≤ a1)) then
  some (.ret (decide (a1 ≤ a2)))
 else
  some (.ret false)
theorem f37n0_ok (a1 : Int) (a2 : Int) {o : f37n0O} (h : (f37n0 a1 a2) = some o) : T Try.prog Try.f37.ntmps 0 c37 (f37n0S a1 a2) (fun r => r = f37n0E a1 a2 o) := by
 unfold f37n0 at h
 rcases Qg h with ⟨h4, h⟩ | ⟨h4, h⟩
 ·obtain rfl := Qf h
  exact rE Qi [j3, (jT [5, 6, 7], [(8, .bool true)], [])] [] [] [] [4] (.ret, (f37n0E a1 a2 (.ret (decide (a1 ≤ a2)))).2) (ap4 h4 an) rfl
 ·obtain rfl := Qf h
  exact rE Qi [j3, (jF [5, 6, 7], [(8, .bool false)], [])] [] [] [] [4] (.ret, (f37n0E a1 a2 (.ret false)).2) (ap4 h4 an) rfl
noncomputable def f37 (a1 : Int) (a2 : Int) : Option Bool := (f37n0 a1 a2).bind fun o => match o with
 | .ret v5 => some v5
theorem Qv (a1 : Int) (a2 : Int) {r : Bool} (h : (f37 a1 a2) = some r) : Qq Try.prog false 37 [(jI a1), (jI a2)] [] (jB r) [] := by
 unfold f37 at h
 obtain ⟨o, ho, h⟩ := Qe h
 cases o with
 | ret v5 =>
  obtain rfl := Qf h
  exact Qq.plain Qi (f := Try.f37) (c := c37) (by kernel_rfl) (by kernel_rfl) (by kernel_rfl) (by kernel_rfl) ((f37n0_ok a1 a2 ho).mono fun r e => by subst e; exact ⟨.inl rfl, (jB v5), (jB v5), by kernel_rfl, by kernel_rfl, ((Wk.refl _) : Wk (jB v5) (jB v5))⟩)

noncomputable def c62 : Code := Try.f62.body.getD .skip
inductive f62n0O where
 | ret (v10 : Bool)
def f62n0E (a1 : Int) : f62n0O → Ex × Tr × Hp
 | .ret v10 => (.ret, mkS [(2, (jB v10))], [])
def f62n0S (a1 : Int) : Tr × Hp := (Qal [(.pl (.int .u8 a1))] 0 .leaf, [])
noncomputable def f62n0 (a1 : Int) : Option f62n0O :=
 bif (decide (97 ≤ a1)) then
  bif (decide (a1 ≤ 122)) then
   some (.ret true)
  else
   bif (decide (65 ≤ a1)) then
    some (.ret (decide (a1 ≤ 90)))
   else
    some (.ret false)
 else
  bif (decide (65 ≤ a1)) then
   some (.ret (decide (a1 ≤ 90)))
  else
   some (.ret false)
theorem f62n0_ok (a1 : Int) {o : f62n0O} (h : (f62n0 a1) = some o) : T Try.prog Try.f62.ntmps 0 c62 (f62n0S a1) (fun r => r = f62n0E a1 o) := by
 unfold f62n0 at h
 rcases Qg h with ⟨h6, h⟩ | ⟨h6, h⟩
 ·rcases Qg h with ⟨h7, h⟩ | ⟨h7, h⟩
  ·obtain rfl := Qf h
   exact rE Qi [j3, (jT [3, 4, 7, 8, 9, 12], [(5, .bool true), (13, .bool true)], [])] [] [] [] [2] (.ret, (f62n0E a1 (.ret true)).2) (ap3 h6 (ap h7 (ap4 h7 an))) rfl
  ·rcases Qg h with ⟨h8, h⟩ | ⟨h8, h⟩
   ·obtain rfl := Qf h
    exact rE Qi [j3, (jF [7, 8, 9, 12] ++ jT [3, 4, 10, 11], [(5, .bool true), (12, .bool true), (13, .bool false)], [])] [] [] [] [2] (.ret, (f62n0E a1 (.ret (decide (a1 ≤ 90)))).2) (ap3 h6 (ap3 h7 (ap2 h8 (ap h7 (ap h8 (ap h7 an)))))) rfl
   ·obtain rfl := Qf h
    exact rE Qi [j3, (jF [7, 8, 9, 10, 11, 12] ++ jT [3, 4], [(5, .bool true), (12, .bool false), (13, .bool false)], [])] [] [] [] [2] (.ret, (f62n0E a1 (.ret false)).2) (ap3 h6 (ap3 h7 (ap2 h8 (ap h7 (ap h8 (ap h7 an)))))) rfl
 ·rcases Qg h with ⟨h9, h⟩ | ⟨h9, h⟩
  ·obtain rfl := Qf h
   exact rE Qi [j3, (jF [3, 4] ++ jT [10, 11], [(5, .bool false), (12, .bool true)], [])] [] [] [] [2] (.ret, (f62n0E a1 (.ret (decide (a1 ≤ 90)))).2) (ap3 h6 (ap3 h9 an)) rfl
  ·obtain rfl := Qf h
   exact rE Qi [j3, (jF [3, 4, 10, 11], [(5, .bool false), (12, .bool false)], [])] [] [] [] [2] (.ret, (f62n0E a1 (.ret false)).2) (ap3 h6 (ap3 h9 an)) rfl
noncomputable def f62 (a1 : Int) : Option Bool := (f62n0 a1).bind fun o => match o with
 | .ret v10 => some v10
theorem f62_ok (a1 : Int) {r : Bool} (h : (f62 a1) = some r) : Qq Try.prog false 62 [(.pl (.int .u8 a1))] [] (jB r) [] := by
 unfold f62 at h
 obtain ⟨o, ho, h⟩ := Qe h
 cases o with
 | ret v10 =>
  obtain rfl := Qf h
  exact Qq.plain Qi (f := Try.f62) (c := c62) (by kernel_rfl) (by kernel_rfl) (by kernel_rfl) (by kernel_rfl) ((f62n0_ok a1 ho).mono fun r e => by subst e; exact ⟨.inl rfl, (jB v10), (jB v10), by kernel_rfl, by kernel_rfl, ((Wk.refl _) : Wk (jB v10) (jB v10))⟩)

noncomputable def c45 : Code := Try.f45.body.getD .skip
inductive f45n2O where
 | exit0
 | ret
def f45n2E (bb1 : ByteArray) : f45n2O → Ex × Tr × Hp
 | .exit0 => ((.exit 0), mkS [], [])
 | .ret => (.ret, mkS [(2, (jB false))], [])
def f45n2S (bb1 : ByteArray) (v65 : Int) : Tr × Hp := (mkS [(0, (jS bb1)), (20, (jI (bb1.size : Int))), (21, (jI v65))], [])
noncomputable def f45n2 : Nat → ByteArray → Int → Option f45n2O
 | 0, _, _ => none
 | f + 1, bb1, v65 =>
  bif (decide (v65 < (bb1.size : Int))) then
   (at? bb1.data.toList v65).bind fun x79 =>
   (f62 (x79.toNat : Int)).bind fun x81 =>
   bif x81 then
    (f45n2 f bb1 (wr64 (v65 + 1)))
   else
    bif (decide ((x79.toNat : Int) < 48)) then
     bif (decide ((x79.toNat : Int) = 95)) then
      (f45n2 f bb1 (wr64 (v65 + 1)))
     else
      bif (decide ((x79.toNat : Int) = 45)) then
       (f45n2 f bb1 (wr64 (v65 + 1)))
      else
       some .ret
    else
     bif (decide (57 < (x79.toNat : Int))) then
      bif (decide ((x79.toNat : Int) = 95)) then
       (f45n2 f bb1 (wr64 (v65 + 1)))
      else
       bif (decide ((x79.toNat : Int) = 45)) then
        (f45n2 f bb1 (wr64 (v65 + 1)))
       else
        some .ret
     else
      (f45n2 f bb1 (wr64 (v65 + 1)))
  else
   some .exit0
theorem f45n2_ok : ∀ (f : Nat) (bb1 : ByteArray) (v65 : Int) {o : f45n2O}, (f45n2 f bb1 v65) = some o → TL Try.prog Try.f45.ntmps 0 f (cL (cL (Qn 1 (cL (Qn 2 c45))))) (f45n2S bb1 v65) (fun r => r = f45n2E bb1 o)
 | 0, _, _, o, h => by rw [f45n2] at h; cases h
 | f + 1, bb1, v65, o, h => by
  rw [f45n2] at h
  refine TL.body (K := fun s => ∃ v65 : Int, s = (f45n2S bb1 v65) ∧ (f45n2 f bb1 v65) = some o) ?_ (by rintro _ ⟨v65, rfl, hk⟩; exact f45n2_ok f _ _ hk)
  rcases Qg h with ⟨h67, h⟩ | ⟨h67, h⟩
  ·obtain ⟨x79, h80, h⟩ := Qe h
   obtain ⟨x81, h82, h⟩ := Qe h
   rcases Qg h with ⟨h83, h⟩ | ⟨h83, h⟩
   ·exact rE Qi [j3, j3, ([], [(2, .byte (Int.toNat v65) x79)], []), (jF [4, 5, 6, 9], [jH 1 (jB x81), (10, .bool false)], []), j3] [some true, none] [] [] [0, 20, 21] (.norm, (f45n2S bb1 (wr64 (v65 + 1)))) (ap h67 (ap (Qh h80).1 (ap (Qh h80).2 (ap (Qk h83) (ap4 (Qk h83) (ap (f62_ok (x79.toNat : Int) h82) an)))))) (Qs.norm ⟨(wr64 (v65 + 1)), rfl, h⟩)
   ·rcases Qg h with ⟨h84, h⟩ | ⟨h84, h⟩
    ·rcases Qg h with ⟨h85, h⟩ | ⟨h85, h⟩
     ·exact rE Qi [j3, j3, ([], [(2, .byte (Int.toNat v65) x79)], []), (jF [16, 17] ++ jT [4, 5, 6, 7, 8, 9], [jH 1 (jB x81), (9, .bool true), (10, .bool true), (18, .bool false)], []), j3] [some true, none] [] [] [0, 20, 21] (.norm, (f45n2S bb1 (wr64 (v65 + 1)))) (ap h67 (ap (Qh h80).1 (ap (Qh h80).2 (ap3 (Qr h83) (ap2 h84 (ap (Qr h83) (ap h84 (ap (Qr h83) (ap3 (Qk h85) (ap (f62_ok (x79.toNat : Int) h82) an)))))))))) (Qs.norm ⟨(wr64 (v65 + 1)), rfl, h⟩)
     ·rcases Qg h with ⟨h86, h⟩ | ⟨h86, h⟩
      ·exact rE Qi [j3, j3, ([], [(2, .byte (Int.toNat v65) x79)], []), (jT [4, 5, 6, 7, 8, 9, 16, 17], [jH 1 (jB x81), (9, .bool true), (10, .bool true), (18, .bool true)], []), j3] [some true, some false] [] [] [0, 20, 21] (.norm, (f45n2S bb1 (wr64 (v65 + 1)))) (ap h67 (ap (Qh h80).1 (ap (Qh h80).2 (ap3 (Qr h83) (ap2 h84 (ap (Qr h83) (ap h84 (ap (Qr h83) (ap3 (Qr h85) (ap (f62_ok (x79.toNat : Int) h82) (ap (Qk h86) an))))))))))) (Qs.norm ⟨(wr64 (v65 + 1)), rfl, h⟩)
      ·obtain rfl := Qf h
       exact rK Qi 3 [j3, j3, ([], [(2, .byte (Int.toNat v65) x79)], []), (jT [4, 5, 6, 7, 8, 9, 16, 17], [jH 1 (jB x81), (9, .bool true), (10, .bool true), (18, .bool true)], []), j3] [some true, some true] [] [] [2] .ret ((f45n2E bb1 .ret).2) (ap h67 (ap (Qh h80).1 (ap (Qh h80).2 (ap3 (Qr h83) (ap2 h84 (ap (Qr h83) (ap h84 (ap (Qr h83) (ap3 (Qr h85) (ap (f62_ok (x79.toNat : Int) h82) (ap (Qr h86) an))))))))))) (Qs.out rfl rfl)
    ·rcases Qg h with ⟨h87, h⟩ | ⟨h87, h⟩
     ·rcases Qg h with ⟨h88, h⟩ | ⟨h88, h⟩
      ·exact rE Qi [j3, j3, ([], [(2, .byte (Int.toNat v65) x79)], []), (jF [7, 8, 16, 17] ++ jT [4, 5, 6, 9, 12, 13], [jH 1 (jB x81), (9, .bool false), (10, .bool true), (14, .bool true), (18, .bool false)], []), j3] [some true, none] [] [] [0, 20, 21] (.norm, (f45n2S bb1 (wr64 (v65 + 1)))) (ap h67 (ap (Qh h80).1 (ap (Qh h80).2 (ap3 (Qr h83) (ap2 h84 (ap (Qr h83) (ap h84 (ap (Qr h83) (ap3 h87 (ap3 (Qk h88) (ap (f62_ok (x79.toNat : Int) h82) an))))))))))) (Qs.norm ⟨(wr64 (v65 + 1)), rfl, h⟩)
      ·rcases Qg h with ⟨h89, h⟩ | ⟨h89, h⟩
       ·exact rE Qi [j3, j3, ([], [(2, .byte (Int.toNat v65) x79)], []), (jF [7, 8] ++ jT [4, 5, 6, 9, 12, 13, 16, 17], [jH 1 (jB x81), (9, .bool false), (10, .bool true), (14, .bool true), (18, .bool true)], []), j3] [some true, some false] [] [] [0, 20, 21] (.norm, (f45n2S bb1 (wr64 (v65 + 1)))) (ap h67 (ap (Qh h80).1 (ap (Qh h80).2 (ap3 (Qr h83) (ap2 h84 (ap (Qr h83) (ap h84 (ap (Qr h83) (ap3 h87 (ap3 (Qr h88) (ap (f62_ok (x79.toNat : Int) h82) (ap (Qk h89) an)))))))))))) (Qs.norm ⟨(wr64 (v65 + 1)), rfl, h⟩)
       ·obtain rfl := Qf h
        exact rK Qi 3 [j3, j3, ([], [(2, .byte (Int.toNat v65) x79)], []), (jF [7, 8] ++ jT [4, 5, 6, 9, 12, 13, 16, 17], [jH 1 (jB x81), (9, .bool false), (10, .bool true), (14, .bool true), (18, .bool true)], []), j3] [some true, some true] [] [] [2] .ret ((f45n2E bb1 .ret).2) (ap h67 (ap (Qh h80).1 (ap (Qh h80).2 (ap3 (Qr h83) (ap2 h84 (ap (Qr h83) (ap h84 (ap (Qr h83) (ap3 h87 (ap3 (Qr h88) (ap (f62_ok (x79.toNat : Int) h82) (ap (Qr h89) an)))))))))))) (Qs.out rfl rfl)
     ·exact rE Qi [j3, j3, ([], [(2, .byte (Int.toNat v65) x79)], []), (jF [7, 8, 12, 13] ++ jT [4, 5, 6, 9], [jH 1 (jB x81), (9, .bool false), (10, .bool true), (14, .bool false)], []), j3] [some true, none] [] [] [0, 20, 21] (.norm, (f45n2S bb1 (wr64 (v65 + 1)))) (ap h67 (ap (Qh h80).1 (ap (Qh h80).2 (ap3 (Qr h83) (ap2 h84 (ap (Qr h83) (ap h84 (ap (Qr h83) (ap3 h87 (ap (f62_ok (x79.toNat : Int) h82) an)))))))))) (Qs.norm ⟨(wr64 (v65 + 1)), rfl, h⟩)
  ·obtain rfl := Qf h
   exact rK Qi 2 [j3] [some false] [] [] [] (.exit 0) ((f45n2E bb1 .exit0).2) (ap h67 an) (Qs.out rfl rfl)
noncomputable def f45n2L (bb1 : ByteArray) : List UInt8 → Int → Option f45n2O
 | [], v65 =>
  some .exit0
 | x0 :: rest, v65 =>
  (f62 (x0.toNat : Int)).bind fun x81 =>
  bif x81 then
   (f45n2L bb1 rest (v65 + 1))
  else
   bif (decide ((x0.toNat : Int) < 48)) then
    bif (decide ((x0.toNat : Int) = 95)) then
     (f45n2L bb1 rest (v65 + 1))
    else
     bif (decide ((x0.toNat : Int) = 45)) then
      (f45n2L bb1 rest (v65 + 1))
     else
      some .ret
   else
    bif (decide (57 < (x0.toNat : Int))) then
     bif (decide ((x0.toNat : Int) = 95)) then
      (f45n2L bb1 rest (v65 + 1))
     else
      bif (decide ((x0.toNat : Int) = 45)) then
       (f45n2L bb1 rest (v65 + 1))
      else
       some .ret
    else
     (f45n2L bb1 rest (v65 + 1))
theorem f45n2L_eq (bb1 : ByteArray) : ∀ (rest : List UInt8) (f k : Nat), bb1.data.toList.drop k = rest → bb1.data.toList.length ≤ maxLen → rest.length < f → f45n2 f bb1 (k : Int) = f45n2L bb1 rest (k : Int)
 | _, 0, _, _, _, hf => absurd hf (Nat.not_lt_zero _)
 | [], f + 1, k, hd, hm, hf => by
  have hk : ¬ ((k : Int) < (bb1.data.toList.length : Int)) := by have := Qai hd; omega
  rw [f45n2, f45n2L]
  simp only [size_list, decide_eq_false hk, cond_false]
 | x0 :: rest, f + 1, k, hd, hm, hf => by
  obtain ⟨hx, hlt, hd'⟩ := Qab hd
  have hk : (k : Int) < (bb1.data.toList.length : Int) := by omega
  have hw : wr64 ((k : Int) + 1) = (k : Int) + 1 := Qbe (by omega) (by unfold maxLen at hm; omega)
  have ih : f45n2 f bb1 ((k : Int) + 1) = f45n2L bb1 rest ((k : Int) + 1) := f45n2L_eq bb1 rest f (k + 1) hd' hm (by simpa using hf)
  rw [f45n2, f45n2L]
  simp only [size_list, decide_eq_true hk, cond_true, Qah, hx, Option.bind_some, hw, ih]
theorem f45n2_run (bb1 : ByteArray) (hm : bb1.data.toList.length ≤ maxLen) : f45n2 FUEL bb1 0 = f45n2L bb1 bb1.data.toList 0 := f45n2L_eq bb1 bb1.data.toList FUEL 0 List.drop_zero hm (Qat hm)
inductive f45n1O where
 | norm
 | ret
def f45n1E (bb1 : ByteArray) : f45n1O → Ex × Tr × Hp
 | .norm => (.norm, mkS [], [])
 | .ret => (.ret, mkS [(2, (jB false))], [])
def f45n1S (bb1 : ByteArray) : Tr × Hp := (mkS [(0, (jS bb1))], [])
noncomputable def f45n1 (bb1 : ByteArray) : Option f45n1O :=
 (f45n2 FUEL bb1 0).bind fun o90 => match o90 with
 | .exit0 => some .norm
 | .ret => some .ret
theorem f45n1_ok (bb1 : ByteArray) {o : f45n1O} (h : (f45n1 bb1) = some o) : T Try.prog Try.f45.ntmps 0 (cL (Qn 2 c45)) (f45n1S bb1) (fun r => r = f45n1E bb1 o) := by
 unfold f45n1 at h
 refine rN Qi 1 [j3] [] [] [] [0, 20, 21] (f45n2S bb1 0) an ?_
 obtain ⟨o90, h91, h⟩ := Qe h
 cases o90 with
 | exit0 =>
  obtain rfl := Qf h
  exact T.last' (T.bl (i := 0) (by kernel_rfl) (by kernel_rfl) (f45n2_ok FUEL bb1 0 h91)) (tds := []) (m := []) (keep := []) (st2 := (f45n1E bb1 .norm).2) (by kernel_rfl) an rfl
 | ret =>
  obtain rfl := Qf h
  exact T.last' (T.bl (i := 0) (by kernel_rfl) (by kernel_rfl) (f45n2_ok FUEL bb1 0 h91)) (tds := []) (m := []) (keep := [2]) (st2 := (f45n1E bb1 .ret).2) (by kernel_rfl) an rfl
inductive f45n0O where
 | ret (v94 : Bool)
def f45n0E (a1 : ByteArray) : f45n0O → Ex × Tr × Hp
 | .ret v94 => (.ret, mkS [(2, (jB v94))], [])
def f45n0S (a1 : ByteArray) : Tr × Hp := (Qal [(jS a1)] 0 .leaf, [])
noncomputable def f45n0 (a1 : ByteArray) : Option f45n0O :=
 bif (decide ((a1.size : Int) < 1)) then
  some (.ret false)
 else
  bif (decide (40 < (a1.size : Int))) then
   some (.ret false)
  else
   (at? a1.data.toList 0).bind fun x11 =>
   (f62 (x11.toNat : Int)).bind fun x13 =>
   bif x13 then
    (f45n1 a1).bind fun o92 => match o92 with
    | .norm => some (.ret true)
    | .ret => some (.ret false)
   else
    some (.ret false)
theorem f45n0_ok (a1 : ByteArray) {o : f45n0O} (h : (f45n0 a1) = some o) : T Try.prog Try.f45.ntmps 0 c45 (f45n0S a1) (fun r => r = f45n0E a1 o) := by
 unfold f45n0 at h
 rcases Qg h with ⟨h9, h⟩ | ⟨h9, h⟩
 ·obtain rfl := Qf h
  exact rK Qi 2 [j3, (jT [4, 5, 6], [(7, .bool true)], []), j3] [none] [] [] [2] .ret ((f45n0E a1 (.ret false)).2) (ap4 h9 an) rfl
 ·rcases Qg h with ⟨h10, h⟩ | ⟨h10, h⟩
  ·obtain rfl := Qf h
   exact rK Qi 2 [j3, (jF [4, 5, 6] ++ jT [9, 10, 11, 12], [(7, .bool false), (13, .bool true)], []), j3] [none] [] [] [2] .ret ((f45n0E a1 (.ret false)).2) (ap4 h9 (ap h10 (ap4 h10 an))) rfl
  ·obtain ⟨x11, h12, h⟩ := Qe h
   obtain ⟨x13, h14, h⟩ := Qe h
   rcases Qg h with ⟨h15, h⟩ | ⟨h15, h⟩
   ·refine rN Qi 2 [j3, (jF [4, 5, 6, 9, 10, 11, 12], [(7, .bool false), (10, .byte (Int.toNat 0) x11), jH 11 (jB x13), (13, .bool false)], [])] [some false] [] [] [0] (f45n1S a1) (ap4 h9 (ap2 h10 (ap (Qh h12).1 (ap (Qh h12).2 (ap3 h10 (ap (f62_ok (x11.toNat : Int) h14) (ap (Qk h15) an))))))) ?_
    obtain ⟨o92, h93, h⟩ := Qe h
    cases o92 with
    | norm =>
     refine T.oneN (by kernel_rfl) (f45n1_ok a1 h93) (st2 := (f45n1E a1 .norm).2) rfl ?_
     obtain rfl := Qf h
     exact rE Qi [j3] [] [] [] [2] (.ret, (f45n0E a1 (.ret true)).2) an rfl
    | ret =>
     obtain rfl := Qf h
     exact T.oneX' (by kernel_rfl) (f45n1_ok a1 h93) (tds := []) (m := []) (keep := [2]) (st2 := (f45n0E a1 (.ret false)).2) (by kernel_rfl) an rfl rfl
   ·obtain rfl := Qf h
    exact rK Qi 2 [j3, (jF [4, 5, 6, 9, 10, 11, 12], [(7, .bool false), (10, .byte (Int.toNat 0) x11), jH 11 (jB x13), (13, .bool false)], []), j3] [some true] [] [] [2] .ret ((f45n0E a1 (.ret false)).2) (ap4 h9 (ap2 h10 (ap (Qh h12).1 (ap (Qh h12).2 (ap3 h10 (ap (f62_ok (x11.toNat : Int) h14) (ap (Qr h15) an))))))) rfl
noncomputable def f45 (a1 : ByteArray) : Option Bool := (f45n0 a1).bind fun o => match o with
 | .ret v94 => some v94
theorem Qct (a1 : ByteArray) {r : Bool} (h : (f45 a1) = some r) : Qq Try.prog false 45 [(jS a1)] [] (jB r) [] := by
 unfold f45 at h
 obtain ⟨o, ho, h⟩ := Qe h
 cases o with
 | ret v94 =>
  obtain rfl := Qf h
  exact Qq.plain Qi (f := Try.f45) (c := c45) (by kernel_rfl) (by kernel_rfl) (by kernel_rfl) (by kernel_rfl) ((f45n0_ok a1 ho).mono fun r e => by subst e; exact ⟨.inl rfl, (jB v94), (jB v94), by kernel_rfl, by kernel_rfl, ((Wk.refl _) : Wk (jB v94) (jB v94))⟩)

noncomputable def c44 : Code := Try.f44.body.getD .skip
inductive f44n0O where
 | ret (v8 : Bool)
def f44n0E (a1 : ByteArray) : f44n0O → Ex × Tr × Hp
 | .ret v8 => (.ret, mkS [(2, (jB v8))], [])
def f44n0S (a1 : ByteArray) : Tr × Hp := (Qal [(jS a1)] 0 .leaf, [])
noncomputable def f44n0 (a1 : ByteArray) : Option f44n0O :=
 bif (seq a1 str_house) then
  some (.ret false)
 else
  (f45 a1).bind fun x6 =>
  some (.ret x6)
theorem f44n0_ok (a1 : ByteArray) {o : f44n0O} (h : (f44n0 a1) = some o) : T Try.prog Try.f44.ntmps 0 c44 (f44n0S a1) (fun r => r = f44n0E a1 o) := by
 unfold f44n0 at h
 rcases Qg h with ⟨h5, h⟩ | ⟨h5, h⟩
 ·obtain rfl := Qf h
  exact rE Qi [j3, ([(3, false), (4, false)], [(5, .bool false)], [])] [] [] [] [2] (.ret, (f44n0E a1 (.ret false)).2) (ap3 (Qk h5) an) rfl
 ·obtain ⟨x6, h7, h⟩ := Qe h
  obtain rfl := Qf h
  exact rE Qi [j3, ([(3, true), (4, true)], [jH 4 (jB x6), (5, .bool true)], [])] [] [] [] [2] (.ret, (f44n0E a1 (.ret x6)).2) (ap3 (Qr h5) (ap (Qct a1 h7) an)) rfl
noncomputable def f44 (a1 : ByteArray) : Option Bool := (f44n0 a1).bind fun o => match o with
 | .ret v8 => some v8
theorem Qao (a1 : ByteArray) {r : Bool} (h : (f44 a1) = some r) : Qq Try.prog false 44 [(jS a1)] [] (jB r) [] := by
 unfold f44 at h
 obtain ⟨o, ho, h⟩ := Qe h
 cases o with
 | ret v8 =>
  obtain rfl := Qf h
  exact Qq.plain Qi (f := Try.f44) (c := c44) (by kernel_rfl) (by kernel_rfl) (by kernel_rfl) (by kernel_rfl) ((f44n0_ok a1 ho).mono fun r e => by subst e; exact ⟨.inl rfl, (jB v8), (jB v8), by kernel_rfl, by kernel_rfl, ((Wk.refl _) : Wk (jB v8) (jB v8))⟩)

noncomputable def c61 : Code := Try.f61.body.getD .skip
inductive f61n0O where
 | ret
def f61n0E (a1 : ByteArray) : f61n0O → Ex × Tr × Hp
 | .ret => (.ret, mkS [(2, (.pl (.bool (!(seq a1 a1)))))], [])
def f61n0S (a1 : ByteArray) : Tr × Hp := (Qal [(jS a1)] 0 .leaf, [])
noncomputable def f61n0 (a1 : ByteArray) : Option f61n0O :=
 some .ret
theorem f61n0_ok (a1 : ByteArray) {o : f61n0O} (h : (f61n0 a1) = some o) : T Try.prog Try.f61.ntmps 0 c61 (f61n0S a1) (fun r => r = f61n0E a1 o) := by
 unfold f61n0 at h
 obtain rfl := Qf h
 exact rE Qi [j3, j3] [] [] [] [2] (.ret, (f61n0E a1 .ret).2) an rfl
noncomputable def f61 (a1 : ByteArray) : Option Bool := (f61n0 a1).bind fun o => match o with
 | .ret => some (!(seq a1 a1))
theorem f61_ok (a1 : ByteArray) {r : Bool} (h : (f61 a1) = some r) : Qq Try.prog false 61 [(jS a1)] [] (jB r) [] := by
 unfold f61 at h
 obtain ⟨o, ho, h⟩ := Qe h
 cases o with
 | ret =>
  obtain rfl := Qf h
  exact Qq.plain Qi (f := Try.f61) (c := c61) (by kernel_rfl) (by kernel_rfl) (by kernel_rfl) (by kernel_rfl) ((f61n0_ok a1 ho).mono fun r e => by subst e; exact ⟨.inl rfl, (.pl (.bool (!(seq a1 a1)))), (.pl (.bool (!(seq a1 a1)))), by kernel_rfl, by kernel_rfl, ((Wk.refl _) : Wk (.pl (.bool (!(seq a1 a1)))) (.pl (.bool (!(seq a1 a1)))))⟩)

noncomputable def c40 : Code := Try.f40.body.getD .skip
inductive f40n0O where
 | ret (v21 : Int)
def f40n0E (a1 : ByteArray) (a2 : ByteArray) : f40n0O → Ex × Tr × Hp
 | .ret v21 => (.ret, mkS [(4, (jI v21))], [])
def f40n0S (a1 : ByteArray) (a2 : ByteArray) : Tr × Hp := (Qal [(jS a1), (jS a2)] 0 .leaf, [])
noncomputable def f40n0 (a1 : ByteArray) (a2 : ByteArray) : Option f40n0O :=
 (f61 a1).bind fun x5 =>
 (f61 a2).bind fun x9 =>
 bif x5 then
  bif x9 then
   some (.ret 0)
  else
   some (.ret (-1))
 else
  bif x9 then
   some (.ret 1)
  else
   bif (slt a1 a2) then
    some (.ret (-1))
   else
    bif (slt a1 a2 || seq a1 a2) then
     some (.ret 0)
    else
     some (.ret 1)
theorem f40n0_ok (a1 : ByteArray) (a2 : ByteArray) {o : f40n0O} (h : (f40n0 a1 a2) = some o) : T Try.prog Try.f40.ntmps 0 c40 (f40n0S a1 a2) (fun r => r = f40n0E a1 a2 o) := by
 unfold f40n0 at h
 obtain ⟨x5, h6, h⟩ := Qe h
 obtain ⟨x9, h10, h⟩ := Qe h
 rcases Qg h with ⟨h13, h⟩ | ⟨h13, h⟩
 ·rcases Qg h with ⟨h14, h⟩ | ⟨h14, h⟩
  ·obtain rfl := Qf h
   exact rK Qi 4 [j3, ([], [jH 1 (jB x5)], []), ([], [jH 1 (jB x9)], []), j3, j3, j3] [some true, some true] [] [] [4] .ret ((f40n0E a1 a2 (.ret 0)).2) (ap (f61_ok a1 h6) (ap (f61_ok a2 h10) (ap h13 (ap h14 an)))) rfl
  ·obtain rfl := Qf h
   exact rK Qi 4 [j3, ([], [jH 1 (jB x5)], []), ([], [jH 1 (jB x9)], []), j3, j3, j3] [some true, some false] [] [] [4] .ret ((f40n0E a1 a2 (.ret (-1))).2) (ap (f61_ok a1 h6) (ap (f61_ok a2 h10) (ap h13 (ap h14 an)))) rfl
 ·rcases Qg h with ⟨h16, h⟩ | ⟨h16, h⟩
  ·obtain rfl := Qf h
   exact rK Qi 5 [j3, ([], [jH 1 (jB x5)], []), ([], [jH 1 (jB x9)], []), j3, j3, j3] [some false, some true] [] [] [4] .ret ((f40n0E a1 a2 (.ret 1)).2) (ap (f61_ok a1 h6) (ap (f61_ok a2 h10) (ap h13 (ap h16 an)))) rfl
  ·rcases Qg h with ⟨h18, h⟩ | ⟨h18, h⟩
   ·obtain rfl := Qf h
    exact rK Qi 6 [j3, ([], [jH 1 (jB x5)], []), ([], [jH 1 (jB x9)], []), j3, j3, j3, j3] [some false, some false, some true] [] [] [4] .ret ((f40n0E a1 a2 (.ret (-1))).2) (ap (f61_ok a1 h6) (ap (f61_ok a2 h10) (ap h13 (ap h16 (ap h18 an))))) rfl
   ·rcases Qg h with ⟨h20, h⟩ | ⟨h20, h⟩
    ·obtain rfl := Qf h
     exact rE Qi [j3, ([], [jH 1 (jB x5)], []), ([], [jH 1 (jB x9)], []), j3, j3, j3, j3, j3] [some false, some false, some false, some false] [] [] [4] (.ret, (f40n0E a1 a2 (.ret 0)).2) (ap (f61_ok a1 h6) (ap (f61_ok a2 h10) (ap h13 (ap h16 (ap h18 (ap (Qk h20) an)))))) rfl
    ·obtain rfl := Qf h
     exact rK Qi 7 [j3, ([], [jH 1 (jB x5)], []), ([], [jH 1 (jB x9)], []), j3, j3, j3, j3, j3] [some false, some false, some false, some true] [] [] [4] .ret ((f40n0E a1 a2 (.ret 1)).2) (ap (f61_ok a1 h6) (ap (f61_ok a2 h10) (ap h13 (ap h16 (ap h18 (ap (Qr h20) an)))))) rfl
noncomputable def f40 (a1 : ByteArray) (a2 : ByteArray) : Option Int := (f40n0 a1 a2).bind fun o => match o with
 | .ret v21 => some v21
theorem f40_ok (a1 : ByteArray) (a2 : ByteArray) {r : Int} (h : (f40 a1 a2) = some r) : Qq Try.prog false 40 [(jS a1), (jS a2)] [] (jI r) [] := by
 unfold f40 at h
 obtain ⟨o, ho, h⟩ := Qe h
 cases o with
 | ret v21 =>
  obtain rfl := Qf h
  exact Qq.plain Qi (f := Try.f40) (c := c40) (by kernel_rfl) (by kernel_rfl) (by kernel_rfl) (by kernel_rfl) ((f40n0_ok a1 a2 ho).mono fun r e => by subst e; exact ⟨.inl rfl, (jI v21), (jI v21), by kernel_rfl, by kernel_rfl, ((Wk.refl _) : Wk (jI v21) (jI v21))⟩)

noncomputable def c66 : Code := Try.f66.body.getD .skip
inductive f66n2O where
 | exit0
 | ret (v28 : Int)
def f66n2E (bc1 : List Int) : f66n2O → Ex × Tr × Hp
 | .exit0 => ((.exit 0), mkS [(3, (jI 0))], [])
 | .ret v28 => (.ret, mkS [(2, (jI v28))], [])
def f66n2S (bc1 : List Int) (v19 : Int) : Tr × Hp := (mkS [(3, (jI 0)), (6, (.pl (.sl .any 1 (bc1.map (cInt .i64))))), (7, (jI (bc1.length : Int))), (8, (jI v19))], [])
noncomputable def f66n2 : Nat → List Int → Int → Option f66n2O
 | 0, _, _ => none
 | f + 1, bc1, v19 =>
  bif (decide (v19 < (bc1.length : Int))) then
   (at? bc1 v19).bind fun x25 =>
   bif (decide (x25 = 0)) then
    (f66n2 f bc1 (wr64 (v19 + 1)))
   else
    some (.ret x25)
  else
   some .exit0
theorem f66n2_ok : ∀ (f : Nat) (bc1 : List Int) (v19 : Int) {o : f66n2O}, (f66n2 f bc1 v19) = some o → TL Try.prog Try.f66.ntmps 0 f (cL (cL (Qn 1 (cL (Qn 2 c66))))) (f66n2S bc1 v19) (fun r => r = f66n2E bc1 o)
 | 0, _, _, o, h => by rw [f66n2] at h; cases h
 | f + 1, bc1, v19, o, h => by
  rw [f66n2] at h
  refine TL.body (K := fun s => ∃ v19 : Int, s = (f66n2S bc1 v19) ∧ (f66n2 f bc1 v19) = some o) ?_ (by rintro _ ⟨v19, rfl, hk⟩; exact f66n2_ok f _ _ hk)
  rcases Qg h with ⟨h21, h⟩ | ⟨h21, h⟩
  ·obtain ⟨x25, h26, h⟩ := Qe h
   rcases Qg h with ⟨h27, h⟩ | ⟨h27, h⟩
   ·exact rE Qi [j3, ([], [(0, .idx (Int.toNat v19) ((cInt .i64) x25))], []), j3, j3] [some true, some false] [] [] [3, 6, 7, 8] (.norm, (f66n2S bc1 (wr64 (v19 + 1)))) (ap h21 (ap (Qh h26).1 (ap (Ql (cInt .i64) (Qh h26).2) (ap (Qk h27) an)))) (Qs.norm ⟨(wr64 (v19 + 1)), rfl, h⟩)
   ·obtain rfl := Qf h
    exact rK Qi 3 [j3, ([], [(0, .idx (Int.toNat v19) ((cInt .i64) x25))], []), j3, j3] [some true, some true] [] [] [2] .ret ((f66n2E bc1 (.ret x25)).2) (ap h21 (ap (Qh h26).1 (ap (Ql (cInt .i64) (Qh h26).2) (ap (Qr h27) an)))) (Qs.out rfl rfl)
  ·obtain rfl := Qf h
   exact rK Qi 2 [j3] [some false] [] [] [3] (.exit 0) ((f66n2E bc1 .exit0).2) (ap h21 an) (Qs.out rfl rfl)
noncomputable def f66n2L (bc1 : List Int) : List Int → Int → Option f66n2O
 | [], v19 =>
  some .exit0
 | x0 :: rest, v19 =>
  bif (decide (x0 = 0)) then
   (f66n2L bc1 rest (v19 + 1))
  else
   some (.ret x0)
theorem f66n2L_eq (bc1 : List Int) : ∀ (rest : List Int) (f k : Nat), bc1.drop k = rest → bc1.length ≤ maxLen → rest.length < f → f66n2 f bc1 (k : Int) = f66n2L bc1 rest (k : Int)
 | _, 0, _, _, _, hf => absurd hf (Nat.not_lt_zero _)
 | [], f + 1, k, hd, hm, hf => by
  have hk : ¬ ((k : Int) < (bc1.length : Int)) := by have := Qai hd; omega
  rw [f66n2, f66n2L]
  simp only [decide_eq_false hk, cond_false]
 | x0 :: rest, f + 1, k, hd, hm, hf => by
  obtain ⟨hx, hlt, hd'⟩ := Qab hd
  have hk : (k : Int) < (bc1.length : Int) := by omega
  have hw : wr64 ((k : Int) + 1) = (k : Int) + 1 := Qbe (by omega) (by unfold maxLen at hm; omega)
  have ih : f66n2 f bc1 ((k : Int) + 1) = f66n2L bc1 rest ((k : Int) + 1) := f66n2L_eq bc1 rest f (k + 1) hd' hm (by simpa using hf)
  rw [f66n2, f66n2L]
  simp only [decide_eq_true hk, cond_true, Qah, hx, Option.bind_some, hw, ih]
theorem f66n2_run (bc1 : List Int) (hm : bc1.length ≤ maxLen) : f66n2 FUEL bc1 0 = f66n2L bc1 bc1 0 := f66n2L_eq bc1 bc1 FUEL 0 List.drop_zero hm (Qat hm)
inductive f66n1O where
 | norm
 | ret (v32 : Int)
def f66n1E (bc1 : List Int) : f66n1O → Ex × Tr × Hp
 | .norm => (.norm, mkS [(3, (jI 0))], [])
 | .ret v32 => (.ret, mkS [(2, (jI v32))], [])
def f66n1S (bc1 : List Int) : Tr × Hp := (mkS [(0, (.pl (.sl .any 1 (bc1.map (cInt .i64))))), (3, (jI 0))], [])
noncomputable def f66n1 (bc1 : List Int) : Option f66n1O :=
 (f66n2 FUEL bc1 0).bind fun o29 => match o29 with
 | .exit0 => some .norm
 | .ret v31 => some (.ret v31)
theorem f66n1_ok (bc1 : List Int) {o : f66n1O} (h : (f66n1 bc1) = some o) : T Try.prog Try.f66.ntmps 0 (cL (Qn 2 c66)) (f66n1S bc1) (fun r => r = f66n1E bc1 o) := by
 unfold f66n1 at h
 refine rN Qi 1 [([], [], [(1, .val (jI (bc1.length : Int)))])] [] [] [] [3, 6, 7, 8] (f66n2S bc1 0) (ap (Qo (xs := bc1) (c := (cInt .i64))) an) ?_
 obtain ⟨o29, h30, h⟩ := Qe h
 cases o29 with
 | exit0 =>
  obtain rfl := Qf h
  exact T.last' (T.bl (i := 0) (by kernel_rfl) (by kernel_rfl) (f66n2_ok FUEL bc1 0 h30)) (tds := []) (m := []) (keep := [3]) (st2 := (f66n1E bc1 .norm).2) (by kernel_rfl) an rfl
 | ret v31 =>
  obtain rfl := Qf h
  exact T.last' (T.bl (i := 0) (by kernel_rfl) (by kernel_rfl) (f66n2_ok FUEL bc1 0 h30)) (tds := []) (m := []) (keep := [2]) (st2 := (f66n1E bc1 (.ret v31)).2) (by kernel_rfl) an rfl
inductive f66n0O where
 | ret (v36 : Int)
def f66n0E (a1 : List Int) : f66n0O → Ex × Tr × Hp
 | .ret v36 => (.ret, mkS [(2, (jI v36))], [])
def f66n0S (a1 : List Int) : Tr × Hp := (Qal [(.pl (.sl .any 1 (a1.map (cInt .i64))))] 0 .leaf, [])
noncomputable def f66n0 (a1 : List Int) : Option f66n0O :=
 (f66n1 a1).bind fun o33 => match o33 with
 | .norm => some (.ret 0)
 | .ret v35 => some (.ret v35)
theorem f66n0_ok (a1 : List Int) {o : f66n0O} (h : (f66n0 a1) = some o) : T Try.prog Try.f66.ntmps 0 c66 (f66n0S a1) (fun r => r = f66n0E a1 o) := by
 unfold f66n0 at h
 refine rN Qi 2 [j3, j3] [] [] [] [0, 3] (f66n1S a1) an ?_
 obtain ⟨o33, h34, h⟩ := Qe h
 cases o33 with
 | norm =>
  refine T.oneN (by kernel_rfl) (f66n1_ok a1 h34) (st2 := (f66n1E a1 .norm).2) rfl ?_
  obtain rfl := Qf h
  exact rE Qi [j3] [] [] [] [2] (.ret, (f66n0E a1 (.ret 0)).2) an rfl
 | ret v35 =>
  obtain rfl := Qf h
  exact T.oneX' (by kernel_rfl) (f66n1_ok a1 h34) (tds := []) (m := []) (keep := [2]) (st2 := (f66n0E a1 (.ret v35)).2) (by kernel_rfl) an rfl rfl
noncomputable def f66 (a1 : List Int) : Option Int := (f66n0 a1).bind fun o => match o with
 | .ret v36 => some v36
theorem f66_ok (a1 : List Int) {r : Int} (h : (f66 a1) = some r) : Qq Try.prog false 66 [(.pl (.sl .any 1 (a1.map (cInt .i64))))] [] (jI r) [] := by
 unfold f66 at h
 obtain ⟨o, ho, h⟩ := Qe h
 cases o with
 | ret v36 =>
  obtain rfl := Qf h
  exact Qq.plain Qi (f := Try.f66) (c := c66) (by kernel_rfl) (by kernel_rfl) (by kernel_rfl) (by kernel_rfl) ((f66n0_ok a1 ho).mono fun r e => by subst e; exact ⟨.inl rfl, (jI v36), (jI v36), by kernel_rfl, by kernel_rfl, ((Wk.refl _) : Wk (jI v36) (jI v36))⟩)

noncomputable def c53 : Code := Try.f53.body.getD .skip
inductive f53n0O where
 | ret (v15 : Int)
def f53n0E (a1 : Qa) (a2 : Qa) : f53n0O → Ex × Tr × Hp
 | .ret v15 => (.ret, mkS [(4, (jI v15))], [])
def f53n0S (a1 : Qa) (a2 : Qa) : Tr × Hp := (Qal [(jA Qa.cells a1), (jA Qa.cells a2)] 0 .leaf, [])
noncomputable def f53n0 (a1 : Qa) (a2 : Qa) : Option f53n0O :=
 (f40 a1.Member a2.Member).bind fun x9 =>
 (f40 a1.Product a2.Product).bind fun x11 =>
 (f66 [x9, x11]).bind fun x13 =>
 some (.ret x13)
theorem f53n0_ok (a1 : Qa) (a2 : Qa) {o : f53n0O} (h : (f53n0 a1 a2) = some o) : T Try.prog Try.f53.ntmps 0 c53 (f53n0S a1 a2) (fun r => r = f53n0E a1 a2 o) := by
 unfold f53n0 at h
 obtain ⟨x9, h10, h⟩ := Qe h
 obtain ⟨x11, h12, h⟩ := Qe h
 obtain ⟨x13, h14, h⟩ := Qe h
 obtain rfl := Qf h
 exact rE Qi [j3, ([], [jH 4 (jI x9), jH 9 (jI x11), jH 11 (jI x13)], [])] [] [] [] [4] (.ret, (f53n0E a1 a2 (.ret x13)).2) (ap (same_val (e := ⟨false, 40, [(jS a1.Member), (jS a2.Member)], [], (jI x9), []⟩) (f := ⟨false, 40, [(jS a1.Product), (jS a2.Product)], [], (jI x11), []⟩) (fun k => by simp only [List.cons.injEq, AV.pl.injEq, PV.str.injEq, PV.int.injEq, PV.bool.injEq, PV.agg.injEq, and_true, true_and] at k; have e0 : x9 = x11 := Option.some.inj (by rw [← h10, ← h12]; simp only [k]); exact ⟨by rw [e0], rfl⟩)) (ap (f40_ok a1.Member a2.Member h10) (ap (f40_ok a1.Product a2.Product h12) (ap (f66_ok [x9, x11] h14) an)))) rfl
noncomputable def f53 (a1 : Qa) (a2 : Qa) : Option Int := (f53n0 a1 a2).bind fun o => match o with
 | .ret v15 => some v15
theorem f53_ok (a1 : Qa) (a2 : Qa) {r : Int} (h : (f53 a1 a2) = some r) : Qq Try.prog false 53 [(jA Qa.cells a1), (jA Qa.cells a2)] [] (jI r) [] := by
 unfold f53 at h
 obtain ⟨o, ho, h⟩ := Qe h
 cases o with
 | ret v15 =>
  obtain rfl := Qf h
  exact Qq.plain Qi (f := Try.f53) (c := c53) (by kernel_rfl) (by kernel_rfl) (by kernel_rfl) (by kernel_rfl) ((f53n0_ok a1 a2 ho).mono fun r e => by subst e; exact ⟨.inl rfl, (jI v15), (jI v15), by kernel_rfl, by kernel_rfl, ((Wk.refl _) : Wk (jI v15) (jI v15))⟩)

noncomputable def c26 : Code := Try.f26.body.getD .skip
inductive f26n2O where
 | exit0 (v188 : List (ByteArray × Qt))
 | ret
def f26n2E (ba1 : Qd) : f26n2O → Ex × Tr × Hp
 | .exit0 v188 => ((.exit 0), mkS [(3, (.mp 0))], [some (.map (v188.map (mkv pStr (pAgg Qt.cells))))])
 | .ret => (.ret, mkS [(2, (jI 8))], [])
def f26n2S (ba1 : Qd) (v114 : Int) (v115 : List (ByteArray × Qt)) : Tr × Hp := (mkS [(1, (.bp 0 0)), (3, (.mp 1)), (28, (jL 4 Qa.cells ba1.Positions)), (29, (jI (ba1.Positions.length : Int))), (30, (jI v114))], [some (.box ((Qd.cells ba1).map .pl)), some (.map (v115.map (mkv pStr (pAgg Qt.cells))))])
noncomputable def f26n2 : Nat → Qd → Int → List (ByteArray × Qt) → Option f26n2O
 | 0, _, _, _ => none
 | f + 1, ba1, v114, v115 =>
  bif (decide (v114 < (ba1.Positions.length : Int))) then
   (at? ba1.Positions v114).bind fun x153 =>
   bif (decide (v114 = 0)) then
    (f37 x153.Quantity 1048576).bind fun x156 =>
    bif x156 then
     (f37 x153.Basis 1125899906842624).bind fun x159 =>
     bif x159 then
      bif (Qa.eqb x153 (Qa.mk x153.Member x153.Product 0 0)) then
       some .ret
      else
       (f44 x153.Member).bind fun x163 =>
       bif x163 then
        (f45 x153.Product).bind fun x166 =>
        bif x166 then
         (f26n2 f ba1 (wr64 (v114 + 1)) (mPut seq x153.Product (Qt.mk (wr64 ((mGet seq (Qt.mk 0 0) x153.Product v115).quantity + x153.Quantity)) (wr64 ((mGet seq (Qt.mk 0 0) x153.Product v115).basis + x153.Basis))) v115))
        else
         some .ret
       else
        some .ret
     else
      some .ret
    else
     some .ret
   else
    (at? ba1.Positions (wr64 (v114 - 1))).bind fun x169 =>
    (f53 x169 x153).bind fun x171 =>
    (f37 x153.Quantity 1048576).bind fun x173 =>
    bif x173 then
     (f37 x153.Basis 1125899906842624).bind fun x176 =>
     bif (decide (x171 < 0)) then
      bif x176 then
       bif (Qa.eqb x153 (Qa.mk x153.Member x153.Product 0 0)) then
        some .ret
       else
        (f44 x153.Member).bind fun x181 =>
        bif x181 then
         (f45 x153.Product).bind fun x184 =>
         bif x184 then
          (f26n2 f ba1 (wr64 (v114 + 1)) (mPut seq x153.Product (Qt.mk (wr64 ((mGet seq (Qt.mk 0 0) x153.Product v115).quantity + x153.Quantity)) (wr64 ((mGet seq (Qt.mk 0 0) x153.Product v115).basis + x153.Basis))) v115))
         else
          some .ret
        else
         some .ret
      else
       some .ret
     else
      some .ret
    else
     bif (decide (x171 < 0)) then
      some .ret
     else
      some .ret
  else
   some (.exit0 v115)
theorem f26n2_ok : ∀ (f : Nat) (ba1 : Qd) (v114 : Int) (v115 : List (ByteArray × Qt)) {o : f26n2O}, (f26n2 f ba1 v114 v115) = some o → TL Try.prog Try.f26.ntmps 0 f (cL (cL (Qn 1 (cL (Qn 3 c26))))) (f26n2S ba1 v114 v115) (fun r => r = f26n2E ba1 o)
 | 0, _, _, _, o, h => by rw [f26n2] at h; cases h
 | f + 1, ba1, v114, v115, o, h => by
  rw [f26n2] at h
  refine TL.body (K := fun s => ∃ v114 : Int, ∃ v115 : List (ByteArray × Qt), s = (f26n2S ba1 v114 v115) ∧ (f26n2 f ba1 v114 v115) = some o) ?_ (by rintro _ ⟨v114, v115, rfl, hk⟩; exact f26n2_ok f _ _ _ hk)
  rcases Qg h with ⟨h117, h⟩ | ⟨h117, h⟩
  ·obtain ⟨x153, h154, h⟩ := Qe h
   rcases Qg h with ⟨h155, h⟩ | ⟨h155, h⟩
   ·obtain ⟨x156, h157, h⟩ := Qe h
    rcases Qg h with ⟨h158, h⟩ | ⟨h158, h⟩
    ·obtain ⟨x159, h160, h⟩ := Qe h
     rcases Qg h with ⟨h161, h⟩ | ⟨h161, h⟩
     ·rcases Qg h with ⟨h162, h⟩ | ⟨h162, h⟩
      ·obtain rfl := Qf h
       exact rK Qi 3 [j3, ([], [(1, .idx (Int.toNat v114) (Qa.cells x153))], []), (jT [3, 4, 5, 6, 7, 8, 9, 10, 11], [(12, .bool true)], []), (jT [4, 5, 6], [jH 2 (jB x156), jH 6 (jB x159), (7, .bool true)], []), ([], [(6, .bool (Qa.eqb x153 (Qa.mk x153.Member x153.Product 0 0)))], []), (jF [7] ++ jT [10, 11, 12, 13], [(8, .bool false), (14, .bool true)], []), j3] [some true, none] [] [] [2] .ret ((f26n2E ba1 .ret).2) (ap h117 (ap (Qh h154).1 (ap (Ql Qa.cells (Qh h154).2) (ap2 h155 (ap4 h155 (ap4 h155 (ap4 h158 (ap (Qv x153.Quantity 1048576 h157) (ap (Qv x153.Basis 1125899906842624 h160) (ap (Qa.eqb_ok x153 (Qa.mk x153.Member x153.Product 0 0)) (ap2 (Qk h161) (ap h162 (ap4 h162 an))))))))))))) (Qs.out rfl rfl)
      ·obtain ⟨x163, h164, h⟩ := Qe h
       rcases Qg h with ⟨h165, h⟩ | ⟨h165, h⟩
       ·obtain ⟨x166, h167, h⟩ := Qe h
        rcases Qg h with ⟨h168, h⟩ | ⟨h168, h⟩
        ·exact rE Qi [j3, ([], [(1, .idx (Int.toNat v114) (Qa.cells x153))], []), (jT [3, 4, 5, 6, 7, 8, 9, 10, 11], [(12, .bool true)], []), (jT [4, 5, 6], [jH 2 (jB x156), jH 6 (jB x159), (7, .bool true)], []), ([], [(6, .bool (Qa.eqb x153 (Qa.mk x153.Member x153.Product 0 0)))], []), (jF [7, 10, 11, 12, 13, 16, 17, 18, 19], [(8, .bool false), jH 12 (jB x163), (14, .bool false), jH 18 (jB x166), (20, .bool false)], []), ([], [(3, .look ((pAgg Qt.cells) (mGet seq (Qt.mk 0 0) x153.Product v115)) (mHas seq x153.Product v115))], []), ([], [(14, .mset ((mPut seq x153.Product (Qt.mk (wr64 ((mGet seq (Qt.mk 0 0) x153.Product v115).quantity + x153.Quantity)) (wr64 ((mGet seq (Qt.mk 0 0) x153.Product v115).basis + x153.Basis))) v115).map (mkv pStr (pAgg Qt.cells))))], []), j3] [some true, some false] [] [0, 1] [1, 3, 28, 29, 30] (.norm, (f26n2S ba1 (wr64 (v114 + 1)) (mPut seq x153.Product (Qt.mk (wr64 ((mGet seq (Qt.mk 0 0) x153.Product v115).quantity + x153.Quantity)) (wr64 ((mGet seq (Qt.mk 0 0) x153.Product v115).basis + x153.Basis))) v115))) (ap h117 (ap (Qh h154).1 (ap (Ql Qa.cells (Qh h154).2) (ap2 h155 (ap4 h155 (ap4 h155 (ap4 h158 (ap (Qv x153.Quantity 1048576 h157) (ap (Qv x153.Basis 1125899906842624 h160) (ap (Qa.eqb_ok x153 (Qa.mk x153.Member x153.Product 0 0)) (ap2 (Qk h161) (ap h162 (ap4 h162 (ap (Qk h165) (ap4 (Qk h165) (ap (Qao x153.Member h164) (ap (Qct x153.Product h167) (ap (Qk h168) (ap (look_map (vp := (pAgg Qt.cells)) (e := 92) key_9 (Qt.mk 0 0) (by kernel_rfl) x153.Product v115) (ap (mset_map (vp := (pAgg Qt.cells)) key_9 x153.Product (Qt.mk (wr64 ((mGet seq (Qt.mk 0 0) x153.Product v115).quantity + x153.Quantity)) (wr64 ((mGet seq (Qt.mk 0 0) x153.Product v115).basis + x153.Basis))) v115) an)))))))))))))))))))) (Qs.norm ⟨(wr64 (v114 + 1)), (mPut seq x153.Product (Qt.mk (wr64 ((mGet seq (Qt.mk 0 0) x153.Product v115).quantity + x153.Quantity)) (wr64 ((mGet seq (Qt.mk 0 0) x153.Product v115).basis + x153.Basis))) v115), rfl, h⟩)
        ·obtain rfl := Qf h
         exact rK Qi 3 [j3, ([], [(1, .idx (Int.toNat v114) (Qa.cells x153))], []), (jT [3, 4, 5, 6, 7, 8, 9, 10, 11], [(12, .bool true)], []), (jT [4, 5, 6], [jH 2 (jB x156), jH 6 (jB x159), (7, .bool true)], []), ([], [(6, .bool (Qa.eqb x153 (Qa.mk x153.Member x153.Product 0 0)))], []), (jF [7, 10, 11, 12, 13, 16, 17, 18, 19], [(8, .bool false), jH 12 (jB x163), (14, .bool false), jH 18 (jB x166), (20, .bool false)], []), j3] [some true, some true] [] [] [2] .ret ((f26n2E ba1 .ret).2) (ap h117 (ap (Qh h154).1 (ap (Ql Qa.cells (Qh h154).2) (ap2 h155 (ap4 h155 (ap4 h155 (ap4 h158 (ap (Qv x153.Quantity 1048576 h157) (ap (Qv x153.Basis 1125899906842624 h160) (ap (Qa.eqb_ok x153 (Qa.mk x153.Member x153.Product 0 0)) (ap2 (Qk h161) (ap h162 (ap4 h162 (ap (Qk h165) (ap4 (Qk h165) (ap (Qao x153.Member h164) (ap (Qct x153.Product h167) (ap (Qr h168) an)))))))))))))))))) (Qs.out rfl rfl)
       ·obtain rfl := Qf h
        exact rK Qi 3 [j3, ([], [(1, .idx (Int.toNat v114) (Qa.cells x153))], []), (jT [3, 4, 5, 6, 7, 8, 9, 10, 11], [(12, .bool true)], []), (jT [4, 5, 6], [jH 2 (jB x156), jH 6 (jB x159), (7, .bool true)], []), ([], [(6, .bool (Qa.eqb x153 (Qa.mk x153.Member x153.Product 0 0)))], []), (jF [7, 10, 11, 12, 13] ++ jT [16, 17, 18, 19], [(8, .bool false), jH 12 (jB x163), (14, .bool false), (20, .bool true)], []), j3] [some true, none] [] [] [2] .ret ((f26n2E ba1 .ret).2) (ap h117 (ap (Qh h154).1 (ap (Ql Qa.cells (Qh h154).2) (ap2 h155 (ap4 h155 (ap4 h155 (ap4 h158 (ap (Qv x153.Quantity 1048576 h157) (ap (Qv x153.Basis 1125899906842624 h160) (ap (Qa.eqb_ok x153 (Qa.mk x153.Member x153.Product 0 0)) (ap2 (Qk h161) (ap h162 (ap4 h162 (ap (Qr h165) (ap4 (Qr h165) (ap (Qao x153.Member h164) an)))))))))))))))) (Qs.out rfl rfl)
     ·obtain rfl := Qf h
      exact rK Qi 3 [j3, ([], [(1, .idx (Int.toNat v114) (Qa.cells x153))], []), (jT [3, 4, 5, 6, 7, 8, 9, 10, 11], [(12, .bool true)], []), (jT [4, 5, 6], [jH 2 (jB x156), jH 6 (jB x159), (7, .bool true)], []), ([], [(6, .bool (Qa.eqb x153 (Qa.mk x153.Member x153.Product 0 0)))], []), ([(7, true)], [(8, .bool true)], []), j3] [some true, none] [] [] [2] .ret ((f26n2E ba1 .ret).2) (ap h117 (ap (Qh h154).1 (ap (Ql Qa.cells (Qh h154).2) (ap2 h155 (ap4 h155 (ap4 h155 (ap4 h158 (ap (Qv x153.Quantity 1048576 h157) (ap (Qv x153.Basis 1125899906842624 h160) (ap (Qa.eqb_ok x153 (Qa.mk x153.Member x153.Product 0 0)) (ap2 (Qr h161) an))))))))))) (Qs.out rfl rfl)
    ·obtain rfl := Qf h
     exact rK Qi 3 [j3, ([], [(1, .idx (Int.toNat v114) (Qa.cells x153))], []), (jT [3, 4, 5, 6, 7, 8, 9, 10, 11], [(12, .bool true)], []), (jF [4, 5, 6], [jH 2 (jB x156), (7, .bool false)], []), ([], [(6, .bool (Qa.eqb x153 (Qa.mk x153.Member x153.Product 0 0)))], []), j3, j3] [some true, none] [] [] [2] .ret ((f26n2E ba1 .ret).2) (ap h117 (ap (Qh h154).1 (ap (Ql Qa.cells (Qh h154).2) (ap2 h155 (ap4 h155 (ap4 h155 (ap4 h158 (ap (Qv x153.Quantity 1048576 h157) (ap (Qa.eqb_ok x153 (Qa.mk x153.Member x153.Product 0 0)) an))))))))) (Qs.out rfl rfl)
   ·obtain ⟨x169, h170, h⟩ := Qe h
    obtain ⟨x171, h172, h⟩ := Qe h
    obtain ⟨x173, h174, h⟩ := Qe h
    rcases Qg h with ⟨h175, h⟩ | ⟨h175, h⟩
    ·obtain ⟨x176, h177, h⟩ := Qe h
     rcases Qg h with ⟨h178, h⟩ | ⟨h178, h⟩
     ·rcases Qg h with ⟨h179, h⟩ | ⟨h179, h⟩
      ·rcases Qg h with ⟨h180, h⟩ | ⟨h180, h⟩
       ·obtain rfl := Qf h
        exact rK Qi 3 [j3, ([], [(1, .idx (Int.toNat v114) (Qa.cells x153))], []), (jF [3, 4, 5, 6, 7, 8, 9, 10, 11], [(7, .idx (Int.toNat (wr64 (v114 - 1))) (Qa.cells x169)), jH 10 (jI x171), (12, .bool false)], []), (jT [4, 5, 6], [jH 2 (jB x173), jH 6 (jB x176), (7, .bool true)], []), ([], [(6, .bool (Qa.eqb x153 (Qa.mk x153.Member x153.Product 0 0)))], []), (jF [3, 4, 7] ++ jT [10, 11, 12, 13], [(5, .bool false), (8, .bool false), (14, .bool true)], []), j3] [some true, none] [] [] [2] .ret ((f26n2E ba1 .ret).2) (ap h117 (ap (Qh h154).1 (ap (Ql Qa.cells (Qh h154).2) (ap h155 (ap4 h155 (ap (Qh h170).1 (ap (Ql Qa.cells (Qh h170).2) (ap h155 (ap4 h155 (ap (f53_ok x169 x153 h172) (ap4 h175 (ap (Qv x153.Quantity 1048576 h174) (ap (Qv x153.Basis 1125899906842624 h177) (ap (Qa.eqb_ok x153 (Qa.mk x153.Member x153.Product 0 0)) (ap3 (Qk h178) (ap2 (Qk h179) (ap h180 (ap4 h180 an)))))))))))))))))) (Qs.out rfl rfl)
       ·obtain ⟨x181, h182, h⟩ := Qe h
        rcases Qg h with ⟨h183, h⟩ | ⟨h183, h⟩
        ·obtain ⟨x184, h185, h⟩ := Qe h
         rcases Qg h with ⟨h186, h⟩ | ⟨h186, h⟩
         ·exact rE Qi [j3, ([], [(1, .idx (Int.toNat v114) (Qa.cells x153))], []), (jF [3, 4, 5, 6, 7, 8, 9, 10, 11], [(7, .idx (Int.toNat (wr64 (v114 - 1))) (Qa.cells x169)), jH 10 (jI x171), (12, .bool false)], []), (jT [4, 5, 6], [jH 2 (jB x173), jH 6 (jB x176), (7, .bool true)], []), ([], [(6, .bool (Qa.eqb x153 (Qa.mk x153.Member x153.Product 0 0)))], []), (jF [3, 4, 7, 10, 11, 12, 13, 16, 17, 18, 19], [(5, .bool false), (8, .bool false), jH 12 (jB x181), (14, .bool false), jH 18 (jB x184), (20, .bool false)], []), ([], [(3, .look ((pAgg Qt.cells) (mGet seq (Qt.mk 0 0) x153.Product v115)) (mHas seq x153.Product v115))], []), ([], [(14, .mset ((mPut seq x153.Product (Qt.mk (wr64 ((mGet seq (Qt.mk 0 0) x153.Product v115).quantity + x153.Quantity)) (wr64 ((mGet seq (Qt.mk 0 0) x153.Product v115).basis + x153.Basis))) v115).map (mkv pStr (pAgg Qt.cells))))], []), j3] [some true, some false] [] [0, 1] [1, 3, 28, 29, 30] (.norm, (f26n2S ba1 (wr64 (v114 + 1)) (mPut seq x153.Product (Qt.mk (wr64 ((mGet seq (Qt.mk 0 0) x153.Product v115).quantity + x153.Quantity)) (wr64 ((mGet seq (Qt.mk 0 0) x153.Product v115).basis + x153.Basis))) v115))) (ap h117 (ap (Qh h154).1 (ap (Ql Qa.cells (Qh h154).2) (ap h155 (ap4 h155 (ap (Qh h170).1 (ap (Ql Qa.cells (Qh h170).2) (ap h155 (ap4 h155 (ap (f53_ok x169 x153 h172) (ap4 h175 (ap (Qv x153.Quantity 1048576 h174) (ap (Qv x153.Basis 1125899906842624 h177) (ap (Qa.eqb_ok x153 (Qa.mk x153.Member x153.Product 0 0)) (ap3 (Qk h178) (ap2 (Qk h179) (ap h180 (ap4 h180 (ap (Qk h183) (ap4 (Qk h183) (ap (Qao x153.Member h182) (ap (Qct x153.Product h185) (ap (Qk h186) (ap (look_map (vp := (pAgg Qt.cells)) (e := 92) key_9 (Qt.mk 0 0) (by kernel_rfl) x153.Product v115) (ap (mset_map (vp := (pAgg Qt.cells)) key_9 x153.Product (Qt.mk (wr64 ((mGet seq (Qt.mk 0 0) x153.Product v115).quantity + x153.Quantity)) (wr64 ((mGet seq (Qt.mk 0 0) x153.Product v115).basis + x153.Basis))) v115) an))))))))))))))))))))))))) (Qs.norm ⟨(wr64 (v114 + 1)), (mPut seq x153.Product (Qt.mk (wr64 ((mGet seq (Qt.mk 0 0) x153.Product v115).quantity + x153.Quantity)) (wr64 ((mGet seq (Qt.mk 0 0) x153.Product v115).basis + x153.Basis))) v115), rfl, h⟩)
         ·obtain rfl := Qf h
          exact rK Qi 3 [j3, ([], [(1, .idx (Int.toNat v114) (Qa.cells x153))], []), (jF [3, 4, 5, 6, 7, 8, 9, 10, 11], [(7, .idx (Int.toNat (wr64 (v114 - 1))) (Qa.cells x169)), jH 10 (jI x171), (12, .bool false)], []), (jT [4, 5, 6], [jH 2 (jB x173), jH 6 (jB x176), (7, .bool true)], []), ([], [(6, .bool (Qa.eqb x153 (Qa.mk x153.Member x153.Product 0 0)))], []), (jF [3, 4, 7, 10, 11, 12, 13, 16, 17, 18, 19], [(5, .bool false), (8, .bool false), jH 12 (jB x181), (14, .bool false), jH 18 (jB x184), (20, .bool false)], []), j3] [some true, some true] [] [] [2] .ret ((f26n2E ba1 .ret).2) (ap h117 (ap (Qh h154).1 (ap (Ql Qa.cells (Qh h154).2) (ap h155 (ap4 h155 (ap (Qh h170).1 (ap (Ql Qa.cells (Qh h170).2) (ap h155 (ap4 h155 (ap (f53_ok x169 x153 h172) (ap4 h175 (ap (Qv x153.Quantity 1048576 h174) (ap (Qv x153.Basis 1125899906842624 h177) (ap (Qa.eqb_ok x153 (Qa.mk x153.Member x153.Product 0 0)) (ap3 (Qk h178) (ap2 (Qk h179) (ap h180 (ap4 h180 (ap (Qk h183) (ap4 (Qk h183) (ap (Qao x153.Member h182) (ap (Qct x153.Product h185) (ap (Qr h186) an))))))))))))))))))))))) (Qs.out rfl rfl)
        ·obtain rfl := Qf h
         exact rK Qi 3 [j3, ([], [(1, .idx (Int.toNat v114) (Qa.cells x153))], []), (jF [3, 4, 5, 6, 7, 8, 9, 10, 11], [(7, .idx (Int.toNat (wr64 (v114 - 1))) (Qa.cells x169)), jH 10 (jI x171), (12, .bool false)], []), (jT [4, 5, 6], [jH 2 (jB x173), jH 6 (jB x176), (7, .bool true)], []), ([], [(6, .bool (Qa.eqb x153 (Qa.mk x153.Member x153.Product 0 0)))], []), (jF [3, 4, 7, 10, 11, 12, 13] ++ jT [16, 17, 18, 19], [(5, .bool false), (8, .bool false), jH 12 (jB x181), (14, .bool false), (20, .bool true)], []), j3] [some true, none] [] [] [2] .ret ((f26n2E ba1 .ret).2) (ap h117 (ap (Qh h154).1 (ap (Ql Qa.cells (Qh h154).2) (ap h155 (ap4 h155 (ap (Qh h170).1 (ap (Ql Qa.cells (Qh h170).2) (ap h155 (ap4 h155 (ap (f53_ok x169 x153 h172) (ap4 h175 (ap (Qv x153.Quantity 1048576 h174) (ap (Qv x153.Basis 1125899906842624 h177) (ap (Qa.eqb_ok x153 (Qa.mk x153.Member x153.Product 0 0)) (ap3 (Qk h178) (ap2 (Qk h179) (ap h180 (ap4 h180 (ap (Qr h183) (ap4 (Qr h183) (ap (Qao x153.Member h182) an))))))))))))))))))))) (Qs.out rfl rfl)
      ·obtain rfl := Qf h
       exact rK Qi 3 [j3, ([], [(1, .idx (Int.toNat v114) (Qa.cells x153))], []), (jF [3, 4, 5, 6, 7, 8, 9, 10, 11], [(7, .idx (Int.toNat (wr64 (v114 - 1))) (Qa.cells x169)), jH 10 (jI x171), (12, .bool false)], []), (jT [4, 5, 6], [jH 2 (jB x173), jH 6 (jB x176), (7, .bool true)], []), ([], [(6, .bool (Qa.eqb x153 (Qa.mk x153.Member x153.Product 0 0)))], []), (jF [3, 4] ++ jT [7], [(5, .bool false), (8, .bool true)], []), j3] [some true, none] [] [] [2] .ret ((f26n2E ba1 .ret).2) (ap h117 (ap (Qh h154).1 (ap (Ql Qa.cells (Qh h154).2) (ap h155 (ap4 h155 (ap (Qh h170).1 (ap (Ql Qa.cells (Qh h170).2) (ap h155 (ap4 h155 (ap (f53_ok x169 x153 h172) (ap4 h175 (ap (Qv x153.Quantity 1048576 h174) (ap (Qv x153.Basis 1125899906842624 h177) (ap (Qa.eqb_ok x153 (Qa.mk x153.Member x153.Product 0 0)) (ap3 (Qk h178) (ap2 (Qr h179) an)))))))))))))))) (Qs.out rfl rfl)
     ·obtain rfl := Qf h
      exact rK Qi 3 [j3, ([], [(1, .idx (Int.toNat v114) (Qa.cells x153))], []), (jF [3, 4, 5, 6, 7, 8, 9, 10, 11], [(7, .idx (Int.toNat (wr64 (v114 - 1))) (Qa.cells x169)), jH 10 (jI x171), (12, .bool false)], []), (jT [4, 5, 6], [jH 2 (jB x173), jH 6 (jB x176), (7, .bool true)], []), ([], [(6, .bool (Qa.eqb x153 (Qa.mk x153.Member x153.Product 0 0)))], []), ([(3, true), (4, true)], [(5, .bool true)], []), j3] [some true, none] [] [] [2] .ret ((f26n2E ba1 .ret).2) (ap h117 (ap (Qh h154).1 (ap (Ql Qa.cells (Qh h154).2) (ap h155 (ap4 h155 (ap (Qh h170).1 (ap (Ql Qa.cells (Qh h170).2) (ap h155 (ap4 h155 (ap (f53_ok x169 x153 h172) (ap4 h175 (ap (Qv x153.Quantity 1048576 h174) (ap (Qv x153.Basis 1125899906842624 h177) (ap (Qa.eqb_ok x153 (Qa.mk x153.Member x153.Product 0 0)) (ap3 (Qr h178) an))))))))))))))) (Qs.out rfl rfl)
    ·rcases Qg h with ⟨h187, h⟩ | ⟨h187, h⟩
     ·obtain rfl := Qf h
      exact rK Qi 3 [j3, ([], [(1, .idx (Int.toNat v114) (Qa.cells x153))], []), (jF [3, 4, 5, 6, 7, 8, 9, 10, 11], [(7, .idx (Int.toNat (wr64 (v114 - 1))) (Qa.cells x169)), jH 10 (jI x171), (12, .bool false)], []), (jF [4, 5, 6], [jH 2 (jB x173), (7, .bool false)], []), ([], [(6, .bool (Qa.eqb x153 (Qa.mk x153.Member x153.Product 0 0)))], []), ([(3, false), (4, false)], [(5, .bool false)], []), j3] [some true, none] [] [] [2] .ret ((f26n2E ba1 .ret).2) (ap h117 (ap (Qh h154).1 (ap (Ql Qa.cells (Qh h154).2) (ap h155 (ap4 h155 (ap (Qh h170).1 (ap (Ql Qa.cells (Qh h170).2) (ap h155 (ap4 h155 (ap (f53_ok x169 x153 h172) (ap4 h175 (ap (Qv x153.Quantity 1048576 h174) (ap (Qa.eqb_ok x153 (Qa.mk x153.Member x153.Product 0 0)) (ap3 (Qk h187) an)))))))))))))) (Qs.out rfl rfl)
     ·obtain rfl := Qf h
      exact rK Qi 3 [j3, ([], [(1, .idx (Int.toNat v114) (Qa.cells x153))], []), (jF [3, 4, 5, 6, 7, 8, 9, 10, 11], [(7, .idx (Int.toNat (wr64 (v114 - 1))) (Qa.cells x169)), jH 10 (jI x171), (12, .bool false)], []), (jF [4, 5, 6], [jH 2 (jB x173), (7, .bool false)], []), ([], [(6, .bool (Qa.eqb x153 (Qa.mk x153.Member x153.Product 0 0)))], []), ([(3, true), (4, true)], [(5, .bool true)], []), j3] [some true, none] [] [] [2] .ret ((f26n2E ba1 .ret).2) (ap h117 (ap (Qh h154).1 (ap (Ql Qa.cells (Qh h154).2) (ap h155 (ap4 h155 (ap (Qh h170).1 (ap (Ql Qa.cells (Qh h170).2) (ap h155 (ap4 h155 (ap (f53_ok x169 x153 h172) (ap4 h175 (ap (Qv x153.Quantity 1048576 h174) (ap (Qa.eqb_ok x153 (Qa.mk x153.Member x153.Product 0 0)) (ap3 (Qr h187) an)))))))))))))) (Qs.out rfl rfl)
  ·obtain rfl := Qf h
   exact rK Qi 2 [j3] [some false] [] [1] [3] (.exit 0) ((f26n2E ba1 (.exit0 v115)).2) (ap h117 an) (Qs.out rfl rfl)
noncomputable def f26n2L (ba1 : Qd) : List Qa → Int → (List (ByteArray × Qt)) → Option f26n2O
 | [], v114, v115 =>
  some (.exit0 v115)
 | x0 :: rest, v114, v115 =>
  bif (decide (v114 = 0)) then
   (f37 x0.Quantity 1048576).bind fun x156 =>
   bif x156 then
    (f37 x0.Basis 1125899906842624).bind fun x159 =>
    bif x159 then
     bif (Qa.eqb x0 (Qa.mk x0.Member x0.Product 0 0)) then
      some .ret
     else
      (f44 x0.Member).bind fun x163 =>
      bif x163 then
       (f45 x0.Product).bind fun x166 =>
       bif x166 then
        (f26n2L ba1 rest (v114 + 1) (mPut seq x0.Product (Qt.mk (wr64 ((mGet seq (Qt.mk 0 0) x0.Product v115).quantity + x0.Quantity)) (wr64 ((mGet seq (Qt.mk 0 0) x0.Product v115).basis + x0.Basis))) v115))
       else
        some .ret
      else
       some .ret
    else
     some .ret
   else
    some .ret
  else
   (at? ba1.Positions (wr64 (v114 - 1))).bind fun x169 =>
   (f53 x169 x0).bind fun x171 =>
   (f37 x0.Quantity 1048576).bind fun x173 =>
   bif x173 then
    (f37 x0.Basis 1125899906842624).bind fun x176 =>
    bif (decide (x171 < 0)) then
     bif x176 then
      bif (Qa.eqb x0 (Qa.mk x0.Member x0.Product 0 0)) then
       some .ret
      else
       (f44 x0.Member).bind fun x181 =>
       bif x181 then
        (f45 x0.Product).bind fun x184 =>
        bif x184 then
         (f26n2L ba1 rest (v114 + 1) (mPut seq x0.Product (Qt.mk (wr64 ((mGet seq (Qt.mk 0 0) x0.Product v115).quantity + x0.Quantity)) (wr64 ((mGet seq (Qt.mk 0 0) x0.Product v115).basis + x0.Basis))) v115))
        else
         some .ret
       else
        some .ret
     else
      some .ret
    else
     some .ret
   else
    bif (decide (x171 < 0)) then
     some .ret
    else
     some .ret
theorem f26n2L_eq (ba1 : Qd) : ∀ (rest : List Qa) (f k : Nat) (v115 : List (ByteArray × Qt)), ba1.Positions.drop k = rest → ba1.Positions.length ≤ maxLen → rest.length < f → f26n2 f ba1 (k : Int) v115 = f26n2L ba1 rest (k : Int) v115
 | _, 0, _, _, _, _, hf => absurd hf (Nat.not_lt_zero _)
 | [], f + 1, k, v115, hd, hm, hf => by
  have hk : ¬ ((k : Int) < (ba1.Positions.length : Int)) := by have := Qai hd; omega
  rw [f26n2, f26n2L]
  simp only [decide_eq_false hk, cond_false]
 | x0 :: rest, f + 1, k, v115, hd, hm, hf => by
  obtain ⟨hx, hlt, hd'⟩ := Qab hd
  have hk : (k : Int) < (ba1.Positions.length : Int) := by omega
  have hw : wr64 ((k : Int) + 1) = (k : Int) + 1 := Qbe (by omega) (by unfold maxLen at hm; omega)
  have ih : ∀ (v115 : List (ByteArray × Qt)), f26n2 f ba1 ((k : Int) + 1) v115 = f26n2L ba1 rest ((k : Int) + 1) v115 := fun v115 => f26n2L_eq ba1 rest f (k + 1) v115 hd' hm (by simpa using hf)
  rw [f26n2, f26n2L]
  simp only [decide_eq_true hk, cond_true, Qah, hx, Option.bind_some, hw, ih]
theorem f26n2_run (ba1 : Qd) (v115 : List (ByteArray × Qt)) (hm : ba1.Positions.length ≤ maxLen) : f26n2 FUEL ba1 0 v115 = f26n2L ba1 ba1.Positions 0 v115 := f26n2L_eq ba1 ba1.Positions FUEL 0 v115 List.drop_zero hm (Qat hm)
inductive f26n1O where
 | norm (v192 : List (ByteArray × Qt))
 | ret
def f26n1E (ba1 : Qd) : f26n1O → Ex × Tr × Hp
 | .norm v192 => (.norm, mkS [(3, (.mp 0))], [some (.map (v192.map (mkv pStr (pAgg Qt.cells))))])
 | .ret => (.ret, mkS [(2, (jI 8))], [])
def f26n1S (ba1 : Qd) : Tr × Hp := (mkS [(1, (.bp 0 0)), (3, (.mp 1))], [some (.box ((Qd.cells ba1).map .pl)), some (.map ([].map (mkv pStr (pAgg Qt.cells))))])
noncomputable def f26n1 (ba1 : Qd) : Option f26n1O :=
 (f26n2 FUEL ba1 0 []).bind fun o189 => match o189 with
 | .exit0 v191 => some (.norm v191)
 | .ret => some .ret
theorem f26n1_ok (ba1 : Qd) {o : f26n1O} (h : (f26n1 ba1) = some o) : T Try.prog Try.f26.ntmps 0 (cL (Qn 3 c26)) (f26n1S ba1) (fun r => r = f26n1E ba1 o) := by
 unfold f26n1 at h
 refine rN Qi 1 [([], [], [(2, .val (jI (ba1.Positions.length : Int)))])] [] [] [0, 1] [1, 3, 28, 29, 30] (f26n2S ba1 0 []) (ap (Qo (xs := ba1.Positions) (c := Qa.cells)) an) ?_
 obtain ⟨o189, h190, h⟩ := Qe h
 cases o189 with
 | exit0 v191 =>
  obtain rfl := Qf h
  exact T.last' (T.bl (i := 0) (by kernel_rfl) (by kernel_rfl) (f26n2_ok FUEL ba1 0 [] h190)) (tds := []) (m := [0]) (keep := [3]) (st2 := (f26n1E ba1 (.norm v191)).2) (by kernel_rfl) an rfl
 | ret =>
  obtain rfl := Qf h
  exact T.last' (T.bl (i := 0) (by kernel_rfl) (by kernel_rfl) (f26n2_ok FUEL ba1 0 [] h190)) (tds := []) (m := []) (keep := [2]) (st2 := (f26n1E ba1 .ret).2) (by kernel_rfl) an rfl
inductive f26n4O where
 | exit2
 | ret
def f26n4E (bd1 : List (ByteArray × Qt)) : f26n4O → Ex × Tr × Hp
 | .exit2 => ((.exit 2), mkS [], [])
 | .ret => (.ret, mkS [(2, (jI 8))], [])
def f26n4S (bd1 : List (ByteArray × Qt)) (sn0 : List Nat) : Tr × Hp := (mkS [(104, (.it 0))], [some (.iter 1 (bd1.map (mkv pStr (pAgg Qt.cells))).length sn0), some (.map (bd1.map (mkv pStr (pAgg Qt.cells))))])
noncomputable def f26n4 (bd1 : List (ByteArray × Qt)) : List (ByteArray × Qt) → Option f26n4O
 | [] =>
  some .exit2
 | x202 :: rest =>
  bif (Qt.eqb x202.2 (Qt.mk 0 0)) then
   (f26n4 bd1 rest)
  else
   some .ret
theorem f26n4_ok (bd1 : List (ByteArray × Qt)) : ∀ (f : Nat) (sn0 rem : List Nat) {o : f26n4O}, Rem bd1.length sn0 rem → rem.length < f → (∀ p, p.Perm rem → f26n4 bd1 (ords bd1 p) = some o) → TL Try.prog Try.f26.ntmps 0 f (cL (cL (Qn 1 (cL (Qn 0 (Qn 1 (Qn 3 c26))))))) (f26n4S bd1 sn0) (fun r => r = f26n4E bd1 o)
 | 0, _, _, _, _, hf, _ => absurd hf (Nat.not_lt_zero _)
 | f + 1, sn0, rem, o, hR, hf, H => by
  refine TL.body (K := fun s => ∃ (sn0 rem : List Nat), s = f26n4S bd1 sn0 ∧ Rem bd1.length sn0 rem ∧ rem.length < f ∧ (∀ p, p.Perm rem → f26n4 bd1 (ords bd1 p) = some o)) ?_ (by rintro _ ⟨sn0, rem, rfl, h1, h2, h3⟩; exact f26n4_ok bd1 f sn0 rem h1 h2 h3)
  refine T.oneNext Qi (x := .tmp 104) (t := 105) (tb := 106) (i := 0) (o := 1) (m := (bd1.map (mkv pStr (pAgg Qt.cells))).length) (seen := sn0) (kvs := (bd1.map (mkv pStr (pAgg Qt.cells)))) (by kernel_rfl) (by kernel_rfl) (by kernel_rfl) (by kernel_rfl) (by kernel_rfl) (by kernel_rfl) rfl (fun hs => ?_) (fun j201 k v hj hs hx => ?_)
  ·obtain rfl := hR.none (by simpa using hs)
   have h : f26n4 bd1 [] = some o := H [] (List.Perm.refl _)
   rw [f26n4] at h
   obtain rfl := Qf h
   exact rK Qi 1 [] [none] [] [] [] (.exit 2) ((f26n4E bd1 .exit2).2) an (Qs.out rfl rfl)
  ·obtain ⟨x202, h203, rfl, rfl⟩ := mkv_at hx
   obtain ⟨hR2, hlen, hP⟩ := hR.step (j := j201) (by simpa using hj) hs
   have H2 : ∀ p, p.Perm (rem.erase j201) → f26n4 bd1 (x202 :: ords bd1 p) = some o := fun p hp => by have h := H _ (hP p hp); rwa [ords_cons h203] at h
   have h := H2 _ (List.Perm.refl _)
   rw [f26n4] at h
   rcases Qg h with ⟨h205, h⟩ | ⟨h205, h⟩
   ·exact rE Qi [([], [(0, .entr j201 (pStr x202.1) ((pAgg Qt.cells) x202.2))], []), ([], [(2, .bool (Qt.eqb x202.2 (Qt.mk 0 0)))], [])] [none, some false] [] [0, 1] [104] (.norm, (f26n4S bd1 (sn0 ++ [j201]))) (ap (last_app (seen := sn0) (j := j201)) (ap (rfl : (bd1.map (mkv pStr (pAgg Qt.cells))).length = (bd1.map (mkv pStr (pAgg Qt.cells))).length) (ap (at_mkv (kp := pStr) (vp := (pAgg Qt.cells)) h203) (ap (Qt.eqb_ok x202.2 (Qt.mk 0 0)) (ap (Qk h205) an))))) (Qs.norm ⟨sn0 ++ [j201], rem.erase j201, rfl, hR2, by omega, fun p hp => by have h := H2 p hp; rw [f26n4] at h; simp only [h205, cond_true, cond_false, Option.bind_some, req] at h; exact h⟩)
   ·obtain rfl := Qf h
    exact rE Qi [([], [(0, .entr j201 (pStr x202.1) ((pAgg Qt.cells) x202.2))], []), ([], [(2, .bool (Qt.eqb x202.2 (Qt.mk 0 0)))], []), j3] [none, some true] [] [] [2] (.ret, (f26n4E bd1 .ret).2) (ap (last_app (seen := sn0) (j := j201)) (ap (rfl : (bd1.map (mkv pStr (pAgg Qt.cells))).length = (bd1.map (mkv pStr (pAgg Qt.cells))).length) (ap (at_mkv (kp := pStr) (vp := (pAgg Qt.cells)) h203) (ap (Qt.eqb_ok x202.2 (Qt.mk 0 0)) (ap (Qr h205) an))))) (Qs.out rfl rfl)
inductive f26n3O where
 | norm
 | ret
def f26n3E (bd1 : List (ByteArray × Qt)) : f26n3O → Ex × Tr × Hp
 | .norm => (.norm, mkS [], [])
 | .ret => (.ret, mkS [(2, (jI 8))], [])
def f26n3S (bd1 : List (ByteArray × Qt)) : Tr × Hp := (mkS [(3, (.mp 0))], [some (.map (bd1.map (mkv pStr (pAgg Qt.cells))))])
noncomputable def f26n3 (bd1 : List (ByteArray × Qt)) : Option f26n3O :=
 (anyOrder bd1 fun p => (f26n4 bd1 p)).bind fun o206 => match o206 with
 | .exit2 => some .norm
 | .ret => some .ret
theorem f26n3_ok (bd1 : List (ByteArray × Qt)) {o : f26n3O} (h : (f26n3 bd1) = some o) : T Try.prog Try.f26.ntmps 0 (cL (Qn 0 (Qn 1 (Qn 3 c26)))) (f26n3S bd1) (fun r => r = f26n3E bd1 o) := by
 unfold f26n3 at h
 refine rN Qi 1 [j3] [] [] [1, 0] [104] (f26n4S bd1 []) an ?_
 obtain ⟨o206, h207, h⟩ := Qe h
 cases o206 with
 | exit2 =>
  obtain rfl := Qf h
  exact T.last' (T.bl (i := 2) (by kernel_rfl) (by kernel_rfl) (f26n4_ok bd1 _ [] (List.range bd1.length) (Rem.start _) (Nat.lt_succ_self _) (fun p hp => anyOrder_at h207 _ (ords_perm hp)))) (tds := []) (m := []) (keep := []) (st2 := (f26n3E bd1 .norm).2) (by kernel_rfl) an rfl
 | ret =>
  obtain rfl := Qf h
  exact T.last' (T.bl (i := 2) (by kernel_rfl) (by kernel_rfl) (f26n4_ok bd1 _ [] (List.range bd1.length) (Rem.start _) (Nat.lt_succ_self _) (fun p hp => anyOrder_at h207 _ (ords_perm hp)))) (tds := []) (m := []) (keep := [2]) (st2 := (f26n3E bd1 .ret).2) (by kernel_rfl) an rfl
inductive f26n0O where
 | ret (v210 : Int)
def f26n0E (a1 : Qd) : f26n0O → Ex × Tr × Hp
 | .ret v210 => (.ret, mkS [(2, (jI v210))], [])
def f26n0S (a1 : Qd) : Tr × Hp := (Qal [(jA Qd.cells a1)] 0 .leaf, [])
noncomputable def f26n0 (a1 : Qd) : Option f26n0O :=
 bif (decide (a1.Day < 0)) then
  some (.ret 8)
 else
  bif (decide (99999 < a1.Day)) then
   some (.ret 8)
  else
   bif (decide (200 < (a1.Positions.length : Int))) then
    some (.ret 8)
   else
    (f26n1 a1).bind fun o193 => match o193 with
    | .norm v195 => (f26n3 v195).bind fun o208 => match o208 with
     | .norm => some (.ret 0)
     | .ret => some (.ret 8)
    | .ret => some (.ret 8)
theorem f26n0_ok (a1 : Qd) {o : f26n0O} (h : (f26n0 a1) = some o) : T Try.prog Try.f26.ntmps 0 c26 (f26n0S a1) (fun r => r = f26n0E a1 o) := by
 unfold f26n0 at h
 rcases Qg h with ⟨h5, h⟩ | ⟨h5, h⟩
 ·obtain rfl := Qf h
  exact rK Qi 2 [j3, (jT [4, 5, 6], [(7, .bool true)], []), j3] [none] [] [] [2] .ret ((f26n0E a1 (.ret 8)).2) (ap4 h5 an) rfl
 ·rcases Qg h with ⟨h6, h⟩ | ⟨h6, h⟩
  ·obtain rfl := Qf h
   exact rK Qi 2 [j3, (jF [4, 5, 6] ++ jT [9, 10, 11, 12], [(7, .bool false), (13, .bool true)], []), j3] [none] [] [] [2] .ret ((f26n0E a1 (.ret 8)).2) (ap4 h5 (ap h6 (ap4 h6 an))) rfl
  ·rcases Qg h with ⟨h7, h⟩ | ⟨h7, h⟩
   ·obtain rfl := Qf h
    exact rK Qi 2 [j3, (jF [4, 5, 6, 9, 10, 11, 12], [(7, .bool false), (13, .bool false)], [(11, .val (jI (a1.Positions.length : Int)))]), j3] [some true] [] [] [2] .ret ((f26n0E a1 (.ret 8)).2) (ap4 h5 (ap3 h6 (ap (Qo (xs := a1.Positions) (c := Qa.cells)) (ap2 h6 (ap h7 an))))) rfl
   ·refine rN Qi 3 [j3, (jF [4, 5, 6, 9, 10, 11, 12], [(7, .bool false), (13, .bool false)], [(11, .val (jI (a1.Positions.length : Int)))]), j3] [some false] [] [0, 1] [1, 3] (f26n1S a1) (ap4 h5 (ap3 h6 (ap (Qo (xs := a1.Positions) (c := Qa.cells)) (ap2 h6 (ap h7 an))))) ?_
    obtain ⟨o193, h194, h⟩ := Qe h
    cases o193 with
    | norm v195 =>
     refine T.oneN (by kernel_rfl) (f26n1_ok a1 h194) (st2 := (f26n1E a1 (.norm v195)).2) rfl ?_
     refine rN Qi 0 [] [] [] [0] [3] (f26n3S v195) an ?_
     obtain ⟨o208, h209, h⟩ := Qe h
     cases o208 with
     | norm =>
      refine T.oneN (by kernel_rfl) (f26n3_ok v195 h209) (st2 := (f26n3E v195 .norm).2) rfl ?_
      obtain rfl := Qf h
      exact rE Qi [j3] [] [] [] [2] (.ret, (f26n0E a1 (.ret 0)).2) an rfl
     | ret =>
      obtain rfl := Qf h
      exact T.oneX' (by kernel_rfl) (f26n3_ok v195 h209) (tds := []) (m := []) (keep := [2]) (st2 := (f26n0E a1 (.ret 8)).2) (by kernel_rfl) an rfl rfl
    | ret =>
     obtain rfl := Qf h
     exact T.oneX' (by kernel_rfl) (f26n1_ok a1 h194) (tds := []) (m := []) (keep := [2]) (st2 := (f26n0E a1 (.ret 8)).2) (by kernel_rfl) an rfl rfl
noncomputable def f26 (a1 : Qd) : Option Int := (f26n0 a1).bind fun o => match o with
 | .ret v210 => some v210
theorem Qby (a1 : Qd) {r : Int} (h : (f26 a1) = some r) : Qq Try.prog false 26 [(jA Qd.cells a1)] [] (jI r) [] := by
 unfold f26 at h
 obtain ⟨o, ho, h⟩ := Qe h
 cases o with
 | ret v210 =>
  obtain rfl := Qf h
  exact Qq.plain Qi (f := Try.f26) (c := c26) (by kernel_rfl) (by kernel_rfl) (by kernel_rfl) (by kernel_rfl) ((f26n0_ok a1 ho).mono fun r e => by subst e; exact ⟨.inl rfl, (jI v210), (jI v210), by kernel_rfl, by kernel_rfl, ((Wk.refl _) : Wk (jI v210) (jI v210))⟩)

noncomputable def c47 : Code := Try.f47.body.getD .skip
inductive f47r1n0O where
 | ret (v5 : List Qa)
def f47r1n0E (a1 : List Qa) : f47r1n0O → Ex × Tr × Hp
 | .ret v5 => (.ret, mkS [(2, (.own 0))], [jR 4 Qa.cells v5])
def f47r1n0S (a1 : List Qa) : Tr × Hp := (Qal [(jL 4 Qa.cells a1)] 0 .leaf, [])
noncomputable def f47r1n0 (a1 : List Qa) : Option f47r1n0O :=
 bif (a1.isEmpty) then
  some (.ret [])
 else
  req (fit a1.length 48) <|
  some (.ret a1)
theorem f47r1n0_ok (a1 : List Qa) {o : f47r1n0O} (h : (f47r1n0 a1) = some o) : T Try.prog Try.f47.ntmps 0 c47 (f47r1n0S a1) (fun r => r = f47r1n0E a1 o) := by
 unfold f47r1n0 at h
 refine rN Qi 1 [j3] [] [] [] [0] (mkS [(0, (jL 4 Qa.cells a1))], []) an ?_
 refine T.nest (by kernel_rfl) ?_
 rcases Qg h with ⟨h2, h⟩ | ⟨h2, h⟩
 ·refine rN Qi 0 [] [] [] [] [0] (mkS [(0, (jL 4 Qa.cells a1))], []) an ?_
  refine T.oneNil Qi (x := .tmp 0) (t := 25) (t3 := 3) (t4 := 4) (sz := 4) (es := (a1.map Qa.cells)) (by kernel_rfl) (by kernel_rfl) (by kernel_rfl) (by kernel_rfl) (by kernel_rfl) (fun b hb => ?_)
  cases b
  ·refine rE Qi [] [none] [] [] [0] (.norm, (mkS [(0, (jL 4 Qa.cells a1))], [])) an (ThenQ.norm ?_)
   obtain rfl := Qf h
   exact rE Qi [([], [(2, .app false)], [])] [] [] [0] [2] (.ret, (f47r1n0E a1 (.ret [])).2) (ap (nil_map (c := Qa.cells) h2) an) rfl
  ·obtain rfl := Qf h
   exact rE Qi [j3] [none] [.mat 2 4] [0] [2] (.ret, (f47r1n0E a1 (.ret [])).2) an (ThenQ.out rfl rfl)
 ·refine rN Qi 0 [] [] [] [] [0] (mkS [(0, (jL 4 Qa.cells a1))], []) an ?_
  refine T.oneNil Qi (x := .tmp 0) (t := 25) (t3 := 3) (t4 := 4) (sz := 4) (es := (a1.map Qa.cells)) (by kernel_rfl) (by kernel_rfl) (by kernel_rfl) (by kernel_rfl) (by kernel_rfl) (fun b hb => ?_)
  cases b
  ·refine rE Qi [] [none] [] [] [0] (.norm, (mkS [(0, (jL 4 Qa.cells a1))], [])) an (ThenQ.norm ?_)
   obtain ⟨h4, h⟩ := Qz h
   obtain rfl := Qf h
   exact rE Qi [([], [(2, .app true)], [])] [] [] [1] [2] (.ret, (f47r1n0E a1 (.ret a1)).2) (ap (fit_map0z (te := ti52) (xs := a1) (c := Qa.cells) h4 rfl) (ap (ne_map (c := Qa.cells) h2) (ap (len_all (c := Qa.cells) (xs := a1) (n := 4) (fun _ => rfl)) an))) rfl
  ·exact absurd (hb rfl) (ne_map (c := Qa.cells) h2)
noncomputable def f47r1 (a1 : List Qa) : Option (List Qa) := (f47r1n0 a1).bind fun o => match o with
 | .ret v5 => some v5
theorem f47r1_ok (a1 : List Qa) {r : List Qa} (h : (f47r1 a1) = some r) : Qq Try.prog true 47 [(jL 4 Qa.cells a1)] [] (.own 0) [jR 4 Qa.cells r] := by
 unfold f47r1 at h
 obtain ⟨o, ho, h⟩ := Qe h
 cases o with
 | ret v5 =>
  obtain rfl := Qf h
  exact Qq.shared Qi (f := Try.f47) (c := c47) (by kernel_rfl) (by kernel_rfl) (by kernel_rfl) ((f47r1n0_ok a1 ho).mono fun r e => by subst e; exact ⟨.inl rfl, by kernel_rfl, by kernel_rfl⟩)

noncomputable def c63 : Code := Try.f63.body.getD .skip
inductive f63_53n1O where
 | exit0 (v43 : Int)
def f63_53n1E (a1 : List Qa) (a2 : Qa) : f63_53n1O → Ex × Tr × Hp
 | .exit0 v43 => ((.exit 0), mkS [(0, (jL 4 Qa.cells a1)), (2, (.pl (.fn 53))), (4, (.bp 0 0)), (8, (jI (a1.length : Int))), (9, (jI v43))], [some (.box ((Qa.cells a2).map .pl))])
def f63_53n1S (a1 : List Qa) (a2 : Qa) (v29 : Int) (v30 : Int) : Tr × Hp := (mkS [(0, (jL 4 Qa.cells a1)), (2, (.pl (.fn 53))), (4, (.bp 0 0)), (8, (jI (a1.length : Int))), (9, (jI v29)), (10, (jI v30))], [some (.box ((Qa.cells a2).map .pl))])
noncomputable def f63_53n1 : Nat → List Qa → Qa → Int → Int → Option f63_53n1O
 | 0, _, _, _, _ => none
 | f + 1, a1, a2, v29, v30 =>
  bif (decide (v29 < v30)) then
   (at? a1 (wr64 (shrK .u64 (wru64 (wr64 (v29 + v30))) 1))).bind fun x38 =>
   (f53 x38 a2).bind fun x40 =>
   bif (decide (x40 < 0)) then
    (f63_53n1 f a1 a2 (wr64 ((wr64 (shrK .u64 (wru64 (wr64 (v29 + v30))) 1)) + 1)) v30)
   else
    (f63_53n1 f a1 a2 v29 (wr64 (shrK .u64 (wru64 (wr64 (v29 + v30))) 1)))
  else
   some (.exit0 v29)
theorem f63_53n1_ok : ∀ (f : Nat) (a1 : List Qa) (a2 : Qa) (v29 : Int) (v30 : Int) {o : f63_53n1O}, (f63_53n1 f a1 a2 v29 v30) = some o → TL Try.prog Try.f63.ntmps 0 f (cL (cL (cL (Qn 3 c63)))) (f63_53n1S a1 a2 v29 v30) (fun r => r = f63_53n1E a1 a2 o)
 | 0, _, _, _, _, o, h => by rw [f63_53n1] at h; cases h
 | f + 1, a1, a2, v29, v30, o, h => by
  rw [f63_53n1] at h
  refine TL.body (K := fun s => ∃ v29 : Int, ∃ v30 : Int, s = (f63_53n1S a1 a2 v29 v30) ∧ (f63_53n1 f a1 a2 v29 v30) = some o) ?_ (by rintro _ ⟨v29, v30, rfl, hk⟩; exact f63_53n1_ok f _ _ _ _ hk)
  rcases Qg h with ⟨h32, h⟩ | ⟨h32, h⟩
  ·obtain ⟨x38, h39, h⟩ := Qe h
   obtain ⟨x40, h41, h⟩ := Qe h
   rcases Qg h with ⟨h42, h⟩ | ⟨h42, h⟩
   ·exact rE Qi [j3, j3, ([], [(3, .idx (Int.toNat (wr64 (shrK .u64 (wru64 (wr64 (v29 + v30))) 1))) (Qa.cells x38)), jH 6 (jI x40)], []), j3] [some true, some true] [] [0] [0, 2, 4, 8, 9, 10] (.norm, (f63_53n1S a1 a2 (wr64 ((wr64 (shrK .u64 (wru64 (wr64 (v29 + v30))) 1)) + 1)) v30)) (ap h32 (ap (Qh h39).1 (ap (Ql Qa.cells (Qh h39).2) (ap (f53_ok x38 a2 h41) (ap h42 an))))) (Qs.norm ⟨(wr64 ((wr64 (shrK .u64 (wru64 (wr64 (v29 + v30))) 1)) + 1)), v30, rfl, h⟩)
   ·exact rE Qi [j3, j3, ([], [(3, .idx (Int.toNat (wr64 (shrK .u64 (wru64 (wr64 (v29 + v30))) 1))) (Qa.cells x38)), jH 6 (jI x40)], []), j3] [some true, some false] [] [0] [0, 2, 4, 8, 9, 10] (.norm, (f63_53n1S a1 a2 v29 (wr64 (shrK .u64 (wru64 (wr64 (v29 + v30))) 1)))) (ap h32 (ap (Qh h39).1 (ap (Ql Qa.cells (Qh h39).2) (ap (f53_ok x38 a2 h41) (ap h42 an))))) (Qs.norm ⟨v29, (wr64 (shrK .u64 (wru64 (wr64 (v29 + v30))) 1)), rfl, h⟩)
  ·obtain rfl := Qf h
   exact rK Qi 1 [j3] [some false] [] [0] [0, 2, 4, 8, 9] (.exit 0) ((f63_53n1E a1 a2 (.exit0 v29)).2) (ap h32 an) (Qs.out rfl rfl)
inductive f63_53n0O where
 | ret (v57 : Int) (v58 : Bool)
def f63_53n0E (a1 : List Qa) (a2 : Qa) : f63_53n0O → Ex × Tr × Hp
 | .ret v57 v58 => (.ret, mkS [(6, (jI v57)), (7, (jB v58))], [])
def f63_53n0S (a1 : List Qa) (a2 : Qa) : Tr × Hp := (Qal [(jL 4 Qa.cells a1), (jA Qa.cells a2), (.pl (.fn 53))] 0 .leaf, [])
noncomputable def f63_53n0 (a1 : List Qa) (a2 : Qa) : Option f63_53n0O :=
 (f63_53n1 FUEL a1 a2 0 (a1.length : Int)).bind fun o44 => match o44 with
 | .exit0 v46 => bif (decide (v46 < (a1.length : Int))) then
   (at? a1 v46).bind fun x53 =>
   (f53 x53 a2).bind fun x55 =>
   some (.ret v46 (decide (x55 = 0)))
  else
   some (.ret v46 false)
theorem f63_53n0_ok (a1 : List Qa) (a2 : Qa) {o : f63_53n0O} (h : (f63_53n0 a1 a2) = some o) : T Try.prog Try.f63.ntmps 0 c63 (f63_53n0S a1 a2) (fun r => r = f63_53n0E a1 a2 o) := by
 unfold f63_53n0 at h
 refine rN Qi 3 [j3, ([], [], [(1, .val (jI (a1.length : Int)))]), j3] [] [] [0] [0, 2, 4, 8, 9, 10] (f63_53n1S a1 a2 0 (a1.length : Int)) (ap (Qo (xs := a1) (c := Qa.cells)) an) ?_
 obtain ⟨o44, h45, h⟩ := Qe h
 cases o44 with
 | exit0 v46 =>
  refine T.oneN (by kernel_rfl) (T.bl (i := 0) (by kernel_rfl) (by kernel_rfl) (f63_53n1_ok FUEL a1 a2 0 (a1.length : Int) h45)) (st2 := (f63_53n1E a1 a2 (.exit0 v46)).2) rfl ?_
  rcases Qg h with ⟨h52, h⟩ | ⟨h52, h⟩
  ·obtain ⟨x53, h54, h⟩ := Qe h
   obtain ⟨x55, h56, h⟩ := Qe h
   obtain rfl := Qf h
   exact rE Qi [(jT [5, 6, 7, 8, 9, 10, 11, 12], [(8, .idx (Int.toNat v46) (Qa.cells x53)), jH 11 (jI x55), (13, .bool true)], [])] [] [] [] [6, 7] (.ret, (f63_53n0E a1 a2 (.ret v46 (decide (x55 = 0)))).2) (ap4 h52 (ap (Qh h54).1 (ap (Ql Qa.cells (Qh h54).2) (ap h52 (ap4 h52 (ap (f53_ok x53 a2 h56) an)))))) rfl
  ·obtain rfl := Qf h
   exact rE Qi [(jF [5, 6, 7, 8, 9, 10, 11, 12], [(13, .bool false)], [])] [] [] [] [6, 7] (.ret, (f63_53n0E a1 a2 (.ret v46 false)).2) (ap h52 (ap4 h52 (ap4 h52 an))) rfl
noncomputable def f63_53 (a1 : List Qa) (a2 : Qa) : Option (Int × Bool) := (f63_53n0 a1 a2).bind fun o => match o with
 | .ret v57 v58 => some (v57, v58)
theorem f63_53_ok (a1 : List Qa) (a2 : Qa) {r : Int × Bool} (h : (f63_53 a1 a2) = some r) : Qq Try.prog false 63 [(jL 4 Qa.cells a1), (jA Qa.cells a2), (.pl (.fn 53))] [] (.tup [(jI r.1), (jB r.2)]) [] := by
 unfold f63_53 at h
 obtain ⟨o, ho, h⟩ := Qe h
 cases o with
 | ret v57 v58 =>
  obtain rfl := Qf h
  exact Qq.plain Qi (f := Try.f63) (c := c63) (by kernel_rfl) (by kernel_rfl) (by kernel_rfl) (by kernel_rfl) ((f63_53n0_ok a1 a2 ho).mono fun r e => by subst e; exact ⟨.inl rfl, (.tup [(jI v57), (jB v58)]), (.tup [(jI v57), (jB v58)]), by kernel_rfl, by kernel_rfl, ((Wk.refl _) : Wk (.tup [(jI v57), (jB v58)]) (.tup [(jI v57), (jB v58)]))⟩)

def in64 (xs : List Qa) (i : Int) (vs : List Qa) : Option (List Qa) := match vs with
 | [e] => bif decide (0 ≤ i) && (decide (i ≤ (xs.length : Int)) && Qbk (xs.length + 1) te52) then some (xs.take i.toNat ++ e :: xs.drop i.toNat) else none
 | _ => none
theorem in64_ok (xs : List Qa) (i : Int) (vs : List Qa) {r : List Qa} (h : in64 xs i vs = some r) :
  Qq Try.prog true 64 [.own 0, .pl (.int .i64 i), .own 1] [some (.row false 4 (xs.map Qa.cells)), some (.row false 4 (vs.map Qa.cells))] (.own 2) [none, some (.row false 4 (vs.map Qa.cells)), some (.row false 4 (r.map Qa.cells))] := by
 match vs, h with
 | [e], h =>
  simp only [in64] at h
  cases hc : (decide (0 ≤ i) && (decide (i ≤ (xs.length : Int)) && Qbk (xs.length + 1) te52)) with
  | false => rw [hc] at h; cases h
  | true =>
   rw [hc] at h
   simp only [cond_true, Option.some.injEq] at h
   simp only [Bool.and_eq_true, decide_eq_true_eq] at hc
   obtain ⟨h1, h2, h3⟩ := hc
   subst h
   have := ins_callS (xs.map Qa.cells) (Qa.cells e) i.toNat (by rw [List.length_map]; omega) (by rw [List.length_map]; exact h3)
   rw [show ((i.toNat : Nat) : Int) = i by omega] at this
   simp only [List.map_append, List.map_cons, List.map_take, List.map_drop, List.map_nil]
   exact this


def de65 (xs : List Qa) (i j : Int) : Option (List Qa) := bif decide (0 ≤ i) && (decide (i < (xs.length : Int)) && decide (j = i + 1)) then some (xs.take i.toNat ++ xs.drop (i.toNat + 1)) else none
theorem de65_ok (xs : List Qa) (i j : Int) {r : List Qa} (h : de65 xs i j = some r) :
  Qq Try.prog true 65 [.own 0, .pl (.int .i64 i), .pl (.int .i64 j)] [some (.row false 4 (xs.map Qa.cells))] (.own 1) [none, some (.row false 4 (r.map Qa.cells))] := by
 unfold de65 at h
 cases hc : (decide (0 ≤ i) && (decide (i < (xs.length : Int)) && decide (j = i + 1))) with
 | false => rw [hc] at h; cases h
 | true =>
  rw [hc] at h
  simp only [cond_true, Option.some.injEq] at h
  simp only [Bool.and_eq_true, decide_eq_true_eq] at hc
  obtain ⟨h1, h2, h3⟩ := hc
  subst h
  have := del_callS (xs.map Qa.cells) i.toNat (by rw [List.length_map]; omega)
  rw [show ((i.toNat : Nat) : Int) = i by omega, show ((i.toNat + 1 : Nat) : Int) = j by omega] at this
  simp only [List.map_append, List.map_take, List.map_drop]
  exact this


noncomputable def c46 : Code := Try.f46.body.getD .skip
inductive f46r1n1O where
 | norm (v19 : List Qa)
def f46r1n1E (be1 : Int) (be2 : Int) (bf3 : Int × Bool) (bg4 : List Qa) (bb5 : ByteArray) (bb6 : ByteArray) : f46r1n1O → Ex × Tr × Hp
 | .norm v19 => (.norm, mkS [(0, (.own 1)), (3, (jI be1)), (4, (jI be2)), (11, (.bp 2 0)), (12, (.bp 3 0)), (13, (jI bf3.1))], [none, jR 4 Qa.cells v19, some (.box ((Qa.cells (Qa.mk str_x str_x 0 0)).map .pl)), some (.box ((Qa.cells (Qa.mk bb5 bb6 0 0)).map .pl))])
def f46r1n1S (be1 : Int) (be2 : Int) (bf3 : Int × Bool) (bg4 : List Qa) (bb5 : ByteArray) (bb6 : ByteArray) : Tr × Hp := (mkS [(0, (.own 0)), (3, (jI be1)), (4, (jI be2)), (11, (.bp 1 0)), (12, (.bp 2 0)), (13, (jI bf3.1)), (14, (jB bf3.2))], [jR 4 Qa.cells bg4, some (.box ((Qa.cells (Qa.mk str_x str_x 0 0)).map .pl)), some (.box ((Qa.cells (Qa.mk bb5 bb6 0 0)).map .pl))])
noncomputable def f46r1n1 (be1 : Int) (be2 : Int) (bf3 : Int × Bool) (bg4 : List Qa) (bb5 : ByteArray) (bb6 : ByteArray) : Option f46r1n1O :=
 bif bf3.2 then
  some (.norm bg4)
 else
  (in64 bg4 bf3.1 [(Qa.mk bb5 bb6 0 0)]).bind fun x17 =>
  some (.norm x17)
theorem f46r1n1_ok (be1 : Int) (be2 : Int) (bf3 : Int × Bool) (bg4 : List Qa) (bb5 : ByteArray) (bb6 : ByteArray) {o : f46r1n1O} (h : (f46r1n1 be1 be2 bf3 bg4 bb5 bb6) = some o) : T Try.prog Try.f46.ntmps 1 (cL (Qn 3 c46)) (f46r1n1S be1 be2 bf3 bg4 bb5 bb6) (fun r => r = f46r1n1E be1 be2 bf3 bg4 bb5 bb6 o) := by
 unfold f46r1n1 at h
 rcases Qg h with ⟨h16, h⟩ | ⟨h16, h⟩
 ·obtain rfl := Qf h
  exact rE Qi [j3] [some false] [.mov 0] [3, 1, 2] [0, 3, 4, 11, 12, 13] (.norm, (f46r1n1E be1 be2 bf3 bg4 bb5 bb6 (.norm bg4)).2) (ap (Qk h16) an) rfl
 ·obtain ⟨x17, h18, h⟩ := Qe h
  obtain rfl := Qf h
  exact rE Qi [j3, ([], [(4, .call (.own 4) (jN 3 [some (.row false 4 ([(Qa.mk bb5 bb6 0 0)].map Qa.cells)), jR 4 Qa.cells x17]))], [])] [some true] [] [4, 1, 2] [0, 3, 4, 11, 12, 13] (.norm, (f46r1n1E be1 be2 bf3 bg4 bb5 bb6 (.norm x17)).2) (ap (Qr h16) (ap (Qq.rn 4 [0, 3] (in64_ok bg4 bf3.1 [(Qa.mk bb5 bb6 0 0)] h18)) an)) rfl
inductive f46r1n0O where
 | ret (v42 : List Qa) (v43 : Qa)
def f46r1n0E (a1 : ByteArray) (a2 : ByteArray) (a3 : Int) (a4 : Int) (a5 : List Qa) : f46r1n0O → Ex × Tr × Hp
 | .ret v42 v43 => (.ret, mkS [(10, (.own 1)), (11, (.bp 2 0))], [none, jR 4 Qa.cells v42, some (.box ((Qa.cells v43).map .pl))])
def f46r1n0S (a1 : ByteArray) (a2 : ByteArray) (a3 : Int) (a4 : Int) (a5 : List Qa) : Tr × Hp := (Qal [(.own 0), (jS a1), (jS a2), (jI a3), (jI a4)] 0 .leaf, [jR 4 Qa.cells a5])
noncomputable def f46r1n0 (a1 : ByteArray) (a2 : ByteArray) (a3 : Int) (a4 : Int) (a5 : List Qa) : Option f46r1n0O :=
 (f63_53 a5 (Qa.mk a1 a2 0 0)).bind fun x8 =>
 (f46r1n1 a3 a4 x8 a5 a1 a2).bind fun o20 => match o20 with
 | .norm v22 => (at? v22 x8.1).bind fun x25 =>
  bif (Qa.eqb (Qa.mk x25.Member x25.Product (wr64 (x25.Quantity + a3)) (wr64 (x25.Basis + a4))) (Qa.mk a1 a2 0 0)) then
   (de65 ((v22.set (Int.toNat x8.1) (Qa.mk x25.Member x25.Product (wr64 (x25.Quantity + a3)) x25.Basis)).set (Int.toNat x8.1) (Qa.mk x25.Member x25.Product (wr64 (x25.Quantity + a3)) (wr64 (x25.Basis + a4)))) x8.1 (wr64 (x8.1 + 1))).bind fun x40 =>
   some (.ret x40 (Qa.mk x25.Member x25.Product (wr64 (x25.Quantity + a3)) (wr64 (x25.Basis + a4))))
  else
   some (.ret ((v22.set (Int.toNat x8.1) (Qa.mk x25.Member x25.Product (wr64 (x25.Quantity + a3)) x25.Basis)).set (Int.toNat x8.1) (Qa.mk x25.Member x25.Product (wr64 (x25.Quantity + a3)) (wr64 (x25.Basis + a4)))) (Qa.mk x25.Member x25.Product (wr64 (x25.Quantity + a3)) (wr64 (x25.Basis + a4))))
theorem f46r1n0_ok (a1 : ByteArray) (a2 : ByteArray) (a3 : Int) (a4 : Int) (a5 : List Qa) {o : f46r1n0O} (h : (f46r1n0 a1 a2 a3 a4 a5) = some o) : T Try.prog Try.f46.ntmps 1 c46 (f46r1n0S a1 a2 a3 a4 a5) (fun r => r = f46r1n0E a1 a2 a3 a4 a5 o) := by
 unfold f46r1n0 at h
 obtain ⟨x8, h9, h⟩ := Qe h
 refine rN Qi 3 [j3, j3, ([], [jH 2 (.tup [(jI x8.1), (jB x8.2)])], [])] [] [] [1, 2] [0, 3, 4, 11, 12, 13, 14] (f46r1n1S a3 a4 x8 a5 a1 a2) (ap (f63_53_ok a5 (Qa.mk a1 a2 0 0) h9) an) ?_
 obtain ⟨o20, h21, h⟩ := Qe h
 cases o20 with
 | norm v22 =>
  refine T.oneN (by kernel_rfl) (f46r1n1_ok a3 a4 x8 a5 a1 a2 h21) (st2 := (f46r1n1E a3 a4 x8 a5 a1 a2 (.norm v22)).2) rfl ?_
  obtain ⟨x25, h26, h⟩ := Qe h
  refine rN Qi 1 [([], [(2, .at_ (Int.toNat x8.1)), (4, .idx 0 (Qa.cells x25)), (7, .at_ (Int.toNat x8.1)), (9, .idx 0 (Qa.cells x25))], [(9, .row 1 ((v22.set (Int.toNat x8.1) (Qa.mk x25.Member x25.Product (wr64 (x25.Quantity + a3)) x25.Basis)).map Qa.cells))])] [] [] [1, 2, 3] [0, 4, 11, 12, 13] (mkS [(0, (.own 1)), (4, (jI a4)), (11, (.bp 2 0)), (12, (.bp 3 0)), (13, (jI x8.1))], [none, some (.row false 4 ((v22.set (Int.toNat x8.1) (Qa.mk x25.Member x25.Product (wr64 (x25.Quantity + a3)) x25.Basis)).map Qa.cells)), some (.box ((Qa.cells (Qa.mk str_x str_x 0 0)).map .pl)), some (.box ((Qa.cells (Qa.mk a1 a2 0 0)).map .pl))]) (ap (Qh h26).1 (ap (Qay Qa.cells (Qh h26).2) (ap (Ql Qa.cells (Qh h26).2) (ap (Qh h26).1 (ap (Qay Qa.cells (Qh h26).2) (ap (Ql Qa.cells (Qh h26).2) (ap (set_cv (xs := v22) (c := Qa.cells) (k := (Int.toNat x8.1)) (x := (Qa.mk x25.Member x25.Product (wr64 (x25.Quantity + a3)) x25.Basis))) an))))))) ?_
  refine rN Qi 1 [([], [(2, .at_ (Int.toNat x8.1)), (4, .idx 0 (Qa.cells (Qa.mk x25.Member x25.Product (wr64 (x25.Quantity + a3)) x25.Basis))), (7, .at_ (Int.toNat x8.1)), (9, .idx 0 (Qa.cells (Qa.mk x25.Member x25.Product (wr64 (x25.Quantity + a3)) x25.Basis)))], [(9, .row 1 (((v22.set (Int.toNat x8.1) (Qa.mk x25.Member x25.Product (wr64 (x25.Quantity + a3)) x25.Basis)).set (Int.toNat x8.1) (Qa.mk x25.Member x25.Product (wr64 (x25.Quantity + a3)) (wr64 (x25.Basis + a4)))).map Qa.cells))])] [] [] [1, 2, 3] [0, 11, 12, 13] (mkS [(0, (.own 1)), (11, (.bp 2 0)), (12, (.bp 3 0)), (13, (jI x8.1))], [none, some (.row false 4 (((v22.set (Int.toNat x8.1) (Qa.mk x25.Member x25.Product (wr64 (x25.Quantity + a3)) x25.Basis)).set (Int.toNat x8.1) (Qa.mk x25.Member x25.Product (wr64 (x25.Quantity + a3)) (wr64 (x25.Basis + a4)))).map Qa.cells)), some (.box ((Qa.cells (Qa.mk str_x str_x 0 0)).map .pl)), some (.box ((Qa.cells (Qa.mk a1 a2 0 0)).map .pl))]) (ap (Qh h26).1 (ap (Qay Qa.cells (set_at (xs := v22) (k := (Int.toNat x8.1)) (Qa.mk x25.Member x25.Product (wr64 (x25.Quantity + a3)) x25.Basis) (Qh h26).2)) (ap (Ql Qa.cells (set_at (xs := v22) (k := (Int.toNat x8.1)) (Qa.mk x25.Member x25.Product (wr64 (x25.Quantity + a3)) x25.Basis) (Qh h26).2)) (ap (Qh h26).1 (ap (Qay Qa.cells (set_at (xs := v22) (k := (Int.toNat x8.1)) (Qa.mk x25.Member x25.Product (wr64 (x25.Quantity + a3)) x25.Basis) (Qh h26).2)) (ap (Ql Qa.cells (set_at (xs := v22) (k := (Int.toNat x8.1)) (Qa.mk x25.Member x25.Product (wr64 (x25.Quantity + a3)) x25.Basis) (Qh h26).2)) (ap (set_cv (xs := (v22.set (Int.toNat x8.1) (Qa.mk x25.Member x25.Product (wr64 (x25.Quantity + a3)) x25.Basis))) (c := Qa.cells) (k := (Int.toNat x8.1)) (x := (Qa.mk x25.Member x25.Product (wr64 (x25.Quantity + a3)) (wr64 (x25.Basis + a4))))) an))))))) ?_
  refine rN Qi 1 [([], [(2, .at_ (Int.toNat x8.1)), (3, .idx 0 (Qa.cells (Qa.mk x25.Member x25.Product (wr64 (x25.Quantity + a3)) (wr64 (x25.Basis + a4)))))], [])] [] [] [1, 2, 3, 4] [0, 11, 12, 13, 15] (mkS [(0, (.own 1)), (11, (.bp 2 0)), (12, (.bp 3 0)), (13, (jI x8.1)), (15, (.bp 4 0))], [none, some (.row false 4 (((v22.set (Int.toNat x8.1) (Qa.mk x25.Member x25.Product (wr64 (x25.Quantity + a3)) x25.Basis)).set (Int.toNat x8.1) (Qa.mk x25.Member x25.Product (wr64 (x25.Quantity + a3)) (wr64 (x25.Basis + a4)))).map Qa.cells)), some (.box ((Qa.cells (Qa.mk str_x str_x 0 0)).map .pl)), some (.box ((Qa.cells (Qa.mk a1 a2 0 0)).map .pl)), some (.box ((Qa.cells (Qa.mk x25.Member x25.Product (wr64 (x25.Quantity + a3)) (wr64 (x25.Basis + a4)))).map .pl))]) (ap (Qh h26).1 (ap (Qay Qa.cells (set_at (xs := (v22.set (Int.toNat x8.1) (Qa.mk x25.Member x25.Product (wr64 (x25.Quantity + a3)) x25.Basis))) (k := (Int.toNat x8.1)) (Qa.mk x25.Member x25.Product (wr64 (x25.Quantity + a3)) (wr64 (x25.Basis + a4))) (set_at (xs := v22) (k := (Int.toNat x8.1)) (Qa.mk x25.Member x25.Product (wr64 (x25.Quantity + a3)) x25.Basis) (Qh h26).2))) (ap (Ql Qa.cells (set_at (xs := (v22.set (Int.toNat x8.1) (Qa.mk x25.Member x25.Product (wr64 (x25.Quantity + a3)) x25.Basis))) (k := (Int.toNat x8.1)) (Qa.mk x25.Member x25.Product (wr64 (x25.Quantity + a3)) (wr64 (x25.Basis + a4))) (set_at (xs := v22) (k := (Int.toNat x8.1)) (Qa.mk x25.Member x25.Product (wr64 (x25.Quantity + a3)) x25.Basis) (Qh h26).2))) an))) ?_
  rcases Qg h with ⟨h39, h⟩ | ⟨h39, h⟩
  ·obtain ⟨x40, h41, h⟩ := Qe h
   obtain rfl := Qf h
   exact rE Qi [([], [(2, .bool (Qa.eqb (Qa.mk x25.Member x25.Product (wr64 (x25.Quantity + a3)) (wr64 (x25.Basis + a4))) (Qa.mk a1 a2 0 0)))], []), ([], [(4, .call (.own 5) (jN 5 [jR 4 Qa.cells x40]))], []), j3] [some true] [] [5, 2] [10, 11] (.ret, (f46r1n0E a1 a2 a3 a4 a5 (.ret x40 (Qa.mk x25.Member x25.Product (wr64 (x25.Quantity + a3)) (wr64 (x25.Basis + a4))))).2) (ap (Qa.eqb_ok (Qa.mk x25.Member x25.Product (wr64 (x25.Quantity + a3)) (wr64 (x25.Basis + a4))) (Qa.mk a1 a2 0 0)) (ap h39 (ap (Qq.rn 5 [1] (de65_ok ((v22.set (Int.toNat x8.1) (Qa.mk x25.Member x25.Product (wr64 (x25.Quantity + a3)) x25.Basis)).set (Int.toNat x8.1) (Qa.mk x25.Member x25.Product (wr64 (x25.Quantity + a3)) (wr64 (x25.Basis + a4)))) x8.1 (wr64 (x8.1 + 1)) h41)) an))) rfl
  ·obtain rfl := Qf h
   exact rE Qi [([], [(2, .bool (Qa.eqb (Qa.mk x25.Member x25.Product (wr64 (x25.Quantity + a3)) (wr64 (x25.Basis + a4))) (Qa.mk a1 a2 0 0)))], []), j3] [some false] [] [1, 2] [10, 11] (.ret, (f46r1n0E a1 a2 a3 a4 a5 (.ret ((v22.set (Int.toNat x8.1) (Qa.mk x25.Member x25.Product (wr64 (x25.Quantity + a3)) x25.Basis)).set (Int.toNat x8.1) (Qa.mk x25.Member x25.Product (wr64 (x25.Quantity + a3)) (wr64 (x25.Basis + a4)))) (Qa.mk x25.Member x25.Product (wr64 (x25.Quantity + a3)) (wr64 (x25.Basis + a4))))).2) (ap (Qa.eqb_ok (Qa.mk x25.Member x25.Product (wr64 (x25.Quantity + a3)) (wr64 (x25.Basis + a4))) (Qa.mk a1 a2 0 0)) (ap h39 an)) rfl
noncomputable def f46r1 (a1 : ByteArray) (a2 : ByteArray) (a3 : Int) (a4 : Int) (a5 : List Qa) : Option ((List Qa) × Qa) := (f46r1n0 a1 a2 a3 a4 a5).bind fun o => match o with
 | .ret v42 v43 => some (v42, v43)
theorem f46r1_ok (a1 : ByteArray) (a2 : ByteArray) (a3 : Int) (a4 : Int) (a5 : List Qa) {r : (List Qa) × Qa} (h : (f46r1 a1 a2 a3 a4 a5) = some r) : Qq Try.prog true 46 [(.own 0), (jS a1), (jS a2), (jI a3), (jI a4)] [jR 4 Qa.cells a5] (.tup [(.own 1), (jA Qa.cells r.2)]) [none, jR 4 Qa.cells r.1, some (.box ((Qa.cells r.2).map .pl))] := by
 unfold f46r1 at h
 obtain ⟨o, ho, h⟩ := Qe h
 cases o with
 | ret v42 v43 =>
  obtain rfl := Qf h
  exact Qq.shared Qi (f := Try.f46) (c := c46) (by kernel_rfl) (by kernel_rfl) (by kernel_rfl) ((f46r1n0_ok a1 a2 a3 a4 a5 ho).mono fun r e => by subst e; exact ⟨.inl rfl, by kernel_rfl, by kernel_rfl⟩)

noncomputable def c16 : Code := Try.f16.body.getD .skip
inductive f16r1n0O where
 | ret (v113 : Int) (v114 : Int) (v115 : List Qa)
def Qbt (a1 : Qd) (a2 : ByteArray) (a3 : ByteArray) (a4 : ByteArray) (a5 : Int) (a6 : Int) : f16r1n0O → Ex × Tr × Hp
 | .ret v113 v114 v115 => (.ret, mkS [(12, (.bp 0 0)), (13, (jI v113))], [some (.box [(jI v114), (.own 1)]), jR 4 Qa.cells v115])
def f16r1n0S (a1 : Qd) (a2 : ByteArray) (a3 : ByteArray) (a4 : ByteArray) (a5 : Int) (a6 : Int) : Tr × Hp := (Qal [(jA Qd.cells a1), (jS a2), (jS a3), (jS a4), (jI a5), (jI a6)] 0 .leaf, [])
noncomputable def f16r1n0 (a1 : Qd) (a2 : ByteArray) (a3 : ByteArray) (a4 : ByteArray) (a5 : Int) (a6 : Int) : Option f16r1n0O :=
 (f26 a1).bind fun x10 =>
 bif (decide (x10 = 0)) then
  (f44 a2).bind fun x28 =>
  bif x28 then
   (f44 a3).bind fun x31 =>
   bif x31 then
    bif (seq a2 a3) then
     some (.ret 2 0 [])
    else
     (f45 a4).bind fun x35 =>
     bif x35 then
      bif (decide (a5 < 1)) then
       some (.ret 2 0 [])
      else
       bif (decide (1048576 < a5)) then
        some (.ret 2 0 [])
       else
        (f37 a6 536870912).bind fun x40 =>
        bif x40 then
         (f47r1 a1.Positions).bind fun x66 =>
         (f46r1 a2 a4 a5 (wr64 (a5 * a6)) x66).bind fun x68 =>
         (f46r1 a3 a4 (wr64 (0 - a5)) (wr64 ((wr64 (0 - a5)) * a6)) x68.1).bind fun x72 =>
         (f37 x72.2.Quantity 1048576).bind fun x100 =>
         bif x100 then
          (f37 x68.2.Quantity 1048576).bind fun x103 =>
          bif x103 then
           (f37 x72.2.Basis 1125899906842624).bind fun x106 =>
           bif x106 then
            (f37 x68.2.Basis 1125899906842624).bind fun x109 =>
            bif x109 then
             bif (decide (200 < (x72.1.length : Int))) then
              some (.ret 22 0 [])
             else
              some (.ret 0 a1.Day x72.1)
            else
             some (.ret 14 0 [])
           else
            some (.ret 14 0 [])
          else
           some (.ret 52 0 [])
         else
          some (.ret 52 0 [])
        else
         some (.ret 2 0 [])
     else
      some (.ret 2 0 [])
   else
    some (.ret 2 0 [])
  else
   some (.ret 2 0 [])
 else
  some (.ret x10 0 [])
theorem f16r1n0_ok (a1 : Qd) (a2 : ByteArray) (a3 : ByteArray) (a4 : ByteArray) (a5 : Int) (a6 : Int) {o : f16r1n0O} (h : (f16r1n0 a1 a2 a3 a4 a5 a6) = some o) : T Try.prog Try.f16.ntmps 0 c16 (f16r1n0S a1 a2 a3 a4 a5 a6) (fun r => r = Qbt a1 a2 a3 a4 a5 a6 o) := by
 unfold f16r1n0 at h
 obtain ⟨x10, h11, h⟩ := Qe h
 rcases Qg h with ⟨h12, h⟩ | ⟨h12, h⟩
 ·obtain ⟨x28, h29, h⟩ := Qe h
  rcases Qg h with ⟨h30, h⟩ | ⟨h30, h⟩
  ·obtain ⟨x31, h32, h⟩ := Qe h
   rcases Qg h with ⟨h33, h⟩ | ⟨h33, h⟩
   ·rcases Qg h with ⟨h34, h⟩ | ⟨h34, h⟩
    ·obtain rfl := Qf h
     exact rK Qi 3 [j3, ([], [jH 1 (jI x10)], []), j3, (jF [4, 5, 6, 9, 10, 11] ++ jT [14, 15, 16], [jH 1 (jB x28), jH 5 (jB x31), (7, .bool false), (12, .bool false), (17, .bool true)], []), j3] [some false, none] [.matC 1 1 4] [1, 2] [12, 13] .ret ((Qbt a1 a2 a3 a4 a5 a6 (.ret 2 0 [])).2) (ap (Qby a1 h11) (ap (Qk h12) (ap4 (Qk h30) (ap4 (Qk h33) (ap4 h34 (ap (Qao a2 h29) (ap (Qao a3 h32) an))))))) rfl
    ·obtain ⟨x35, h36, h⟩ := Qe h
     rcases Qg h with ⟨h37, h⟩ | ⟨h37, h⟩
     ·rcases Qg h with ⟨h38, h⟩ | ⟨h38, h⟩
      ·obtain rfl := Qf h
       exact rK Qi 3 [j3, ([], [jH 1 (jI x10)], []), j3, (jF [4, 5, 6, 9, 10, 11, 14, 15, 16, 19, 20] ++ jT [23, 24], [jH 1 (jB x28), jH 5 (jB x31), (7, .bool false), (12, .bool false), jH 15 (jB x35), (17, .bool false), (21, .bool false), (25, .bool true)], []), j3] [some false, none] [.matC 1 1 4] [1, 2] [12, 13] .ret ((Qbt a1 a2 a3 a4 a5 a6 (.ret 2 0 [])).2) (ap (Qby a1 h11) (ap (Qk h12) (ap4 (Qk h30) (ap4 (Qk h33) (ap4 h34 (ap3 (Qk h37) (ap3 h38 (ap (Qao a2 h29) (ap (Qao a3 h32) (ap (Qct a4 h36) an)))))))))) rfl
      ·rcases Qg h with ⟨h39, h⟩ | ⟨h39, h⟩
       ·obtain rfl := Qf h
        exact rK Qi 3 [j3, ([], [jH 1 (jI x10)], []), j3, (jF [4, 5, 6, 9, 10, 11, 14, 15, 16, 19, 20, 23, 24] ++ jT [27, 28, 29], [jH 1 (jB x28), jH 5 (jB x31), (7, .bool false), (12, .bool false), jH 15 (jB x35), (17, .bool false), (21, .bool false), (25, .bool false), (30, .bool true)], []), j3] [some false, none] [.matC 1 1 4] [1, 2] [12, 13] .ret ((Qbt a1 a2 a3 a4 a5 a6 (.ret 2 0 [])).2) (ap (Qby a1 h11) (ap (Qk h12) (ap4 (Qk h30) (ap4 (Qk h33) (ap4 h34 (ap3 (Qk h37) (ap3 h38 (ap4 h39 (ap (Qao a2 h29) (ap (Qao a3 h32) (ap (Qct a4 h36) an))))))))))) rfl
       ·obtain ⟨x40, h41, h⟩ := Qe h
        rcases Qg h with ⟨h42, h⟩ | ⟨h42, h⟩
        ·refine rN Qi 3 [j3, ([], [jH 1 (jI x10)], []), j3, (jF [4, 5, 6, 9, 10, 11, 14, 15, 16, 19, 20, 23, 24, 27, 28, 29], [jH 1 (jB x28), jH 5 (jB x31), (7, .bool false), (12, .bool false), jH 15 (jB x35), (17, .bool false), (21, .bool false), (25, .bool false), jH 28 (jB x40), (30, .bool false)], [])] [some false, some false] [] [0, 1] [1, 2, 3, 4, 5, 6, 12] (mkS [(1, (jS a2)), (2, (jS a3)), (3, (jS a4)), (4, (jI a5)), (5, (jI a6)), (6, (.bp 0 0)), (12, (.bp 1 0))], [some (.box ((Qd.cells a1).map .pl)), some (.box [(jI 0), (.pl (.sl .nil 0 []))])]) (ap (Qby a1 h11) (ap (Qk h12) (ap4 (Qk h30) (ap4 (Qk h33) (ap4 h34 (ap3 (Qk h37) (ap3 h38 (ap4 h39 (ap (Qao a2 h29) (ap (Qao a3 h32) (ap (Qct a4 h36) (ap (Qv a6 536870912 h41) (ap (Qk h42) an))))))))))))) ?_
         obtain ⟨x66, h67, h⟩ := Qe h
         obtain ⟨x68, h69, h⟩ := Qe h
         obtain ⟨x72, h73, h⟩ := Qe h
         refine rN Qi 2 [([], [(2, .call (.own 2) [none, none, jR 4 Qa.cells x66]), (9, .call (.tup [(.own 3), (jA Qa.cells x68.2)]) (jN 3 [jR 4 Qa.cells x68.1, some (.box ((Qa.cells x68.2).map .pl))]))], []), ([], [(9, .call (.tup [(.own 6), (jA Qa.cells x72.2)]) (jN 6 [jR 4 Qa.cells x72.1, some (.box ((Qa.cells x72.2).map .pl))]))], [])] [] [] [0, 1, 6, 5, 8] [6, 12, 15, 16, 17] (mkS [(6, (.bp 0 0)), (12, (.bp 1 0)), (15, (.own 2)), (16, (.bp 3 0)), (17, (.bp 4 0))], [some (.box ((Qd.cells a1).map .pl)), some (.box [(jI 0), (.pl (.sl .nil 0 []))]), jR 4 Qa.cells x72.1, some (.box ((Qa.cells x68.2).map .pl)), some (.box ((Qa.cells x72.2).map .pl))]) (ap (Qq.rn 2 [] (f47r1_ok a1.Positions h67)) (ap (Qq.rn 3 [2] (f46r1_ok a2 a4 a5 (wr64 (a5 * a6)) x66 h69)) (ap (Qq.rn 6 [3] (f46r1_ok a3 a4 (wr64 (0 - a5)) (wr64 ((wr64 (0 - a5)) * a6)) x68.1 h73)) an))) ?_
         obtain ⟨x100, h101, h⟩ := Qe h
         rcases Qg h with ⟨h102, h⟩ | ⟨h102, h⟩
         ·obtain ⟨x103, h104, h⟩ := Qe h
          rcases Qg h with ⟨h105, h⟩ | ⟨h105, h⟩
          ·obtain ⟨x106, h107, h⟩ := Qe h
           rcases Qg h with ⟨h108, h⟩ | ⟨h108, h⟩
           ·obtain ⟨x109, h110, h⟩ := Qe h
            rcases Qg h with ⟨h111, h⟩ | ⟨h111, h⟩
            ·rcases Qg h with ⟨h112, h⟩ | ⟨h112, h⟩
             ·obtain rfl := Qf h
              exact rK Qi 1 [(jF [5, 6, 7, 8], [jH 2 (jB x100), jH 7 (jB x103), (9, .bool false)], []), (jF [5, 6, 7, 8], [jH 2 (jB x106), jH 7 (jB x109), (9, .bool false)], []), ([], [], [(1, .val (jI (x72.1.length : Int)))]), j3] [some false, some false, some true] [.matC 1 1 4] [1, 5] [12, 13] .ret ((Qbt a1 a2 a3 a4 a5 a6 (.ret 22 0 [])).2) (ap (Qk h102) (ap4 (Qk h102) (ap (Qv x72.2.Quantity 1048576 h101) (ap (Qv x68.2.Quantity 1048576 h104) (ap (Qk h105) (ap (Qk h108) (ap4 (Qk h108) (ap (Qv x72.2.Basis 1125899906842624 h107) (ap (Qv x68.2.Basis 1125899906842624 h110) (ap (Qk h111) (ap (Qo (xs := x72.1) (c := Qa.cells)) (ap h112 an)))))))))))) rfl
             ·obtain rfl := Qf h
              exact rE Qi [(jF [5, 6, 7, 8], [jH 2 (jB x100), jH 7 (jB x103), (9, .bool false)], []), (jF [5, 6, 7, 8], [jH 2 (jB x106), jH 7 (jB x109), (9, .bool false)], []), ([], [], [(1, .val (jI (x72.1.length : Int)))]), j3] [some false, some false, some false] [] [1, 2] [12, 13] (.ret, (Qbt a1 a2 a3 a4 a5 a6 (.ret 0 a1.Day x72.1)).2) (ap (Qk h102) (ap4 (Qk h102) (ap (Qv x72.2.Quantity 1048576 h101) (ap (Qv x68.2.Quantity 1048576 h104) (ap (Qk h105) (ap (Qk h108) (ap4 (Qk h108) (ap (Qv x72.2.Basis 1125899906842624 h107) (ap (Qv x68.2.Basis 1125899906842624 h110) (ap (Qk h111) (ap (Qo (xs := x72.1) (c := Qa.cells)) (ap h112 an)))))))))))) rfl
            ·obtain rfl := Qf h
             exact rK Qi 1 [(jF [5, 6, 7, 8], [jH 2 (jB x100), jH 7 (jB x103), (9, .bool false)], []), (jF [5, 6, 7, 8], [jH 2 (jB x106), jH 7 (jB x109), (9, .bool false)], []), j3] [some false, some true] [.matC 1 1 4] [1, 5] [12, 13] .ret ((Qbt a1 a2 a3 a4 a5 a6 (.ret 14 0 [])).2) (ap (Qk h102) (ap4 (Qk h102) (ap (Qv x72.2.Quantity 1048576 h101) (ap (Qv x68.2.Quantity 1048576 h104) (ap (Qk h105) (ap (Qk h108) (ap4 (Qk h108) (ap (Qv x72.2.Basis 1125899906842624 h107) (ap (Qv x68.2.Basis 1125899906842624 h110) (ap (Qr h111) an)))))))))) rfl
           ·obtain rfl := Qf h
            exact rK Qi 1 [(jF [5, 6, 7, 8], [jH 2 (jB x100), jH 7 (jB x103), (9, .bool false)], []), (jT [5, 6, 7, 8], [jH 2 (jB x106), (9, .bool true)], []), j3] [some false, none] [.matC 1 1 4] [1, 5] [12, 13] .ret ((Qbt a1 a2 a3 a4 a5 a6 (.ret 14 0 [])).2) (ap (Qk h102) (ap4 (Qk h102) (ap (Qv x72.2.Quantity 1048576 h101) (ap (Qv x68.2.Quantity 1048576 h104) (ap (Qk h105) (ap (Qr h108) (ap4 (Qr h108) (ap (Qv x72.2.Basis 1125899906842624 h107) an)))))))) rfl
          ·obtain rfl := Qf h
           exact rK Qi 1 [(jF [5, 6, 7, 8], [jH 2 (jB x100), jH 7 (jB x103), (9, .bool false)], []), j3] [some true] [.matC 1 1 4] [1, 5] [12, 13] .ret ((Qbt a1 a2 a3 a4 a5 a6 (.ret 52 0 [])).2) (ap (Qk h102) (ap4 (Qk h102) (ap (Qv x72.2.Quantity 1048576 h101) (ap (Qv x68.2.Quantity 1048576 h104) (ap (Qr h105) an))))) rfl
         ·obtain rfl := Qf h
          exact rK Qi 1 [(jT [5, 6, 7, 8], [jH 2 (jB x100), (9, .bool true)], []), j3] [none] [.matC 1 1 4] [1, 5] [12, 13] .ret ((Qbt a1 a2 a3 a4 a5 a6 (.ret 52 0 [])).2) (ap (Qr h102) (ap4 (Qr h102) (ap (Qv x72.2.Quantity 1048576 h101) an))) rfl
        ·obtain rfl := Qf h
         exact rK Qi 3 [j3, ([], [jH 1 (jI x10)], []), j3, (jF [4, 5, 6, 9, 10, 11, 14, 15, 16, 19, 20, 23, 24, 27, 28, 29], [jH 1 (jB x28), jH 5 (jB x31), (7, .bool false), (12, .bool false), jH 15 (jB x35), (17, .bool false), (21, .bool false), (25, .bool false), jH 28 (jB x40), (30, .bool false)], []), j3] [some false, some true] [.matC 1 1 4] [1, 2] [12, 13] .ret ((Qbt a1 a2 a3 a4 a5 a6 (.ret 2 0 [])).2) (ap (Qby a1 h11) (ap (Qk h12) (ap4 (Qk h30) (ap4 (Qk h33) (ap4 h34 (ap3 (Qk h37) (ap3 h38 (ap4 h39 (ap (Qao a2 h29) (ap (Qao a3 h32) (ap (Qct a4 h36) (ap (Qv a6 536870912 h41) (ap (Qr h42) an))))))))))))) rfl
     ·obtain rfl := Qf h
      exact rK Qi 3 [j3, ([], [jH 1 (jI x10)], []), j3, (jF [4, 5, 6, 9, 10, 11, 14, 15, 16] ++ jT [19, 20], [jH 1 (jB x28), jH 5 (jB x31), (7, .bool false), (12, .bool false), jH 15 (jB x35), (17, .bool false), (21, .bool true)], []), j3] [some false, none] [.matC 1 1 4] [1, 2] [12, 13] .ret ((Qbt a1 a2 a3 a4 a5 a6 (.ret 2 0 [])).2) (ap (Qby a1 h11) (ap (Qk h12) (ap4 (Qk h30) (ap4 (Qk h33) (ap4 h34 (ap3 (Qr h37) (ap (Qao a2 h29) (ap (Qao a3 h32) (ap (Qct a4 h36) an))))))))) rfl
   ·obtain rfl := Qf h
    exact rK Qi 3 [j3, ([], [jH 1 (jI x10)], []), j3, (jF [4, 5, 6] ++ jT [9, 10, 11], [jH 1 (jB x28), jH 5 (jB x31), (7, .bool false), (12, .bool true)], []), j3] [some false, none] [.matC 1 1 4] [1, 2] [12, 13] .ret ((Qbt a1 a2 a3 a4 a5 a6 (.ret 2 0 [])).2) (ap (Qby a1 h11) (ap (Qk h12) (ap4 (Qk h30) (ap4 (Qr h33) (ap (Qao a2 h29) (ap (Qao a3 h32) an)))))) rfl
  ·obtain rfl := Qf h
   exact rK Qi 3 [j3, ([], [jH 1 (jI x10)], []), j3, (jT [4, 5, 6], [jH 1 (jB x28), (7, .bool true)], []), j3] [some false, none] [.matC 1 1 4] [1, 2] [12, 13] .ret ((Qbt a1 a2 a3 a4 a5 a6 (.ret 2 0 [])).2) (ap (Qby a1 h11) (ap (Qk h12) (ap4 (Qr h30) (ap (Qao a2 h29) an)))) rfl
 ·obtain rfl := Qf h
  exact rK Qi 2 [j3, ([], [jH 1 (jI x10)], []), j3, j3] [some true] [.matC 1 1 4] [1, 2] [12, 13] .ret ((Qbt a1 a2 a3 a4 a5 a6 (.ret x10 0 [])).2) (ap (Qby a1 h11) (ap (Qr h12) an)) rfl
noncomputable def f16r1 (a1 : Qd) (a2 : ByteArray) (a3 : ByteArray) (a4 : ByteArray) (a5 : Int) (a6 : Int) : Option (Int × Int × (List Qa)) := (f16r1n0 a1 a2 a3 a4 a5 a6).bind fun o => match o with
 | .ret v113 v114 v115 => some (v113, v114, v115)
theorem f16r1_ok (a1 : Qd) (a2 : ByteArray) (a3 : ByteArray) (a4 : ByteArray) (a5 : Int) (a6 : Int) {r : Int × Int × (List Qa)} (h : (f16r1 a1 a2 a3 a4 a5 a6) = some r) : Qq Try.prog true 16 [(jA Qd.cells a1), (jS a2), (jS a3), (jS a4), (jI a5), (jI a6)] [] (.tup [(.agg [(jI r.2.1), (.own 1)]), (jI r.1)]) [some (.box [(jI r.2.1), (.own 1)]), jR 4 Qa.cells r.2.2] := by
 unfold f16r1 at h
 obtain ⟨o, ho, h⟩ := Qe h
 cases o with
 | ret v113 v114 v115 =>
  obtain rfl := Qf h
  exact Qq.shared Qi (f := Try.f16) (c := c16) (by kernel_rfl) (by kernel_rfl) (by kernel_rfl) ((f16r1n0_ok a1 a2 a3 a4 a5 a6 ho).mono fun r e => by subst e; exact ⟨.inl rfl, by kernel_rfl, by kernel_rfl⟩)
end Go.Proofs.Ytelblamgfbkhbaa
namespace Go.Proofs.Ytelblamgfbkhbaa
set_option linter.unusedVariables false
set_option linter.unusedSimpArgs false
set_option maxRecDepth 100000
open Go.RowKit
noncomputable def c23 : Code := Try.f23.body.getD .skip
inductive f23r1n0O where
 | ret
def f23r1n0E (a1 : Int) : f23r1n0O → Ex × Tr × Hp
 | .ret => (.ret, mkS [(2, (.own 0))], [some (.row false 2 ([(Qc.mk Qcw a1)].map Qc.cells))])
def f23r1n0S (a1 : Int) : Tr × Hp := (Qal [(jI a1)] 0 .leaf, [])
noncomputable def f23r1n0 (a1 : Int) : Option f23r1n0O :=
 some .ret
theorem f23r1n0_ok (a1 : Int) {o : f23r1n0O} (h : (f23r1n0 a1) = some o) : T Try.prog Try.f23.ntmps 0 c23 (f23r1n0S a1) (fun r => r = f23r1n0E a1 o) := by
 unfold f23r1n0 at h
 obtain rfl := Qf h
 exact rE Qi [j3, j3] [] [] [0] [2] (.ret, (f23r1n0E a1 .ret).2) an rfl
noncomputable def f23r1 (a1 : Int) : Option Unit := (f23r1n0 a1).bind fun o => match o with
 | .ret => some ()
theorem f23r1_ok (a1 : Int) {r : Unit} (h : (f23r1 a1) = some r) : Qq Try.prog true 23 [(jI a1)] [] (.own 0) [some (.row false 2 ([(Qc.mk Qcw a1)].map Qc.cells))] := by
 unfold f23r1 at h
 obtain ⟨o, ho, h⟩ := Qe h
 cases o with
 | ret =>
  obtain rfl := Qf h
  exact Qq.shared Qi (f := Try.f23) (c := c23) (by kernel_rfl) (by kernel_rfl) (by kernel_rfl) ((f23r1n0_ok a1 ho).mono fun r e => by subst e; exact ⟨.inl rfl, by kernel_rfl, by kernel_rfl⟩)

noncomputable def c35 : Code := Try.f35.body.getD .skip
inductive f35n2O where
 | exit0
 | ret
def f35n2E (bh1 : List Qc) : f35n2O → Ex × Tr × Hp
 | .exit0 => ((.exit 0), mkS [(0, (jL 2 Qc.cells bh1))], [])
 | .ret => (.ret, mkS [(2, (jB false))], [])
def f35n2S (bh1 : List Qc) (v59 : Int) : Tr × Hp := (mkS [(0, (jL 2 Qc.cells bh1)), (5, (jL 2 Qc.cells bh1)), (6, (jI (bh1.length : Int))), (7, (jI v59))], [])
noncomputable def f35n2 : Nat → List Qc → Int → Option f35n2O
 | 0, _, _ => none
 | f + 1, bh1, v59 =>
  bif (decide (v59 < (bh1.length : Int))) then
   (at? bh1 v59).bind fun x80 =>
   bif (decide (0 < v59)) then
    (at? bh1 (wr64 (v59 - 1))).bind fun x83 =>
    bif (slt x83.Product x80.Product) then
     (f45 x80.Product).bind fun x86 =>
     bif x86 then
      (f37 x80.Price 536870912).bind fun x89 =>
      bif x89 then
       (f35n2 f bh1 (wr64 (v59 + 1)))
      else
       some .ret
     else
      some .ret
    else
     some .ret
   else
    (f45 x80.Product).bind fun x92 =>
    bif x92 then
     (f37 x80.Price 536870912).bind fun x95 =>
     bif x95 then
      (f35n2 f bh1 (wr64 (v59 + 1)))
     else
      some .ret
    else
     some .ret
  else
   some .exit0
theorem f35n2_ok : ∀ (f : Nat) (bh1 : List Qc) (v59 : Int) {o : f35n2O}, (f35n2 f bh1 v59) = some o → TL Try.prog Try.f35.ntmps 0 f (cL (cL (Qn 1 (cL (Qn 1 c35))))) (f35n2S bh1 v59) (fun r => r = f35n2E bh1 o)
 | 0, _, _, o, h => by rw [f35n2] at h; cases h
 | f + 1, bh1, v59, o, h => by
  rw [f35n2] at h
  refine TL.body (K := fun s => ∃ v59 : Int, s = (f35n2S bh1 v59) ∧ (f35n2 f bh1 v59) = some o) ?_ (by rintro _ ⟨v59, rfl, hk⟩; exact f35n2_ok f _ _ hk)
  rcases Qg h with ⟨h61, h⟩ | ⟨h61, h⟩
  ·obtain ⟨x80, h81, h⟩ := Qe h
   rcases Qg h with ⟨h82, h⟩ | ⟨h82, h⟩
   ·obtain ⟨x83, h84, h⟩ := Qe h
    rcases Qg h with ⟨h85, h⟩ | ⟨h85, h⟩
    ·obtain ⟨x86, h87, h⟩ := Qe h
     rcases Qg h with ⟨h88, h⟩ | ⟨h88, h⟩
     ·obtain ⟨x89, h90, h⟩ := Qe h
      rcases Qg h with ⟨h91, h⟩ | ⟨h91, h⟩
      ·exact rE Qi [j3, ([], [(1, .idx (Int.toNat v59) (Qc.cells x80))], []), (jF [14, 15, 16, 17, 20, 21, 22, 23] ++ jT [3, 4, 5, 6, 7, 8, 9, 10, 11], [(6, .idx (Int.toNat (wr64 (v59 - 1))) (Qc.cells x83)), (12, .bool true), jH 16 (jB x86), (18, .bool false), jH 22 (jB x89), (24, .bool false)], []), j3] [some true, some false] [] [] [0, 5, 6, 7] (.norm, (f35n2S bh1 (wr64 (v59 + 1)))) (ap h61 (ap (Qh h81).1 (ap (Ql Qc.cells (Qh h81).2) (ap4 h82 (ap (Qh h84).1 (ap (Ql Qc.cells (Qh h84).2) (ap2 h82 (ap4 h82 (ap (Qk h85) (ap4 (Qk h85) (ap (Qk h88) (ap4 (Qk h88) (ap (Qct x80.Product h87) (ap (Qv x80.Price 536870912 h90) (ap (Qk h91) an))))))))))))))) (Qs.norm ⟨(wr64 (v59 + 1)), rfl, h⟩)
      ·obtain rfl := Qf h
       exact rK Qi 3 [j3, ([], [(1, .idx (Int.toNat v59) (Qc.cells x80))], []), (jF [14, 15, 16, 17, 20, 21, 22, 23] ++ jT [3, 4, 5, 6, 7, 8, 9, 10, 11], [(6, .idx (Int.toNat (wr64 (v59 - 1))) (Qc.cells x83)), (12, .bool true), jH 16 (jB x86), (18, .bool false), jH 22 (jB x89), (24, .bool false)], []), j3] [some true, some true] [] [] [2] .ret ((f35n2E bh1 .ret).2) (ap h61 (ap (Qh h81).1 (ap (Ql Qc.cells (Qh h81).2) (ap4 h82 (ap (Qh h84).1 (ap (Ql Qc.cells (Qh h84).2) (ap2 h82 (ap4 h82 (ap (Qk h85) (ap4 (Qk h85) (ap (Qk h88) (ap4 (Qk h88) (ap (Qct x80.Product h87) (ap (Qv x80.Price 536870912 h90) (ap (Qr h91) an))))))))))))))) (Qs.out rfl rfl)
     ·obtain rfl := Qf h
      exact rK Qi 3 [j3, ([], [(1, .idx (Int.toNat v59) (Qc.cells x80))], []), (jF [14, 15, 16, 17] ++ jT [3, 4, 5, 6, 7, 8, 9, 10, 11, 20, 21, 22, 23], [(6, .idx (Int.toNat (wr64 (v59 - 1))) (Qc.cells x83)), (12, .bool true), jH 16 (jB x86), (18, .bool false), (24, .bool true)], []), j3] [some true, none] [] [] [2] .ret ((f35n2E bh1 .ret).2) (ap h61 (ap (Qh h81).1 (ap (Ql Qc.cells (Qh h81).2) (ap4 h82 (ap (Qh h84).1 (ap (Ql Qc.cells (Qh h84).2) (ap2 h82 (ap4 h82 (ap (Qk h85) (ap4 (Qk h85) (ap (Qr h88) (ap4 (Qr h88) (ap (Qct x80.Product h87) an))))))))))))) (Qs.out rfl rfl)
    ·obtain rfl := Qf h
     exact rK Qi 3 [j3, ([], [(1, .idx (Int.toNat v59) (Qc.cells x80))], []), (jT [3, 4, 5, 6, 7, 8, 9, 10, 11, 14, 15, 16, 17], [(6, .idx (Int.toNat (wr64 (v59 - 1))) (Qc.cells x83)), (12, .bool true), (18, .bool true)], []), j3] [some true, none] [] [] [2] .ret ((f35n2E bh1 .ret).2) (ap h61 (ap (Qh h81).1 (ap (Ql Qc.cells (Qh h81).2) (ap4 h82 (ap (Qh h84).1 (ap (Ql Qc.cells (Qh h84).2) (ap2 h82 (ap4 h82 (ap (Qr h85) (ap4 (Qr h85) an)))))))))) (Qs.out rfl rfl)
   ·obtain ⟨x92, h93, h⟩ := Qe h
    rcases Qg h with ⟨h94, h⟩ | ⟨h94, h⟩
    ·obtain ⟨x95, h96, h⟩ := Qe h
     rcases Qg h with ⟨h97, h⟩ | ⟨h97, h⟩
     ·exact rE Qi [j3, ([], [(1, .idx (Int.toNat v59) (Qc.cells x80))], []), (jF [3, 4, 5, 6, 7, 8, 9, 10, 11, 20, 21, 22, 23], [(12, .bool false), jH 16 (jB x92), jH 22 (jB x95), (24, .bool false)], []), j3] [some true, some false] [] [] [0, 5, 6, 7] (.norm, (f35n2S bh1 (wr64 (v59 + 1)))) (ap h61 (ap (Qh h81).1 (ap (Ql Qc.cells (Qh h81).2) (ap2 h82 (ap4 h82 (ap4 h82 (ap (Qk h94) (ap4 (Qk h94) (ap (Qct x80.Product h93) (ap (Qv x80.Price 536870912 h96) (ap (Qk h97) an))))))))))) (Qs.norm ⟨(wr64 (v59 + 1)), rfl, h⟩)
     ·obtain rfl := Qf h
      exact rK Qi 3 [j3, ([], [(1, .idx (Int.toNat v59) (Qc.cells x80))], []), (jF [3, 4, 5, 6, 7, 8, 9, 10, 11, 20, 21, 22, 23], [(12, .bool false), jH 16 (jB x92), jH 22 (jB x95), (24, .bool false)], []), j3] [some true, some true] [] [] [2] .ret ((f35n2E bh1 .ret).2) (ap h61 (ap (Qh h81).1 (ap (Ql Qc.cells (Qh h81).2) (ap2 h82 (ap4 h82 (ap4 h82 (ap (Qk h94) (ap4 (Qk h94) (ap (Qct x80.Product h93) (ap (Qv x80.Price 536870912 h96) (ap (Qr h97) an))))))))))) (Qs.out rfl rfl)
    ·obtain rfl := Qf h
     exact rK Qi 3 [j3, ([], [(1, .idx (Int.toNat v59) (Qc.cells x80))], []), (jF [3, 4, 5, 6, 7, 8, 9, 10, 11] ++ jT [20, 21, 22, 23], [(12, .bool false), jH 16 (jB x92), (24, .bool true)], []), j3] [some true, none] [] [] [2] .ret ((f35n2E bh1 .ret).2) (ap h61 (ap (Qh h81).1 (ap (Ql Qc.cells (Qh h81).2) (ap2 h82 (ap4 h82 (ap4 h82 (ap (Qr h94) (ap4 (Qr h94) (ap (Qct x80.Product h93) an))))))))) (Qs.out rfl rfl)
  ·obtain rfl := Qf h
   exact rK Qi 2 [j3] [some false] [] [] [0] (.exit 0) ((f35n2E bh1 .exit0).2) (ap h61 an) (Qs.out rfl rfl)
noncomputable def f35n2L (bh1 : List Qc) : List Qc → Int → Option f35n2O
 | [], v59 =>
  some .exit0
 | x0 :: rest, v59 =>
  bif (decide (0 < v59)) then
   (at? bh1 (wr64 (v59 - 1))).bind fun x83 =>
   bif (slt x83.Product x0.Product) then
    (f45 x0.Product).bind fun x86 =>
    bif x86 then
     (f37 x0.Price 536870912).bind fun x89 =>
     bif x89 then
      (f35n2L bh1 rest (v59 + 1))
     else
      some .ret
    else
     some .ret
   else
    some .ret
  else
   (f45 x0.Product).bind fun x92 =>
   bif x92 then
    (f37 x0.Price 536870912).bind fun x95 =>
    bif x95 then
     (f35n2L bh1 rest (v59 + 1))
    else
     some .ret
   else
    some .ret
theorem f35n2L_eq (bh1 : List Qc) : ∀ (rest : List Qc) (f k : Nat), bh1.drop k = rest → bh1.length ≤ maxLen → rest.length < f → f35n2 f bh1 (k : Int) = f35n2L bh1 rest (k : Int)
 | _, 0, _, _, _, hf => absurd hf (Nat.not_lt_zero _)
 | [], f + 1, k, hd, hm, hf => by
  have hk : ¬ ((k : Int) < (bh1.length : Int)) := by have := Qai hd; omega
  rw [f35n2, f35n2L]
  simp only [decide_eq_false hk, cond_false]
 | x0 :: rest, f + 1, k, hd, hm, hf => by
  obtain ⟨hx, hlt, hd'⟩ := Qab hd
  have hk : (k : Int) < (bh1.length : Int) := by omega
  have hw : wr64 ((k : Int) + 1) = (k : Int) + 1 := Qbe (by omega) (by unfold maxLen at hm; omega)
  have ih : f35n2 f bh1 ((k : Int) + 1) = f35n2L bh1 rest ((k : Int) + 1) := f35n2L_eq bh1 rest f (k + 1) hd' hm (by simpa using hf)
  rw [f35n2, f35n2L]
  simp only [decide_eq_true hk, cond_true, Qah, hx, Option.bind_some, hw, ih]
theorem f35n2_run (bh1 : List Qc) (hm : bh1.length ≤ maxLen) : f35n2 FUEL bh1 0 = f35n2L bh1 bh1 0 := f35n2L_eq bh1 bh1 FUEL 0 List.drop_zero hm (Qat hm)
inductive f35n1O where
 | norm
 | ret
def f35n1E (bh1 : List Qc) : f35n1O → Ex × Tr × Hp
 | .norm => (.norm, mkS [(0, (jL 2 Qc.cells bh1))], [])
 | .ret => (.ret, mkS [(2, (jB false))], [])
def f35n1S (bh1 : List Qc) : Tr × Hp := (mkS [(0, (jL 2 Qc.cells bh1))], [])
noncomputable def f35n1 (bh1 : List Qc) : Option f35n1O :=
 (f35n2 FUEL bh1 0).bind fun o98 => match o98 with
 | .exit0 => some .norm
 | .ret => some .ret
theorem f35n1_ok (bh1 : List Qc) {o : f35n1O} (h : (f35n1 bh1) = some o) : T Try.prog Try.f35.ntmps 0 (cL (Qn 1 c35)) (f35n1S bh1) (fun r => r = f35n1E bh1 o) := by
 unfold f35n1 at h
 refine rN Qi 1 [([], [], [(1, .val (jI (bh1.length : Int)))])] [] [] [] [0, 5, 6, 7] (f35n2S bh1 0) (ap (Qo (xs := bh1) (c := Qc.cells)) an) ?_
 obtain ⟨o98, h99, h⟩ := Qe h
 cases o98 with
 | exit0 =>
  obtain rfl := Qf h
  exact T.last' (T.bl (i := 0) (by kernel_rfl) (by kernel_rfl) (f35n2_ok FUEL bh1 0 h99)) (tds := []) (m := []) (keep := [0]) (st2 := (f35n1E bh1 .norm).2) (by kernel_rfl) an rfl
 | ret =>
  obtain rfl := Qf h
  exact T.last' (T.bl (i := 0) (by kernel_rfl) (by kernel_rfl) (f35n2_ok FUEL bh1 0 h99)) (tds := []) (m := []) (keep := [2]) (st2 := (f35n1E bh1 .ret).2) (by kernel_rfl) an rfl
inductive f35n0O where
 | ret (v102 : Bool)
def f35n0E (a1 : List Qc) : f35n0O → Ex × Tr × Hp
 | .ret v102 => (.ret, mkS [(2, (jB v102))], [])
def f35n0S (a1 : List Qc) : Tr × Hp := (Qal [(jL 2 Qc.cells a1)] 0 .leaf, [])
noncomputable def f35n0 (a1 : List Qc) : Option f35n0O :=
 (f35n1 a1).bind fun o100 => match o100 with
 | .norm => some (.ret (decide ((a1.length : Int) ≤ 200)))
 | .ret => some (.ret false)
theorem f35n0_ok (a1 : List Qc) {o : f35n0O} (h : (f35n0 a1) = some o) : T Try.prog Try.f35.ntmps 0 c35 (f35n0S a1) (fun r => r = f35n0E a1 o) := by
 unfold f35n0 at h
 refine rN Qi 1 [j3] [] [] [] [0] (f35n1S a1) an ?_
 obtain ⟨o100, h101, h⟩ := Qe h
 cases o100 with
 | norm =>
  refine T.oneN (by kernel_rfl) (f35n1_ok a1 h101) (st2 := (f35n1E a1 .norm).2) rfl ?_
  obtain rfl := Qf h
  exact rE Qi [([], [], [(1, .val (jI (a1.length : Int)))])] [] [] [] [2] (.ret, (f35n0E a1 (.ret (decide ((a1.length : Int) ≤ 200)))).2) (ap (Qo (xs := a1) (c := Qc.cells)) an) rfl
 | ret =>
  obtain rfl := Qf h
  exact T.oneX' (by kernel_rfl) (f35n1_ok a1 h101) (tds := []) (m := []) (keep := [2]) (st2 := (f35n0E a1 (.ret false)).2) (by kernel_rfl) an rfl rfl
noncomputable def f35 (a1 : List Qc) : Option Bool := (f35n0 a1).bind fun o => match o with
 | .ret v102 => some v102
theorem f35_ok (a1 : List Qc) {r : Bool} (h : (f35 a1) = some r) : Qq Try.prog false 35 [(jL 2 Qc.cells a1)] [] (jB r) [] := by
 unfold f35 at h
 obtain ⟨o, ho, h⟩ := Qe h
 cases o with
 | ret v102 =>
  obtain rfl := Qf h
  exact Qq.plain Qi (f := Try.f35) (c := c35) (by kernel_rfl) (by kernel_rfl) (by kernel_rfl) (by kernel_rfl) ((f35n0_ok a1 ho).mono fun r e => by subst e; exact ⟨.inl rfl, (jB v102), (jB v102), by kernel_rfl, by kernel_rfl, ((Wk.refl _) : Wk (jB v102) (jB v102))⟩)

noncomputable def c58 : Code := Try.f58.body.getD .skip
inductive f58n0O where
 | ret (v7 : Int)
def f58n0E (a1 : Qc) (a2 : ByteArray) : f58n0O → Ex × Tr × Hp
 | .ret v7 => (.ret, mkS [(4, (jI v7))], [])
def f58n0S (a1 : Qc) (a2 : ByteArray) : Tr × Hp := (Qal [(jA Qc.cells a1), (jS a2)] 0 .leaf, [])
noncomputable def f58n0 (a1 : Qc) (a2 : ByteArray) : Option f58n0O :=
 (f40 a1.Product a2).bind fun x5 =>
 some (.ret x5)
theorem f58n0_ok (a1 : Qc) (a2 : ByteArray) {o : f58n0O} (h : (f58n0 a1 a2) = some o) : T Try.prog Try.f58.ntmps 0 c58 (f58n0S a1 a2) (fun r => r = f58n0E a1 a2 o) := by
 unfold f58n0 at h
 obtain ⟨x5, h6, h⟩ := Qe h
 obtain rfl := Qf h
 exact rE Qi [j3, ([], [jH 3 (jI x5)], [])] [] [] [] [4] (.ret, (f58n0E a1 a2 (.ret x5)).2) (ap (f40_ok a1.Product a2 h6) an) rfl
noncomputable def f58 (a1 : Qc) (a2 : ByteArray) : Option Int := (f58n0 a1 a2).bind fun o => match o with
 | .ret v7 => some v7
theorem f58_ok (a1 : Qc) (a2 : ByteArray) {r : Int} (h : (f58 a1 a2) = some r) : Qq Try.prog false 58 [(jA Qc.cells a1), (jS a2)] [] (jI r) [] := by
 unfold f58 at h
 obtain ⟨o, ho, h⟩ := Qe h
 cases o with
 | ret v7 =>
  obtain rfl := Qf h
  exact Qq.plain Qi (f := Try.f58) (c := c58) (by kernel_rfl) (by kernel_rfl) (by kernel_rfl) (by kernel_rfl) ((f58n0_ok a1 a2 ho).mono fun r e => by subst e; exact ⟨.inl rfl, (jI v7), (jI v7), by kernel_rfl, by kernel_rfl, ((Wk.refl _) : Wk (jI v7) (jI v7))⟩)

noncomputable def c57 : Code := Try.f57.body.getD .skip
inductive f57_58n1O where
 | exit0 (v43 : Int)
def f57_58n1E (a1 : List Qc) (a2 : ByteArray) : f57_58n1O → Ex × Tr × Hp
 | .exit0 v43 => ((.exit 0), mkS [(0, (jL 2 Qc.cells a1)), (1, (jS a2)), (2, (.pl (.fn 58))), (8, (jI (a1.length : Int))), (9, (jI v43))], [])
def f57_58n1S (a1 : List Qc) (a2 : ByteArray) (v29 : Int) (v30 : Int) : Tr × Hp := (mkS [(0, (jL 2 Qc.cells a1)), (1, (jS a2)), (2, (.pl (.fn 58))), (8, (jI (a1.length : Int))), (9, (jI v29)), (10, (jI v30))], [])
noncomputable def f57_58n1 : Nat → List Qc → ByteArray → Int → Int → Option f57_58n1O
 | 0, _, _, _, _ => none
 | f + 1, a1, a2, v29, v30 =>
  bif (decide (v29 < v30)) then
   (at? a1 (wr64 (shrK .u64 (wru64 (wr64 (v29 + v30))) 1))).bind fun x38 =>
   (f58 x38 a2).bind fun x40 =>
   bif (decide (x40 < 0)) then
    (f57_58n1 f a1 a2 (wr64 ((wr64 (shrK .u64 (wru64 (wr64 (v29 + v30))) 1)) + 1)) v30)
   else
    (f57_58n1 f a1 a2 v29 (wr64 (shrK .u64 (wru64 (wr64 (v29 + v30))) 1)))
  else
   some (.exit0 v29)
theorem f57_58n1_ok : ∀ (f : Nat) (a1 : List Qc) (a2 : ByteArray) (v29 : Int) (v30 : Int) {o : f57_58n1O}, (f57_58n1 f a1 a2 v29 v30) = some o → TL Try.prog Try.f57.ntmps 0 f (cL (cL (cL (Qn 3 c57)))) (f57_58n1S a1 a2 v29 v30) (fun r => r = f57_58n1E a1 a2 o)
 | 0, _, _, _, _, o, h => by rw [f57_58n1] at h; cases h
 | f + 1, a1, a2, v29, v30, o, h => by
  rw [f57_58n1] at h
  refine TL.body (K := fun s => ∃ v29 : Int, ∃ v30 : Int, s = (f57_58n1S a1 a2 v29 v30) ∧ (f57_58n1 f a1 a2 v29 v30) = some o) ?_ (by rintro _ ⟨v29, v30, rfl, hk⟩; exact f57_58n1_ok f _ _ _ _ hk)
  rcases Qg h with ⟨h32, h⟩ | ⟨h32, h⟩
  ·obtain ⟨x38, h39, h⟩ := Qe h
   obtain ⟨x40, h41, h⟩ := Qe h
   rcases Qg h with ⟨h42, h⟩ | ⟨h42, h⟩
   ·exact rE Qi [j3, j3, ([], [(3, .idx (Int.toNat (wr64 (shrK .u64 (wru64 (wr64 (v29 + v30))) 1))) (Qc.cells x38)), jH 6 (jI x40)], []), j3] [some true, some true] [] [] [0, 1, 2, 8, 9, 10] (.norm, (f57_58n1S a1 a2 (wr64 ((wr64 (shrK .u64 (wru64 (wr64 (v29 + v30))) 1)) + 1)) v30)) (ap h32 (ap (Qh h39).1 (ap (Ql Qc.cells (Qh h39).2) (ap (f58_ok x38 a2 h41) (ap h42 an))))) (Qs.norm ⟨(wr64 ((wr64 (shrK .u64 (wru64 (wr64 (v29 + v30))) 1)) + 1)), v30, rfl, h⟩)
   ·exact rE Qi [j3, j3, ([], [(3, .idx (Int.toNat (wr64 (shrK .u64 (wru64 (wr64 (v29 + v30))) 1))) (Qc.cells x38)), jH 6 (jI x40)], []), j3] [some true, some false] [] [] [0, 1, 2, 8, 9, 10] (.norm, (f57_58n1S a1 a2 v29 (wr64 (shrK .u64 (wru64 (wr64 (v29 + v30))) 1)))) (ap h32 (ap (Qh h39).1 (ap (Ql Qc.cells (Qh h39).2) (ap (f58_ok x38 a2 h41) (ap h42 an))))) (Qs.norm ⟨v29, (wr64 (shrK .u64 (wru64 (wr64 (v29 + v30))) 1)), rfl, h⟩)
  ·obtain rfl := Qf h
   exact rK Qi 1 [j3] [some false] [] [] [0, 1, 2, 8, 9] (.exit 0) ((f57_58n1E a1 a2 (.exit0 v29)).2) (ap h32 an) (Qs.out rfl rfl)
inductive f57_58n0O where
 | ret (v57 : Int) (v58 : Bool)
def f57_58n0E (a1 : List Qc) (a2 : ByteArray) : f57_58n0O → Ex × Tr × Hp
 | .ret v57 v58 => (.ret, mkS [(6, (jI v57)), (7, (jB v58))], [])
def f57_58n0S (a1 : List Qc) (a2 : ByteArray) : Tr × Hp := (Qal [(jL 2 Qc.cells a1), (jS a2), (.pl (.fn 58))] 0 .leaf, [])
noncomputable def f57_58n0 (a1 : List Qc) (a2 : ByteArray) : Option f57_58n0O :=
 (f57_58n1 FUEL a1 a2 0 (a1.length : Int)).bind fun o44 => match o44 with
 | .exit0 v46 => bif (decide (v46 < (a1.length : Int))) then
   (at? a1 v46).bind fun x53 =>
   (f58 x53 a2).bind fun x55 =>
   some (.ret v46 (decide (x55 = 0)))
  else
   some (.ret v46 false)
theorem f57_58n0_ok (a1 : List Qc) (a2 : ByteArray) {o : f57_58n0O} (h : (f57_58n0 a1 a2) = some o) : T Try.prog Try.f57.ntmps 0 c57 (f57_58n0S a1 a2) (fun r => r = f57_58n0E a1 a2 o) := by
 unfold f57_58n0 at h
 refine rN Qi 3 [j3, ([], [], [(1, .val (jI (a1.length : Int)))]), j3] [] [] [] [0, 1, 2, 8, 9, 10] (f57_58n1S a1 a2 0 (a1.length : Int)) (ap (Qo (xs := a1) (c := Qc.cells)) an) ?_
 obtain ⟨o44, h45, h⟩ := Qe h
 cases o44 with
 | exit0 v46 =>
  refine T.oneN (by kernel_rfl) (T.bl (i := 0) (by kernel_rfl) (by kernel_rfl) (f57_58n1_ok FUEL a1 a2 0 (a1.length : Int) h45)) (st2 := (f57_58n1E a1 a2 (.exit0 v46)).2) rfl ?_
  rcases Qg h with ⟨h52, h⟩ | ⟨h52, h⟩
  ·obtain ⟨x53, h54, h⟩ := Qe h
   obtain ⟨x55, h56, h⟩ := Qe h
   obtain rfl := Qf h
   exact rE Qi [(jT [5, 6, 7, 8, 9, 10, 11, 12], [(8, .idx (Int.toNat v46) (Qc.cells x53)), jH 11 (jI x55), (13, .bool true)], [])] [] [] [] [6, 7] (.ret, (f57_58n0E a1 a2 (.ret v46 (decide (x55 = 0)))).2) (ap4 h52 (ap (Qh h54).1 (ap (Ql Qc.cells (Qh h54).2) (ap h52 (ap4 h52 (ap (f58_ok x53 a2 h56) an)))))) rfl
  ·obtain rfl := Qf h
   exact rE Qi [(jF [5, 6, 7, 8, 9, 10, 11, 12], [(13, .bool false)], [])] [] [] [] [6, 7] (.ret, (f57_58n0E a1 a2 (.ret v46 false)).2) (ap h52 (ap4 h52 (ap4 h52 an))) rfl
noncomputable def f57_58 (a1 : List Qc) (a2 : ByteArray) : Option (Int × Bool) := (f57_58n0 a1 a2).bind fun o => match o with
 | .ret v57 v58 => some (v57, v58)
theorem f57_58_ok (a1 : List Qc) (a2 : ByteArray) {r : Int × Bool} (h : (f57_58 a1 a2) = some r) : Qq Try.prog false 57 [(jL 2 Qc.cells a1), (jS a2), (.pl (.fn 58))] [] (.tup [(jI r.1), (jB r.2)]) [] := by
 unfold f57_58 at h
 obtain ⟨o, ho, h⟩ := Qe h
 cases o with
 | ret v57 v58 =>
  obtain rfl := Qf h
  exact Qq.plain Qi (f := Try.f57) (c := c57) (by kernel_rfl) (by kernel_rfl) (by kernel_rfl) (by kernel_rfl) ((f57_58n0_ok a1 a2 ho).mono fun r e => by subst e; exact ⟨.inl rfl, (.tup [(jI v57), (jB v58)]), (.tup [(jI v57), (jB v58)]), by kernel_rfl, by kernel_rfl, ((Wk.refl _) : Wk (.tup [(jI v57), (jB v58)]) (.tup [(jI v57), (jB v58)]))⟩)

noncomputable def c36 : Code := Try.f36.body.getD .skip
inductive f36n0O where
 | ret (v15 : Int) (v16 : Bool)
def f36n0E (a1 : Qa) (a2 : List Qc) : f36n0O → Ex × Tr × Hp
 | .ret v15 v16 => (.ret, mkS [(4, (jI v15)), (5, (jB v16))], [])
def f36n0S (a1 : Qa) (a2 : List Qc) : Tr × Hp := (Qal [(jA Qa.cells a1), (jL 2 Qc.cells a2)] 0 .leaf, [])
noncomputable def f36n0 (a1 : Qa) (a2 : List Qc) : Option f36n0O :=
 bif (decide (a1.Quantity = 0)) then
  some (.ret 0 true)
 else
  (f57_58 a2 a1.Product).bind fun x7 =>
  bif x7.2 then
   (at? a2 x7.1).bind fun x13 =>
   some (.ret (wr64 (a1.Quantity * x13.Price)) true)
  else
   some (.ret 0 false)
theorem f36n0_ok (a1 : Qa) (a2 : List Qc) {o : f36n0O} (h : (f36n0 a1 a2) = some o) : T Try.prog Try.f36.ntmps 0 c36 (f36n0S a1 a2) (fun r => r = f36n0E a1 a2 o) := by
 unfold f36n0 at h
 rcases Qg h with ⟨h4, h⟩ | ⟨h4, h⟩
 ·obtain rfl := Qf h
  exact rK Qi 2 [j3, j3, j3] [some true] [] [] [4, 5] .ret ((f36n0E a1 a2 (.ret 0 true)).2) (ap h4 an) rfl
 ·obtain ⟨x7, h8, h⟩ := Qe h
  rcases Qg h with ⟨h10, h⟩ | ⟨h10, h⟩
  ·obtain ⟨x13, h14, h⟩ := Qe h
   obtain rfl := Qf h
   exact rE Qi [j3, j3, ([], [jH 3 (.tup [(jI x7.1), (jB x7.2)])], []), j3, ([], [(4, .idx (Int.toNat x7.1) (Qc.cells x13))], [])] [some false, some false] [] [] [4, 5] (.ret, (f36n0E a1 a2 (.ret (wr64 (a1.Quantity * x13.Price)) true)).2) (ap h4 (ap (f57_58_ok a2 a1.Product h8) (ap (Qk h10) (ap (Qh h14).1 (ap (Ql Qc.cells (Qh h14).2) an))))) rfl
  ·obtain rfl := Qf h
   exact rK Qi 4 [j3, j3, ([], [jH 3 (.tup [(jI x7.1), (jB x7.2)])], []), j3, j3] [some false, some true] [] [] [4, 5] .ret ((f36n0E a1 a2 (.ret 0 false)).2) (ap h4 (ap (f57_58_ok a2 a1.Product h8) (ap (Qr h10) an))) rfl
noncomputable def f36 (a1 : Qa) (a2 : List Qc) : Option (Int × Bool) := (f36n0 a1 a2).bind fun o => match o with
 | .ret v15 v16 => some (v15, v16)
theorem f36_ok (a1 : Qa) (a2 : List Qc) {r : Int × Bool} (h : (f36 a1 a2) = some r) : Qq Try.prog false 36 [(jA Qa.cells a1), (jL 2 Qc.cells a2)] [] (.tup [(jI r.1), (jB r.2)]) [] := by
 unfold f36 at h
 obtain ⟨o, ho, h⟩ := Qe h
 cases o with
 | ret v15 v16 =>
  obtain rfl := Qf h
  exact Qq.plain Qi (f := Try.f36) (c := c36) (by kernel_rfl) (by kernel_rfl) (by kernel_rfl) (by kernel_rfl) ((f36n0_ok a1 a2 ho).mono fun r e => by subst e; exact ⟨.inl rfl, (.tup [(jI v15), (jB v16)]), (.tup [(jI v15), (jB v16)]), by kernel_rfl, by kernel_rfl, ((Wk.refl _) : Wk (.tup [(jI v15), (jB v16)]) (.tup [(jI v15), (jB v16)]))⟩)

noncomputable def c39 : Code := Try.f39.body.getD .skip
inductive f39n0O where
 | ret (v7 : Int)
def f39n0E (a1 : Qb) (a2 : Qb) : f39n0O → Ex × Tr × Hp
 | .ret v7 => (.ret, mkS [(4, (jI v7))], [])
def f39n0S (a1 : Qb) (a2 : Qb) : Tr × Hp := (Qal [(jA Qb.cells a1), (jA Qb.cells a2)] 0 .leaf, [])
noncomputable def f39n0 (a1 : Qb) (a2 : Qb) : Option f39n0O :=
 (f40 a1.Member a2.Member).bind fun x5 =>
 some (.ret x5)
theorem f39n0_ok (a1 : Qb) (a2 : Qb) {o : f39n0O} (h : (f39n0 a1 a2) = some o) : T Try.prog Try.f39.ntmps 0 c39 (f39n0S a1 a2) (fun r => r = f39n0E a1 a2 o) := by
 unfold f39n0 at h
 obtain ⟨x5, h6, h⟩ := Qe h
 obtain rfl := Qf h
 exact rE Qi [j3, ([], [jH 4 (jI x5)], [])] [] [] [] [4] (.ret, (f39n0E a1 a2 (.ret x5)).2) (ap (f40_ok a1.Member a2.Member h6) an) rfl
noncomputable def f39 (a1 : Qb) (a2 : Qb) : Option Int := (f39n0 a1 a2).bind fun o => match o with
 | .ret v7 => some v7
theorem f39_ok (a1 : Qb) (a2 : Qb) {r : Int} (h : (f39 a1 a2) = some r) : Qq Try.prog false 39 [(jA Qb.cells a1), (jA Qb.cells a2)] [] (jI r) [] := by
 unfold f39 at h
 obtain ⟨o, ho, h⟩ := Qe h
 cases o with
 | ret v7 =>
  obtain rfl := Qf h
  exact Qq.plain Qi (f := Try.f39) (c := c39) (by kernel_rfl) (by kernel_rfl) (by kernel_rfl) (by kernel_rfl) ((f39n0_ok a1 a2 ho).mono fun r e => by subst e; exact ⟨.inl rfl, (jI v7), (jI v7), by kernel_rfl, by kernel_rfl, ((Wk.refl _) : Wk (jI v7) (jI v7))⟩)

instance : Inhabited Qb := ⟨by constructor <;> exact default⟩
theorem f61_val (a : ByteArray) : f61 a = some false := by
 unfold f61 f61n0
 simp [Qag]
theorem f40_val (a b : ByteArray) : f40 a b = some (cmpB a b) := by
 unfold f40 f40n0 cmpB
 rw [f61_val, f61_val]
 simp only [Option.bind_some, cond_false]
 cases slt a b <;> cases seq a b <;> rfl
theorem f39_val (x y : Qb) : f39 x y = some (cmpB x.Member y.Member) := by
 unfold f39 f39n0
 rw [f40_val]
 rfl
def so38_39 (xs : List Qb) : Option (List Qb) := bif decide (xs.length < 4611686018427387904) && nodupK (fun x => x.Member) xs then some (isort (fun x => x.Member) xs) else none
theorem so38_39_ok (xs : List Qb) {r : List Qb} (h : so38_39 xs = some r) :
  Qq Try.prog true 38 [.own 0, .pl (.fn 39)] [some (.row false 2 (xs.map Qb.cells))] (.tup []) [some (.row false 2 (r.map Qb.cells))] := by
 unfold so38_39 at h
 cases hc : (decide (xs.length < 4611686018427387904) && nodupK (fun x => x.Member) xs) with
 | false => rw [hc] at h; cases h
 | true =>
  rw [hc] at h
  simp only [cond_true, Option.some.injEq] at h
  rw [Bool.and_eq_true] at hc
  subst h
  rw [← sortL_isort (fun x : Qb => x.Member) hc.2]
  exact sort_callS (cells := Qb.cells) so_lays rfl so_agg so_size (enters_of Try.func38 (by kernel_rfl) rfl) (fun _ => rfl) (fun x q hq => by
   simp only [Qb.cells, List.mem_cons, List.not_mem_nil, or_false] at hq
   rcases hq with rfl | rfl <;> rfl) _ (swo_key fun x => x.Member) (fun x y => f39_ok _ _ (f39_val x y)) xs (of_decide_eq_true hc.1)


noncomputable def c14 : Code := Try.f14.body.getD .skip
inductive f14r1n1O where
 | norm (v30 : Int)
def f14r1n1E (be1 : Int) (be2 : Int) (bg3 : List Qa) (bh4 : List Qc) (be5 : Int) : f14r1n1O → Ex × Tr × Hp
 | .norm v30 => (.norm, mkS [(1, (jI be1)), (2, (.own 1)), (3, (.bp 2 0)), (6, (.bp 3 0)), (9, (jI v30))], [jR 4 Qa.cells bg3, jR 2 Qc.cells bh4, some (.box [(jI be5), (.own 0)]), some (.box [(jI 0), (.pl (.sl .nil 0 []))])])
def f14r1n1S (be1 : Int) (be2 : Int) (bg3 : List Qa) (bh4 : List Qc) (be5 : Int) : Tr × Hp := (mkS [(1, (jI be1)), (2, (.own 1)), (3, (.bp 2 0)), (6, (.bp 3 0)), (9, (jI be2))], [jR 4 Qa.cells bg3, jR 2 Qc.cells bh4, some (.box [(jI be5), (.own 0)]), some (.box [(jI 0), (.pl (.sl .nil 0 []))])])
noncomputable def f14r1n1 (be1 : Int) (be2 : Int) (bg3 : List Qa) (bh4 : List Qc) (be5 : Int) : Option f14r1n1O :=
 bif (decide (be2 = 0)) then
  bif (decide (be1 < 0)) then
   some (.norm 2)
  else
   bif (decide (99999 < be1)) then
    some (.norm 2)
   else
    (f35 bh4).bind fun x26 =>
    bif x26 then
     bif (decide (be1 ≤ be5)) then
      some (.norm 21)
     else
      some (.norm be2)
    else
     some (.norm 2)
 else
  some (.norm be2)
theorem f14r1n1_ok (be1 : Int) (be2 : Int) (bg3 : List Qa) (bh4 : List Qc) (be5 : Int) {o : f14r1n1O} (h : (f14r1n1 be1 be2 bg3 bh4 be5) = some o) : T Try.prog Try.f14.ntmps 2 (cL (Qn 2 c14)) (f14r1n1S be1 be2 bg3 bh4 be5) (fun r => r = f14r1n1E be1 be2 bg3 bh4 be5 o) := by
 unfold f14r1n1 at h
 rcases Qg h with ⟨h23, h⟩ | ⟨h23, h⟩
 ·rcases Qg h with ⟨h24, h⟩ | ⟨h24, h⟩
  ·obtain rfl := Qf h
   exact rE Qi [j3, ([(3, true), (4, true)], [(5, .bool true)], []), j3] [some false, none] [] [2, 3] [1, 2, 3, 6, 9] (.norm, (f14r1n1E be1 be2 bg3 bh4 be5 (.norm 2)).2) (ap (Qk h23) (ap3 h24 an)) rfl
  ·rcases Qg h with ⟨h25, h⟩ | ⟨h25, h⟩
   ·obtain rfl := Qf h
    exact rE Qi [j3, (jF [3, 4] ++ jT [7, 8, 9], [(5, .bool false), (10, .bool true)], []), j3] [some false, none] [] [2, 3] [1, 2, 3, 6, 9] (.norm, (f14r1n1E be1 be2 bg3 bh4 be5 (.norm 2)).2) (ap (Qk h23) (ap3 h24 (ap4 h25 an))) rfl
   ·obtain ⟨x26, h27, h⟩ := Qe h
    rcases Qg h with ⟨h28, h⟩ | ⟨h28, h⟩
    ·rcases Qg h with ⟨h29, h⟩ | ⟨h29, h⟩
     ·obtain rfl := Qf h
      exact rE Qi [j3, (jF [3, 4, 7, 8, 9], [(5, .bool false), jH 8 (jB x26), (10, .bool false)], []), j3, j3] [some false, some false, some true] [] [2, 3] [1, 2, 3, 6, 9] (.norm, (f14r1n1E be1 be2 bg3 bh4 be5 (.norm 21)).2) (ap (Qk h23) (ap3 h24 (ap4 h25 (ap (f35_ok bh4 h27) (ap (Qk h28) (ap h29 an)))))) rfl
     ·obtain rfl := Qf h
      exact rE Qi [j3, (jF [3, 4, 7, 8, 9], [(5, .bool false), jH 8 (jB x26), (10, .bool false)], []), j3] [some false, some false, some false] [] [2, 3] [1, 2, 3, 6, 9] (.norm, (f14r1n1E be1 be2 bg3 bh4 be5 (.norm be2)).2) (ap (Qk h23) (ap3 h24 (ap4 h25 (ap (f35_ok bh4 h27) (ap (Qk h28) (ap h29 an)))))) rfl
    ·obtain rfl := Qf h
     exact rE Qi [j3, (jF [3, 4, 7, 8, 9], [(5, .bool false), jH 8 (jB x26), (10, .bool false)], []), j3] [some false, some true] [] [2, 3] [1, 2, 3, 6, 9] (.norm, (f14r1n1E be1 be2 bg3 bh4 be5 (.norm 2)).2) (ap (Qk h23) (ap3 h24 (ap4 h25 (ap (f35_ok bh4 h27) (ap (Qr h28) an))))) rfl
 ·obtain rfl := Qf h
  exact rE Qi [j3] [some true] [] [2, 3] [1, 2, 3, 6, 9] (.norm, (f14r1n1E be1 be2 bg3 bh4 be5 (.norm be2)).2) (ap (Qr h23) an) rfl
inductive f14r1n3O where
 | exit1 (v88 : List (ByteArray × Int)) (v89 : List Qa)
 | ret
def f14r1n3E (bg1 : List Qa) (bh2 : List Qc) (be4 : Int) : f14r1n3O → Ex × Tr × Hp
 | .exit1 v88 v89 => ((.exit 1), mkS [(6, (.bp 2 0)), (10, (.bp 3 0)), (11, (.mp 4))], [jR 4 Qa.cells bg1, jR 2 Qc.cells bh2, some (.box [(jI 0), (.pl (.sl .nil 0 []))]), some (.box [(jI be4), (.own 5)]), some (.map (v88.map (mkv pStr (pInt .i64)))), jR 4 Qa.cells v89])
 | .ret => (.ret, mkS [(6, (.bp 2 0)), (7, (.pl (.sl .nil 0 []))), (8, (jI 30))], [jR 4 Qa.cells bg1, jR 2 Qc.cells bh2, some (.box [(jI 0), (.pl (.sl .nil 0 []))])])
def f14r1n3S (bg1 : List Qa) (bh2 : List Qc) (be4 : Int) (v69 : Int) (v70 : List (ByteArray × Int)) (v71 : List Qa) : Tr × Hp := (mkS [(2, (.own 1)), (6, (.bp 2 0)), (10, (.bp 3 0)), (11, (.mp 4)), (49, (.own 0)), (50, (jI (bg1.length : Int))), (51, (jI v69))], [jR 4 Qa.cells bg1, jR 2 Qc.cells bh2, some (.box [(jI 0), (.pl (.sl .nil 0 []))]), some (.box [(jI be4), (.own 5)]), some (.map (v70.map (mkv pStr (pInt .i64)))), jR 4 Qa.cells v71])
noncomputable def f14r1n3 : Nat → List Qa → List Qc → Int → Int → List (ByteArray × Int) → List Qa → Option f14r1n3O
 | 0, _, _, _, _, _, _ => none
 | f + 1, bg1, bh2, be4, v69, v70, v71 =>
  bif (decide (v69 < (bg1.length : Int))) then
   (at? bg1 v69).bind fun x81 =>
   (f36 x81 bh2).bind fun x83 =>
   bif x83.2 then
    bif (decide (x81.Quantity = 0)) then
     (f14r1n3 f bg1 bh2 be4 (wr64 (v69 + 1)) (mPut seq x81.Member (wr64 ((mGet seq 0 x81.Member v70) + (wr64 (x83.1 - x81.Basis)))) v70) v71)
    else
     req (fit (v71.length + 1) 48) <|
     (f14r1n3 f bg1 bh2 be4 (wr64 (v69 + 1)) (mPut seq x81.Member (wr64 ((mGet seq 0 x81.Member v70) + (wr64 (x83.1 - x81.Basis)))) v70) (v71 ++ [(Qa.mk x81.Member x81.Product x81.Quantity x83.1)]))
   else
    some .ret
  else
   some (.exit1 v70 v71)
theorem f14r1n3_ok : ∀ (f : Nat) (bg1 : List Qa) (bh2 : List Qc) (be4 : Int) (v69 : Int) (v70 : List (ByteArray × Int)) (v71 : List Qa) {o : f14r1n3O}, (f14r1n3 f bg1 bh2 be4 v69 v70 v71) = some o → TL Try.prog Try.f14.ntmps 2 f (cL (cL (Qn 1 (cL (Qn 3 (Qn 1 (Qn 2 c14))))))) (f14r1n3S bg1 bh2 be4 v69 v70 v71) (fun r => r = f14r1n3E bg1 bh2 be4 o)
 | 0, _, _, _, _, _, _, o, h => by rw [f14r1n3] at h; cases h
 | f + 1, bg1, bh2, be4, v69, v70, v71, o, h => by
  rw [f14r1n3] at h
  refine TL.body (K := fun s => ∃ v69 : Int, ∃ v70 : List (ByteArray × Int), ∃ v71 : List Qa, s = (f14r1n3S bg1 bh2 be4 v69 v70 v71) ∧ (f14r1n3 f bg1 bh2 be4 v69 v70 v71) = some o) ?_ (by rintro _ ⟨v69, v70, v71, rfl, hk⟩; exact f14r1n3_ok f _ _ _ _ _ _ hk)
  rcases Qg h with ⟨h73, h⟩ | ⟨h73, h⟩
  ·obtain ⟨x81, h82, h⟩ := Qe h
   obtain ⟨x83, h84, h⟩ := Qe h
   rcases Qg h with ⟨h85, h⟩ | ⟨h85, h⟩
   ·rcases Qg h with ⟨h86, h⟩ | ⟨h86, h⟩
    ·exact rE Qi [j3, ([], [(0, .at_ (Int.toNat v69)), (1, .idx 0 (Qa.cells x81))], []), ([], [jH 2 (.tup [(jI x83.1), (jB x83.2)])], []), j3, ([], [(3, .look ((pInt .i64) (mGet seq 0 x81.Member v70)) (mHas seq x81.Member v70)), (9, .mset ((mPut seq x81.Member (wr64 ((mGet seq 0 x81.Member v70) + (wr64 (x83.1 - x81.Basis)))) v70).map (mkv pStr (pInt .i64))))], []), j3, j3, j3] [some true, some false, some false] [] [2, 3, 4, 5] [2, 6, 10, 11, 49, 50, 51] (.norm, (f14r1n3S bg1 bh2 be4 (wr64 (v69 + 1)) (mPut seq x81.Member (wr64 ((mGet seq 0 x81.Member v70) + (wr64 (x83.1 - x81.Basis)))) v70) v71)) (ap h73 (ap (Qh h82).1 (ap (Qay Qa.cells (Qh h82).2) (ap (Ql Qa.cells (Qh h82).2) (ap (f36_ok x81 bh2 h84) (ap (Qk h85) (ap (look_map (vp := (pInt .i64)) (e := 3) key_9 0 (by kernel_rfl) x81.Member v70) (ap (mset_map (vp := (pInt .i64)) key_9 x81.Member (wr64 ((mGet seq 0 x81.Member v70) + (wr64 (x83.1 - x81.Basis)))) v70) (ap (Qk h86) an))))))))) (Qs.norm ⟨(wr64 (v69 + 1)), (mPut seq x81.Member (wr64 ((mGet seq 0 x81.Member v70) + (wr64 (x83.1 - x81.Basis)))) v70), v71, rfl, h⟩)
    ·obtain ⟨h87, h⟩ := Qz h
     exact rE Qi [j3, ([], [(0, .at_ (Int.toNat v69)), (1, .idx 0 (Qa.cells x81))], []), ([], [jH 2 (.tup [(jI x83.1), (jB x83.2)])], []), j3, ([], [(3, .look ((pInt .i64) (mGet seq 0 x81.Member v70)) (mHas seq x81.Member v70)), (9, .mset ((mPut seq x81.Member (wr64 ((mGet seq 0 x81.Member v70) + (wr64 (x83.1 - x81.Basis)))) v70).map (mkv pStr (pInt .i64))))], []), j3, j3, ([], [(4, .fits)], [(4, .row 8 ((v71 ++ [(Qa.mk x81.Member x81.Product x81.Quantity x83.1)]).map Qa.cells))]), j3] [some true, some false, some true] [] [2, 3, 4, 8] [2, 6, 10, 11, 49, 50, 51] (.norm, (f14r1n3S bg1 bh2 be4 (wr64 (v69 + 1)) (mPut seq x81.Member (wr64 ((mGet seq 0 x81.Member v70) + (wr64 (x83.1 - x81.Basis)))) v70) (v71 ++ [(Qa.mk x81.Member x81.Product x81.Quantity x83.1)]))) (ap h73 (ap (Qh h82).1 (ap (Qay Qa.cells (Qh h82).2) (ap (Ql Qa.cells (Qh h82).2) (ap (f36_ok x81 bh2 h84) (ap (Qk h85) (ap (look_map (vp := (pInt .i64)) (e := 3) key_9 0 (by kernel_rfl) x81.Member v70) (ap (mset_map (vp := (pInt .i64)) key_9 x81.Member (wr64 ((mGet seq 0 x81.Member v70) + (wr64 (x83.1 - x81.Basis)))) v70) (ap (Qr h86) (ap (Qaw (te := ti52) (xs := v71) (n := 1) (c := Qa.cells) h87 rfl) (ap (Qcg (xs := v71) (ys := [(Qa.mk x81.Member x81.Product x81.Quantity x83.1)]) (c := Qa.cells)) an))))))))))) (Qs.norm ⟨(wr64 (v69 + 1)), (mPut seq x81.Member (wr64 ((mGet seq 0 x81.Member v70) + (wr64 (x83.1 - x81.Basis)))) v70), (v71 ++ [(Qa.mk x81.Member x81.Product x81.Quantity x83.1)]), rfl, h⟩)
   ·obtain rfl := Qf h
    exact rK Qi 3 [j3, ([], [(0, .at_ (Int.toNat v69)), (1, .idx 0 (Qa.cells x81))], []), ([], [jH 2 (.tup [(jI x83.1), (jB x83.2)])], []), j3, j3] [some true, some true] [] [2] [6, 7, 8] .ret ((f14r1n3E bg1 bh2 be4 .ret).2) (ap h73 (ap (Qh h82).1 (ap (Qay Qa.cells (Qh h82).2) (ap (Ql Qa.cells (Qh h82).2) (ap (f36_ok x81 bh2 h84) (ap (Qr h85) an)))))) (Qs.out rfl rfl)
  ·obtain rfl := Qf h
   exact rK Qi 2 [j3] [some false] [] [2, 3, 4, 5] [6, 10, 11] (.exit 1) ((f14r1n3E bg1 bh2 be4 (.exit1 v70 v71)).2) (ap h73 an) (Qs.out rfl rfl)
noncomputable def f14r1n3L (bg1 : List Qa) (bh2 : List Qc) (be4 : Int) : List Qa → Int → (List (ByteArray × Int)) → (List Qa) → Option f14r1n3O
 | [], v69, v70, v71 =>
  some (.exit1 v70 v71)
 | x0 :: rest, v69, v70, v71 =>
  (f36 x0 bh2).bind fun x83 =>
  bif x83.2 then
   bif (decide (x0.Quantity = 0)) then
    (f14r1n3L bg1 bh2 be4 rest (v69 + 1) (mPut seq x0.Member (wr64 ((mGet seq 0 x0.Member v70) + (wr64 (x83.1 - x0.Basis)))) v70) v71)
   else
    req (fit (v71.length + 1) 48) <|
    (f14r1n3L bg1 bh2 be4 rest (v69 + 1) (mPut seq x0.Member (wr64 ((mGet seq 0 x0.Member v70) + (wr64 (x83.1 - x0.Basis)))) v70) (v71 ++ [(Qa.mk x0.Member x0.Product x0.Quantity x83.1)]))
  else
   some .ret
theorem f14r1n3L_eq (bg1 : List Qa) (bh2 : List Qc) (be4 : Int) : ∀ (rest : List Qa) (f k : Nat) (v70 : List (ByteArray × Int)) (v71 : List Qa), bg1.drop k = rest → bg1.length ≤ maxLen → rest.length < f → f14r1n3 f bg1 bh2 be4 (k : Int) v70 v71 = f14r1n3L bg1 bh2 be4 rest (k : Int) v70 v71
 | _, 0, _, _, _, _, _, hf => absurd hf (Nat.not_lt_zero _)
 | [], f + 1, k, v70, v71, hd, hm, hf => by
  have hk : ¬ ((k : Int) < (bg1.length : Int)) := by have := Qai hd; omega
  rw [f14r1n3, f14r1n3L]
  simp only [decide_eq_false hk, cond_false]
 | x0 :: rest, f + 1, k, v70, v71, hd, hm, hf => by
  obtain ⟨hx, hlt, hd'⟩ := Qab hd
  have hk : (k : Int) < (bg1.length : Int) := by omega
  have hw : wr64 ((k : Int) + 1) = (k : Int) + 1 := Qbe (by omega) (by unfold maxLen at hm; omega)
  have ih : ∀ (v70 : List (ByteArray × Int)) (v71 : List Qa), f14r1n3 f bg1 bh2 be4 ((k : Int) + 1) v70 v71 = f14r1n3L bg1 bh2 be4 rest ((k : Int) + 1) v70 v71 := fun v70 v71 => f14r1n3L_eq bg1 bh2 be4 rest f (k + 1) v70 v71 hd' hm (by simpa using hf)
  rw [f14r1n3, f14r1n3L]
  simp only [decide_eq_true hk, cond_true, Qah, hx, Option.bind_some, hw, ih]
theorem f14r1n3_run (bg1 : List Qa) (bh2 : List Qc) (be4 : Int) (v70 : List (ByteArray × Int)) (v71 : List Qa) (hm : bg1.length ≤ maxLen) : f14r1n3 FUEL bg1 bh2 be4 0 v70 v71 = f14r1n3L bg1 bh2 be4 bg1 0 v70 v71 := f14r1n3L_eq bg1 bh2 be4 bg1 FUEL 0 v70 v71 List.drop_zero hm (Qat hm)
inductive f14r1n2O where
 | norm (v94 : List (ByteArray × Int)) (v95 : List Qa)
 | ret
def f14r1n2E (bg1 : List Qa) (bh2 : List Qc) (be3 : Int) (be4 : Int) : f14r1n2O → Ex × Tr × Hp
 | .norm v94 v95 => (.norm, mkS [(6, (.bp 2 0)), (10, (.bp 3 0)), (11, (.mp 4))], [jR 4 Qa.cells bg1, jR 2 Qc.cells bh2, some (.box [(jI 0), (.pl (.sl .nil 0 []))]), some (.box [(jI be4), (.own 5)]), some (.map (v94.map (mkv pStr (pInt .i64)))), jR 4 Qa.cells v95])
 | .ret => (.ret, mkS [(6, (.bp 2 0)), (7, (.pl (.sl .nil 0 []))), (8, (jI 30))], [jR 4 Qa.cells bg1, jR 2 Qc.cells bh2, some (.box [(jI 0), (.pl (.sl .nil 0 []))])])
def f14r1n2S (bg1 : List Qa) (bh2 : List Qc) (be3 : Int) (be4 : Int) : Tr × Hp := (mkS [(2, (.own 1)), (3, (.bp 2 0)), (6, (.bp 3 0)), (10, (.bp 4 0)), (11, (.mp 5))], [jR 4 Qa.cells bg1, jR 2 Qc.cells bh2, some (.box [(jI be3), (.own 0)]), some (.box [(jI 0), (.pl (.sl .nil 0 []))]), some (.box [(jI be4), (.pl (.sl .nil 0 []))]), some (.map ([].map (mkv pStr (pInt .i64))))])
noncomputable def f14r1n2 (bg1 : List Qa) (bh2 : List Qc) (be3 : Int) (be4 : Int) : Option f14r1n2O :=
 (f14r1n3 FUEL bg1 bh2 be4 0 [] []).bind fun o90 => match o90 with
 | .exit1 v92 v93 => some (.norm v92 v93)
 | .ret => some .ret
theorem f14r1n2_ok (bg1 : List Qa) (bh2 : List Qc) (be3 : Int) (be4 : Int) {o : f14r1n2O} (h : (f14r1n2 bg1 bh2 be3 be4) = some o) : T Try.prog Try.f14.ntmps 2 (cL (Qn 3 (Qn 1 (Qn 2 c14)))) (f14r1n2S bg1 bh2 be3 be4) (fun r => r = f14r1n2E bg1 bh2 be3 be4 o) := by
 unfold f14r1n2 at h
 refine rN Qi 1 [([], [], [(2, .val (jI (bg1.length : Int)))])] [] [.matC 4 1 4] [3, 4, 5, 6] [2, 6, 10, 11, 49, 50, 51] (f14r1n3S bg1 bh2 be4 0 [] []) (ap (Qo (xs := bg1) (c := Qa.cells)) an) ?_
 obtain ⟨o90, h91, h⟩ := Qe h
 cases o90 with
 | exit1 v92 v93 =>
  obtain rfl := Qf h
  exact T.last' (T.bl (i := 1) (by kernel_rfl) (by kernel_rfl) (f14r1n3_ok FUEL bg1 bh2 be4 0 [] [] h91)) (tds := []) (m := [2, 3, 4, 5]) (keep := [6, 10, 11]) (st2 := (f14r1n2E bg1 bh2 be3 be4 (.norm v92 v93)).2) (by kernel_rfl) an rfl
 | ret =>
  obtain rfl := Qf h
  exact T.last' (T.bl (i := 1) (by kernel_rfl) (by kernel_rfl) (f14r1n3_ok FUEL bg1 bh2 be4 0 [] [] h91)) (tds := []) (m := [2]) (keep := [6, 7, 8]) (st2 := (f14r1n2E bg1 bh2 be3 be4 .ret).2) (by kernel_rfl) an rfl
inductive f14r1n5O where
 | exit3 (v139 : List Qb)
 | ret
def f14r1n5E (bg1 : List Qa) (bh2 : List Qc) (be3 : Int) (bg5 : List Qa) (bi4 : List (ByteArray × Int)) : f14r1n5O → Ex × Tr × Hp
 | .exit3 v139 => ((.exit 3), mkS [(6, (.bp 2 0)), (10, (.bp 3 0)), (16, (.own 4))], [jR 4 Qa.cells bg1, jR 2 Qc.cells bh2, some (.box [(jI 0), (.pl (.sl .nil 0 []))]), some (.box [(jI be3), (.own 5)]), jR 2 Qb.cells v139, jR 4 Qa.cells bg5])
 | .ret => (.ret, mkS [(6, (.bp 2 0)), (7, (.pl (.sl .nil 0 []))), (8, (jI 14))], [jR 4 Qa.cells bg1, jR 2 Qc.cells bh2, some (.box [(jI 0), (.pl (.sl .nil 0 []))])])
def f14r1n5S (bg1 : List Qa) (bh2 : List Qc) (be3 : Int) (bg5 : List Qa) (bi4 : List (ByteArray × Int)) (v125 : List Qb) (sn0 : List Nat) : Tr × Hp := (mkS [(6, (.bp 2 0)), (10, (.bp 3 0)), (16, (.own 4)), (86, (.it 5))], [jR 4 Qa.cells bg1, jR 2 Qc.cells bh2, some (.box [(jI 0), (.pl (.sl .nil 0 []))]), some (.box [(jI be3), (.own 6)]), jR 2 Qb.cells v125, some (.iter 7 (bi4.map (mkv pStr (pInt .i64))).length sn0), jR 4 Qa.cells bg5, some (.map (bi4.map (mkv pStr (pInt .i64))))])
noncomputable def f14r1n5 (bg1 : List Qa) (bh2 : List Qc) (be3 : Int) (bg5 : List Qa) (bi4 : List (ByteArray × Int)) : List (ByteArray × Int) → (List Qb) → Option f14r1n5O
 | [], v125 =>
  some (.exit3 v125)
 | x127 :: rest, v125 =>
  (f37 x127.2 1125899906842624).bind fun x134 =>
  bif x134 then
   bif (decide (x127.2 = 0)) then
    (f14r1n5 bg1 bh2 be3 bg5 bi4 rest v125)
   else
    req (fit (v125.length + 1) 24) <|
    (f14r1n5 bg1 bh2 be3 bg5 bi4 rest (v125 ++ [(Qb.mk x127.1 x127.2)]))
  else
   some .ret
theorem f14r1n5_ok (bg1 : List Qa) (bh2 : List Qc) (be3 : Int) (bg5 : List Qa) (bi4 : List (ByteArray × Int)) : ∀ (f : Nat) (sn0 rem : List Nat) (v125 : List Qb) {Q : f14r1n5O → Prop}, Rem bi4.length sn0 rem → rem.length < f → (∀ p, p.Perm rem → ∃ o, f14r1n5 bg1 bh2 be3 bg5 bi4 (ords bi4 p) v125 = some o ∧ Q o) → TL Try.prog Try.f14.ntmps 2 f (cL (cL (Qn 1 (cL (Qn 1 (Qn 1 (Qn 3 (Qn 1 (Qn 2 c14))))))))) (f14r1n5S bg1 bh2 be3 bg5 bi4 v125 sn0) (fun r => ∃ o, Q o ∧ r = f14r1n5E bg1 bh2 be3 bg5 bi4 o)
 | 0, _, _, _, _, _, hf, _ => absurd hf (Nat.not_lt_zero _)
 | f + 1, sn0, rem, v125, Q, hR, hf, H => by
  refine TL.bodyQ (K := fun s => ∃ (sn0 rem : List Nat) (v125 : List Qb), s = f14r1n5S bg1 bh2 be3 bg5 bi4 v125 sn0 ∧ Rem bi4.length sn0 rem ∧ rem.length < f ∧ (∀ p, p.Perm rem → ∃ o, f14r1n5 bg1 bh2 be3 bg5 bi4 (ords bi4 p) v125 = some o ∧ Q o)) ?_ (by rintro _ ⟨sn0, rem, v125, rfl, h1, h2, h3⟩; exact f14r1n5_ok bg1 bh2 be3 bg5 bi4 f sn0 rem v125 h1 h2 h3)
  refine T.oneNext Qi (x := .tmp 86) (t := 87) (tb := 88) (i := 5) (o := 7) (m := (bi4.map (mkv pStr (pInt .i64))).length) (seen := sn0) (kvs := (bi4.map (mkv pStr (pInt .i64)))) (by kernel_rfl) (by kernel_rfl) (by kernel_rfl) (by kernel_rfl) (by kernel_rfl) (by kernel_rfl) rfl (fun hs => ?_) (fun j126 k v hj hs hx => ?_)
  ·obtain rfl := hR.none (by simpa using hs)
   obtain ⟨o, h0, hq⟩ := H [] (List.Perm.refl _)
   have h : f14r1n5 bg1 bh2 be3 bg5 bi4 [] v125 = some o := h0
   rw [f14r1n5] at h
   obtain rfl := Qf h
   exact rK Qi 1 [] [none] [] [2, 3, 4, 6] [6, 10, 16] (.exit 3) ((f14r1n5E bg1 bh2 be3 bg5 bi4 (.exit3 v125)).2) an (LoopQ2.out ⟨_, hq, rfl⟩ rfl)
  ·obtain ⟨x127, h128, rfl, rfl⟩ := mkv_at hx
   obtain ⟨hR2, hlen, hP⟩ := hR.step (j := j126) (by simpa using hj) hs
   have H2 : ∀ p, p.Perm (rem.erase j126) → ∃ o, f14r1n5 bg1 bh2 be3 bg5 bi4 (x127 :: ords bi4 p) v125 = some o ∧ Q o := fun p hp => by obtain ⟨o, h, hq⟩ := H _ (hP p hp); rw [ords_cons h128] at h; exact ⟨o, h, hq⟩
   obtain ⟨o, h, hq⟩ := H2 _ (List.Perm.refl _)
   rw [f14r1n5] at h
   obtain ⟨x134, h135, h⟩ := Qe h
   rcases Qg h with ⟨h136, h⟩ | ⟨h136, h⟩
   ·rcases Qg h with ⟨h137, h⟩ | ⟨h137, h⟩
    ·exact rE Qi [([], [(0, .entr j126 (pStr x127.1) ((pInt .i64) x127.2))], []), ([], [jH 1 (jB x134)], []), j3] [none, some false, some false] [] [2, 3, 4, 5, 6, 7] [6, 10, 16, 86] (.norm, (f14r1n5S bg1 bh2 be3 bg5 bi4 v125 (sn0 ++ [j126]))) (ap (last_app (seen := sn0) (j := j126)) (ap (rfl : (bi4.map (mkv pStr (pInt .i64))).length = (bi4.map (mkv pStr (pInt .i64))).length) (ap (at_mkv (kp := pStr) (vp := (pInt .i64)) h128) (ap (Qv x127.2 1125899906842624 h135) (ap (Qk h136) (ap (Qk h137) an)))))) (LoopQ2.norm ⟨sn0 ++ [j126], rem.erase j126, v125, rfl, hR2, by omega, fun p hp => by obtain ⟨o, h, hq⟩ := H2 p hp; refine ⟨o, ?_, hq⟩; rw [f14r1n5] at h; simp only [h135, h136, h137, cond_true, cond_false, Option.bind_some, req] at h; exact h⟩)
    ·obtain ⟨h138, h⟩ := Qz h
     exact rE Qi [([], [(0, .entr j126 (pStr x127.1) ((pInt .i64) x127.2))], []), ([], [jH 1 (jB x134)], []), j3, ([], [(5, .fits)], [(5, .row 9 ((v125 ++ [(Qb.mk x127.1 x127.2)]).map Qb.cells))])] [none, some false, some true] [] [2, 3, 9, 5, 6, 7] [6, 10, 16, 86] (.norm, (f14r1n5S bg1 bh2 be3 bg5 bi4 (v125 ++ [(Qb.mk x127.1 x127.2)]) (sn0 ++ [j126]))) (ap (last_app (seen := sn0) (j := j126)) (ap (rfl : (bi4.map (mkv pStr (pInt .i64))).length = (bi4.map (mkv pStr (pInt .i64))).length) (ap (at_mkv (kp := pStr) (vp := (pInt .i64)) h128) (ap (Qv x127.2 1125899906842624 h135) (ap (Qk h136) (ap (Qr h137) (ap (Qaw (te := ti48) (xs := v125) (n := 1) (c := Qb.cells) h138 rfl) (ap (Qcg (xs := v125) (ys := [(Qb.mk x127.1 x127.2)]) (c := Qb.cells)) an)))))))) (LoopQ2.norm ⟨sn0 ++ [j126], rem.erase j126, (v125 ++ [(Qb.mk x127.1 x127.2)]), rfl, hR2, by omega, fun p hp => by obtain ⟨o, h, hq⟩ := H2 p hp; refine ⟨o, ?_, hq⟩; rw [f14r1n5] at h; simp only [h135, h136, h137, h138, cond_true, cond_false, Option.bind_some, req] at h; exact h⟩)
   ·obtain rfl := Qf h
    exact rE Qi [([], [(0, .entr j126 (pStr x127.1) ((pInt .i64) x127.2))], []), ([], [jH 1 (jB x134)], []), j3] [none, some true] [] [2] [6, 7, 8] (.ret, (f14r1n5E bg1 bh2 be3 bg5 bi4 .ret).2) (ap (last_app (seen := sn0) (j := j126)) (ap (rfl : (bi4.map (mkv pStr (pInt .i64))).length = (bi4.map (mkv pStr (pInt .i64))).length) (ap (at_mkv (kp := pStr) (vp := (pInt .i64)) h128) (ap (Qv x127.2 1125899906842624 h135) (ap (Qr h136) an))))) (LoopQ2.out ⟨_, hq, rfl⟩ rfl)
inductive f14r1n4O where
 | norm (v143 : List Qb)
 | ret
def f14r1n4E (bg1 : List Qa) (bh2 : List Qc) (be3 : Int) (bi4 : List (ByteArray × Int)) (bg5 : List Qa) : f14r1n4O → Ex × Tr × Hp
 | .norm v143 => (.norm, mkS [(6, (.bp 2 0)), (10, (.bp 3 0)), (16, (.own 4))], [jR 4 Qa.cells bg1, jR 2 Qc.cells bh2, some (.box [(jI 0), (.pl (.sl .nil 0 []))]), some (.box [(jI be3), (.own 5)]), jR 2 Qb.cells v143, jR 4 Qa.cells bg5])
 | .ret => (.ret, mkS [(6, (.bp 2 0)), (7, (.pl (.sl .nil 0 []))), (8, (jI 14))], [jR 4 Qa.cells bg1, jR 2 Qc.cells bh2, some (.box [(jI 0), (.pl (.sl .nil 0 []))])])
def f14r1n4S (bg1 : List Qa) (bh2 : List Qc) (be3 : Int) (bi4 : List (ByteArray × Int)) (bg5 : List Qa) : Tr × Hp := (mkS [(6, (.bp 2 0)), (10, (.bp 3 0)), (11, (.mp 4)), (16, (.pl (.sl .nil 0 [])))], [jR 4 Qa.cells bg1, jR 2 Qc.cells bh2, some (.box [(jI 0), (.pl (.sl .nil 0 []))]), some (.box [(jI be3), (.own 5)]), some (.map (bi4.map (mkv pStr (pInt .i64)))), jR 4 Qa.cells bg5])
noncomputable def f14r1n4 (bg1 : List Qa) (bh2 : List Qc) (be3 : Int) (bi4 : List (ByteArray × Int)) (bg5 : List Qa) (p : List (ByteArray × Int)) : Option f14r1n4O :=
 (f14r1n5 bg1 bh2 be3 bg5 bi4 p []).bind fun o140 => match o140 with
 | .exit3 v142 => some (.norm v142)
 | .ret => some .ret
theorem f14r1n4_ok (bg1 : List Qa) (bh2 : List Qc) (be3 : Int) (bi4 : List (ByteArray × Int)) (bg5 : List Qa) {Q : f14r1n4O → Prop} (H : ∀ p, p.Perm bi4 → ∃ o, f14r1n4 bg1 bh2 be3 bi4 bg5 p = some o ∧ Q o) : T Try.prog Try.f14.ntmps 2 (cL (Qn 1 (Qn 1 (Qn 3 (Qn 1 (Qn 2 c14)))))) (f14r1n4S bg1 bh2 be3 bi4 bg5) (fun r => ∃ o, Q o ∧ r = f14r1n4E bg1 bh2 be3 bi4 bg5 o) := by
 refine rN Qi 1 [j3] [] [.mat 16 2] [2, 3, 7, 6, 5, 4] [6, 10, 16, 86] (f14r1n5S bg1 bh2 be3 bg5 bi4 [] []) an ?_
 refine T.lastQ (T.blQ (i := 3) (by kernel_rfl) (by kernel_rfl) (f14r1n5_ok bg1 bh2 be3 bg5 bi4 _ [] (List.range bi4.length) [] (Rem.start _) (Nat.lt_succ_self _) (Q := fun y => ∃ o, (match y with | .exit3 v142 => some (.norm v142) | .ret => some .ret) = some o ∧ Q o) (fun p hp => by obtain ⟨o, h, hq⟩ := H _ (ords_perm hp); unfold f14r1n4 at h; obtain ⟨y, hy, h⟩ := bind_ex h; exact ⟨y, hy, o, h, hq⟩))) ?_
 rintro y ⟨o, h, hq⟩
 cases y with
 | exit3 v142 =>
  obtain rfl := Qf h
  exact Tidy.of [] [2, 3, 4, 5] [6, 10, 16] ((f14r1n4E bg1 bh2 be3 bi4 bg5 (.norm v142)).2) (by kernel_rfl) an ⟨_, hq, rfl⟩
 | ret =>
  obtain rfl := Qf h
  exact Tidy.of [] [2] [6, 7, 8] ((f14r1n4E bg1 bh2 be3 bi4 bg5 .ret).2) (by kernel_rfl) an ⟨_, hq, rfl⟩
inductive f14r1n0O where
 | ret (v151 : Int) (v152 : Int) (v153 : List Qb) (v154 : List Qa)
def f14r1n0E (a1 : Int) (a2 : Int) (a3 : List Qa) (a4 : List Qc) : f14r1n0O → Ex × Tr × Hp
 | .ret v151 v152 v153 v154 => (.ret, mkS [(6, (.bp 2 0)), (7, (.own 3)), (8, (jI v151))], [jR 4 Qa.cells a3, jR 2 Qc.cells a4, some (.box [(jI v152), (.own 4)]), jR 2 Qb.cells v153, jR 4 Qa.cells v154])
def f14r1n0S (a1 : Int) (a2 : Int) (a3 : List Qa) (a4 : List Qc) : Tr × Hp := (Qal [(.agg [(jI a1), (.own 0)]), (jI a2), (.own 1)] 0 .leaf, [jR 4 Qa.cells a3, jR 2 Qc.cells a4])
noncomputable def Qcd (a1 : Int) (a2 : Int) (a3 : List Qa) (a4 : List Qc) : Option f14r1n0O :=
 (f26 (Qd.mk a1 a3)).bind fun x7 =>
 (f14r1n1 a2 x7 a3 a4 a1).bind fun o31 => match o31 with
 | .norm v33 => bif (decide (v33 = 0)) then
   (f14r1n2 a3 a4 a1 a2).bind fun o96 => match o96 with
   | .norm v98 v99 => (anyOrder v98 fun p => (f14r1n4 a3 a4 a2 v98 v99 p).bind fun o144 => match o144 with
    | .norm v146 => (so38_39 v146).bind fun x149 =>
     some (.ret 0 a2 x149 v99)
    | .ret => some (.ret 14 0 [] []))
   | .ret => some (.ret 30 0 [] [])
  else
   some (.ret v33 0 [] [])
theorem f14r1n0_ok (a1 : Int) (a2 : Int) (a3 : List Qa) (a4 : List Qc) {o : f14r1n0O} (h : (Qcd a1 a2 a3 a4) = some o) : T Try.prog Try.f14.ntmps 2 c14 (f14r1n0S a1 a2 a3 a4) (fun r => r = f14r1n0E a1 a2 a3 a4 o) := by
 unfold Qcd at h
 obtain ⟨x7, h8, h⟩ := Qe h
 refine rN Qi 2 [j3, ([], [jH 1 (jI x7)], [])] [] [] [2, 3] [1, 2, 3, 6, 9] (f14r1n1S a2 x7 a3 a4 a1) (ap (Qby (Qd.mk a1 a3) h8) an) ?_
 obtain ⟨o31, h32, h⟩ := Qe h
 cases o31 with
 | norm v33 =>
  refine T.oneN (by kernel_rfl) (f14r1n1_ok a2 x7 a3 a4 a1 h32) (st2 := (f14r1n1E a2 x7 a3 a4 a1 (.norm v33)).2) rfl ?_
  rcases Qg h with ⟨h35, h⟩ | ⟨h35, h⟩
  ·refine rN Qi 3 [j3, j3, j3] [some false] [] [2, 3, 4, 5] [2, 3, 6, 10, 11] (f14r1n2S a3 a4 a1 a2) (ap (Qk h35) an) ?_
   obtain ⟨o96, h97, h⟩ := Qe h
   cases o96 with
   | norm v98 v99 =>
    refine T.oneN (by kernel_rfl) (f14r1n2_ok a3 a4 a1 a2 h97) (st2 := (f14r1n2E a3 a4 a1 a2 (.norm v98 v99)).2) rfl ?_
    refine rN Qi 1 [j3] [] [] [2, 3, 4, 5] [6, 10, 11, 16] (f14r1n4S a3 a4 a2 v98 v99) an ?_
    refine T.oneQ (by kernel_rfl) (f14r1n4_ok a3 a4 a2 v98 v99 (fun p hp => bind_ex (anyOrder_at h p hp))) ?_
    intro o144 h
    cases o144 with
    | norm v146 =>
     refine OneR.go ((f14r1n4E a3 a4 a2 v98 v99 (.norm v146)).2) rfl ?_
     obtain ⟨x149, h150, h⟩ := Qe h
     obtain rfl := Qf h
     exact rE Qi [([], [(1, .call (.tup []) (jN 4 [jR 2 Qb.cells x149, none]))], []), j3] [] [] [2, 4, 5] [6, 7, 8] (.ret, (f14r1n0E a1 a2 a3 a4 (.ret 0 a2 x149 v99)).2) (ap (Qq.rn 6 [4] (so38_39_ok v146 h150)) an) rfl
    | ret =>
     obtain rfl := Qf h
     exact OneR.out [.mat 7 2, .matC 2 1 4] [2, 3, 4] [6, 7, 8] ((f14r1n0E a1 a2 a3 a4 (.ret 14 0 [] [])).2) (by kernel_rfl) an rfl rfl
   | ret =>
    obtain rfl := Qf h
    exact T.oneX' (by kernel_rfl) (f14r1n2_ok a3 a4 a1 a2 h97) (tds := [.mat 7 2, .matC 2 1 4]) (m := [2, 3, 4]) (keep := [6, 7, 8]) (st2 := (f14r1n0E a1 a2 a3 a4 (.ret 30 0 [] [])).2) (by kernel_rfl) an rfl rfl
  ·obtain rfl := Qf h
   exact rK Qi 1 [j3, j3] [some true] [.mat 7 2, .matC 3 1 4] [3, 4, 5] [6, 7, 8] .ret ((f14r1n0E a1 a2 a3 a4 (.ret v33 0 [] [])).2) (ap (Qr h35) an) rfl
noncomputable def f14r1 (a1 : Int) (a2 : Int) (a3 : List Qa) (a4 : List Qc) : Option (Int × Int × (List Qb) × (List Qa)) := (Qcd a1 a2 a3 a4).bind fun o => match o with
 | .ret v151 v152 v153 v154 => some (v151, v152, v153, v154)
theorem f14r1_ok (a1 : Int) (a2 : Int) (a3 : List Qa) (a4 : List Qc) {r : Int × Int × (List Qb) × (List Qa)} (h : (f14r1 a1 a2 a3 a4) = some r) : Qq Try.prog true 14 [(.agg [(jI a1), (.own 0)]), (jI a2), (.own 1)] [jR 4 Qa.cells a3, jR 2 Qc.cells a4] (.tup [(.agg [(jI r.2.1), (.own 4)]), (.own 3), (jI r.1)]) [jR 4 Qa.cells a3, jR 2 Qc.cells a4, some (.box [(jI r.2.1), (.own 4)]), jR 2 Qb.cells r.2.2.1, jR 4 Qa.cells r.2.2.2] := by
 unfold f14r1 at h
 obtain ⟨o, ho, h⟩ := Qe h
 cases o with
 | ret v151 v152 v153 v154 =>
  obtain rfl := Qf h
  exact Qq.shared Qi (f := Try.f14) (c := c14) (by kernel_rfl) (by kernel_rfl) (by kernel_rfl) ((f14r1n0_ok a1 a2 a3 a4 ho).mono fun r e => by subst e; exact ⟨.inl rfl, by kernel_rfl, by kernel_rfl⟩)

noncomputable def c25 : Code := Try.f25.body.getD .skip
inductive f25n0O where
 | ret
def f25n0E (a1 : Int) : f25n0O → Ex × Tr × Hp
 | .ret => (.ret, mkS [(2, (.own 0))], [some (.row false 2 ([(Qb.mk str_a (wr64 (0 - a1))), (Qb.mk str_b a1)].map Qb.cells))])
def f25n0S (a1 : Int) : Tr × Hp := (Qal [(jI a1)] 0 .leaf, [])
noncomputable def f25n0 (a1 : Int) : Option f25n0O :=
 some .ret
theorem f25n0_ok (a1 : Int) {o : f25n0O} (h : (f25n0 a1) = some o) : T Try.prog Try.f25.ntmps 0 c25 (f25n0S a1) (fun r => r = f25n0E a1 o) := by
 unfold f25n0 at h
 obtain rfl := Qf h
 exact rE Qi [j3, j3] [] [] [0] [2] (.ret, (f25n0E a1 .ret).2) an rfl
noncomputable def f25 (a1 : Int) : Option (List Qb) := (f25n0 a1).bind fun o => match o with
 | .ret => some [(Qb.mk str_a (wr64 (0 - a1))), (Qb.mk str_b a1)]
theorem f25_ok (a1 : Int) {r : List Qb} (h : (f25 a1) = some r) : Qq Try.prog false 25 [(jI a1)] [] (jL 2 Qb.cells r) [] := by
 unfold f25 at h
 obtain ⟨o, ho, h⟩ := Qe h
 cases o with
 | ret =>
  obtain rfl := Qf h
  exact Qq.plain Qi (f := Try.f25) (c := c25) (by kernel_rfl) (by kernel_rfl) (by kernel_rfl) (by kernel_rfl) ((f25n0_ok a1 ho).mono fun r e => by subst e; exact ⟨.inl rfl, (.own 0), (.pl (.sl .any 2 ([(Qb.mk str_a (wr64 (0 - a1))), (Qb.mk str_b a1)].map Qb.cells))), by kernel_rfl, by kernel_rfl, ((Wk.refl _) : Wk (.pl (.sl .any 2 ([(Qb.mk str_a (wr64 (0 - a1))), (Qb.mk str_b a1)].map Qb.cells))) (.pl (.sl .any 2 ([(Qb.mk str_a (wr64 (0 - a1))), (Qb.mk str_b a1)].map Qb.cells))))⟩)

noncomputable def c19 : Code := Try.f19.body.getD .skip
inductive f19n2O where
 | exit0
 | ret
def f19n2E (bj1 : List Qb) (bj2 : List Qb) : f19n2O → Ex × Tr × Hp
 | .exit0 => ((.exit 0), mkS [], [])
 | .ret => (.ret, mkS [(4, (jB false))], [])
def f19n2S (bj1 : List Qb) (bj2 : List Qb) (v30 : Int) : Tr × Hp := (mkS [(0, (jL 2 Qb.cells bj1)), (1, (jL 2 Qb.cells bj2)), (5, (jI v30))], [])
noncomputable def f19n2 : Nat → List Qb → List Qb → Int → Option f19n2O
 | 0, _, _, _ => none
 | f + 1, bj1, bj2, v30 =>
  bif (decide (v30 < (bj1.length : Int))) then
   (at? bj1 v30).bind fun x38 =>
   (at? bj2 v30).bind fun x40 =>
   bif (Qb.eqb x38 x40) then
    (f19n2 f bj1 bj2 (wr64 (v30 + 1)))
   else
    some .ret
  else
   some .exit0
theorem f19n2_ok : ∀ (f : Nat) (bj1 : List Qb) (bj2 : List Qb) (v30 : Int) {o : f19n2O}, (f19n2 f bj1 bj2 v30) = some o → TL Try.prog Try.f19.ntmps 0 f (cL (cL (Qn 1 (cL (Qn 2 c19))))) (f19n2S bj1 bj2 v30) (fun r => r = f19n2E bj1 bj2 o)
 | 0, _, _, _, o, h => by rw [f19n2] at h; cases h
 | f + 1, bj1, bj2, v30, o, h => by
  rw [f19n2] at h
  refine TL.body (K := fun s => ∃ v30 : Int, s = (f19n2S bj1 bj2 v30) ∧ (f19n2 f bj1 bj2 v30) = some o) ?_ (by rintro _ ⟨v30, rfl, hk⟩; exact f19n2_ok f _ _ _ hk)
  rcases Qg h with ⟨h32, h⟩ | ⟨h32, h⟩
  ·obtain ⟨x38, h39, h⟩ := Qe h
   obtain ⟨x40, h41, h⟩ := Qe h
   rcases Qg h with ⟨h42, h⟩ | ⟨h42, h⟩
   ·exact rE Qi [([], [], [(2, .val (jI (bj1.length : Int)))]), ([], [(2, .idx (Int.toNat v30) (Qb.cells x38)), (6, .idx (Int.toNat v30) (Qb.cells x40)), (8, .bool (Qb.eqb x38 x40))], []), j3] [some true, some false] [] [] [0, 1, 5] (.norm, (f19n2S bj1 bj2 (wr64 (v30 + 1)))) (ap (Qo (xs := bj1) (c := Qb.cells)) (ap h32 (ap (Qh h39).1 (ap (Ql Qb.cells (Qh h39).2) (ap (Qh h41).1 (ap (Ql Qb.cells (Qh h41).2) (ap (Qb.eqb_ok x38 x40) (ap (Qk h42) an)))))))) (Qs.norm ⟨(wr64 (v30 + 1)), rfl, h⟩)
   ·obtain rfl := Qf h
    exact rK Qi 2 [([], [], [(2, .val (jI (bj1.length : Int)))]), ([], [(2, .idx (Int.toNat v30) (Qb.cells x38)), (6, .idx (Int.toNat v30) (Qb.cells x40)), (8, .bool (Qb.eqb x38 x40))], []), j3] [some true, some true] [] [] [4] .ret ((f19n2E bj1 bj2 .ret).2) (ap (Qo (xs := bj1) (c := Qb.cells)) (ap h32 (ap (Qh h39).1 (ap (Ql Qb.cells (Qh h39).2) (ap (Qh h41).1 (ap (Ql Qb.cells (Qh h41).2) (ap (Qb.eqb_ok x38 x40) (ap (Qr h42) an)))))))) (Qs.out rfl rfl)
  ·obtain rfl := Qf h
   exact rK Qi 1 [([], [], [(2, .val (jI (bj1.length : Int)))])] [some false] [] [] [] (.exit 0) ((f19n2E bj1 bj2 .exit0).2) (ap (Qo (xs := bj1) (c := Qb.cells)) (ap h32 an)) (Qs.out rfl rfl)
noncomputable def f19n2L (bj1 : List Qb) (bj2 : List Qb) : List Qb → Int → Option f19n2O
 | [], v30 =>
  some .exit0
 | x0 :: rest, v30 =>
  (at? bj2 v30).bind fun x40 =>
  bif (Qb.eqb x0 x40) then
   (f19n2L bj1 bj2 rest (v30 + 1))
  else
   some .ret
theorem f19n2L_eq (bj1 : List Qb) (bj2 : List Qb) : ∀ (rest : List Qb) (f k : Nat), bj1.drop k = rest → bj1.length ≤ maxLen → rest.length < f → f19n2 f bj1 bj2 (k : Int) = f19n2L bj1 bj2 rest (k : Int)
 | _, 0, _, _, _, hf => absurd hf (Nat.not_lt_zero _)
 | [], f + 1, k, hd, hm, hf => by
  have hk : ¬ ((k : Int) < (bj1.length : Int)) := by have := Qai hd; omega
  rw [f19n2, f19n2L]
  simp only [decide_eq_false hk, cond_false]
 | x0 :: rest, f + 1, k, hd, hm, hf => by
  obtain ⟨hx, hlt, hd'⟩ := Qab hd
  have hk : (k : Int) < (bj1.length : Int) := by omega
  have hw : wr64 ((k : Int) + 1) = (k : Int) + 1 := Qbe (by omega) (by unfold maxLen at hm; omega)
  have ih : f19n2 f bj1 bj2 ((k : Int) + 1) = f19n2L bj1 bj2 rest ((k : Int) + 1) := f19n2L_eq bj1 bj2 rest f (k + 1) hd' hm (by simpa using hf)
  rw [f19n2, f19n2L]
  simp only [decide_eq_true hk, cond_true, Qah, hx, Option.bind_some, hw, ih]
theorem f19n2_run (bj1 : List Qb) (bj2 : List Qb) (hm : bj1.length ≤ maxLen) : f19n2 FUEL bj1 bj2 0 = f19n2L bj1 bj2 bj1 0 := f19n2L_eq bj1 bj2 bj1 FUEL 0 List.drop_zero hm (Qat hm)
inductive f19n1O where
 | norm
 | ret
def f19n1E (bj1 : List Qb) (bj2 : List Qb) : f19n1O → Ex × Tr × Hp
 | .norm => (.norm, mkS [], [])
 | .ret => (.ret, mkS [(4, (jB false))], [])
def f19n1S (bj1 : List Qb) (bj2 : List Qb) : Tr × Hp := (mkS [(0, (jL 2 Qb.cells bj1)), (1, (jL 2 Qb.cells bj2))], [])
noncomputable def f19n1 (bj1 : List Qb) (bj2 : List Qb) : Option f19n1O :=
 (f19n2 FUEL bj1 bj2 0).bind fun o43 => match o43 with
 | .exit0 => some .norm
 | .ret => some .ret
theorem f19n1_ok (bj1 : List Qb) (bj2 : List Qb) {o : f19n1O} (h : (f19n1 bj1 bj2) = some o) : T Try.prog Try.f19.ntmps 0 (cL (Qn 2 c19)) (f19n1S bj1 bj2) (fun r => r = f19n1E bj1 bj2 o) := by
 unfold f19n1 at h
 refine rN Qi 1 [j3] [] [] [] [0, 1, 5] (f19n2S bj1 bj2 0) an ?_
 obtain ⟨o43, h44, h⟩ := Qe h
 cases o43 with
 | exit0 =>
  obtain rfl := Qf h
  exact T.last' (T.bl (i := 0) (by kernel_rfl) (by kernel_rfl) (f19n2_ok FUEL bj1 bj2 0 h44)) (tds := []) (m := []) (keep := []) (st2 := (f19n1E bj1 bj2 .norm).2) (by kernel_rfl) an rfl
 | ret =>
  obtain rfl := Qf h
  exact T.last' (T.bl (i := 0) (by kernel_rfl) (by kernel_rfl) (f19n2_ok FUEL bj1 bj2 0 h44)) (tds := []) (m := []) (keep := [4]) (st2 := (f19n1E bj1 bj2 .ret).2) (by kernel_rfl) an rfl
inductive f19n0O where
 | ret (v47 : Bool)
def f19n0E (a1 : List Qb) (a2 : List Qb) : f19n0O → Ex × Tr × Hp
 | .ret v47 => (.ret, mkS [(4, (jB v47))], [])
def f19n0S (a1 : List Qb) (a2 : List Qb) : Tr × Hp := (Qal [(jL 2 Qb.cells a1), (jL 2 Qb.cells a2)] 0 .leaf, [])
noncomputable def f19n0 (a1 : List Qb) (a2 : List Qb) : Option f19n0O :=
 bif (decide ((a1.length : Int) = (a2.length : Int))) then
  (f19n1 a1 a2).bind fun o45 => match o45 with
  | .norm => some (.ret true)
  | .ret => some (.ret false)
 else
  some (.ret false)
theorem f19n0_ok (a1 : List Qb) (a2 : List Qb) {o : f19n0O} (h : (f19n0 a1 a2) = some o) : T Try.prog Try.f19.ntmps 0 c19 (f19n0S a1 a2) (fun r => r = f19n0E a1 a2 o) := by
 unfold f19n0 at h
 rcases Qg h with ⟨h4, h⟩ | ⟨h4, h⟩
 ·refine rN Qi 2 [j3, ([], [], [(1, .val (jI (a1.length : Int))), (3, .val (jI (a2.length : Int)))])] [some false] [] [] [0, 1] (f19n1S a1 a2) (ap (Qo (xs := a1) (c := Qb.cells)) (ap (Qo (xs := a2) (c := Qb.cells)) (ap (Qk h4) an))) ?_
  obtain ⟨o45, h46, h⟩ := Qe h
  cases o45 with
  | norm =>
   refine T.oneN (by kernel_rfl) (f19n1_ok a1 a2 h46) (st2 := (f19n1E a1 a2 .norm).2) rfl ?_
   obtain rfl := Qf h
   exact rE Qi [j3] [] [] [] [4] (.ret, (f19n0E a1 a2 (.ret true)).2) an rfl
  | ret =>
   obtain rfl := Qf h
   exact T.oneX' (by kernel_rfl) (f19n1_ok a1 a2 h46) (tds := []) (m := []) (keep := [4]) (st2 := (f19n0E a1 a2 (.ret false)).2) (by kernel_rfl) an rfl rfl
 ·obtain rfl := Qf h
  exact rK Qi 2 [j3, ([], [], [(1, .val (jI (a1.length : Int))), (3, .val (jI (a2.length : Int)))]), j3] [some true] [] [] [4] .ret ((f19n0E a1 a2 (.ret false)).2) (ap (Qo (xs := a1) (c := Qb.cells)) (ap (Qo (xs := a2) (c := Qb.cells)) (ap (Qr h4) an))) rfl
noncomputable def f19 (a1 : List Qb) (a2 : List Qb) : Option Bool := (f19n0 a1 a2).bind fun o => match o with
 | .ret v47 => some v47
theorem f19_ok (a1 : List Qb) (a2 : List Qb) {r : Bool} (h : (f19 a1 a2) = some r) : Qq Try.prog false 19 [(jL 2 Qb.cells a1), (jL 2 Qb.cells a2)] [] (jB r) [] := by
 unfold f19 at h
 obtain ⟨o, ho, h⟩ := Qe h
 cases o with
 | ret v47 =>
  obtain rfl := Qf h
  exact Qq.plain Qi (f := Try.f19) (c := c19) (by kernel_rfl) (by kernel_rfl) (by kernel_rfl) (by kernel_rfl) ((f19n0_ok a1 a2 ho).mono fun r e => by subst e; exact ⟨.inl rfl, (jB v47), (jB v47), by kernel_rfl, by kernel_rfl, ((Wk.refl _) : Wk (jB v47) (jB v47))⟩)

noncomputable def c10 : Code := Try.f10.body.getD .skip
inductive f10n0O where
 | ret (v140 : Bool)
def f10n0E : f10n0O → Ex × Tr × Hp
 | .ret v140 => (.ret, mkS [(0, (jB v140))], [])
def f10n0S : Tr × Hp := (Qal [] 0 .leaf, [])
noncomputable def f10n0 : Option f10n0O :=
 (f12 0).bind fun x3 =>
 (f16r1 x3.1 str_b str_a Qcw 3 10).bind fun x7 =>
 (f23r1 12).bind fun x13 =>
 (f14r1 x7.2.1 1 x7.2.2 [(Qc.mk Qcw 12)]).bind fun x15 =>
 (f23r1 11).bind fun x48 =>
 (f14r1 x15.2.1 2 x15.2.2.2 [(Qc.mk Qcw 11)]).bind fun x50 =>
 (f23r1 11).bind fun x79 =>
 (f14r1 x7.2.1 2 x7.2.2 [(Qc.mk Qcw 11)]).bind fun x81 =>
 bif (decide (x3.2 = 0)) then
  bif (decide (x7.1 = 0)) then
   bif (decide (x15.1 = 0)) then
    (f25 6).bind fun x124 =>
    (f19 x15.2.2.1 x124).bind fun x126 =>
    bif x126 then
     bif (decide (x50.1 = 0)) then
      (f25 (-3)).bind fun x130 =>
      (f19 x50.2.2.1 x130).bind fun x132 =>
      bif x132 then
       bif (decide (x81.1 = 0)) then
        (f25 3).bind fun x136 =>
        (f19 x81.2.2.1 x136).bind fun x138 =>
        some (.ret x138)
       else
        some (.ret false)
      else
       some (.ret false)
     else
      some (.ret false)
    else
     some (.ret false)
   else
    some (.ret false)
  else
   some (.ret false)
 else
  some (.ret false)
theorem f10n0_ok {o : f10n0O} (h : f10n0 = some o) : T Try.prog Try.f10.ntmps 0 c10 f10n0S (fun r => r = f10n0E o) := by
 unfold f10n0 at h
 obtain ⟨x3, h4, h⟩ := Qe h
 obtain ⟨x7, h8, h⟩ := Qe h
 obtain ⟨x13, h14, h⟩ := Qe h
 obtain ⟨x15, h16, h⟩ := Qe h
 refine rN Qi 4 [j3, ([], [jH 0 (.tup [(jA Qd.cells x3.1), (jI x3.2)])], []), ([], [(1, .call (.tup [(.agg [(jI x7.2.1), (.own 2)]), (jI x7.1)]) [none, some (.box [(jI x7.2.1), (.own 2)]), jR 4 Qa.cells x7.2.2])], []), ([], [(1, .call (.own 5) (jN 5 [some (.row false 2 ([(Qc.mk Qcw 12)].map Qc.cells))])), (2, .call (.tup [(.agg [(jI x15.2.1), (.own 8)]), (.own 7), (jI x15.1)]) [none, none, jR 4 Qa.cells x7.2.2, none, none, some (.row false 2 ([(Qc.mk Qcw 12)].map Qc.cells)), some (.box [(jI x15.2.1), (.own 8)]), jR 2 Qb.cells x15.2.2.1, jR 4 Qa.cells x15.2.2.2])], [])] [] [] [0, 3, 7, 2, 8] [1, 2, 3, 4, 5, 6] (mkS [(1, (.bp 0 0)), (2, (jI x3.2)), (3, (jI x7.1)), (4, (.bp 1 0)), (5, (.own 2)), (6, (jI x15.1))], [some (.box [(jI x7.2.1), (.own 3)]), some (.box [(jI x15.2.1), (.own 4)]), jR 2 Qb.cells x15.2.2.1, jR 4 Qa.cells x7.2.2, jR 4 Qa.cells x15.2.2.2]) (ap (f12_ok 0 h4) (ap (Qq.rn 1 [] (f16r1_ok x3.1 str_b str_a Qcw 3 10 h8)) (ap (Qq.rn 5 [] (f23r1_ok 12 h14)) (ap (Qq.rn 6 [2, 5] (f14r1_ok x7.2.1 1 x7.2.2 [(Qc.mk Qcw 12)] h16)) an)))) ?_
 obtain ⟨x48, h49, h⟩ := Qe h
 obtain ⟨x50, h51, h⟩ := Qe h
 refine rN Qi 1 [([], [(1, .call (.own 7) (jN 7 [some (.row false 2 ([(Qc.mk Qcw 11)].map Qc.cells))])), (2, .call (.tup [(.agg [(jI x50.2.1), (.own 10)]), (.own 9), (jI x50.1)]) (jN 4 [jR 4 Qa.cells x15.2.2.2, none, none, some (.row false 2 ([(Qc.mk Qcw 11)].map Qc.cells)), some (.box [(jI x50.2.1), (.own 10)]), jR 2 Qb.cells x50.2.2.1, jR 4 Qa.cells x50.2.2.2]))], [])] [] [] [0, 2, 9, 3] [1, 2, 3, 5, 6, 8, 9] (mkS [(1, (.bp 0 0)), (2, (jI x3.2)), (3, (jI x7.1)), (5, (.own 1)), (6, (jI x15.1)), (8, (.own 2)), (9, (jI x50.1))], [some (.box [(jI x7.2.1), (.own 3)]), jR 2 Qb.cells x15.2.2.1, jR 2 Qb.cells x50.2.2.1, jR 4 Qa.cells x7.2.2]) (ap (Qq.rn 7 [] (f23r1_ok 11 h49)) (ap (Qq.rn 8 [4, 7] (f14r1_ok x15.2.1 2 x15.2.2.2 [(Qc.mk Qcw 11)] h51)) an)) ?_
 obtain ⟨x79, h80, h⟩ := Qe h
 obtain ⟨x81, h82, h⟩ := Qe h
 refine rN Qi 1 [([], [(1, .call (.own 6) (jN 6 [some (.row false 2 ([(Qc.mk Qcw 11)].map Qc.cells))])), (2, .call (.tup [(.agg [(jI x81.2.1), (.own 9)]), (.own 8), (jI x81.1)]) (jN 3 [jR 4 Qa.cells x7.2.2, none, none, some (.row false 2 ([(Qc.mk Qcw 11)].map Qc.cells)), some (.box [(jI x81.2.1), (.own 9)]), jR 2 Qb.cells x81.2.2.1, jR 4 Qa.cells x81.2.2.2]))], [])] [] [] [1, 2, 8] [2, 3, 5, 6, 8, 9, 11, 12] (mkS [(2, (jI x3.2)), (3, (jI x7.1)), (5, (.own 0)), (6, (jI x15.1)), (8, (.own 1)), (9, (jI x50.1)), (11, (.own 2)), (12, (jI x81.1))], [jR 2 Qb.cells x15.2.2.1, jR 2 Qb.cells x50.2.2.1, jR 2 Qb.cells x81.2.2.1]) (ap (Qq.rn 6 [] (f23r1_ok 11 h80)) (ap (Qq.rn 7 [3, 6] (f14r1_ok x7.2.1 2 x7.2.2 [(Qc.mk Qcw 11)] h82)) an)) ?_
 rcases Qg h with ⟨h121, h⟩ | ⟨h121, h⟩
 ·rcases Qg h with ⟨h122, h⟩ | ⟨h122, h⟩
  ·rcases Qg h with ⟨h123, h⟩ | ⟨h123, h⟩
   ·obtain ⟨x124, h125, h⟩ := Qe h
    obtain ⟨x126, h127, h⟩ := Qe h
    rcases Qg h with ⟨h128, h⟩ | ⟨h128, h⟩
    ·rcases Qg h with ⟨h129, h⟩ | ⟨h129, h⟩
     ·obtain ⟨x130, h131, h⟩ := Qe h
      obtain ⟨x132, h133, h⟩ := Qe h
      rcases Qg h with ⟨h134, h⟩ | ⟨h134, h⟩
      ·rcases Qg h with ⟨h135, h⟩ | ⟨h135, h⟩
       ·obtain ⟨x136, h137, h⟩ := Qe h
        obtain ⟨x138, h139, h⟩ := Qe h
        obtain rfl := Qf h
        exact rE Qi [(jT [3, 4, 7, 8, 11, 12, 13, 16, 17, 20, 21, 22, 25, 26, 29, 30, 31], [(5, .bool true), (9, .bool true), jH 12 (jL 2 Qb.cells x124), jH 13 (jB x126), (14, .bool true), (18, .bool true), jH 21 (jL 2 Qb.cells x130), jH 22 (jB x132), (23, .bool true), (27, .bool true), jH 30 (jL 2 Qb.cells x136), jH 31 (jB x138), (32, .bool true)], [])] [] [] [] [0] (.ret, (f10n0E (.ret x138)).2) (ap3 h121 (ap3 h122 (ap4 h123 (ap3 h128 (ap4 h129 (ap3 h134 (ap4 h135 (ap (f25_ok 6 h125) (ap (f19_ok x15.2.2.1 x124 h127) (ap (f25_ok (-3) h131) (ap (f19_ok x50.2.2.1 x130 h133) (ap (f25_ok 3 h137) (ap (f19_ok x81.2.2.1 x136 h139) an))))))))))))) rfl
       ·obtain rfl := Qf h
        exact rE Qi [(jF [29, 30, 31] ++ jT [3, 4, 7, 8, 11, 12, 13, 16, 17, 20, 21, 22, 25, 26], [(5, .bool true), (9, .bool true), jH 12 (jL 2 Qb.cells x124), jH 13 (jB x126), (14, .bool true), (18, .bool true), jH 21 (jL 2 Qb.cells x130), jH 22 (jB x132), (23, .bool true), (27, .bool true), (32, .bool false)], [])] [] [] [] [0] (.ret, (f10n0E (.ret false)).2) (ap3 h121 (ap3 h122 (ap4 h123 (ap3 h128 (ap4 h129 (ap3 h134 (ap4 h135 (ap (f25_ok 6 h125) (ap (f19_ok x15.2.2.1 x124 h127) (ap (f25_ok (-3) h131) (ap (f19_ok x50.2.2.1 x130 h133) an))))))))))) rfl
      ·obtain rfl := Qf h
       exact rE Qi [(jF [25, 26] ++ jT [3, 4, 7, 8, 11, 12, 13, 16, 17, 20, 21, 22], [(5, .bool true), (9, .bool true), jH 12 (jL 2 Qb.cells x124), jH 13 (jB x126), (14, .bool true), (18, .bool true), jH 21 (jL 2 Qb.cells x130), jH 22 (jB x132), (23, .bool true), (27, .bool false)], [])] [] [] [] [0] (.ret, (f10n0E (.ret false)).2) (ap3 h121 (ap3 h122 (ap4 h123 (ap3 h128 (ap4 h129 (ap3 h134 (ap (f25_ok 6 h125) (ap (f19_ok x15.2.2.1 x124 h127) (ap (f25_ok (-3) h131) (ap (f19_ok x50.2.2.1 x130 h133) an)))))))))) rfl
     ·obtain rfl := Qf h
      exact rE Qi [(jF [20, 21, 22] ++ jT [3, 4, 7, 8, 11, 12, 13, 16, 17], [(5, .bool true), (9, .bool true), jH 12 (jL 2 Qb.cells x124), jH 13 (jB x126), (14, .bool true), (18, .bool true), (23, .bool false)], [])] [] [] [] [0] (.ret, (f10n0E (.ret false)).2) (ap3 h121 (ap3 h122 (ap4 h123 (ap3 h128 (ap4 h129 (ap (f25_ok 6 h125) (ap (f19_ok x15.2.2.1 x124 h127) an))))))) rfl
    ·obtain rfl := Qf h
     exact rE Qi [(jF [16, 17] ++ jT [3, 4, 7, 8, 11, 12, 13], [(5, .bool true), (9, .bool true), jH 12 (jL 2 Qb.cells x124), jH 13 (jB x126), (14, .bool true), (18, .bool false)], [])] [] [] [] [0] (.ret, (f10n0E (.ret false)).2) (ap3 h121 (ap3 h122 (ap4 h123 (ap3 h128 (ap (f25_ok 6 h125) (ap (f19_ok x15.2.2.1 x124 h127) an)))))) rfl
   ·obtain rfl := Qf h
    exact rE Qi [(jF [11, 12, 13] ++ jT [3, 4, 7, 8], [(5, .bool true), (9, .bool true), (14, .bool false)], [])] [] [] [] [0] (.ret, (f10n0E (.ret false)).2) (ap3 h121 (ap3 h122 (ap4 h123 an))) rfl
  ·obtain rfl := Qf h
   exact rE Qi [(jF [7, 8] ++ jT [3, 4], [(5, .bool true), (9, .bool false)], [])] [] [] [] [0] (.ret, (f10n0E (.ret false)).2) (ap3 h121 (ap3 h122 an)) rfl
 ·obtain rfl := Qf h
  exact rE Qi [([(3, false), (4, false)], [(5, .bool false)], [])] [] [] [] [0] (.ret, (f10n0E (.ret false)).2) (ap3 h121 an) rfl
noncomputable def f10 : Option Bool := f10n0.bind fun o => match o with
 | .ret v140 => some v140
theorem f10_ok {r : Bool} (h : f10 = some r) : Qq Try.prog false 10 [] [] (jB r) [] := by
 unfold f10 at h
 obtain ⟨o, ho, h⟩ := Qe h
 cases o with
 | ret v140 =>
  obtain rfl := Qf h
  exact Qq.plain Qi (f := Try.f10) (c := c10) (by kernel_rfl) (by kernel_rfl) (by kernel_rfl) (by kernel_rfl) ((f10n0_ok  ho).mono fun r e => by subst e; exact ⟨.inl rfl, (jB v140), (jB v140), by kernel_rfl, by kernel_rfl, ((Wk.refl _) : Wk (jB v140) (jB v140))⟩)

noncomputable def c29 : Code := Try.f29.body.getD .skip
inductive f29n0O where
 | ret (v5 : Bool)
def f29n0E (a1 : Qd) (a2 : List Qc) : f29n0O → Ex × Tr × Hp
 | .ret v5 => (.ret, mkS [(4, (jB v5))], [])
def f29n0S (a1 : Qd) (a2 : List Qc) : Tr × Hp := (Qal [(jA Qd.cells a1), (jL 2 Qc.cells a2)] 0 .leaf, [])
noncomputable def f29n0 (a1 : Qd) (a2 : List Qc) : Option f29n0O :=
 bif (decide (220 < (a1.Positions.length : Int))) then
  some (.ret true)
 else
  some (.ret (decide (220 < (a2.length : Int))))
theorem f29n0_ok (a1 : Qd) (a2 : List Qc) {o : f29n0O} (h : (f29n0 a1 a2) = some o) : T Try.prog Try.f29.ntmps 0 c29 (f29n0S a1 a2) (fun r => r = f29n0E a1 a2 o) := by
 unfold f29n0 at h
 rcases Qg h with ⟨h4, h⟩ | ⟨h4, h⟩
 ·obtain rfl := Qf h
  exact rE Qi [j3, (jT [5, 6, 7], [(8, .bool true)], [(2, .val (jI (a1.Positions.length : Int)))])] [] [] [] [4] (.ret, (f29n0E a1 a2 (.ret true)).2) (ap (Qo (xs := a1.Positions) (c := Qa.cells)) (ap4 h4 an)) rfl
 ·obtain rfl := Qf h
  exact rE Qi [j3, (jF [5, 6, 7], [(8, .bool false)], [(2, .val (jI (a1.Positions.length : Int))), (6, .val (jI (a2.length : Int)))])] [] [] [] [4] (.ret, (f29n0E a1 a2 (.ret (decide (220 < (a2.length : Int))))).2) (ap (Qo (xs := a1.Positions) (c := Qa.cells)) (ap2 h4 (ap (Qo (xs := a2) (c := Qc.cells)) (ap2 h4 an)))) rfl
noncomputable def f29 (a1 : Qd) (a2 : List Qc) : Option Bool := (f29n0 a1 a2).bind fun o => match o with
 | .ret v5 => some v5
theorem f29_ok (a1 : Qd) (a2 : List Qc) {r : Bool} (h : (f29 a1 a2) = some r) : Qq Try.prog false 29 [(jA Qd.cells a1), (jL 2 Qc.cells a2)] [] (jB r) [] := by
 unfold f29 at h
 obtain ⟨o, ho, h⟩ := Qe h
 cases o with
 | ret v5 =>
  obtain rfl := Qf h
  exact Qq.plain Qi (f := Try.f29) (c := c29) (by kernel_rfl) (by kernel_rfl) (by kernel_rfl) (by kernel_rfl) ((f29n0_ok a1 a2 ho).mono fun r e => by subst e; exact ⟨.inl rfl, (jB v5), (jB v5), by kernel_rfl, by kernel_rfl, ((Wk.refl _) : Wk (jB v5) (jB v5))⟩)

noncomputable def c20 : Code := Try.f20.body.getD .skip
inductive f20r1n0O where
 | ret (v6 : List Qa)
def f20r1n0E (a1 : Qd) : f20r1n0O → Ex × Tr × Hp
 | .ret v6 => (.ret, mkS [(2, (.bp 0 0))], [some (.box [(jI a1.Day), (.own 1)]), jR 4 Qa.cells v6])
def f20r1n0S (a1 : Qd) : Tr × Hp := (Qal [(jA Qd.cells a1)] 0 .leaf, [])
noncomputable def f20r1n0 (a1 : Qd) : Option f20r1n0O :=
 bif (a1.Positions.isEmpty) then
  some (.ret [])
 else
  req (fit a1.Positions.length 48) <|
  some (.ret a1.Positions)
theorem f20r1n0_ok (a1 : Qd) {o : f20r1n0O} (h : (f20r1n0 a1) = some o) : T Try.prog Try.f20.ntmps 0 c20 (f20r1n0S a1) (fun r => r = f20r1n0E a1 o) := by
 unfold f20r1n0 at h
 rcases Qg h with ⟨h4, h⟩ | ⟨h4, h⟩
 ·obtain rfl := Qf h
  exact rE Qi [j3, ([], [(3, .app false)], []), j3] [] [] [1, 2] [2] (.ret, (f20r1n0E a1 (.ret [])).2) (ap (nil_map (c := Qa.cells) h4) an) rfl
 ·obtain ⟨h5, h⟩ := Qz h
  obtain rfl := Qf h
  exact rE Qi [j3, ([], [(3, .app true)], []), j3] [] [] [1, 3] [2] (.ret, (f20r1n0E a1 (.ret a1.Positions)).2) (ap (fit_map0z (te := ti52) (xs := a1.Positions) (c := Qa.cells) h5 rfl) (ap (ne_map (c := Qa.cells) h4) (ap (len_all (c := Qa.cells) (xs := a1.Positions) (n := 4) (fun _ => rfl)) an))) rfl
noncomputable def f20r1 (a1 : Qd) : Option (List Qa) := (f20r1n0 a1).bind fun o => match o with
 | .ret v6 => some v6
theorem f20r1_ok (a1 : Qd) {r : List Qa} (h : (f20r1 a1) = some r) : Qq Try.prog true 20 [(jA Qd.cells a1)] [] (.agg [(jI a1.Day), (.own 1)]) [some (.box [(jI a1.Day), (.own 1)]), jR 4 Qa.cells r] := by
 unfold f20r1 at h
 obtain ⟨o, ho, h⟩ := Qe h
 cases o with
 | ret v6 =>
  obtain rfl := Qf h
  exact Qq.shared Qi (f := Try.f20) (c := c20) (by kernel_rfl) (by kernel_rfl) (by kernel_rfl) ((f20r1n0_ok a1 ho).mono fun r e => by subst e; exact ⟨.inl rfl, by kernel_rfl, by kernel_rfl⟩)

inductive f47r2n0O where
 | ret (v5 : List Qa)
def f47r2n0E (a1 : List Qa) : f47r2n0O → Ex × Tr × Hp
 | .ret v5 => (.ret, mkS [(2, (.own 1))], [jR 4 Qa.cells a1, jR 4 Qa.cells v5])
def f47r2n0S (a1 : List Qa) : Tr × Hp := (Qal [(.own 0)] 0 .leaf, [jR 4 Qa.cells a1])
noncomputable def f47r2n0 (a1 : List Qa) : Option f47r2n0O :=
 bif (a1.isEmpty) then
  some (.ret [])
 else
  req (fit a1.length 48) <|
  some (.ret a1)
theorem f47r2n0_ok (a1 : List Qa) {o : f47r2n0O} (h : (f47r2n0 a1) = some o) : T Try.prog Try.f47.ntmps 1 c47 (f47r2n0S a1) (fun r => r = f47r2n0E a1 o) := by
 unfold f47r2n0 at h
 refine rN Qi 1 [j3] [] [] [] [0] (mkS [(0, (.own 0))], [jR 4 Qa.cells a1]) an ?_
 refine T.nest (by kernel_rfl) ?_
 rcases Qg h with ⟨h2, h⟩ | ⟨h2, h⟩
 ·refine rN Qi 0 [] [] [] [] [0] (mkS [(0, (.own 0))], [jR 4 Qa.cells a1]) an ?_
  refine T.oneNil Qi (x := .tmp 0) (t := 25) (t3 := 3) (t4 := 4) (sz := 4) (es := (a1.map Qa.cells)) (by kernel_rfl) (by kernel_rfl) (by kernel_rfl) (by kernel_rfl) (by kernel_rfl) (fun b hb => ?_)
  cases b
  ·refine rE Qi [] [none] [] [] [0] (.norm, (mkS [(0, (.own 0))], [jR 4 Qa.cells a1])) an (ThenQ.norm ?_)
   obtain rfl := Qf h
   exact rE Qi [([], [(2, .app false)], [])] [] [] [1] [2] (.ret, (f47r2n0E a1 (.ret [])).2) (ap (nil_map (c := Qa.cells) h2) an) rfl
  ·obtain rfl := Qf h
   exact rE Qi [j3] [none] [.mat 2 4] [1] [2] (.ret, (f47r2n0E a1 (.ret [])).2) an (ThenQ.out rfl rfl)
 ·refine rN Qi 0 [] [] [] [] [0] (mkS [(0, (.own 0))], [jR 4 Qa.cells a1]) an ?_
  refine T.oneNil Qi (x := .tmp 0) (t := 25) (t3 := 3) (t4 := 4) (sz := 4) (es := (a1.map Qa.cells)) (by kernel_rfl) (by kernel_rfl) (by kernel_rfl) (by kernel_rfl) (by kernel_rfl) (fun b hb => ?_)
  cases b
  ·refine rE Qi [] [none] [] [] [0] (.norm, (mkS [(0, (.own 0))], [jR 4 Qa.cells a1])) an (ThenQ.norm ?_)
   obtain ⟨h4, h⟩ := Qz h
   obtain rfl := Qf h
   exact rE Qi [([], [(2, .app true)], [])] [] [] [2] [2] (.ret, (f47r2n0E a1 (.ret a1)).2) (ap (fit_map0z (te := ti52) (xs := a1) (c := Qa.cells) h4 rfl) (ap (ne_map (c := Qa.cells) h2) (ap (len_all (c := Qa.cells) (xs := a1) (n := 4) (fun _ => rfl)) an))) rfl
  ·exact absurd (hb rfl) (ne_map (c := Qa.cells) h2)
noncomputable def f47r2 (a1 : List Qa) : Option (List Qa) := (f47r2n0 a1).bind fun o => match o with
 | .ret v5 => some v5
theorem f47r2_ok (a1 : List Qa) {r : List Qa} (h : (f47r2 a1) = some r) : Qq Try.prog true 47 [(.own 0)] [jR 4 Qa.cells a1] (.own 1) [jR 4 Qa.cells a1, jR 4 Qa.cells r] := by
 unfold f47r2 at h
 obtain ⟨o, ho, h⟩ := Qe h
 cases o with
 | ret v5 =>
  obtain rfl := Qf h
  exact Qq.shared Qi (f := Try.f47) (c := c47) (by kernel_rfl) (by kernel_rfl) (by kernel_rfl) ((f47r2n0_ok a1 ho).mono fun r e => by subst e; exact ⟨.inl rfl, by kernel_rfl, by kernel_rfl⟩)

inductive f16r2n0O where
 | ret (v114 : Int) (v115 : Int) (v116 : List Qa)
def Qbv (a1 : Int) (a2 : ByteArray) (a3 : ByteArray) (a4 : ByteArray) (a5 : Int) (a6 : Int) (a7 : List Qa) : f16r2n0O → Ex × Tr × Hp
 | .ret v114 v115 v116 => (.ret, mkS [(12, (.bp 1 0)), (13, (jI v114))], [jR 4 Qa.cells a7, some (.box [(jI v115), (.own 2)]), jR 4 Qa.cells v116])
def f16r2n0S (a1 : Int) (a2 : ByteArray) (a3 : ByteArray) (a4 : ByteArray) (a5 : Int) (a6 : Int) (a7 : List Qa) : Tr × Hp := (Qal [(.agg [(jI a1), (.own 0)]), (jS a2), (jS a3), (jS a4), (jI a5), (jI a6)] 0 .leaf, [jR 4 Qa.cells a7])
noncomputable def f16r2n0 (a1 : Int) (a2 : ByteArray) (a3 : ByteArray) (a4 : ByteArray) (a5 : Int) (a6 : Int) (a7 : List Qa) : Option f16r2n0O :=
 (f26 (Qd.mk a1 a7)).bind fun x11 =>
 bif (decide (x11 = 0)) then
  (f44 a2).bind fun x29 =>
  bif x29 then
   (f44 a3).bind fun x32 =>
   bif x32 then
    bif (seq a2 a3) then
     some (.ret 2 0 [])
    else
     (f45 a4).bind fun x36 =>
     bif x36 then
      bif (decide (a5 < 1)) then
       some (.ret 2 0 [])
      else
       bif (decide (1048576 < a5)) then
        some (.ret 2 0 [])
       else
        (f37 a6 536870912).bind fun x41 =>
        bif x41 then
         (f47r2 a7).bind fun x67 =>
         (f46r1 a2 a4 a5 (wr64 (a5 * a6)) x67).bind fun x69 =>
         (f46r1 a3 a4 (wr64 (0 - a5)) (wr64 ((wr64 (0 - a5)) * a6)) x69.1).bind fun x73 =>
         (f37 x73.2.Quantity 1048576).bind fun x101 =>
         bif x101 then
          (f37 x69.2.Quantity 1048576).bind fun x104 =>
          bif x104 then
           (f37 x73.2.Basis 1125899906842624).bind fun x107 =>
           bif x107 then
            (f37 x69.2.Basis 1125899906842624).bind fun x110 =>
            bif x110 then
             bif (decide (200 < (x73.1.length : Int))) then
              some (.ret 22 0 [])
             else
              some (.ret 0 a1 x73.1)
            else
             some (.ret 14 0 [])
           else
            some (.ret 14 0 [])
          else
           some (.ret 52 0 [])
         else
          some (.ret 52 0 [])
        else
         some (.ret 2 0 [])
     else
      some (.ret 2 0 [])
   else
    some (.ret 2 0 [])
  else
   some (.ret 2 0 [])
 else
  some (.ret x11 0 [])
theorem f16r2n0_ok (a1 : Int) (a2 : ByteArray) (a3 : ByteArray) (a4 : ByteArray) (a5 : Int) (a6 : Int) (a7 : List Qa) {o : f16r2n0O} (h : (f16r2n0 a1 a2 a3 a4 a5 a6 a7) = some o) : T Try.prog Try.f16.ntmps 1 c16 (f16r2n0S a1 a2 a3 a4 a5 a6 a7) (fun r => r = Qbv a1 a2 a3 a4 a5 a6 a7 o) := by
 unfold f16r2n0 at h
 obtain ⟨x11, h12, h⟩ := Qe h
 rcases Qg h with ⟨h13, h⟩ | ⟨h13, h⟩
 ·obtain ⟨x29, h30, h⟩ := Qe h
  rcases Qg h with ⟨h31, h⟩ | ⟨h31, h⟩
  ·obtain ⟨x32, h33, h⟩ := Qe h
   rcases Qg h with ⟨h34, h⟩ | ⟨h34, h⟩
   ·rcases Qg h with ⟨h35, h⟩ | ⟨h35, h⟩
    ·obtain rfl := Qf h
     exact rK Qi 3 [j3, ([], [jH 1 (jI x11)], []), j3, (jF [4, 5, 6, 9, 10, 11] ++ jT [14, 15, 16], [jH 1 (jB x29), jH 5 (jB x32), (7, .bool false), (12, .bool false), (17, .bool true)], []), j3] [some false, none] [.matC 2 1 4] [2, 3] [12, 13] .ret ((Qbv a1 a2 a3 a4 a5 a6 a7 (.ret 2 0 [])).2) (ap (Qby (Qd.mk a1 a7) h12) (ap (Qk h13) (ap4 (Qk h31) (ap4 (Qk h34) (ap4 h35 (ap (Qao a2 h30) (ap (Qao a3 h33) an))))))) rfl
    ·obtain ⟨x36, h37, h⟩ := Qe h
     rcases Qg h with ⟨h38, h⟩ | ⟨h38, h⟩
     ·rcases Qg h with ⟨h39, h⟩ | ⟨h39, h⟩
      ·obtain rfl := Qf h
       exact rK Qi 3 [j3, ([], [jH 1 (jI x11)], []), j3, (jF [4, 5, 6, 9, 10, 11, 14, 15, 16, 19, 20] ++ jT [23, 24], [jH 1 (jB x29), jH 5 (jB x32), (7, .bool false), (12, .bool false), jH 15 (jB x36), (17, .bool false), (21, .bool false), (25, .bool true)], []), j3] [some false, none] [.matC 2 1 4] [2, 3] [12, 13] .ret ((Qbv a1 a2 a3 a4 a5 a6 a7 (.ret 2 0 [])).2) (ap (Qby (Qd.mk a1 a7) h12) (ap (Qk h13) (ap4 (Qk h31) (ap4 (Qk h34) (ap4 h35 (ap3 (Qk h38) (ap3 h39 (ap (Qao a2 h30) (ap (Qao a3 h33) (ap (Qct a4 h37) an)))))))))) rfl
      ·rcases Qg h with ⟨h40, h⟩ | ⟨h40, h⟩
       ·obtain rfl := Qf h
        exact rK Qi 3 [j3, ([], [jH 1 (jI x11)], []), j3, (jF [4, 5, 6, 9, 10, 11, 14, 15, 16, 19, 20, 23, 24] ++ jT [27, 28, 29], [jH 1 (jB x29), jH 5 (jB x32), (7, .bool false), (12, .bool false), jH 15 (jB x36), (17, .bool false), (21, .bool false), (25, .bool false), (30, .bool true)], []), j3] [some false, none] [.matC 2 1 4] [2, 3] [12, 13] .ret ((Qbv a1 a2 a3 a4 a5 a6 a7 (.ret 2 0 [])).2) (ap (Qby (Qd.mk a1 a7) h12) (ap (Qk h13) (ap4 (Qk h31) (ap4 (Qk h34) (ap4 h35 (ap3 (Qk h38) (ap3 h39 (ap4 h40 (ap (Qao a2 h30) (ap (Qao a3 h33) (ap (Qct a4 h37) an))))))))))) rfl
       ·obtain ⟨x41, h42, h⟩ := Qe h
        rcases Qg h with ⟨h43, h⟩ | ⟨h43, h⟩
        ·refine rN Qi 3 [j3, ([], [jH 1 (jI x11)], []), j3, (jF [4, 5, 6, 9, 10, 11, 14, 15, 16, 19, 20, 23, 24, 27, 28, 29], [jH 1 (jB x29), jH 5 (jB x32), (7, .bool false), (12, .bool false), jH 15 (jB x36), (17, .bool false), (21, .bool false), (25, .bool false), jH 28 (jB x41), (30, .bool false)], [])] [some false, some false] [] [1, 2] [1, 2, 3, 4, 5, 6, 12] (mkS [(1, (jS a2)), (2, (jS a3)), (3, (jS a4)), (4, (jI a5)), (5, (jI a6)), (6, (.bp 1 0)), (12, (.bp 2 0))], [jR 4 Qa.cells a7, some (.box [(jI a1), (.own 0)]), some (.box [(jI 0), (.pl (.sl .nil 0 []))])]) (ap (Qby (Qd.mk a1 a7) h12) (ap (Qk h13) (ap4 (Qk h31) (ap4 (Qk h34) (ap4 h35 (ap3 (Qk h38) (ap3 h39 (ap4 h40 (ap (Qao a2 h30) (ap (Qao a3 h33) (ap (Qct a4 h37) (ap (Qv a6 536870912 h42) (ap (Qk h43) an))))))))))))) ?_
         obtain ⟨x67, h68, h⟩ := Qe h
         obtain ⟨x69, h70, h⟩ := Qe h
         obtain ⟨x73, h74, h⟩ := Qe h
         refine rN Qi 2 [([], [(2, .call (.own 3) [jR 4 Qa.cells a7, none, none, jR 4 Qa.cells x67]), (9, .call (.tup [(.own 4), (jA Qa.cells x69.2)]) (jN 4 [jR 4 Qa.cells x69.1, some (.box ((Qa.cells x69.2).map .pl))]))], []), ([], [(9, .call (.tup [(.own 7), (jA Qa.cells x73.2)]) (jN 7 [jR 4 Qa.cells x73.1, some (.box ((Qa.cells x73.2).map .pl))]))], [])] [] [] [1, 2, 7, 6, 9] [6, 12, 15, 16, 17] (mkS [(6, (.bp 1 0)), (12, (.bp 2 0)), (15, (.own 3)), (16, (.bp 4 0)), (17, (.bp 5 0))], [jR 4 Qa.cells a7, some (.box [(jI a1), (.own 0)]), some (.box [(jI 0), (.pl (.sl .nil 0 []))]), jR 4 Qa.cells x73.1, some (.box ((Qa.cells x69.2).map .pl)), some (.box ((Qa.cells x73.2).map .pl))]) (ap (Qq.rn 3 [0] (f47r2_ok a7 h68)) (ap (Qq.rn 4 [3] (f46r1_ok a2 a4 a5 (wr64 (a5 * a6)) x67 h70)) (ap (Qq.rn 7 [4] (f46r1_ok a3 a4 (wr64 (0 - a5)) (wr64 ((wr64 (0 - a5)) * a6)) x69.1 h74)) an))) ?_
         obtain ⟨x101, h102, h⟩ := Qe h
         rcases Qg h with ⟨h103, h⟩ | ⟨h103, h⟩
         ·obtain ⟨x104, h105, h⟩ := Qe h
          rcases Qg h with ⟨h106, h⟩ | ⟨h106, h⟩
          ·obtain ⟨x107, h108, h⟩ := Qe h
           rcases Qg h with ⟨h109, h⟩ | ⟨h109, h⟩
           ·obtain ⟨x110, h111, h⟩ := Qe h
            rcases Qg h with ⟨h112, h⟩ | ⟨h112, h⟩
            ·rcases Qg h with ⟨h113, h⟩ | ⟨h113, h⟩
             ·obtain rfl := Qf h
              exact rK Qi 1 [(jF [5, 6, 7, 8], [jH 2 (jB x101), jH 7 (jB x104), (9, .bool false)], []), (jF [5, 6, 7, 8], [jH 2 (jB x107), jH 7 (jB x110), (9, .bool false)], []), ([], [], [(1, .val (jI (x73.1.length : Int)))]), j3] [some false, some false, some true] [.matC 2 1 4] [2, 6] [12, 13] .ret ((Qbv a1 a2 a3 a4 a5 a6 a7 (.ret 22 0 [])).2) (ap (Qk h103) (ap4 (Qk h103) (ap (Qv x73.2.Quantity 1048576 h102) (ap (Qv x69.2.Quantity 1048576 h105) (ap (Qk h106) (ap (Qk h109) (ap4 (Qk h109) (ap (Qv x73.2.Basis 1125899906842624 h108) (ap (Qv x69.2.Basis 1125899906842624 h111) (ap (Qk h112) (ap (Qo (xs := x73.1) (c := Qa.cells)) (ap h113 an)))))))))))) rfl
             ·obtain rfl := Qf h
              exact rE Qi [(jF [5, 6, 7, 8], [jH 2 (jB x101), jH 7 (jB x104), (9, .bool false)], []), (jF [5, 6, 7, 8], [jH 2 (jB x107), jH 7 (jB x110), (9, .bool false)], []), ([], [], [(1, .val (jI (x73.1.length : Int)))]), j3] [some false, some false, some false] [] [2, 3] [12, 13] (.ret, (Qbv a1 a2 a3 a4 a5 a6 a7 (.ret 0 a1 x73.1)).2) (ap (Qk h103) (ap4 (Qk h103) (ap (Qv x73.2.Quantity 1048576 h102) (ap (Qv x69.2.Quantity 1048576 h105) (ap (Qk h106) (ap (Qk h109) (ap4 (Qk h109) (ap (Qv x73.2.Basis 1125899906842624 h108) (ap (Qv x69.2.Basis 1125899906842624 h111) (ap (Qk h112) (ap (Qo (xs := x73.1) (c := Qa.cells)) (ap h113 an)))))))))))) rfl
            ·obtain rfl := Qf h
             exact rK Qi 1 [(jF [5, 6, 7, 8], [jH 2 (jB x101), jH 7 (jB x104), (9, .bool false)], []), (jF [5, 6, 7, 8], [jH 2 (jB x107), jH 7 (jB x110), (9, .bool false)], []), j3] [some false, some true] [.matC 2 1 4] [2, 6] [12, 13] .ret ((Qbv a1 a2 a3 a4 a5 a6 a7 (.ret 14 0 [])).2) (ap (Qk h103) (ap4 (Qk h103) (ap (Qv x73.2.Quantity 1048576 h102) (ap (Qv x69.2.Quantity 1048576 h105) (ap (Qk h106) (ap (Qk h109) (ap4 (Qk h109) (ap (Qv x73.2.Basis 1125899906842624 h108) (ap (Qv x69.2.Basis 1125899906842624 h111) (ap (Qr h112) an)))))))))) rfl
           ·obtain rfl := Qf h
            exact rK Qi 1 [(jF [5, 6, 7, 8], [jH 2 (jB x101), jH 7 (jB x104), (9, .bool false)], []), (jT [5, 6, 7, 8], [jH 2 (jB x107), (9, .bool true)], []), j3] [some false, none] [.matC 2 1 4] [2, 6] [12, 13] .ret ((Qbv a1 a2 a3 a4 a5 a6 a7 (.ret 14 0 [])).2) (ap (Qk h103) (ap4 (Qk h103) (ap (Qv x73.2.Quantity 1048576 h102) (ap (Qv x69.2.Quantity 1048576 h105) (ap (Qk h106) (ap (Qr h109) (ap4 (Qr h109) (ap (Qv x73.2.Basis 1125899906842624 h108) an)))))))) rfl
          ·obtain rfl := Qf h
           exact rK Qi 1 [(jF [5, 6, 7, 8], [jH 2 (jB x101), jH 7 (jB x104), (9, .bool false)], []), j3] [some true] [.matC 2 1 4] [2, 6] [12, 13] .ret ((Qbv a1 a2 a3 a4 a5 a6 a7 (.ret 52 0 [])).2) (ap (Qk h103) (ap4 (Qk h103) (ap (Qv x73.2.Quantity 1048576 h102) (ap (Qv x69.2.Quantity 1048576 h105) (ap (Qr h106) an))))) rfl
         ·obtain rfl := Qf h
          exact rK Qi 1 [(jT [5, 6, 7, 8], [jH 2 (jB x101), (9, .bool true)], []), j3] [none] [.matC 2 1 4] [2, 6] [12, 13] .ret ((Qbv a1 a2 a3 a4 a5 a6 a7 (.ret 52 0 [])).2) (ap (Qr h103) (ap4 (Qr h103) (ap (Qv x73.2.Quantity 1048576 h102) an))) rfl
        ·obtain rfl := Qf h
         exact rK Qi 3 [j3, ([], [jH 1 (jI x11)], []), j3, (jF [4, 5, 6, 9, 10, 11, 14, 15, 16, 19, 20, 23, 24, 27, 28, 29], [jH 1 (jB x29), jH 5 (jB x32), (7, .bool false), (12, .bool false), jH 15 (jB x36), (17, .bool false), (21, .bool false), (25, .bool false), jH 28 (jB x41), (30, .bool false)], []), j3] [some false, some true] [.matC 2 1 4] [2, 3] [12, 13] .ret ((Qbv a1 a2 a3 a4 a5 a6 a7 (.ret 2 0 [])).2) (ap (Qby (Qd.mk a1 a7) h12) (ap (Qk h13) (ap4 (Qk h31) (ap4 (Qk h34) (ap4 h35 (ap3 (Qk h38) (ap3 h39 (ap4 h40 (ap (Qao a2 h30) (ap (Qao a3 h33) (ap (Qct a4 h37) (ap (Qv a6 536870912 h42) (ap (Qr h43) an))))))))))))) rfl
     ·obtain rfl := Qf h
      exact rK Qi 3 [j3, ([], [jH 1 (jI x11)], []), j3, (jF [4, 5, 6, 9, 10, 11, 14, 15, 16] ++ jT [19, 20], [jH 1 (jB x29), jH 5 (jB x32), (7, .bool false), (12, .bool false), jH 15 (jB x36), (17, .bool false), (21, .bool true)], []), j3] [some false, none] [.matC 2 1 4] [2, 3] [12, 13] .ret ((Qbv a1 a2 a3 a4 a5 a6 a7 (.ret 2 0 [])).2) (ap (Qby (Qd.mk a1 a7) h12) (ap (Qk h13) (ap4 (Qk h31) (ap4 (Qk h34) (ap4 h35 (ap3 (Qr h38) (ap (Qao a2 h30) (ap (Qao a3 h33) (ap (Qct a4 h37) an))))))))) rfl
   ·obtain rfl := Qf h
    exact rK Qi 3 [j3, ([], [jH 1 (jI x11)], []), j3, (jF [4, 5, 6] ++ jT [9, 10, 11], [jH 1 (jB x29), jH 5 (jB x32), (7, .bool false), (12, .bool true)], []), j3] [some false, none] [.matC 2 1 4] [2, 3] [12, 13] .ret ((Qbv a1 a2 a3 a4 a5 a6 a7 (.ret 2 0 [])).2) (ap (Qby (Qd.mk a1 a7) h12) (ap (Qk h13) (ap4 (Qk h31) (ap4 (Qr h34) (ap (Qao a2 h30) (ap (Qao a3 h33) an)))))) rfl
  ·obtain rfl := Qf h
   exact rK Qi 3 [j3, ([], [jH 1 (jI x11)], []), j3, (jT [4, 5, 6], [jH 1 (jB x29), (7, .bool true)], []), j3] [some false, none] [.matC 2 1 4] [2, 3] [12, 13] .ret ((Qbv a1 a2 a3 a4 a5 a6 a7 (.ret 2 0 [])).2) (ap (Qby (Qd.mk a1 a7) h12) (ap (Qk h13) (ap4 (Qr h31) (ap (Qao a2 h30) an)))) rfl
 ·obtain rfl := Qf h
  exact rK Qi 2 [j3, ([], [jH 1 (jI x11)], []), j3, j3] [some true] [.matC 2 1 4] [2, 3] [12, 13] .ret ((Qbv a1 a2 a3 a4 a5 a6 a7 (.ret x11 0 [])).2) (ap (Qby (Qd.mk a1 a7) h12) (ap (Qr h13) an)) rfl
noncomputable def f16r2 (a1 : Int) (a2 : ByteArray) (a3 : ByteArray) (a4 : ByteArray) (a5 : Int) (a6 : Int) (a7 : List Qa) : Option (Int × Int × (List Qa)) := (f16r2n0 a1 a2 a3 a4 a5 a6 a7).bind fun o => match o with
 | .ret v114 v115 v116 => some (v114, v115, v116)
theorem f16r2_ok (a1 : Int) (a2 : ByteArray) (a3 : ByteArray) (a4 : ByteArray) (a5 : Int) (a6 : Int) (a7 : List Qa) {r : Int × Int × (List Qa)} (h : (f16r2 a1 a2 a3 a4 a5 a6 a7) = some r) : Qq Try.prog true 16 [(.agg [(jI a1), (.own 0)]), (jS a2), (jS a3), (jS a4), (jI a5), (jI a6)] [jR 4 Qa.cells a7] (.tup [(.agg [(jI r.2.1), (.own 2)]), (jI r.1)]) [jR 4 Qa.cells a7, some (.box [(jI r.2.1), (.own 2)]), jR 4 Qa.cells r.2.2] := by
 unfold f16r2 at h
 obtain ⟨o, ho, h⟩ := Qe h
 cases o with
 | ret v114 v115 v116 =>
  obtain rfl := Qf h
  exact Qq.shared Qi (f := Try.f16) (c := c16) (by kernel_rfl) (by kernel_rfl) (by kernel_rfl) ((f16r2n0_ok a1 a2 a3 a4 a5 a6 a7 ho).mono fun r e => by subst e; exact ⟨.inl rfl, by kernel_rfl, by kernel_rfl⟩)

noncomputable def c49 : Code := Try.f49.body.getD .skip
inductive f49n3O where
 | norm (v302 : Bool)
def f49n3E (bb1 : ByteArray) (be2 : Int) (bm3 : UInt8) : f49n3O → Ex × Tr × Hp
 | .norm v302 => (.norm, mkS [(0, (jS bb1)), (3, (jI be2)), (4, (.pl (.int .u8 (bm3.toNat : Int)))), (5, (jB v302))], [])
def f49n3S (bb1 : ByteArray) (be2 : Int) (bm3 : UInt8) : Tr × Hp := (mkS [(0, (jS bb1)), (3, (jI be2)), (4, (.pl (.int .u8 (bm3.toNat : Int))))], [])
noncomputable def f49n3 (bb1 : ByteArray) (be2 : Int) (bm3 : UInt8) : Option f49n3O :=
 bif (decide (97 ≤ (bm3.toNat : Int))) then
  bif (decide ((bm3.toNat : Int) ≤ 122)) then
   some (.norm true)
  else
   bif (decide (65 ≤ (bm3.toNat : Int))) then
    some (.norm (decide ((bm3.toNat : Int) ≤ 90)))
   else
    some (.norm false)
 else
  bif (decide (65 ≤ (bm3.toNat : Int))) then
   some (.norm (decide ((bm3.toNat : Int) ≤ 90)))
  else
   some (.norm false)
theorem f49n3_ok (bb1 : ByteArray) (be2 : Int) (bm3 : UInt8) {o : f49n3O} (h : (f49n3 bb1 be2 bm3) = some o) : T Try.prog Try.f49.ntmps 0 (cL (Qn 1 (cL (cL (Qn 1 (cL (cL (Qn 1 (cL (Qn 2 c49)))))))))) (f49n3S bb1 be2 bm3) (fun r => r = f49n3E bb1 be2 bm3 o) := by
 unfold f49n3 at h
 rcases Qg h with ⟨h298, h⟩ | ⟨h298, h⟩
 ·rcases Qg h with ⟨h299, h⟩ | ⟨h299, h⟩
  ·obtain rfl := Qf h
   exact rE Qi [(jT [3, 4, 7, 8, 9, 12], [(5, .bool true), (13, .bool true)], [])] [] [] [] [0, 3, 4, 5] (.norm, (f49n3E bb1 be2 bm3 (.norm true)).2) (ap3 h298 (ap h299 (ap4 h299 an))) rfl
  ·rcases Qg h with ⟨h300, h⟩ | ⟨h300, h⟩
   ·obtain rfl := Qf h
    exact rE Qi [(jF [7, 8, 9, 12] ++ jT [3, 4, 10, 11], [(5, .bool true), (12, .bool true), (13, .bool false)], [])] [] [] [] [0, 3, 4, 5] (.norm, (f49n3E bb1 be2 bm3 (.norm (decide ((bm3.toNat : Int) ≤ 90)))).2) (ap3 h298 (ap3 h299 (ap2 h300 (ap h299 (ap h300 (ap h299 an)))))) rfl
   ·obtain rfl := Qf h
    exact rE Qi [(jF [7, 8, 9, 10, 11, 12] ++ jT [3, 4], [(5, .bool true), (12, .bool false), (13, .bool false)], [])] [] [] [] [0, 3, 4, 5] (.norm, (f49n3E bb1 be2 bm3 (.norm false)).2) (ap3 h298 (ap3 h299 (ap2 h300 (ap h299 (ap h300 (ap h299 an)))))) rfl
 ·rcases Qg h with ⟨h301, h⟩ | ⟨h301, h⟩
  ·obtain rfl := Qf h
   exact rE Qi [(jF [3, 4] ++ jT [10, 11], [(5, .bool false), (12, .bool true)], [])] [] [] [] [0, 3, 4, 5] (.norm, (f49n3E bb1 be2 bm3 (.norm (decide ((bm3.toNat : Int) ≤ 90)))).2) (ap3 h298 (ap3 h301 an)) rfl
  ·obtain rfl := Qf h
   exact rE Qi [(jF [3, 4, 10, 11], [(5, .bool false), (12, .bool false)], [])] [] [] [] [0, 3, 4, 5] (.norm, (f49n3E bb1 be2 bm3 (.norm false)).2) (ap3 h298 (ap3 h301 an)) rfl
inductive f49n4O where
 | norm (v318 : Bool)
def f49n4E (bb1 : ByteArray) (be2 : Int) (bm3 : UInt8) (bk4 : Bool) : f49n4O → Ex × Tr × Hp
 | .norm v318 => (.norm, mkS [(0, (jS bb1)), (3, (jI be2)), (5, (jB bk4)), (6, (jB v318))], [])
def f49n4S (bb1 : ByteArray) (be2 : Int) (bm3 : UInt8) (bk4 : Bool) : Tr × Hp := (mkS [(0, (jS bb1)), (3, (jI be2)), (4, (.pl (.int .u8 (bm3.toNat : Int)))), (5, (jB bk4))], [])
noncomputable def f49n4 (bb1 : ByteArray) (be2 : Int) (bm3 : UInt8) (bk4 : Bool) : Option f49n4O :=
 bif (decide (48 ≤ (bm3.toNat : Int))) then
  bif (decide ((bm3.toNat : Int) ≤ 57)) then
   some (.norm true)
  else
   bif (decide ((bm3.toNat : Int) = 95)) then
    some (.norm true)
   else
    some (.norm (decide ((bm3.toNat : Int) = 45)))
 else
  bif (decide ((bm3.toNat : Int) = 95)) then
   some (.norm true)
  else
   some (.norm (decide ((bm3.toNat : Int) = 45)))
theorem f49n4_ok (bb1 : ByteArray) (be2 : Int) (bm3 : UInt8) (bk4 : Bool) {o : f49n4O} (h : (f49n4 bb1 be2 bm3 bk4) = some o) : T Try.prog Try.f49.ntmps 0 (cL (Qn 0 (Qn 1 (Qn 1 (cL (cL (Qn 1 (cL (cL (Qn 1 (cL (Qn 2 c49)))))))))))) (f49n4S bb1 be2 bm3 bk4) (fun r => r = f49n4E bb1 be2 bm3 bk4 o) := by
 unfold f49n4 at h
 rcases Qg h with ⟨h314, h⟩ | ⟨h314, h⟩
 ·rcases Qg h with ⟨h315, h⟩ | ⟨h315, h⟩
  ·obtain rfl := Qf h
   exact rE Qi [(jT [3, 4, 7, 8], [(5, .bool true), (9, .bool true)], [])] [] [] [] [0, 3, 5, 6] (.norm, (f49n4E bb1 be2 bm3 bk4 (.norm true)).2) (ap3 h314 (ap3 h315 an)) rfl
  ·rcases Qg h with ⟨h316, h⟩ | ⟨h316, h⟩
   ·obtain rfl := Qf h
    exact rE Qi [(jF [7, 8] ++ jT [3, 4, 11, 12], [(5, .bool true), (9, .bool false), (13, .bool true)], [])] [] [] [] [0, 3, 5, 6] (.norm, (f49n4E bb1 be2 bm3 bk4 (.norm true)).2) (ap3 h314 (ap3 h315 (ap3 h316 an))) rfl
   ·obtain rfl := Qf h
    exact rE Qi [(jF [7, 8, 11, 12] ++ jT [3, 4], [(5, .bool true), (9, .bool false), (13, .bool false)], [])] [] [] [] [0, 3, 5, 6] (.norm, (f49n4E bb1 be2 bm3 bk4 (.norm (decide ((bm3.toNat : Int) = 45)))).2) (ap3 h314 (ap3 h315 (ap3 h316 an))) rfl
 ·rcases Qg h with ⟨h317, h⟩ | ⟨h317, h⟩
  ·obtain rfl := Qf h
   exact rE Qi [(jF [3, 4] ++ jT [11, 12], [(5, .bool false), (13, .bool true)], [])] [] [] [] [0, 3, 5, 6] (.norm, (f49n4E bb1 be2 bm3 bk4 (.norm true)).2) (ap3 h314 (ap3 h317 an)) rfl
  ·obtain rfl := Qf h
   exact rE Qi [(jF [3, 4, 11, 12], [(5, .bool false), (13, .bool false)], [])] [] [] [] [0, 3, 5, 6] (.norm, (f49n4E bb1 be2 bm3 bk4 (.norm (decide ((bm3.toNat : Int) = 45)))).2) (ap3 h314 (ap3 h317 an)) rfl
inductive f49n5O where
 | norm (v328 : Bool)
def f49n5E (bb1 : ByteArray) (be2 : Int) (bk3 : Bool) (bk4 : Bool) : f49n5O → Ex × Tr × Hp
 | .norm v328 => (.norm, mkS [(0, (jS bb1)), (3, (jI be2)), (61, (jB v328))], [])
def f49n5S (bb1 : ByteArray) (be2 : Int) (bk3 : Bool) (bk4 : Bool) : Tr × Hp := (mkS [(0, (jS bb1)), (3, (jI be2)), (5, (jB bk3)), (6, (jB bk4))], [])
noncomputable def f49n5 (bb1 : ByteArray) (be2 : Int) (bk3 : Bool) (bk4 : Bool) : Option f49n5O :=
 bif bk3 then
  some (.norm false)
 else
  bif bk4 then
   some (.norm (decide (be2 = 0)))
  else
   some (.norm true)
theorem f49n5_ok (bb1 : ByteArray) (be2 : Int) (bk3 : Bool) (bk4 : Bool) {o : f49n5O} (h : (f49n5 bb1 be2 bk3 bk4) = some o) : T Try.prog Try.f49.ntmps 0 (cL (Qn 0 (Qn 1 (Qn 0 (Qn 1 (Qn 1 (cL (cL (Qn 1 (cL (cL (Qn 1 (cL (Qn 2 c49)))))))))))))) (f49n5S bb1 be2 bk3 bk4) (fun r => r = f49n5E bb1 be2 bk3 bk4 o) := by
 unfold f49n5 at h
 rcases Qg h with ⟨h326, h⟩ | ⟨h326, h⟩
 ·obtain rfl := Qf h
  exact rE Qi [(jF [3, 4, 5, 8], [(9, .bool false)], [])] [] [] [] [0, 3, 61] (.norm, (f49n5E bb1 be2 bk3 bk4 (.norm false)).2) (ap (Qk h326) (ap4 (Qk h326) an)) rfl
 ·rcases Qg h with ⟨h327, h⟩ | ⟨h327, h⟩
  ·obtain rfl := Qf h
   exact rE Qi [(jF [6, 7] ++ jT [3, 4, 5, 8], [(8, .bool false), (9, .bool true)], [])] [] [] [] [0, 3, 61] (.norm, (f49n5E bb1 be2 bk3 bk4 (.norm (decide (be2 = 0)))).2) (ap3 (Qr h326) (ap2 (Qk h327) (ap (Qr h326) (ap (Qk h327) (ap (Qr h326) an))))) rfl
  ·obtain rfl := Qf h
   exact rE Qi [(jT [3, 4, 5, 6, 7, 8], [(8, .bool true), (9, .bool true)], [])] [] [] [] [0, 3, 61] (.norm, (f49n5E bb1 be2 bk3 bk4 (.norm true)).2) (ap3 (Qr h326) (ap2 (Qr h327) (ap (Qr h326) (ap (Qr h327) (ap (Qr h326) an))))) rfl
inductive f49n2O where
 | norm
 | ret
def f49n2E (bb1 : ByteArray) (be2 : Int) : f49n2O → Ex × Tr × Hp
 | .norm => (.norm, mkS [(0, (jS bb1)), (3, (jI be2))], [])
 | .ret => (.ret, mkS [(2, (jB false))], [])
def f49n2S (bb1 : ByteArray) (be2 : Int) : Tr × Hp := (mkS [(0, (jS bb1)), (3, (jI be2))], [])
noncomputable def f49n2 (bb1 : ByteArray) (be2 : Int) : Option f49n2O :=
 (at? bb1.data.toList be2).bind fun x288 =>
 (f49n3 bb1 be2 x288).bind fun o303 => match o303 with
 | .norm v305 => (f49n4 bb1 be2 x288 v305).bind fun o319 => match o319 with
  | .norm v321 => (f49n5 bb1 be2 v305 v321).bind fun o329 => match o329 with
   | .norm v331 => bif v331 then
     some .ret
    else
     some .norm
theorem f49n2_ok (bb1 : ByteArray) (be2 : Int) {o : f49n2O} (h : (f49n2 bb1 be2) = some o) : T Try.prog Try.f49.ntmps 0 (cL (Qn 1 (cL (cL (Qn 1 (cL (Qn 2 c49))))))) (f49n2S bb1 be2) (fun r => r = f49n2E bb1 be2 o) := by
 unfold f49n2 at h
 refine T.block' (i := 1) (by kernel_rfl) ?_
 obtain ⟨x288, h289, h⟩ := Qe h
 refine rN Qi 1 [([], [(2, .byte (Int.toNat be2) x288)], [])] [] [] [] [0, 3, 4] (f49n3S bb1 be2 x288) (ap (Qh h289).1 (ap (Qh h289).2 an)) ?_
 obtain ⟨o303, h304, h⟩ := Qe h
 cases o303 with
 | norm v305 =>
  refine T.oneN (by kernel_rfl) (f49n3_ok bb1 be2 x288 h304) (st2 := (f49n3E bb1 be2 x288 (.norm v305)).2) rfl ?_
  refine rN Qi 0 [] [] [] [] [0, 3, 4, 5] (f49n4S bb1 be2 x288 v305) an ?_
  obtain ⟨o319, h320, h⟩ := Qe h
  cases o319 with
  | norm v321 =>
   refine T.oneN (by kernel_rfl) (f49n4_ok bb1 be2 x288 v305 h320) (st2 := (f49n4E bb1 be2 x288 v305 (.norm v321)).2) rfl ?_
   refine rN Qi 0 [] [] [] [] [0, 3, 5, 6] (f49n5S bb1 be2 v305 v321) an ?_
   obtain ⟨o329, h330, h⟩ := Qe h
   cases o329 with
   | norm v331 =>
    refine T.oneN (by kernel_rfl) (f49n5_ok bb1 be2 v305 v321 h330) (st2 := (f49n5E bb1 be2 v305 v321 (.norm v331)).2) rfl ?_
    rcases Qg h with ⟨h333, h⟩ | ⟨h333, h⟩
    ·obtain rfl := Qf h
     exact rE Qi [j3] [some true] [] [] [2] (.ret, (f49n2E bb1 be2 .ret).2) (ap h333 an) rfl
    ·obtain rfl := Qf h
     exact rE Qi [] [some false] [] [] [0, 3] (.norm, (f49n2E bb1 be2 .norm).2) (ap h333 an) rfl
inductive f49n6O where
 | exit0
 | ret
def f49n6E (bb1 : ByteArray) : f49n6O → Ex × Tr × Hp
 | .exit0 => ((.exit 0), mkS [], [])
 | .ret => (.ret, mkS [(2, (jB false))], [])
def f49n6S (bb1 : ByteArray) (v219 : Int) : Tr × Hp := (mkS [(0, (jS bb1)), (3, (jI v219))], [])
noncomputable def f49n6 : Nat → ByteArray → Int → Option f49n6O
 | 0, _, _ => none
 | f + 1, bb1, v219 =>
  bif (decide (v219 < (bb1.size : Int))) then
   (f49n2 bb1 v219).bind fun o334 => match o334 with
   | .norm => (f49n6 f bb1 (wr64 (v219 + 1)))
   | .ret => some .ret
  else
   some .exit0
theorem f49n6_ok : ∀ (f : Nat) (bb1 : ByteArray) (v219 : Int) {o : f49n6O}, (f49n6 f bb1 v219) = some o → TL Try.prog Try.f49.ntmps 0 f (cL (cL (Qn 1 (cL (Qn 2 c49))))) (f49n6S bb1 v219) (fun r => r = f49n6E bb1 o)
 | 0, _, _, o, h => by rw [f49n6] at h; cases h
 | f + 1, bb1, v219, o, h => by
  rw [f49n6] at h
  refine TL.body (K := fun s => ∃ v219 : Int, s = (f49n6S bb1 v219) ∧ (f49n6 f bb1 v219) = some o) ?_ (by rintro _ ⟨v219, rfl, hk⟩; exact f49n6_ok f _ _ hk)
  rcases Qg h with ⟨h221, h⟩ | ⟨h221, h⟩
  ·refine rN Qi 1 [j3] [some true] [] [] [0, 3] (f49n2S bb1 v219) (ap h221 an) ?_
   obtain ⟨o334, h335, h⟩ := Qe h
   cases o334 with
   | norm =>
    refine T.oneN (by kernel_rfl) (f49n2_ok bb1 v219 h335) (st2 := (f49n2E bb1 v219 .norm).2) rfl ?_
    exact rE Qi [j3] [] [] [] [0, 3] (.norm, (f49n6S bb1 (wr64 (v219 + 1)))) an (Qs.norm ⟨(wr64 (v219 + 1)), rfl, h⟩)
   | ret =>
    obtain rfl := Qf h
    exact T.oneX' (by kernel_rfl) (f49n2_ok bb1 v219 h335) (tds := []) (m := []) (keep := [2]) (st2 := (f49n6E bb1 .ret).2) (by kernel_rfl) an rfl (Qs.out rfl rfl)
  ·obtain rfl := Qf h
   exact rK Qi 1 [j3] [some false] [] [] [] (.exit 0) ((f49n6E bb1 .exit0).2) (ap h221 an) (Qs.out rfl rfl)
inductive f49n1O where
 | norm
 | ret
def f49n1E (bb1 : ByteArray) : f49n1O → Ex × Tr × Hp
 | .norm => (.norm, mkS [], [])
 | .ret => (.ret, mkS [(2, (jB false))], [])
def f49n1S (bb1 : ByteArray) : Tr × Hp := (mkS [(0, (jS bb1))], [])
noncomputable def f49n1 (bb1 : ByteArray) : Option f49n1O :=
 (f49n6 FUEL bb1 0).bind fun o336 => match o336 with
 | .exit0 => some .norm
 | .ret => some .ret
theorem f49n1_ok (bb1 : ByteArray) {o : f49n1O} (h : (f49n1 bb1) = some o) : T Try.prog Try.f49.ntmps 0 (cL (Qn 2 c49)) (f49n1S bb1) (fun r => r = f49n1E bb1 o) := by
 unfold f49n1 at h
 refine rN Qi 1 [j3] [] [] [] [0, 3] (f49n6S bb1 0) an ?_
 obtain ⟨o336, h337, h⟩ := Qe h
 cases o336 with
 | exit0 =>
  obtain rfl := Qf h
  exact T.last' (T.bl (i := 0) (by kernel_rfl) (by kernel_rfl) (f49n6_ok FUEL bb1 0 h337)) (tds := []) (m := []) (keep := []) (st2 := (f49n1E bb1 .norm).2) (by kernel_rfl) an rfl
 | ret =>
  obtain rfl := Qf h
  exact T.last' (T.bl (i := 0) (by kernel_rfl) (by kernel_rfl) (f49n6_ok FUEL bb1 0 h337)) (tds := []) (m := []) (keep := [2]) (st2 := (f49n1E bb1 .ret).2) (by kernel_rfl) an rfl
inductive f49n0O where
 | ret (v340 : Bool)
def f49n0E (a1 : ByteArray) : f49n0O → Ex × Tr × Hp
 | .ret v340 => (.ret, mkS [(2, (jB v340))], [])
def f49n0S (a1 : ByteArray) : Tr × Hp := (Qal [(jS a1)] 0 .leaf, [])
noncomputable def f49n0 (a1 : ByteArray) : Option f49n0O :=
 bif (decide ((a1.size : Int) < 1)) then
  some (.ret false)
 else
  bif (decide (40 < (a1.size : Int))) then
   some (.ret false)
  else
   (f49n1 a1).bind fun o338 => match o338 with
   | .norm => some (.ret true)
   | .ret => some (.ret false)
theorem f49n0_ok (a1 : ByteArray) {o : f49n0O} (h : (f49n0 a1) = some o) : T Try.prog Try.f49.ntmps 0 c49 (f49n0S a1) (fun r => r = f49n0E a1 o) := by
 unfold f49n0 at h
 rcases Qg h with ⟨h4, h⟩ | ⟨h4, h⟩
 ·obtain rfl := Qf h
  exact rK Qi 2 [j3, (jT [4, 5, 6], [(7, .bool true)], []), j3] [none] [] [] [2] .ret ((f49n0E a1 (.ret false)).2) (ap4 h4 an) rfl
 ·rcases Qg h with ⟨h5, h⟩ | ⟨h5, h⟩
  ·obtain rfl := Qf h
   exact rK Qi 2 [j3, (jF [4, 5, 6], [(7, .bool false)], []), j3] [some true] [] [] [2] .ret ((f49n0E a1 (.ret false)).2) (ap4 h4 (ap h5 an)) rfl
  ·refine rN Qi 2 [j3, (jF [4, 5, 6], [(7, .bool false)], [])] [some false] [] [] [0] (f49n1S a1) (ap4 h4 (ap h5 an)) ?_
   obtain ⟨o338, h339, h⟩ := Qe h
   cases o338 with
   | norm =>
    refine T.oneN (by kernel_rfl) (f49n1_ok a1 h339) (st2 := (f49n1E a1 .norm).2) rfl ?_
    obtain rfl := Qf h
    exact rE Qi [j3] [] [] [] [2] (.ret, (f49n0E a1 (.ret true)).2) an rfl
   | ret =>
    obtain rfl := Qf h
    exact T.oneX' (by kernel_rfl) (f49n1_ok a1 h339) (tds := []) (m := []) (keep := [2]) (st2 := (f49n0E a1 (.ret false)).2) (by kernel_rfl) an rfl rfl
noncomputable def f49 (a1 : ByteArray) : Option Bool := (f49n0 a1).bind fun o => match o with
 | .ret v340 => some v340
theorem f49_ok (a1 : ByteArray) {r : Bool} (h : (f49 a1) = some r) : Qq Try.prog false 49 [(jS a1)] [] (jB r) [] := by
 unfold f49 at h
 obtain ⟨o, ho, h⟩ := Qe h
 cases o with
 | ret v340 =>
  obtain rfl := Qf h
  exact Qq.plain Qi (f := Try.f49) (c := c49) (by kernel_rfl) (by kernel_rfl) (by kernel_rfl) (by kernel_rfl) ((f49n0_ok a1 ho).mono fun r e => by subst e; exact ⟨.inl rfl, (jB v340), (jB v340), by kernel_rfl, by kernel_rfl, ((Wk.refl _) : Wk (jB v340) (jB v340))⟩)
end Go.Proofs.Ytelblamgfbkhbaa
