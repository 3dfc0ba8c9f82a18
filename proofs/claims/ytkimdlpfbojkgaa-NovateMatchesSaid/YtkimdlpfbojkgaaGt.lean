/- The types of the values, plainly. No condition. -/
import Derived.Test.YtkimdlpfbojkgaaTy
import Derived.Test.YtkimdlpfbojkgaaTH
namespace Go.Proofs.Ytkimdlpfbojkgaa
set_option linter.unusedVariables false
set_option maxRecDepth 100000
open Go.RowKit
def str_house : ByteArray := ⟨#[104, 111, 117, 115, 101]⟩
def str_x : ByteArray := ⟨#[]⟩
structure NovateTrade where
  Buyer : ByteArray
  Seller : ByteArray
  Product : ByteArray
  Quantity : Int
  Price : Int
  Bought : Bool
  Sold : Bool
  Stage : Int
def NovateTrade.cells (x : NovateTrade) : List PV := [.str x.Buyer, .str x.Seller, .str x.Product, .int .i64 x.Quantity, .int .i64 x.Price, .bool x.Bought, .bool x.Sold, .int .u8 x.Stage]
structure NovateBook where
  Trades : List NovateTrade
def NovateBook.cells (x : NovateBook) : List PV := [.sl .any 8 (x.Trades.map NovateTrade.cells)]
structure Op_ where
  Kind : Int
  Number : Int
  By : ByteArray
  Buyer : ByteArray
  Seller : ByteArray
  Product : ByteArray
  Quantity : Int
  Price : Int
def Op_.cells (x : Op_) : List PV := [.int .u8 x.Kind, .int .i64 x.Number, .str x.By, .str x.Buyer, .str x.Seller, .str x.Product, .int .i64 x.Quantity, .int .i64 x.Price]
structure NovateLeg where
  Trade : Int
  Buyer : ByteArray
  Seller : ByteArray
  Product : ByteArray
  Quantity : Int
  Price : Int
def NovateLeg.cells (x : NovateLeg) : List PV := [.int .i64 x.Trade, .str x.Buyer, .str x.Seller, .str x.Product, .int .i64 x.Quantity, .int .i64 x.Price]
def NovateTrade.eqb (x y : NovateTrade) : Bool := seq x.Buyer y.Buyer && seq x.Seller y.Seller && seq x.Product y.Product && decide (x.Quantity = y.Quantity) && decide (x.Price = y.Price) && (x.Bought == y.Bought) && (x.Sold == y.Sold) && decide (x.Stage = y.Stage)
theorem NovateTrade.eqb_ok (x y : NovateTrade) : eqV cfg.ty 34 (.agg (NovateTrade.cells x)) (.agg (NovateTrade.cells y)) = some (NovateTrade.eqb x y) := by
  unfold NovateTrade.eqb
  have e : eqV cfg.ty 34 (.agg (NovateTrade.cells x)) (.agg (NovateTrade.cells y)) = (match some (decide (x.Buyer.data.toList = y.Buyer.data.toList)) with | some true => (match some (decide (x.Seller.data.toList = y.Seller.data.toList)) with | some true => (match some (decide (x.Product.data.toList = y.Product.data.toList)) with | some true => (match some (decide (x.Quantity = y.Quantity)) with | some true => (match some (decide (x.Price = y.Price)) with | some true => (match some ((x.Bought == y.Bought)) with | some true => (match some ((x.Sold == y.Sold)) with | some true => (match some (decide (x.Stage = y.Stage)) with | some true => (some true) | some false => some false | none => none) | some false => some false | none => none) | some false => some false | none => none) | some false => some false | none => none) | some false => some false | none => none) | some false => some false | none => none) | some false => some false | none => none) | some false => some false | none => none) := by kernel_rfl
  rw [e]
  simp only [seq]
  cases decide (x.Buyer.data.toList = y.Buyer.data.toList) <;> cases decide (x.Seller.data.toList = y.Seller.data.toList) <;> cases decide (x.Product.data.toList = y.Product.data.toList) <;> cases decide (x.Quantity = y.Quantity) <;> cases decide (x.Price = y.Price) <;> cases (x.Bought == y.Bought) <;> cases (x.Sold == y.Sold) <;> cases decide (x.Stage = y.Stage) <;> rfl
def NovateLeg.eqb (x y : NovateLeg) : Bool := decide (x.Trade = y.Trade) && seq x.Buyer y.Buyer && seq x.Seller y.Seller && seq x.Product y.Product && decide (x.Quantity = y.Quantity) && decide (x.Price = y.Price)
theorem NovateLeg.eqb_ok (x y : NovateLeg) : eqV cfg.ty 32 (.agg (NovateLeg.cells x)) (.agg (NovateLeg.cells y)) = some (NovateLeg.eqb x y) := by
  unfold NovateLeg.eqb
  have e : eqV cfg.ty 32 (.agg (NovateLeg.cells x)) (.agg (NovateLeg.cells y)) = (match some (decide (x.Trade = y.Trade)) with | some true => (match some (decide (x.Buyer.data.toList = y.Buyer.data.toList)) with | some true => (match some (decide (x.Seller.data.toList = y.Seller.data.toList)) with | some true => (match some (decide (x.Product.data.toList = y.Product.data.toList)) with | some true => (match some (decide (x.Quantity = y.Quantity)) with | some true => (match some (decide (x.Price = y.Price)) with | some true => (some true) | some false => some false | none => none) | some false => some false | none => none) | some false => some false | none => none) | some false => some false | none => none) | some false => some false | none => none) | some false => some false | none => none) := by kernel_rfl
  rw [e]
  simp only [seq]
  cases decide (x.Trade = y.Trade) <;> cases decide (x.Buyer.data.toList = y.Buyer.data.toList) <;> cases decide (x.Seller.data.toList = y.Seller.data.toList) <;> cases decide (x.Product.data.toList = y.Product.data.toList) <;> cases decide (x.Quantity = y.Quantity) <;> cases decide (x.Price = y.Price) <;> rfl
def ti34 : TI := ⟨.struct [(9, 0), (9, 1), (9, 2), (3, 3), (3, 4), (4, 5), (4, 6), (5, 7)], 8, 72, [.str ByteArray.empty, .str ByteArray.empty, .str ByteArray.empty, .int .i64 0, .int .i64 0, .bool false, .bool false, .int .u8 0]⟩
def ti32 : TI := ⟨.struct [(3, 0), (9, 1), (9, 2), (9, 3), (3, 4), (3, 5)], 6, 72, [.int .i64 0, .str ByteArray.empty, .str ByteArray.empty, .str ByteArray.empty, .int .i64 0, .int .i64 0]⟩
def ti9 : TI := ⟨.str, 1, 16, [.str ByteArray.empty]⟩
def ti3 : TI := ⟨.int .i64, 1, 8, [.int .i64 0]⟩
def ti4 : TI := ⟨.bool, 1, 1, [.bool false]⟩
def ti5 : TI := ⟨.int .u8, 1, 1, [.int .u8 0]⟩
def ti22 : TI := ⟨.sl 34, 1, 24, [.sl .nil 0 []]⟩
def ti24 : TI := ⟨.struct [(22, 0)], 1, 24, [.sl .nil 0 []]⟩
def ti40 : TI := ⟨.struct [(5, 0), (3, 1), (9, 2), (9, 3), (9, 4), (9, 5), (3, 6), (3, 7)], 8, 96, [.int .u8 0, .int .i64 0, .str ByteArray.empty, .str ByteArray.empty, .str ByteArray.empty, .str ByteArray.empty, .int .i64 0, .int .i64 0]⟩
def NovateTrade.ok (x : NovateTrade) : Prop := (fun s : ByteArray => s.size ≤ maxLen) x.Buyer ∧ (fun s : ByteArray => s.size ≤ maxLen) x.Seller ∧ (fun s : ByteArray => s.size ≤ maxLen) x.Product ∧ (okInt .i64) x.Quantity ∧ (okInt .i64) x.Price ∧ (fun _ : Bool => True) x.Bought ∧ (fun _ : Bool => True) x.Sold ∧ (okInt .u8) x.Stage ∧ True
def NovateBook.ok (x : NovateBook) : Prop := (fun l : List NovateTrade => l.length ≤ maxLen ∧ ∀ x ∈ l, NovateTrade.ok x) x.Trades ∧ True
def Op_.ok (x : Op_) : Prop := (okInt .u8) x.Kind ∧ (okInt .i64) x.Number ∧ (fun s : ByteArray => s.size ≤ maxLen) x.By ∧ (fun s : ByteArray => s.size ≤ maxLen) x.Buyer ∧ (fun s : ByteArray => s.size ≤ maxLen) x.Seller ∧ (fun s : ByteArray => s.size ≤ maxLen) x.Product ∧ (okInt .i64) x.Quantity ∧ (okInt .i64) x.Price ∧ True
def NovateLeg.ok (x : NovateLeg) : Prop := (okInt .i64) x.Trade ∧ (fun s : ByteArray => s.size ≤ maxLen) x.Buyer ∧ (fun s : ByteArray => s.size ≤ maxLen) x.Seller ∧ (fun s : ByteArray => s.size ≤ maxLen) x.Product ∧ (okInt .i64) x.Quantity ∧ (okInt .i64) x.Price ∧ True
theorem of_9 {d : Nat} {ps : List PV} (h : WT cfg.ty (d + 1) 9 ps) : ∃ x : ByteArray, ps = cStr x ∧ (fun s : ByteArray => s.size ≤ maxLen) x := by
  obtain ⟨n, rfl, k⟩ := wt_str (ti := ti9) (by kernel_rfl) rfl h
  exact ⟨n, rfl, k⟩
theorem of_3 {d : Nat} {ps : List PV} (h : WT cfg.ty (d + 1) 3 ps) : ∃ x : Int, ps = (cInt .i64) x ∧ (okInt .i64) x := by
  obtain ⟨n, rfl, k⟩ := wt_int (ti := ti3) (by kernel_rfl) rfl h
  exact ⟨n, rfl, k⟩
theorem of_4 {d : Nat} {ps : List PV} (h : WT cfg.ty (d + 1) 4 ps) : ∃ x : Bool, ps = cBool x ∧ (fun _ : Bool => True) x := by
  obtain ⟨n, rfl⟩ := wt_bool (ti := ti4) (by kernel_rfl) rfl h
  exact ⟨n, rfl, trivial⟩
theorem of_5 {d : Nat} {ps : List PV} (h : WT cfg.ty (d + 1) 5 ps) : ∃ x : Int, ps = (cInt .u8) x ∧ (okInt .u8) x := by
  obtain ⟨n, rfl, k⟩ := wt_int (ti := ti5) (by kernel_rfl) rfl h
  exact ⟨n, rfl, k⟩
theorem of_34 {d : Nat} {ps : List PV} (h : WT cfg.ty (d + 2) 34 ps) : ∃ x : NovateTrade, ps = NovateTrade.cells x ∧ NovateTrade.ok x := by
  have g := wt_struct (ti := ti34) (by kernel_rfl) rfl h
  clear h
  obtain ⟨_, _, _, rfl, _, _, h0, g0⟩ := g
  obtain ⟨x0, rfl, k0⟩ := of_9 h0
  obtain ⟨_, _, _, rfl, _, _, h1, g1⟩ := g0
  obtain ⟨x1, rfl, k1⟩ := of_9 h1
  obtain ⟨_, _, _, rfl, _, _, h2, g2⟩ := g1
  obtain ⟨x2, rfl, k2⟩ := of_9 h2
  obtain ⟨_, _, _, rfl, _, _, h3, g3⟩ := g2
  obtain ⟨x3, rfl, k3⟩ := of_3 h3
  obtain ⟨_, _, _, rfl, _, _, h4, g4⟩ := g3
  obtain ⟨x4, rfl, k4⟩ := of_3 h4
  obtain ⟨_, _, _, rfl, _, _, h5, g5⟩ := g4
  obtain ⟨x5, rfl, k5⟩ := of_4 h5
  obtain ⟨_, _, _, rfl, _, _, h6, g6⟩ := g5
  obtain ⟨x6, rfl, k6⟩ := of_4 h6
  obtain ⟨_, _, _, rfl, _, _, h7, g7⟩ := g6
  obtain ⟨x7, rfl, k7⟩ := of_5 h7
  have e : _ = [] := g7
  subst e
  exact ⟨⟨x0, x1, x2, x3, x4, x5, x6, x7⟩, rfl, k0, k1, k2, k3, k4, k5, k6, k7, trivial⟩
theorem of_22 {d : Nat} {ps : List PV} (h : WT cfg.ty (d + 3) 22 ps) : ∃ x : List NovateTrade, ps = (cLst 8 NovateTrade.cells) x ∧ (fun l : List NovateTrade => l.length ≤ maxLen ∧ ∀ x ∈ l, NovateTrade.ok x) x := by
  obtain ⟨te, es, e1, rfl, hl, hh⟩ := wt_sl (ti := ti22) (by kernel_rfl) rfl h
  obtain rfl : te = ti34 := some_inj (e1.symm.trans (by kernel_rfl : cfg.ty 34 = some ti34))
  obtain ⟨xs, rfl, hx⟩ := list_of (c := NovateTrade.cells) (ok := NovateTrade.ok) (fun ps h => of_34 h) es (fun c hc => (hh c hc).2)
  exact ⟨xs, rfl, by simpa using hl, hx⟩
theorem of_24 {d : Nat} {ps : List PV} (h : WT cfg.ty (d + 4) 24 ps) : ∃ x : NovateBook, ps = NovateBook.cells x ∧ NovateBook.ok x := by
  have g := wt_struct (ti := ti24) (by kernel_rfl) rfl h
  clear h
  obtain ⟨_, _, _, rfl, _, _, h0, g0⟩ := g
  obtain ⟨x0, rfl, k0⟩ := of_22 h0
  have e : _ = [] := g0
  subst e
  exact ⟨⟨x0⟩, rfl, k0, trivial⟩
theorem arg_24 {p : PV} (h : WV cfg.ty 4 24 p) : ∃ x : NovateBook, p = .agg (NovateBook.cells x) ∧ NovateBook.ok x := by
  obtain ⟨cs, rfl, g⟩ := wv_row (ti := ti24) (by kernel_rfl) rfl h
  obtain ⟨x, rfl, k⟩ := of_24 (d := 0) g
  exact ⟨x, rfl, k⟩
theorem of_40 {d : Nat} {ps : List PV} (h : WT cfg.ty (d + 2) 40 ps) : ∃ x : Op_, ps = Op_.cells x ∧ Op_.ok x := by
  have g := wt_struct (ti := ti40) (by kernel_rfl) rfl h
  clear h
  obtain ⟨_, _, _, rfl, _, _, h0, g0⟩ := g
  obtain ⟨x0, rfl, k0⟩ := of_5 h0
  obtain ⟨_, _, _, rfl, _, _, h1, g1⟩ := g0
  obtain ⟨x1, rfl, k1⟩ := of_3 h1
  obtain ⟨_, _, _, rfl, _, _, h2, g2⟩ := g1
  obtain ⟨x2, rfl, k2⟩ := of_9 h2
  obtain ⟨_, _, _, rfl, _, _, h3, g3⟩ := g2
  obtain ⟨x3, rfl, k3⟩ := of_9 h3
  obtain ⟨_, _, _, rfl, _, _, h4, g4⟩ := g3
  obtain ⟨x4, rfl, k4⟩ := of_9 h4
  obtain ⟨_, _, _, rfl, _, _, h5, g5⟩ := g4
  obtain ⟨x5, rfl, k5⟩ := of_9 h5
  obtain ⟨_, _, _, rfl, _, _, h6, g6⟩ := g5
  obtain ⟨x6, rfl, k6⟩ := of_3 h6
  obtain ⟨_, _, _, rfl, _, _, h7, g7⟩ := g6
  obtain ⟨x7, rfl, k7⟩ := of_3 h7
  have e : _ = [] := g7
  subst e
  exact ⟨⟨x0, x1, x2, x3, x4, x5, x6, x7⟩, rfl, k0, k1, k2, k3, k4, k5, k6, k7, trivial⟩
theorem arg_40 {p : PV} (h : WV cfg.ty 2 40 p) : ∃ x : Op_, p = .agg (Op_.cells x) ∧ Op_.ok x := by
  obtain ⟨cs, rfl, g⟩ := wv_row (ti := ti40) (by kernel_rfl) rfl h
  obtain ⟨x, rfl, k⟩ := of_40 (d := 0) g
  exact ⟨x, rfl, k⟩
end Go.Proofs.Ytkimdlpfbojkgaa
