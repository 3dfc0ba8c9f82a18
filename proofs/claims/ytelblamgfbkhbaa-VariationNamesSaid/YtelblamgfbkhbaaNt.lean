/- The types of the values, plainly. No condition. -/
import Derived.Test.YtelblamgfbkhbaaTy
import Derived.Test.YtelblamgfbkhbaaTO
import Derived.Test.YtelblamgfbkhbaaTY
import Derived.Test.YtelblamgfbkhbaaTV
import Derived.Test.YtelblamgfbkhbaaIn
import Derived.Test.YtelblamgfbkhbaaSo
namespace Go.Proofs.Ytelblamgfbkhbaa
set_option linter.unusedVariables false
set_option linter.unusedSimpArgs false
set_option maxRecDepth 100000
open Go.RowKit
def str_c : ByteArray := ⟨#[99]⟩
def str_b : ByteArray := ⟨#[98]⟩
def str_house : ByteArray := ⟨#[104, 111, 117, 115, 101]⟩
def str_x : ByteArray := ⟨#[]⟩
def str_p : ByteArray := ⟨#[112]⟩
def str_a : ByteArray := ⟨#[97]⟩
structure VariationPosition where
  Member : ByteArray
  Product : ByteArray
  Quantity : Int
  Basis : Int
def VariationPosition.cells (x : VariationPosition) : List PV := [.str x.Member, .str x.Product, .int .i64 x.Quantity, .int .i64 x.Basis]
structure Variation where
  Day : Int
  Positions : List VariationPosition
def Variation.cells (x : Variation) : List PV := [.int .i64 x.Day, .sl .any 4 (x.Positions.map VariationPosition.cells)]
structure Sums_ where
  quantity : Int
  basis : Int
def Sums_.cells (x : Sums_) : List PV := [.int .i64 x.quantity, .int .i64 x.basis]
structure VariationPrice where
  Product : ByteArray
  Price : Int
def VariationPrice.cells (x : VariationPrice) : List PV := [.str x.Product, .int .i64 x.Price]
structure VariationPayment where
  Member : ByteArray
  Amount : Int
def VariationPayment.cells (x : VariationPayment) : List PV := [.str x.Member, .int .i64 x.Amount]
def VariationPosition.eqb (x y : VariationPosition) : Bool := seq x.Member y.Member && seq x.Product y.Product && decide (x.Quantity = y.Quantity) && decide (x.Basis = y.Basis)
theorem VariationPosition.eqb_ok (x y : VariationPosition) : eqV cfg.ty 52 (.agg (VariationPosition.cells x)) (.agg (VariationPosition.cells y)) = some (VariationPosition.eqb x y) := by
  unfold VariationPosition.eqb
  have e : eqV cfg.ty 52 (.agg (VariationPosition.cells x)) (.agg (VariationPosition.cells y)) = (match some (decide (x.Member.data.toList = y.Member.data.toList)) with | some true => (match some (decide (x.Product.data.toList = y.Product.data.toList)) with | some true => (match some (decide (x.Quantity = y.Quantity)) with | some true => (match some (decide (x.Basis = y.Basis)) with | some true => (some true) | some false => some false | none => none) | some false => some false | none => none) | some false => some false | none => none) | some false => some false | none => none) := by kernel_rfl
  rw [e]
  try simp only [seq]
  cases decide (x.Member.data.toList = y.Member.data.toList) <;> cases decide (x.Product.data.toList = y.Product.data.toList) <;> cases decide (x.Quantity = y.Quantity) <;> cases decide (x.Basis = y.Basis) <;> rfl
def Sums_.eqb (x y : Sums_) : Bool := decide (x.quantity = y.quantity) && decide (x.basis = y.basis)
theorem Sums_.eqb_ok (x y : Sums_) : eqV cfg.ty 92 (.agg (Sums_.cells x)) (.agg (Sums_.cells y)) = some (Sums_.eqb x y) := by
  unfold Sums_.eqb
  have e : eqV cfg.ty 92 (.agg (Sums_.cells x)) (.agg (Sums_.cells y)) = (match some (decide (x.quantity = y.quantity)) with | some true => (match some (decide (x.basis = y.basis)) with | some true => (some true) | some false => some false | none => none) | some false => some false | none => none) := by kernel_rfl
  rw [e]
  try simp only [seq]
  cases decide (x.quantity = y.quantity) <;> cases decide (x.basis = y.basis) <;> rfl
def VariationPayment.eqb (x y : VariationPayment) : Bool := seq x.Member y.Member && decide (x.Amount = y.Amount)
theorem VariationPayment.eqb_ok (x y : VariationPayment) : eqV cfg.ty 48 (.agg (VariationPayment.cells x)) (.agg (VariationPayment.cells y)) = some (VariationPayment.eqb x y) := by
  unfold VariationPayment.eqb
  have e : eqV cfg.ty 48 (.agg (VariationPayment.cells x)) (.agg (VariationPayment.cells y)) = (match some (decide (x.Member.data.toList = y.Member.data.toList)) with | some true => (match some (decide (x.Amount = y.Amount)) with | some true => (some true) | some false => some false | none => none) | some false => some false | none => none) := by kernel_rfl
  rw [e]
  try simp only [seq]
  cases decide (x.Member.data.toList = y.Member.data.toList) <;> cases decide (x.Amount = y.Amount) <;> rfl
theorem key_9 : KeyOK cfg 9 pStr seq := key_str (fun _ _ => by kernel_rfl) (fun _ => by kernel_rfl)
def ti52 : TI := ⟨.struct [(9, 0), (9, 1), (3, 2), (3, 3)], 4, 48, [.str ByteArray.empty, .str ByteArray.empty, .int .i64 0, .int .i64 0]⟩
def ti48 : TI := ⟨.struct [(9, 0), (3, 1)], 2, 24, [.str ByteArray.empty, .int .i64 0]⟩
def ti72 : TI := ⟨.struct [(9, 0), (3, 1)], 2, 24, [.str ByteArray.empty, .int .i64 0]⟩
def VariationPosition.ok (x : VariationPosition) : Prop := (fun s : ByteArray => s.size ≤ maxLen) x.Member ∧ (fun s : ByteArray => s.size ≤ maxLen) x.Product ∧ (okInt .i64) x.Quantity ∧ (okInt .i64) x.Basis ∧ True
def Variation.ok (x : Variation) : Prop := (okInt .i64) x.Day ∧ (fun l : List VariationPosition => l.length ≤ maxLen ∧ ∀ x ∈ l, VariationPosition.ok x) x.Positions ∧ True
def Sums_.ok (x : Sums_) : Prop := (okInt .i64) x.quantity ∧ (okInt .i64) x.basis ∧ True
def VariationPrice.ok (x : VariationPrice) : Prop := (fun s : ByteArray => s.size ≤ maxLen) x.Product ∧ (okInt .i64) x.Price ∧ True
def VariationPayment.ok (x : VariationPayment) : Prop := (fun s : ByteArray => s.size ≤ maxLen) x.Member ∧ (okInt .i64) x.Amount ∧ True
end Go.Proofs.Ytelblamgfbkhbaa
