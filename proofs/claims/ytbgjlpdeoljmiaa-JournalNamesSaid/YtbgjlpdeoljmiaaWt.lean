/- The types of the values, plainly. No condition. -/
import Derived.Test.YtbgjlpdeoljmiaaTy
import Derived.Test.YtbgjlpdeoljmiaaTO
namespace Go.Proofs.Ytbgjlpdeoljmiaa
set_option linter.unusedVariables false
set_option linter.unusedSimpArgs false
set_option maxRecDepth 100000
open Go.RowKit
def str_x78 : ByteArray := ⟨#[120]⟩
def str_USD : ByteArray := ⟨#[85, 83, 68]⟩
def str_x0a : ByteArray := ⟨#[10]⟩
def str_b : ByteArray := ⟨#[98]⟩
def str_EUR : ByteArray := ⟨#[69, 85, 82]⟩
def str_a : ByteArray := ⟨#[97]⟩
def str_x : ByteArray := ⟨#[]⟩
structure JournalLine where
  Account : ByteArray
  Ccy : ByteArray
  Amount : Int
def JournalLine.cells (x : JournalLine) : List PV := [.str x.Account, .str x.Ccy, .int .i64 x.Amount]
structure JournalRecord where
  Day : Int
  Text : ByteArray
  Lines : List JournalLine
def JournalRecord.cells (x : JournalRecord) : List PV := [.int .i64 x.Day, .str x.Text, .sl .any 3 (x.Lines.map JournalLine.cells)]
structure Journal where
  Records : List JournalRecord
def Journal.cells (x : Journal) : List PV := [.sl .any 3 (x.Records.map JournalRecord.cells)]
structure Account_ where
  name : ByteArray
  ccy : ByteArray
def Account_.cells (x : Account_) : List PV := [.str x.name, .str x.ccy]
structure Reader_ where
  b : List Int
def Reader_.cells (x : Reader_) : List PV := [.sl .any 1 (x.b.map (cInt .u8))]
def Account_.eqb (x y : Account_) : Bool := seq x.name y.name && seq x.ccy y.ccy
theorem Account_.eqb_ok (x y : Account_) : eqV cfg.ty 95 (.agg (Account_.cells x)) (.agg (Account_.cells y)) = some (Account_.eqb x y) := by
  unfold Account_.eqb
  have e : eqV cfg.ty 95 (.agg (Account_.cells x)) (.agg (Account_.cells y)) = (match some (decide (x.name.data.toList = y.name.data.toList)) with | some true => (match some (decide (x.ccy.data.toList = y.ccy.data.toList)) with | some true => (some true) | some false => some false | none => none) | some false => some false | none => none) := by kernel_rfl
  rw [e]
  simp only [seq]
  cases decide (x.name.data.toList = y.name.data.toList) <;> cases decide (x.ccy.data.toList = y.ccy.data.toList) <;> rfl
def JournalLine.eqb (x y : JournalLine) : Bool := seq x.Account y.Account && seq x.Ccy y.Ccy && decide (x.Amount = y.Amount)
theorem JournalLine.eqb_ok (x y : JournalLine) : eqV cfg.ty 49 (.agg (JournalLine.cells x)) (.agg (JournalLine.cells y)) = some (JournalLine.eqb x y) := by
  unfold JournalLine.eqb
  have e : eqV cfg.ty 49 (.agg (JournalLine.cells x)) (.agg (JournalLine.cells y)) = (match some (decide (x.Account.data.toList = y.Account.data.toList)) with | some true => (match some (decide (x.Ccy.data.toList = y.Ccy.data.toList)) with | some true => (match some (decide (x.Amount = y.Amount)) with | some true => (some true) | some false => some false | none => none) | some false => some false | none => none) | some false => some false | none => none) := by kernel_rfl
  rw [e]
  simp only [seq]
  cases decide (x.Account.data.toList = y.Account.data.toList) <;> cases decide (x.Ccy.data.toList = y.Ccy.data.toList) <;> cases decide (x.Amount = y.Amount) <;> rfl
theorem key_9 : KeyOK cfg 9 pStr seq := key_str (fun _ _ => by kernel_rfl) (fun _ => by kernel_rfl)
theorem Account_.eqb_eq {x y : Account_} (h : Account_.eqb x y = true) : x = y := by
  cases x; cases y
  simp only [Account_.eqb, Bool.and_eq_true, decide_eq_true_eq, beq_iff_eq] at h
  simp only [Account_.mk.injEq]
  refine ⟨?_, ?_⟩ <;> first | exact seq_eq' (by simp_all) | simp_all
theorem key_95 : KeyOK cfg 95 (pAgg Account_.cells) Account_.eqb := ⟨fun a b => Account_.eqb_ok a b, fun _ => by kernel_rfl, fun a b h => Account_.eqb_eq h, fun a => by simp [pAgg, Account_.cells, eqC, eqCL, eqC1, kindEq]⟩
def panV : List PanicEntry := [{ v := .iface 103 (.agg #[]), recovered := false }]
def ti49 : TI := ⟨.struct [(9, 0), (9, 1), (3, 2)], 3, 40, [.str ByteArray.empty, .str ByteArray.empty, .int .i64 0]⟩
def ti47 : TI := ⟨.struct [(3, 0), (9, 1), (45, 2)], 3, 48, [.int .i64 0, .str ByteArray.empty, .sl .nil 0 []]⟩
def ti5 : TI := ⟨.int .u8, 1, 1, [.int .u8 0]⟩
def JournalLine.ok (x : JournalLine) : Prop := (fun s : ByteArray => s.size ≤ maxLen) x.Account ∧ (fun s : ByteArray => s.size ≤ maxLen) x.Ccy ∧ (okInt .i64) x.Amount ∧ True
def JournalRecord.ok (x : JournalRecord) : Prop := (okInt .i64) x.Day ∧ (fun s : ByteArray => s.size ≤ maxLen) x.Text ∧ (fun l : List JournalLine => l.length ≤ maxLen ∧ ∀ x ∈ l, JournalLine.ok x) x.Lines ∧ True
def Journal.ok (x : Journal) : Prop := (fun l : List JournalRecord => l.length ≤ maxLen ∧ ∀ x ∈ l, JournalRecord.ok x) x.Records ∧ True
def Account_.ok (x : Account_) : Prop := (fun s : ByteArray => s.size ≤ maxLen) x.name ∧ (fun s : ByteArray => s.size ≤ maxLen) x.ccy ∧ True
def Reader_.ok (x : Reader_) : Prop := (fun l : List Int => l.length ≤ maxLen ∧ ∀ x ∈ l, (okInt .u8) x) x.b ∧ True
end Go.Proofs.Ytbgjlpdeoljmiaa
