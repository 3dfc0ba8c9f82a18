/- The types of the values, plainly. No condition. -/
import Derived.Test.YtbgjlpdeoljmiaaTy
import Derived.Test.YtbgjlpdeoljmiaaTO
namespace Go.Proofs.Ytbgjlpdeoljmiaa
set_option linter.unusedVariables false
set_option linter.unusedSimpArgs false
set_option maxRecDepth 100000
open Go.RowKit
def str_x78 : ByteArray := ⟨#[120]⟩
def str_b : ByteArray := ⟨#[98]⟩
def str_EUR : ByteArray := ⟨#[69, 85, 82]⟩
def str_a : ByteArray := ⟨#[97]⟩
def str_x : ByteArray := ⟨#[]⟩
structure JournalLine where
  Account : ByteArray
  Ccy : ByteArray
  Amount : Int
def JournalLine.cells (x : JournalLine) : List PV := [.str x.Account, .str x.Ccy, .int .i64 x.Amount]
structure Entry where
  After : Int
  Text : ByteArray
  Lines : List JournalLine
def Entry.cells (x : Entry) : List PV := [.int .i64 x.After, .str x.Text, .sl .any 3 (x.Lines.map JournalLine.cells)]
structure JournalRecord where
  Day : Int
  Text : ByteArray
  Lines : List JournalLine
def JournalRecord.cells (x : JournalRecord) : List PV := [.int .i64 x.Day, .str x.Text, .sl .any 3 (x.Lines.map JournalLine.cells)]
structure Journal where
  Records : List JournalRecord
def Journal.cells (x : Journal) : List PV := [.sl .any 3 (x.Records.map JournalRecord.cells)]
structure Account_ where
  name : ByteArray
  ccy : ByteArray
def Account_.cells (x : Account_) : List PV := [.str x.name, .str x.ccy]
structure Reader_ where
  b : List Int
def Reader_.cells (x : Reader_) : List PV := [.sl .any 1 (x.b.map (cInt .u8))]
def Account_.eqb (x y : Account_) : Bool := seq x.name y.name && seq x.ccy y.ccy
theorem Account_.eqb_ok (x y : Account_) : eqV cfg.ty 95 (.agg (Account_.cells x)) (.agg (Account_.cells y)) = some (Account_.eqb x y) := by
  unfold Account_.eqb
  have e : eqV cfg.ty 95 (.agg (Account_.cells x)) (.agg (Account_.cells y)) = (match some (decide (x.name.data.toList = y.name.data.toList)) with | some true => (match some (decide (x.ccy.data.toList = y.ccy.data.toList)) with | some true => (some true) | some false => some false | none => none) | some false => some false | none => none) := by kernel_rfl
  rw [e]
  simp only [seq]
  cases decide (x.name.data.toList = y.name.data.toList) <;> cases decide (x.ccy.data.toList = y.ccy.data.toList) <;> rfl
def JournalLine.eqb (x y : JournalLine) : Bool := seq x.Account y.Account && seq x.Ccy y.Ccy && decide (x.Amount = y.Amount)
theorem JournalLine.eqb_ok (x y : JournalLine) : eqV cfg.ty 49 (.agg (JournalLine.cells x)) (.agg (JournalLine.cells y)) = some (JournalLine.eqb x y) := by
  unfold JournalLine.eqb
  have e : eqV cfg.ty 49 (.agg (JournalLine.cells x)) (.agg (JournalLine.cells y)) = (match some (decide (x.Account.data.toList = y.Account.data.toList)) with | some true => (match some (decide (x.Ccy.data.toList = y.Ccy.data.toList)) with | some true => (match some (decide (x.Amount = y.Amount)) with | some true => (some true) | some false => some false | none => none) | some false => some false | none => none) | some false => some false | none => none) := by kernel_rfl
  rw [e]
  simp only [seq]
  cases decide (x.Account.data.toList = y.Account.data.toList) <;> cases decide (x.Ccy.data.toList = y.Ccy.data.toList) <;> cases decide (x.Amount = y.Amount) <;> rfl
theorem key_9 : KeyOK cfg 9 pStr seq := key_str (fun _ _ => by kernel_rfl) (fun _ => by kernel_rfl)
theorem Account_.eqb_eq {x y : Account_} (h : Account_.eqb x y = true) : x = y := by
  cases x; cases y
  simp only [Account_.eqb, Bool.and_eq_true, decide_eq_true_eq, beq_iff_eq] at h
  simp only [Account_.mk.injEq]
  refine ⟨?_, ?_⟩ <;> first | exact seq_eq' (by simp_all) | simp_all
theorem key_95 : KeyOK cfg 95 (pAgg Account_.cells) Account_.eqb := ⟨fun a b => Account_.eqb_ok a b, fun _ => by kernel_rfl, fun a b h => Account_.eqb_eq h, fun a => by simp [pAgg, Account_.cells, eqC, eqCL, eqC1, kindEq]⟩
def panV : List PanicEntry := [{ v := .iface 103 (.agg #[]), recovered := false }]
def ti49 : TI := ⟨.struct [(9, 0), (9, 1), (3, 2)], 3, 40, [.str ByteArray.empty, .str ByteArray.empty, .int .i64 0]⟩
def ti47 : TI := ⟨.struct [(3, 0), (9, 1), (45, 2)], 3, 48, [.int .i64 0, .str ByteArray.empty, .sl .nil 0 []]⟩
def ti5 : TI := ⟨.int .u8, 1, 1, [.int .u8 0]⟩
def ti3 : TI := ⟨.int .i64, 1, 8, [.int .i64 0]⟩
def ti9 : TI := ⟨.str, 1, 16, [.str ByteArray.empty]⟩
def ti45 : TI := ⟨.sl 49, 1, 24, [.sl .nil 0 []]⟩
def ti91 : TI := ⟨.struct [(3, 0), (9, 1), (45, 2)], 3, 48, [.int .i64 0, .str ByteArray.empty, .sl .nil 0 []]⟩
def ti42 : TI := ⟨.sl 91, 1, 24, [.sl .nil 0 []]⟩
def JournalLine.ok (x : JournalLine) : Prop := (fun s : ByteArray => s.size ≤ maxLen) x.Account ∧ (fun s : ByteArray => s.size ≤ maxLen) x.Ccy ∧ (okInt .i64) x.Amount ∧ True
def Entry.ok (x : Entry) : Prop := (okInt .i64) x.After ∧ (fun s : ByteArray => s.size ≤ maxLen) x.Text ∧ (fun l : List JournalLine => l.length ≤ maxLen ∧ ∀ x ∈ l, JournalLine.ok x) x.Lines ∧ True
def JournalRecord.ok (x : JournalRecord) : Prop := (okInt .i64) x.Day ∧ (fun s : ByteArray => s.size ≤ maxLen) x.Text ∧ (fun l : List JournalLine => l.length ≤ maxLen ∧ ∀ x ∈ l, JournalLine.ok x) x.Lines ∧ True
def Journal.ok (x : Journal) : Prop := (fun l : List JournalRecord => l.length ≤ maxLen ∧ ∀ x ∈ l, JournalRecord.ok x) x.Records ∧ True
def Account_.ok (x : Account_) : Prop := (fun s : ByteArray => s.size ≤ maxLen) x.name ∧ (fun s : ByteArray => s.size ≤ maxLen) x.ccy ∧ True
def Reader_.ok (x : Reader_) : Prop := (fun l : List Int => l.length ≤ maxLen ∧ ∀ x ∈ l, (okInt .u8) x) x.b ∧ True
theorem of_3 {d : Nat} {ps : List PV} (h : WT cfg.ty (d + 1) 3 ps) : ∃ x : Int, ps = (cInt .i64) x ∧ (okInt .i64) x := by
  obtain ⟨n, rfl, k⟩ := wt_int (ti := ti3) (by kernel_rfl) rfl h
  exact ⟨n, rfl, k⟩
theorem of_9 {d : Nat} {ps : List PV} (h : WT cfg.ty (d + 1) 9 ps) : ∃ x : ByteArray, ps = cStr x ∧ (fun s : ByteArray => s.size ≤ maxLen) x := by
  obtain ⟨n, rfl, k⟩ := wt_str (ti := ti9) (by kernel_rfl) rfl h
  exact ⟨n, rfl, k⟩
theorem of_49 {d : Nat} {ps : List PV} (h : WT cfg.ty (d + 2) 49 ps) : ∃ x : JournalLine, ps = JournalLine.cells x ∧ JournalLine.ok x := by
  have g := wt_struct (ti := ti49) (by kernel_rfl) rfl h
  clear h
  obtain ⟨_, _, _, rfl, _, _, h0, g0⟩ := g
  obtain ⟨x0, rfl, k0⟩ := of_9 h0
  obtain ⟨_, _, _, rfl, _, _, h1, g1⟩ := g0
  obtain ⟨x1, rfl, k1⟩ := of_9 h1
  obtain ⟨_, _, _, rfl, _, _, h2, g2⟩ := g1
  obtain ⟨x2, rfl, k2⟩ := of_3 h2
  have e : _ = [] := g2
  subst e
  exact ⟨⟨x0, x1, x2⟩, rfl, k0, k1, k2, trivial⟩
theorem of_45 {d : Nat} {ps : List PV} (h : WT cfg.ty (d + 3) 45 ps) : ∃ x : List JournalLine, ps = (cLst 3 JournalLine.cells) x ∧ (fun l : List JournalLine => l.length ≤ maxLen ∧ ∀ x ∈ l, JournalLine.ok x) x := by
  obtain ⟨te, es, e1, rfl, hl, hh⟩ := wt_sl (ti := ti45) (by kernel_rfl) rfl h
  obtain rfl : te = ti49 := some_inj (e1.symm.trans (by kernel_rfl : cfg.ty 49 = some ti49))
  obtain ⟨xs, rfl, hx⟩ := list_of (c := JournalLine.cells) (ok := JournalLine.ok) (fun ps h => of_49 h) es (fun c hc => (hh c hc).2)
  exact ⟨xs, rfl, by simpa using hl, hx⟩
theorem of_91 {d : Nat} {ps : List PV} (h : WT cfg.ty (d + 4) 91 ps) : ∃ x : Entry, ps = Entry.cells x ∧ Entry.ok x := by
  have g := wt_struct (ti := ti91) (by kernel_rfl) rfl h
  clear h
  obtain ⟨_, _, _, rfl, _, _, h0, g0⟩ := g
  obtain ⟨x0, rfl, k0⟩ := of_3 h0
  obtain ⟨_, _, _, rfl, _, _, h1, g1⟩ := g0
  obtain ⟨x1, rfl, k1⟩ := of_9 h1
  obtain ⟨_, _, _, rfl, _, _, h2, g2⟩ := g1
  obtain ⟨x2, rfl, k2⟩ := of_45 h2
  have e : _ = [] := g2
  subst e
  exact ⟨⟨x0, x1, x2⟩, rfl, k0, k1, k2, trivial⟩
theorem of_42 {d : Nat} {ps : List PV} (h : WT cfg.ty (d + 5) 42 ps) : ∃ x : List Entry, ps = (cLst 3 Entry.cells) x ∧ (fun l : List Entry => l.length ≤ maxLen ∧ ∀ x ∈ l, Entry.ok x) x := by
  obtain ⟨te, es, e1, rfl, hl, hh⟩ := wt_sl (ti := ti42) (by kernel_rfl) rfl h
  obtain rfl : te = ti91 := some_inj (e1.symm.trans (by kernel_rfl : cfg.ty 91 = some ti91))
  obtain ⟨xs, rfl, hx⟩ := list_of (c := Entry.cells) (ok := Entry.ok) (fun ps h => of_91 h) es (fun c hc => (hh c hc).2)
  exact ⟨xs, rfl, by simpa using hl, hx⟩
theorem arg_42 {p : PV} (h : WV cfg.ty 5 42 p) : ∃ x : List Entry, p = (.sl .any 3 (x.map Entry.cells)) ∧ (fun l : List Entry => l.length ≤ maxLen ∧ ∀ x ∈ l, Entry.ok x) x := by
  obtain ⟨_, g⟩ := wv_one (ti := ti42) (by kernel_rfl) rfl h
  obtain ⟨x, e, k⟩ := of_42 (d := 0) g
  exact ⟨x, (List.cons.inj e).1, k⟩
theorem arg_3 {p : PV} (h : WV cfg.ty 1 3 p) : ∃ x : Int, p = (.int .i64 x) ∧ (okInt .i64) x := by
  obtain ⟨_, g⟩ := wv_one (ti := ti3) (by kernel_rfl) rfl h
  obtain ⟨x, e, k⟩ := of_3 (d := 0) g
  exact ⟨x, (List.cons.inj e).1, k⟩
theorem of_5 {d : Nat} {ps : List PV} (h : WT cfg.ty (d + 1) 5 ps) : ∃ x : Int, ps = (cInt .u8) x ∧ (okInt .u8) x := by
  obtain ⟨n, rfl, k⟩ := wt_int (ti := ti5) (by kernel_rfl) rfl h
  exact ⟨n, rfl, k⟩
theorem arg_5 {p : PV} (h : WV cfg.ty 1 5 p) : ∃ x : Int, p = (.int .u8 x) ∧ (okInt .u8) x := by
  obtain ⟨_, g⟩ := wv_one (ti := ti5) (by kernel_rfl) rfl h
  obtain ⟨x, e, k⟩ := of_5 (d := 0) g
  exact ⟨x, (List.cons.inj e).1, k⟩
end Go.Proofs.Ytbgjlpdeoljmiaa
