/- Several texts in one. No condition. -/
import Derived.Test.YtkcafackfihmiaaProg
import Derived.Test.YtkcafackfihmiaaTU
import Derived.Test.YtkcafackfihmiaaTyM
import Derived.Test.YtkcafackfihmiaaTV
namespace Go.Proofs.Ytkcafackfihmiaa
open Go.Shelf
def so_ren : Go.Shelf.Ren := ⟨fun | 6 => 38 | 14 => 60 | 15 => 61 | 20 => 71 | 21 => 72 | 22 => 73 | 23 => 74 | 24 => 75 | 25 => 76 | 26 => 77 | 27 => 78 | 28 => 79 | 29 => 80 | 46 => 83 | 47 => 84 | 48 => 85 | 49 => 86 | 50 => 87 | 57 => 89 | n => n, fun | 22 => 67 | 24 => 71 | 25 => 76 | 39 => 98 | 45 => 109 | 46 => 110 | 50 => 102 | 53 => 116 | 55 => 118 | 66 => 121 | 70 => 125 | 76 => 127 | 77 => 54 | n => n, fun n => n⟩
theorem so_lays : SlLaysF0.n6 Try.prog so_ren := {
  mixed := by kernel_rfl,
  f6 := ⟨Try.f38.name, by kernel_rfl, Try.func38.trans (congrArg some (by kernel_rfl))⟩,
  f14 := ⟨Try.f60.name, by kernel_rfl, Try.func60.trans (congrArg some (by kernel_rfl))⟩,
  f15 := Try.func61.trans (congrArg some (by kernel_rfl)),
  f20 := ⟨Try.f71.name, by kernel_rfl, Try.func71.trans (congrArg some (by kernel_rfl))⟩,
  f21 := ⟨Try.f72.name, by kernel_rfl, Try.func72.trans (congrArg some (by kernel_rfl))⟩,
  f22 := ⟨Try.f73.name, by kernel_rfl, Try.func73.trans (congrArg some (by kernel_rfl))⟩,
  f23 := ⟨Try.f74.name, by kernel_rfl, Try.func74.trans (congrArg some (by kernel_rfl))⟩,
  f24 := ⟨Try.f75.name, by kernel_rfl, Try.func75.trans (congrArg some (by kernel_rfl))⟩,
  f25 := ⟨Try.f76.name, by kernel_rfl, Try.func76.trans (congrArg some (by kernel_rfl))⟩,
  f26 := ⟨Try.f77.name, by kernel_rfl, Try.func77.trans (congrArg some (by kernel_rfl))⟩,
  f27 := ⟨Try.f78.name, by kernel_rfl, Try.func78.trans (congrArg some (by kernel_rfl))⟩,
  f28 := Try.func79.trans (congrArg some (by kernel_rfl)),
  f29 := Try.func80.trans (congrArg some (by kernel_rfl)),
  f46 := ⟨Try.f83.name, by kernel_rfl, Try.func83.trans (congrArg some (by kernel_rfl))⟩,
  f47 := Try.func84.trans (congrArg some (by kernel_rfl)),
  f48 := Try.func85.trans (congrArg some (by kernel_rfl)),
  f49 := ⟨Try.f86.name, by kernel_rfl, Try.func86.trans (congrArg some (by kernel_rfl))⟩,
  f50 := ⟨Try.f87.name, by kernel_rfl, Try.func87.trans (congrArg some (by kernel_rfl))⟩,
  f57 := ⟨Try.f89.name, by kernel_rfl, Try.func89.trans (congrArg some (by kernel_rfl))⟩,
  t0 := Try.underlying0,
  a0 := Try.isAgg0,
  z0 := Try.sizeOf0,
  v0 := Try.zeroValue0,
  t3 := Try.underlying3,
  a3 := Try.isAgg3,
  z3 := Try.sizeOf3,
  v3 := Try.zeroValue3,
  t4 := Try.underlying4,
  a4 := Try.isAgg4,
  z4 := Try.sizeOf4,
  v4 := Try.zeroValue4,
  t5 := Try.underlying5,
  a5 := Try.isAgg5,
  z5 := Try.sizeOf5,
  v5 := Try.zeroValue5,
  t9 := Try.underlying9,
  a9 := Try.isAgg9,
  z9 := Try.sizeOf9,
  v9 := Try.zeroValue9,
  t22 := Try.underlying67,
  a22 := Try.isAgg67,
  z22 := Try.sizeOf67,
  v22 := Try.zeroValue67,
  t25 := Try.underlying76,
  a25 := Try.isAgg76,
  z25 := Try.sizeOf76,
  v25 := Try.zeroValue76,
  t39 := Try.underlying98,
  a39 := Try.isAgg98,
  z39 := Try.sizeOf98,
  v39 := Try.zeroValue98,
  t45 := Try.underlying109,
  a45 := Try.isAgg109,
  z45 := Try.sizeOf109,
  v45 := Try.zeroValue109,
  t46 := Try.underlying110,
  a46 := Try.isAgg110,
  z46 := Try.sizeOf110,
  v46 := Try.zeroValue110,
  t50 := Try.underlying102,
  a50 := Try.isAgg102,
  z50 := Try.sizeOf102,
  v50 := Try.zeroValue102,
  t53 := Try.underlying116,
  a53 := Try.isAgg116,
  z53 := Try.sizeOf116,
  v53 := Try.zeroValue116,
  t55 := Try.underlying118,
  a55 := Try.isAgg118,
  z55 := Try.sizeOf118,
  v55 := Try.zeroValue118,
  t66 := Try.underlying121,
  a66 := Try.isAgg121,
  z66 := Try.sizeOf121,
  v66 := Try.zeroValue121,
  t70 := Try.underlying125,
  a70 := Try.isAgg125,
  z70 := Try.sizeOf125,
  v70 := Try.zeroValue125,
  t76 := Try.underlying127,
  a76 := Try.isAgg127,
  z76 := Try.sizeOf127,
  v76 := Try.zeroValue127,
  t77 := Try.underlying54,
  a77 := Try.isAgg54,
  z77 := Try.sizeOf54,
  v77 := Try.zeroValue54 }
theorem so_agg : ∀ w, (isAgg (so_ren.t 24)).run Try.prog w = .ok true w := Try.isAgg71
theorem so_size : ∀ w, (Go.sizeOf (so_ren.t 24)).run Try.prog w = .ok 7 w := Try.sizeOf71
end Go.Proofs.Ytkcafackfihmiaa
namespace Go.Proofs.Ytkcafackfihmiaa
set_option linter.unusedVariables false
set_option linter.unusedSimpArgs false
set_option maxRecDepth 100000
open Go.RowKit
structure NettingFlow where
  Date : Int
  Set : ByteArray
  Ccy : ByteArray
  From : ByteArray
  To : ByteArray
  Amount : Int
def NettingFlow.cells (x : NettingFlow) : List PV := [.int .i64 x.Date, .str x.Set, .str x.Ccy, .str x.From, .str x.To, .int .i64 x.Amount]
theorem NettingFlow.cells_eq (x y : NettingFlow) : (NettingFlow.cells x = NettingFlow.cells y) = (x = y) := propext ⟨fun h => by
  cases x; cases y
  simp_all [NettingFlow.cells], fun h => by rw [h]⟩
theorem NettingFlow.map_eq (x y : List NettingFlow) : (x.map NettingFlow.cells = y.map NettingFlow.cells) = (x = y) := map_eq_of fun a b h => by rwa [NettingFlow.cells_eq] at h
structure NettingSet where
  Name : ByteArray
  First : ByteArray
  Second : ByteArray
def NettingSet.cells (x : NettingSet) : List PV := [.str x.Name, .str x.First, .str x.Second]
theorem NettingSet.cells_eq (x y : NettingSet) : (NettingSet.cells x = NettingSet.cells y) = (x = y) := propext ⟨fun h => by
  cases x; cases y
  simp_all [NettingSet.cells], fun h => by rw [h]⟩
theorem NettingSet.map_eq (x y : List NettingSet) : (x.map NettingSet.cells = y.map NettingSet.cells) = (x = y) := map_eq_of fun a b h => by rwa [NettingSet.cells_eq] at h
structure Key_ where
  date : Int
  set : ByteArray
  ccy : ByteArray
def Key_.cells (x : Key_) : List PV := [.int .i64 x.date, .str x.set, .str x.ccy]
theorem Key_.cells_eq (x y : Key_) : (Key_.cells x = Key_.cells y) = (x = y) := propext ⟨fun h => by
  cases x; cases y
  simp_all [Key_.cells], fun h => by rw [h]⟩
theorem Key_.map_eq (x y : List Key_) : (x.map Key_.cells = y.map Key_.cells) = (x = y) := map_eq_of fun a b h => by rwa [Key_.cells_eq] at h
structure Share_ where
  party : ByteArray
  flow : NettingFlow
def Share_.cells (x : Share_) : List PV := [.str x.party, .int .i64 x.flow.Date, .str x.flow.Set, .str x.flow.Ccy, .str x.flow.From, .str x.flow.To, .int .i64 x.flow.Amount]
structure Row_ where
  date : Int
  ccy : ByteArray
  party : ByteArray
def Row_.cells (x : Row_) : List PV := [.int .i64 x.date, .str x.ccy, .str x.party]
theorem Row_.cells_eq (x y : Row_) : (Row_.cells x = Row_.cells y) = (x = y) := propext ⟨fun h => by
  cases x; cases y
  simp_all [Row_.cells], fun h => by rw [h]⟩
theorem Row_.map_eq (x y : List Row_) : (x.map Row_.cells = y.map Row_.cells) = (x = y) := map_eq_of fun a b h => by rwa [Row_.cells_eq] at h
def Key_.eqb (x y : Key_) : Bool := decide (x.date = y.date) && seq x.set y.set && seq x.ccy y.ccy
theorem Key_.eqb_ok (x y : Key_) : eqV cfg.ty 62 (.agg (Key_.cells x)) (.agg (Key_.cells y)) = some (Key_.eqb x y) := by
  unfold Key_.eqb
  have e : eqV cfg.ty 62 (.agg (Key_.cells x)) (.agg (Key_.cells y)) = (match some (decide (x.date = y.date)) with | some true => (match some (decide (x.set.data.toList = y.set.data.toList)) with | some true => (match some (decide (x.ccy.data.toList = y.ccy.data.toList)) with | some true => (some true) | some false => some false | none => none) | some false => some false | none => none) | some false => some false | none => none) := by kernel_rfl
  rw [e]
  try simp only [seq]
  cases decide (x.date = y.date) <;> cases decide (x.set.data.toList = y.set.data.toList) <;> cases decide (x.ccy.data.toList = y.ccy.data.toList) <;> rfl
def Row_.eqb (x y : Row_) : Bool := decide (x.date = y.date) && seq x.ccy y.ccy && seq x.party y.party
theorem Row_.eqb_ok (x y : Row_) : eqV cfg.ty 87 (.agg (Row_.cells x)) (.agg (Row_.cells y)) = some (Row_.eqb x y) := by
  unfold Row_.eqb
  have e : eqV cfg.ty 87 (.agg (Row_.cells x)) (.agg (Row_.cells y)) = (match some (decide (x.date = y.date)) with | some true => (match some (decide (x.ccy.data.toList = y.ccy.data.toList)) with | some true => (match some (decide (x.party.data.toList = y.party.data.toList)) with | some true => (some true) | some false => some false | none => none) | some false => some false | none => none) | some false => some false | none => none) := by kernel_rfl
  rw [e]
  try simp only [seq]
  cases decide (x.date = y.date) <;> cases decide (x.ccy.data.toList = y.ccy.data.toList) <;> cases decide (x.party.data.toList = y.party.data.toList) <;> rfl
def NettingFlow.eqb (x y : NettingFlow) : Bool := decide (x.Date = y.Date) && seq x.Set y.Set && seq x.Ccy y.Ccy && seq x.From y.From && seq x.To y.To && decide (x.Amount = y.Amount)
theorem NettingFlow.eqb_ok (x y : NettingFlow) : eqV cfg.ty 32 (.agg (NettingFlow.cells x)) (.agg (NettingFlow.cells y)) = some (NettingFlow.eqb x y) := by
  unfold NettingFlow.eqb
  have e : eqV cfg.ty 32 (.agg (NettingFlow.cells x)) (.agg (NettingFlow.cells y)) = (match some (decide (x.Date = y.Date)) with | some true => (match some (decide (x.Set.data.toList = y.Set.data.toList)) with | some true => (match some (decide (x.Ccy.data.toList = y.Ccy.data.toList)) with | some true => (match some (decide (x.From.data.toList = y.From.data.toList)) with | some true => (match some (decide (x.To.data.toList = y.To.data.toList)) with | some true => (match some (decide (x.Amount = y.Amount)) with | some true => (some true) | some false => some false | none => none) | some false => some false | none => none) | some false => some false | none => none) | some false => some false | none => none) | some false => some false | none => none) | some false => some false | none => none) := by kernel_rfl
  rw [e]
  try simp only [seq]
  cases decide (x.Date = y.Date) <;> cases decide (x.Set.data.toList = y.Set.data.toList) <;> cases decide (x.Ccy.data.toList = y.Ccy.data.toList) <;> cases decide (x.From.data.toList = y.From.data.toList) <;> cases decide (x.To.data.toList = y.To.data.toList) <;> cases decide (x.Amount = y.Amount) <;> rfl
def NettingSet.eqb (x y : NettingSet) : Bool := seq x.Name y.Name && seq x.First y.First && seq x.Second y.Second
theorem Key_.eqb_eq {x y : Key_} (h : Key_.eqb x y = true) : x = y := by
  cases x; cases y
  simp only [Key_.eqb, Bool.and_eq_true, decide_eq_true_eq, beq_iff_eq] at h
  simp only [Key_.mk.injEq]
  refine ⟨?_, ?_, ?_⟩ <;> first | exact seq_eq' (by simp_all) | simp_all
theorem key_62 : KeyOK cfg 62 (pAgg Key_.cells) Key_.eqb := ⟨fun a b => Key_.eqb_ok a b, fun _ => by kernel_rfl, fun a b h => Key_.eqb_eq h, fun a => by simp [pAgg, Key_.cells, eqC, eqCL, eqC1, kindEq]⟩
def str_x : ByteArray := ⟨#[]⟩
def ti32 : TI := ⟨.struct [(3, 0), (9, 1), (9, 2), (9, 3), (9, 4), (3, 5)], 6, 80, [.int .i64 0, .str ByteArray.empty, .str ByteArray.empty, .str ByteArray.empty, .str ByteArray.empty, .int .i64 0]⟩
def ti71 : TI := ⟨.struct [(9, 0), (32, 1)], 7, 96, [.str ByteArray.empty, .int .i64 0, .str ByteArray.empty, .str ByteArray.empty, .str ByteArray.empty, .str ByteArray.empty, .int .i64 0]⟩
def ti87 : TI := ⟨.struct [(3, 0), (9, 1), (9, 2)], 3, 40, [.int .i64 0, .str ByteArray.empty, .str ByteArray.empty]⟩
def ti3 : TI := ⟨.int .i64, 1, 8, [.int .i64 0]⟩
def ti9 : TI := ⟨.str, 1, 16, [.str ByteArray.empty]⟩
def ti23 : TI := ⟨.sl 32, 1, 24, [.sl .nil 0 []]⟩
def NettingFlow.ok (x : NettingFlow) : Prop := (okInt .i64) x.Date ∧ (fun s : ByteArray => s.size ≤ maxLen) x.Set ∧ (fun s : ByteArray => s.size ≤ maxLen) x.Ccy ∧ (fun s : ByteArray => s.size ≤ maxLen) x.From ∧ (fun s : ByteArray => s.size ≤ maxLen) x.To ∧ (okInt .i64) x.Amount ∧ True
def NettingSet.ok (x : NettingSet) : Prop := (fun s : ByteArray => s.size ≤ maxLen) x.Name ∧ (fun s : ByteArray => s.size ≤ maxLen) x.First ∧ (fun s : ByteArray => s.size ≤ maxLen) x.Second ∧ True
def Key_.ok (x : Key_) : Prop := (okInt .i64) x.date ∧ (fun s : ByteArray => s.size ≤ maxLen) x.set ∧ (fun s : ByteArray => s.size ≤ maxLen) x.ccy ∧ True
def Share_.ok (x : Share_) : Prop := (fun s : ByteArray => s.size ≤ maxLen) x.party ∧ NettingFlow.ok x.flow ∧ True
def Row_.ok (x : Row_) : Prop := (okInt .i64) x.date ∧ (fun s : ByteArray => s.size ≤ maxLen) x.ccy ∧ (fun s : ByteArray => s.size ≤ maxLen) x.party ∧ True
theorem of_3 {d : Nat} {ps : List PV} (h : WT cfg.ty (d + 1) 3 ps) : ∃ x : Int, ps = (cInt .i64) x ∧ (okInt .i64) x := by
  obtain ⟨n, rfl, k⟩ := wt_int (ti := ti3) (by kernel_rfl) rfl h
  exact ⟨n, rfl, k⟩
theorem of_9 {d : Nat} {ps : List PV} (h : WT cfg.ty (d + 1) 9 ps) : ∃ x : ByteArray, ps = cStr x ∧ (fun s : ByteArray => s.size ≤ maxLen) x := by
  obtain ⟨n, rfl, k⟩ := wt_str (ti := ti9) (by kernel_rfl) rfl h
  exact ⟨n, rfl, k⟩
theorem of_32 {d : Nat} {ps : List PV} (h : WT cfg.ty (d + 2) 32 ps) : ∃ x : NettingFlow, ps = NettingFlow.cells x ∧ NettingFlow.ok x := by
  have g := wt_struct (ti := ti32) (by kernel_rfl) rfl h
  clear h
  obtain ⟨_, _, _, rfl, _, _, h0, g0⟩ := g
  obtain ⟨x0, rfl, k0⟩ := of_3 h0
  obtain ⟨_, _, _, rfl, _, _, h1, g1⟩ := g0
  obtain ⟨x1, rfl, k1⟩ := of_9 h1
  obtain ⟨_, _, _, rfl, _, _, h2, g2⟩ := g1
  obtain ⟨x2, rfl, k2⟩ := of_9 h2
  obtain ⟨_, _, _, rfl, _, _, h3, g3⟩ := g2
  obtain ⟨x3, rfl, k3⟩ := of_9 h3
  obtain ⟨_, _, _, rfl, _, _, h4, g4⟩ := g3
  obtain ⟨x4, rfl, k4⟩ := of_9 h4
  obtain ⟨_, _, _, rfl, _, _, h5, g5⟩ := g4
  obtain ⟨x5, rfl, k5⟩ := of_3 h5
  have e : _ = [] := g5
  subst e
  exact ⟨⟨x0, x1, x2, x3, x4, x5⟩, rfl, k0, k1, k2, k3, k4, k5, trivial⟩
theorem of_23 {d : Nat} {ps : List PV} (h : WT cfg.ty (d + 3) 23 ps) : ∃ x : List NettingFlow, ps = (cLst 6 NettingFlow.cells) x ∧ (fun l : List NettingFlow => l.length ≤ maxLen ∧ ∀ x ∈ l, NettingFlow.ok x) x := by
  obtain ⟨te, es, e1, rfl, hl, hh⟩ := wt_sl (ti := ti23) (by kernel_rfl) rfl h
  obtain rfl : te = ti32 := some_inj (e1.symm.trans (by kernel_rfl : cfg.ty 32 = some ti32))
  obtain ⟨xs, rfl, hx⟩ := list_of (c := NettingFlow.cells) (ok := NettingFlow.ok) (fun ps h => of_32 h) es (fun c hc => (hh c hc).2)
  exact ⟨xs, rfl, by simpa using hl, hx⟩
theorem arg_23 {p : PV} (h : WV cfg.ty 3 23 p) : ∃ x : List NettingFlow, p = (.sl .any 6 (x.map NettingFlow.cells)) ∧ (fun l : List NettingFlow => l.length ≤ maxLen ∧ ∀ x ∈ l, NettingFlow.ok x) x := by
  obtain ⟨_, g⟩ := wv_one (ti := ti23) (by kernel_rfl) rfl h
  obtain ⟨x, e, k⟩ := of_23 (d := 0) g
  exact ⟨x, (List.cons.inj e).1, k⟩
theorem arg_9 {p : PV} (h : WV cfg.ty 1 9 p) : ∃ x : ByteArray, p = (.str x) ∧ (fun s : ByteArray => s.size ≤ maxLen) x := by
  obtain ⟨_, g⟩ := wv_one (ti := ti9) (by kernel_rfl) rfl h
  obtain ⟨x, e, k⟩ := of_9 (d := 0) g
  exact ⟨x, (List.cons.inj e).1, k⟩
theorem arg_3 {p : PV} (h : WV cfg.ty 1 3 p) : ∃ x : Int, p = (.int .i64 x) ∧ (okInt .i64) x := by
  obtain ⟨_, g⟩ := wv_one (ti := ti3) (by kernel_rfl) rfl h
  obtain ⟨x, e, k⟩ := of_3 (d := 0) g
  exact ⟨x, (List.cons.inj e).1, k⟩
end Go.Proofs.Ytkcafackfihmiaa
namespace Go.Proofs.Ytkcafackfihmiaa
set_option linter.unusedVariables false
set_option linter.unusedSimpArgs false
set_option maxRecDepth 100000
open Go.RowKit
def f11 : Option Bool := some true
theorem f11_ok {r : Bool} (h : f11 = some r) : CallS Try.prog false 11 [] [] (jB r) [] := by
  obtain rfl := some_inj h
  exact CallS.eval cfg_ok (N := 500) (by kernel_rfl)

noncomputable def c12 : Code := Try.f12.body.getD .skip
inductive f12n0O where
  | ret (v5 : Bool)
def f12n0E (a1 : List NettingSet) (a2 : List NettingFlow) : f12n0O → Ex × Tr × Hp
  | .ret v5 => (.ret, mkS [(4, (jB v5))], [])
def f12n0S (a1 : List NettingSet) (a2 : List NettingFlow) : Tr × Hp := (initS [(jL 3 NettingSet.cells a1), (jL 6 NettingFlow.cells a2)] 0 .leaf, [])
noncomputable def f12n0 (a1 : List NettingSet) (a2 : List NettingFlow) : Option f12n0O :=
  bif (decide (80 < (a1.length : Int))) then
    some (.ret true)
  else
    some (.ret (decide (520 < (a2.length : Int))))
theorem f12n0_ok (a1 : List NettingSet) (a2 : List NettingFlow) {o : f12n0O} (h : (f12n0 a1 a2) = some o) : T Try.prog Try.f12.ntmps 0 c12 (f12n0S a1 a2) (fun r => r = f12n0E a1 a2 o) := by
  unfold f12n0 at h
  rcases cond_cases h with ⟨h4, h⟩ | ⟨h4, h⟩
  · obtain rfl := some_inj h
    exact rE cfg_ok [j3, (jT [4, 5, 6], [(7, .bool true)], [(1, .val (jI (a1.length : Int)))])] [] [] [] [4] (.ret, (f12n0E a1 a2 (.ret true)).2) (ap (len_cv (xs := a1) (c := NettingSet.cells)) (ap4 h4 an)) rfl
  · obtain rfl := some_inj h
    exact rE cfg_ok [j3, (jF [4, 5, 6], [(7, .bool false)], [(1, .val (jI (a1.length : Int))), (5, .val (jI (a2.length : Int)))])] [] [] [] [4] (.ret, (f12n0E a1 a2 (.ret (decide (520 < (a2.length : Int))))).2) (ap (len_cv (xs := a1) (c := NettingSet.cells)) (ap2 h4 (ap (len_cv (xs := a2) (c := NettingFlow.cells)) (ap2 h4 an)))) rfl
noncomputable def f12 (a1 : List NettingSet) (a2 : List NettingFlow) : Option Bool := (f12n0 a1 a2).bind fun o => match o with
  | .ret v5 => some v5
theorem f12_ok (a1 : List NettingSet) (a2 : List NettingFlow) {r : Bool} (h : (f12 a1 a2) = some r) : CallS Try.prog false 12 [(jL 3 NettingSet.cells a1), (jL 6 NettingFlow.cells a2)] [] (jB r) [] := by
  unfold f12 at h
  obtain ⟨o, ho, h⟩ := bind_cases h
  cases o with
  | ret v5 =>
    obtain rfl := some_inj h
    exact CallS.plain cfg_ok (f := Try.f12) (c := c12) (by kernel_rfl) (by kernel_rfl) (by kernel_rfl) (by kernel_rfl) ((f12n0_ok a1 a2 ho).mono fun r e => by subst e; exact ⟨.inl rfl, (jB v5), (jB v5), by kernel_rfl, by kernel_rfl, ((Wk.refl _) : Wk (jB v5) (jB v5))⟩)

noncomputable def c14 : Code := Try.f14.body.getD .skip
inductive f14r1n0O where
  | ret (v6 : List NettingFlow)
def f14r1n0E (a1 : List NettingFlow) : f14r1n0O → Ex × Tr × Hp
  | .ret v6 => (.ret, mkS [(2, (.own 0))], [jR 6 NettingFlow.cells v6])
def f14r1n0S (a1 : List NettingFlow) : Tr × Hp := (initS [(jL 6 NettingFlow.cells a1)] 0 .leaf, [])
noncomputable def f14r1n0 (a1 : List NettingFlow) : Option f14r1n0O :=
  bif (a1.isEmpty) then
    some (.ret [])
  else
    req (fit a1.length 80) <|
    some (.ret a1)
theorem f14r1n0_ok (a1 : List NettingFlow) {o : f14r1n0O} (h : (f14r1n0 a1) = some o) : T Try.prog Try.f14.ntmps 0 c14 (f14r1n0S a1) (fun r => r = f14r1n0E a1 o) := by
  unfold f14r1n0 at h
  rcases cond_cases h with ⟨h4, h⟩ | ⟨h4, h⟩
  · obtain rfl := some_inj h
    exact rE cfg_ok [j3, ([], [(2, .app false)], [])] [] [] [0] [2] (.ret, (f14r1n0E a1 (.ret [])).2) (ap (nil_map (c := NettingFlow.cells) h4) an) rfl
  · obtain ⟨h5, h⟩ := req_cases h
    obtain rfl := some_inj h
    exact rE cfg_ok [j3, ([], [(2, .app true)], [])] [] [] [1] [2] (.ret, (f14r1n0E a1 (.ret a1)).2) (ap (fit_map0z (te := ti32) (xs := a1) (c := NettingFlow.cells) h5 rfl) (ap (ne_map (c := NettingFlow.cells) h4) (ap (len_all (c := NettingFlow.cells) (xs := a1) (n := 6) (fun _ => rfl)) an))) rfl
noncomputable def f14r1 (a1 : List NettingFlow) : Option (List NettingFlow) := (f14r1n0 a1).bind fun o => match o with
  | .ret v6 => some v6
theorem f14r1_ok (a1 : List NettingFlow) {r : List NettingFlow} (h : (f14r1 a1) = some r) : CallS Try.prog true 14 [(jL 6 NettingFlow.cells a1)] [] (.own 0) [jR 6 NettingFlow.cells r] := by
  unfold f14r1 at h
  obtain ⟨o, ho, h⟩ := bind_cases h
  cases o with
  | ret v6 =>
    obtain rfl := some_inj h
    exact CallS.shared cfg_ok (f := Try.f14) (c := c14) (by kernel_rfl) (by kernel_rfl) (by kernel_rfl) ((f14r1n0_ok a1 ho).mono fun r e => by subst e; exact ⟨.inl rfl, by kernel_rfl, by kernel_rfl⟩)

noncomputable def c59 : Code := Try.f59.body.getD .skip
inductive f59n0O where
  | ret (v10 : Bool)
def f59n0E (a1 : Int) : f59n0O → Ex × Tr × Hp
  | .ret v10 => (.ret, mkS [(2, (jB v10))], [])
def f59n0S (a1 : Int) : Tr × Hp := (initS [(.pl (.int .u8 a1))] 0 .leaf, [])
noncomputable def f59n0 (a1 : Int) : Option f59n0O :=
  bif (decide (97 ≤ a1)) then
    bif (decide (a1 ≤ 122)) then
      some (.ret true)
    else
      bif (decide (65 ≤ a1)) then
        some (.ret (decide (a1 ≤ 90)))
      else
        some (.ret false)
  else
    bif (decide (65 ≤ a1)) then
      some (.ret (decide (a1 ≤ 90)))
    else
      some (.ret false)
theorem f59n0_ok (a1 : Int) {o : f59n0O} (h : (f59n0 a1) = some o) : T Try.prog Try.f59.ntmps 0 c59 (f59n0S a1) (fun r => r = f59n0E a1 o) := by
  unfold f59n0 at h
  rcases cond_cases h with ⟨h6, h⟩ | ⟨h6, h⟩
  · rcases cond_cases h with ⟨h7, h⟩ | ⟨h7, h⟩
    · obtain rfl := some_inj h
      exact rE cfg_ok [j3, (jT [3, 4, 7, 8, 9, 12], [(5, .bool true), (13, .bool true)], [])] [] [] [] [2] (.ret, (f59n0E a1 (.ret true)).2) (ap3 h6 (ap h7 (ap4 h7 an))) rfl
    · rcases cond_cases h with ⟨h8, h⟩ | ⟨h8, h⟩
      · obtain rfl := some_inj h
        exact rE cfg_ok [j3, (jF [7, 8, 9, 12] ++ jT [3, 4, 10, 11], [(5, .bool true), (12, .bool true), (13, .bool false)], [])] [] [] [] [2] (.ret, (f59n0E a1 (.ret (decide (a1 ≤ 90)))).2) (ap3 h6 (ap3 h7 (ap2 h8 (ap h7 (ap h8 (ap h7 an)))))) rfl
      · obtain rfl := some_inj h
        exact rE cfg_ok [j3, (jF [7, 8, 9, 10, 11, 12] ++ jT [3, 4], [(5, .bool true), (12, .bool false), (13, .bool false)], [])] [] [] [] [2] (.ret, (f59n0E a1 (.ret false)).2) (ap3 h6 (ap3 h7 (ap2 h8 (ap h7 (ap h8 (ap h7 an)))))) rfl
  · rcases cond_cases h with ⟨h9, h⟩ | ⟨h9, h⟩
    · obtain rfl := some_inj h
      exact rE cfg_ok [j3, (jF [3, 4] ++ jT [10, 11], [(5, .bool false), (12, .bool true)], [])] [] [] [] [2] (.ret, (f59n0E a1 (.ret (decide (a1 ≤ 90)))).2) (ap3 h6 (ap3 h9 an)) rfl
    · obtain rfl := some_inj h
      exact rE cfg_ok [j3, (jF [3, 4, 10, 11], [(5, .bool false), (12, .bool false)], [])] [] [] [] [2] (.ret, (f59n0E a1 (.ret false)).2) (ap3 h6 (ap3 h9 an)) rfl
noncomputable def f59 (a1 : Int) : Option Bool := (f59n0 a1).bind fun o => match o with
  | .ret v10 => some v10
theorem f59_ok (a1 : Int) {r : Bool} (h : (f59 a1) = some r) : CallS Try.prog false 59 [(.pl (.int .u8 a1))] [] (jB r) [] := by
  unfold f59 at h
  obtain ⟨o, ho, h⟩ := bind_cases h
  cases o with
  | ret v10 =>
    obtain rfl := some_inj h
    exact CallS.plain cfg_ok (f := Try.f59) (c := c59) (by kernel_rfl) (by kernel_rfl) (by kernel_rfl) (by kernel_rfl) ((f59n0_ok a1 ho).mono fun r e => by subst e; exact ⟨.inl rfl, (jB v10), (jB v10), by kernel_rfl, by kernel_rfl, ((Wk.refl _) : Wk (jB v10) (jB v10))⟩)

noncomputable def c36 : Code := Try.f36.body.getD .skip
inductive f36n3O where
  | norm (v148 : Bool)
def f36n3E (bb1 : ByteArray) (bc2 : UInt8) (bd3 : Int) : f36n3O → Ex × Tr × Hp
  | .norm v148 => (.norm, mkS [(0, (jS bb1)), (20, (jI (bb1.size : Int))), (21, (jI bd3)), (45, (jB v148))], [])
def f36n3S (bb1 : ByteArray) (bc2 : UInt8) (bd3 : Int) : Tr × Hp := (mkS [(0, (jS bb1)), (4, (.pl (.int .u8 (bc2.toNat : Int)))), (20, (jI (bb1.size : Int))), (21, (jI bd3))], [])
noncomputable def f36n3 (bb1 : ByteArray) (bc2 : UInt8) (bd3 : Int) : Option f36n3O :=
  (f59 (bc2.toNat : Int)).bind fun x141 =>
  bif x141 then
    some (.norm false)
  else
    bif (decide ((bc2.toNat : Int) < 48)) then
      bif (decide ((bc2.toNat : Int) = 95)) then
        some (.norm false)
      else
        some (.norm (!(decide ((bc2.toNat : Int) = 45))))
    else
      bif (decide (57 < (bc2.toNat : Int))) then
        bif (decide ((bc2.toNat : Int) = 95)) then
          some (.norm false)
        else
          some (.norm (!(decide ((bc2.toNat : Int) = 45))))
      else
        some (.norm false)
theorem f36n3_ok (bb1 : ByteArray) (bc2 : UInt8) (bd3 : Int) {o : f36n3O} (h : (f36n3 bb1 bc2 bd3) = some o) : T Try.prog Try.f36.ntmps 0 (cL (dropC 2 (cL (cL (dropC 2 (cL (cL (dropC 1 (cL (dropC 2 c36)))))))))) (f36n3S bb1 bc2 bd3) (fun r => r = f36n3E bb1 bc2 bd3 o) := by
  unfold f36n3 at h
  obtain ⟨x141, h142, h⟩ := bind_cases h
  rcases cond_cases h with ⟨h143, h⟩ | ⟨h143, h⟩
  · obtain rfl := some_inj h
    exact rE cfg_ok [(jF [4, 5, 6, 9], [jH 1 (jB x141), (10, .bool false)], [])] [] [] [] [0, 20, 21, 45] (.norm, (f36n3E bb1 bc2 bd3 (.norm false)).2) (ap (not_t h143) (ap4 (not_t h143) (ap (f59_ok (bc2.toNat : Int) h142) an))) rfl
  · rcases cond_cases h with ⟨h144, h⟩ | ⟨h144, h⟩
    · rcases cond_cases h with ⟨h145, h⟩ | ⟨h145, h⟩
      · obtain rfl := some_inj h
        exact rE cfg_ok [(jF [16, 17] ++ jT [4, 5, 6, 7, 8, 9], [jH 1 (jB x141), (9, .bool true), (10, .bool true), (18, .bool false)], [])] [] [] [] [0, 20, 21, 45] (.norm, (f36n3E bb1 bc2 bd3 (.norm false)).2) (ap3 (not_f h143) (ap2 h144 (ap (not_f h143) (ap h144 (ap (not_f h143) (ap3 (not_t h145) (ap (f59_ok (bc2.toNat : Int) h142) an))))))) rfl
      · obtain rfl := some_inj h
        exact rE cfg_ok [(jT [4, 5, 6, 7, 8, 9, 16, 17], [jH 1 (jB x141), (9, .bool true), (10, .bool true), (18, .bool true)], [])] [] [] [] [0, 20, 21, 45] (.norm, (f36n3E bb1 bc2 bd3 (.norm (!(decide ((bc2.toNat : Int) = 45))))).2) (ap3 (not_f h143) (ap2 h144 (ap (not_f h143) (ap h144 (ap (not_f h143) (ap3 (not_f h145) (ap (f59_ok (bc2.toNat : Int) h142) an))))))) rfl
    · rcases cond_cases h with ⟨h146, h⟩ | ⟨h146, h⟩
      · rcases cond_cases h with ⟨h147, h⟩ | ⟨h147, h⟩
        · obtain rfl := some_inj h
          exact rE cfg_ok [(jF [7, 8, 16, 17] ++ jT [4, 5, 6, 9, 12, 13], [jH 1 (jB x141), (9, .bool false), (10, .bool true), (14, .bool true), (18, .bool false)], [])] [] [] [] [0, 20, 21, 45] (.norm, (f36n3E bb1 bc2 bd3 (.norm false)).2) (ap3 (not_f h143) (ap2 h144 (ap (not_f h143) (ap h144 (ap (not_f h143) (ap3 h146 (ap3 (not_t h147) (ap (f59_ok (bc2.toNat : Int) h142) an)))))))) rfl
        · obtain rfl := some_inj h
          exact rE cfg_ok [(jF [7, 8] ++ jT [4, 5, 6, 9, 12, 13, 16, 17], [jH 1 (jB x141), (9, .bool false), (10, .bool true), (14, .bool true), (18, .bool true)], [])] [] [] [] [0, 20, 21, 45] (.norm, (f36n3E bb1 bc2 bd3 (.norm (!(decide ((bc2.toNat : Int) = 45))))).2) (ap3 (not_f h143) (ap2 h144 (ap (not_f h143) (ap h144 (ap (not_f h143) (ap3 h146 (ap3 (not_f h147) (ap (f59_ok (bc2.toNat : Int) h142) an)))))))) rfl
      · obtain rfl := some_inj h
        exact rE cfg_ok [(jF [7, 8, 12, 13] ++ jT [4, 5, 6, 9], [jH 1 (jB x141), (9, .bool false), (10, .bool true), (14, .bool false)], [])] [] [] [] [0, 20, 21, 45] (.norm, (f36n3E bb1 bc2 bd3 (.norm false)).2) (ap3 (not_f h143) (ap2 h144 (ap (not_f h143) (ap h144 (ap (not_f h143) (ap3 h146 (ap (f59_ok (bc2.toNat : Int) h142) an))))))) rfl
inductive f36n2O where
  | norm
  | ret
def f36n2E (bb1 : ByteArray) (bd2 : Int) : f36n2O → Ex × Tr × Hp
  | .norm => (.norm, mkS [(0, (jS bb1)), (20, (jI (bb1.size : Int))), (21, (jI bd2))], [])
  | .ret => (.ret, mkS [(2, (jB false))], [])
def f36n2S (bb1 : ByteArray) (bd2 : Int) : Tr × Hp := (mkS [(0, (jS bb1)), (20, (jI (bb1.size : Int))), (21, (jI bd2))], [])
noncomputable def f36n2 (bb1 : ByteArray) (bd2 : Int) : Option f36n2O :=
  (at? bb1.data.toList bd2).bind fun x125 =>
  (f36n3 bb1 x125 bd2).bind fun o149 => match o149 with
  | .norm v151 => bif v151 then
      some .ret
    else
      some .norm
theorem f36n2_ok (bb1 : ByteArray) (bd2 : Int) {o : f36n2O} (h : (f36n2 bb1 bd2) = some o) : T Try.prog Try.f36.ntmps 0 (cL (dropC 2 (cL (cL (dropC 1 (cL (dropC 2 c36))))))) (f36n2S bb1 bd2) (fun r => r = f36n2E bb1 bd2 o) := by
  unfold f36n2 at h
  refine T.block' (i := 1) (by kernel_rfl) ?_
  obtain ⟨x125, h126, h⟩ := bind_cases h
  refine rN cfg_ok 2 [j3, ([], [(2, .byte (Int.toNat bd2) x125)], [])] [] [] [] [0, 4, 20, 21] (f36n3S bb1 x125 bd2) (ap (at_some h126).1 (ap (at_some h126).2 an)) ?_
  obtain ⟨o149, h150, h⟩ := bind_cases h
  cases o149 with
  | norm v151 =>
    refine T.oneN (by kernel_rfl) (f36n3_ok bb1 x125 bd2 h150) (st2 := (f36n3E bb1 x125 bd2 (.norm v151)).2) rfl ?_
    rcases cond_cases h with ⟨h153, h⟩ | ⟨h153, h⟩
    · obtain rfl := some_inj h
      exact rE cfg_ok [j3] [some true] [] [] [2] (.ret, (f36n2E bb1 bd2 .ret).2) (ap h153 an) rfl
    · obtain rfl := some_inj h
      exact rE cfg_ok [] [some false] [] [] [0, 20, 21] (.norm, (f36n2E bb1 bd2 .norm).2) (ap h153 an) rfl
inductive f36n4O where
  | exit0
  | ret
def f36n4E (bb1 : ByteArray) : f36n4O → Ex × Tr × Hp
  | .exit0 => ((.exit 0), mkS [], [])
  | .ret => (.ret, mkS [(2, (jB false))], [])
def f36n4S (bb1 : ByteArray) (v109 : Int) : Tr × Hp := (mkS [(0, (jS bb1)), (20, (jI (bb1.size : Int))), (21, (jI v109))], [])
noncomputable def f36n4 : Nat → ByteArray → Int → Option f36n4O
  | 0, _, _ => none
  | f + 1, bb1, v109 =>
    bif (decide (v109 < (bb1.size : Int))) then
      (f36n2 bb1 v109).bind fun o154 => match o154 with
      | .norm => (f36n4 f bb1 (wr64 (v109 + 1)))
      | .ret => some .ret
    else
      some .exit0
theorem f36n4_ok : ∀ (f : Nat) (bb1 : ByteArray) (v109 : Int) {o : f36n4O}, (f36n4 f bb1 v109) = some o → TL Try.prog Try.f36.ntmps 0 f (cL (cL (dropC 1 (cL (dropC 2 c36))))) (f36n4S bb1 v109) (fun r => r = f36n4E bb1 o)
  | 0, _, _, o, h => by rw [f36n4] at h; cases h
  | f + 1, bb1, v109, o, h => by
    rw [f36n4] at h
    refine TL.body (K := fun s => ∃ v109 : Int, s = (f36n4S bb1 v109) ∧ (f36n4 f bb1 v109) = some o) ?_ (by rintro _ ⟨v109, rfl, hk⟩; exact f36n4_ok f _ _ hk)
    rcases cond_cases h with ⟨h111, h⟩ | ⟨h111, h⟩
    · refine rN cfg_ok 2 [j3] [some true] [] [] [0, 20, 21] (f36n2S bb1 v109) (ap h111 an) ?_
      obtain ⟨o154, h155, h⟩ := bind_cases h
      cases o154 with
      | norm =>
        refine T.oneN (by kernel_rfl) (f36n2_ok bb1 v109 h155) (st2 := (f36n2E bb1 v109 .norm).2) rfl ?_
        exact rE cfg_ok [j3] [] [] [] [0, 20, 21] (.norm, (f36n4S bb1 (wr64 (v109 + 1)))) an (LoopQ.norm ⟨(wr64 (v109 + 1)), rfl, h⟩)
      | ret =>
        obtain rfl := some_inj h
        exact T.oneX' (by kernel_rfl) (f36n2_ok bb1 v109 h155) (tds := []) (m := []) (keep := [2]) (st2 := (f36n4E bb1 .ret).2) (by kernel_rfl) an rfl (LoopQ.out rfl rfl)
    · obtain rfl := some_inj h
      exact rK cfg_ok 2 [j3] [some false] [] [] [] (.exit 0) ((f36n4E bb1 .exit0).2) (ap h111 an) (LoopQ.out rfl rfl)
inductive f36n1O where
  | norm
  | ret
def f36n1E (bb1 : ByteArray) : f36n1O → Ex × Tr × Hp
  | .norm => (.norm, mkS [], [])
  | .ret => (.ret, mkS [(2, (jB false))], [])
def f36n1S (bb1 : ByteArray) : Tr × Hp := (mkS [(0, (jS bb1))], [])
noncomputable def f36n1 (bb1 : ByteArray) : Option f36n1O :=
  (f36n4 FUEL bb1 0).bind fun o156 => match o156 with
  | .exit0 => some .norm
  | .ret => some .ret
theorem f36n1_ok (bb1 : ByteArray) {o : f36n1O} (h : (f36n1 bb1) = some o) : T Try.prog Try.f36.ntmps 0 (cL (dropC 2 c36)) (f36n1S bb1) (fun r => r = f36n1E bb1 o) := by
  unfold f36n1 at h
  refine rN cfg_ok 1 [j3] [] [] [] [0, 20, 21] (f36n4S bb1 0) an ?_
  obtain ⟨o156, h157, h⟩ := bind_cases h
  cases o156 with
  | exit0 =>
    obtain rfl := some_inj h
    exact T.last' (T.bl (i := 0) (by kernel_rfl) (by kernel_rfl) (f36n4_ok FUEL bb1 0 h157)) (tds := []) (m := []) (keep := []) (st2 := (f36n1E bb1 .norm).2) (by kernel_rfl) an rfl
  | ret =>
    obtain rfl := some_inj h
    exact T.last' (T.bl (i := 0) (by kernel_rfl) (by kernel_rfl) (f36n4_ok FUEL bb1 0 h157)) (tds := []) (m := []) (keep := [2]) (st2 := (f36n1E bb1 .ret).2) (by kernel_rfl) an rfl
inductive f36n0O where
  | ret (v160 : Bool)
def f36n0E (a1 : ByteArray) : f36n0O → Ex × Tr × Hp
  | .ret v160 => (.ret, mkS [(2, (jB v160))], [])
def f36n0S (a1 : ByteArray) : Tr × Hp := (initS [(jS a1)] 0 .leaf, [])
noncomputable def f36n0 (a1 : ByteArray) : Option f36n0O :=
  bif (decide ((a1.size : Int) < 1)) then
    some (.ret false)
  else
    bif (decide (40 < (a1.size : Int))) then
      some (.ret false)
    else
      (at? a1.data.toList 0).bind fun x11 =>
      (f59 (x11.toNat : Int)).bind fun x13 =>
      bif x13 then
        (f36n1 a1).bind fun o158 => match o158 with
        | .norm => some (.ret true)
        | .ret => some (.ret false)
      else
        some (.ret false)
theorem f36n0_ok (a1 : ByteArray) {o : f36n0O} (h : (f36n0 a1) = some o) : T Try.prog Try.f36.ntmps 0 c36 (f36n0S a1) (fun r => r = f36n0E a1 o) := by
  unfold f36n0 at h
  rcases cond_cases h with ⟨h9, h⟩ | ⟨h9, h⟩
  · obtain rfl := some_inj h
    exact rK cfg_ok 2 [j3, (jT [4, 5, 6], [(7, .bool true)], []), j3] [none] [] [] [2] .ret ((f36n0E a1 (.ret false)).2) (ap4 h9 an) rfl
  · rcases cond_cases h with ⟨h10, h⟩ | ⟨h10, h⟩
    · obtain rfl := some_inj h
      exact rK cfg_ok 2 [j3, (jF [4, 5, 6] ++ jT [9, 10, 11, 12], [(7, .bool false), (13, .bool true)], []), j3] [none] [] [] [2] .ret ((f36n0E a1 (.ret false)).2) (ap4 h9 (ap h10 (ap4 h10 an))) rfl
    · obtain ⟨x11, h12, h⟩ := bind_cases h
      obtain ⟨x13, h14, h⟩ := bind_cases h
      rcases cond_cases h with ⟨h15, h⟩ | ⟨h15, h⟩
      · refine rN cfg_ok 2 [j3, (jF [4, 5, 6, 9, 10, 11, 12], [(7, .bool false), (10, .byte (Int.toNat 0) x11), jH 11 (jB x13), (13, .bool false)], [])] [some false] [] [] [0] (f36n1S a1) (ap4 h9 (ap2 h10 (ap (at_some h12).1 (ap (at_some h12).2 (ap3 h10 (ap (f59_ok (x11.toNat : Int) h14) (ap (not_t h15) an))))))) ?_
        obtain ⟨o158, h159, h⟩ := bind_cases h
        cases o158 with
        | norm =>
          refine T.oneN (by kernel_rfl) (f36n1_ok a1 h159) (st2 := (f36n1E a1 .norm).2) rfl ?_
          obtain rfl := some_inj h
          exact rE cfg_ok [j3] [] [] [] [2] (.ret, (f36n0E a1 (.ret true)).2) an rfl
        | ret =>
          obtain rfl := some_inj h
          exact T.oneX' (by kernel_rfl) (f36n1_ok a1 h159) (tds := []) (m := []) (keep := [2]) (st2 := (f36n0E a1 (.ret false)).2) (by kernel_rfl) an rfl rfl
      · obtain rfl := some_inj h
        exact rK cfg_ok 2 [j3, (jF [4, 5, 6, 9, 10, 11, 12], [(7, .bool false), (10, .byte (Int.toNat 0) x11), jH 11 (jB x13), (13, .bool false)], []), j3] [some true] [] [] [2] .ret ((f36n0E a1 (.ret false)).2) (ap4 h9 (ap2 h10 (ap (at_some h12).1 (ap (at_some h12).2 (ap3 h10 (ap (f59_ok (x11.toNat : Int) h14) (ap (not_f h15) an))))))) rfl
noncomputable def f36 (a1 : ByteArray) : Option Bool := (f36n0 a1).bind fun o => match o with
  | .ret v160 => some v160
theorem f36_ok (a1 : ByteArray) {r : Bool} (h : (f36 a1) = some r) : CallS Try.prog false 36 [(jS a1)] [] (jB r) [] := by
  unfold f36 at h
  obtain ⟨o, ho, h⟩ := bind_cases h
  cases o with
  | ret v160 =>
    obtain rfl := some_inj h
    exact CallS.plain cfg_ok (f := Try.f36) (c := c36) (by kernel_rfl) (by kernel_rfl) (by kernel_rfl) (by kernel_rfl) ((f36n0_ok a1 ho).mono fun r e => by subst e; exact ⟨.inl rfl, (jB v160), (jB v160), by kernel_rfl, by kernel_rfl, ((Wk.refl _) : Wk (jB v160) (jB v160))⟩)

noncomputable def c57 : Code := Try.f57.body.getD .skip
inductive f57n1O where
  | norm (v68 : Bool)
def f57n1E (be1 : NettingFlow) : f57n1O → Ex × Tr × Hp
  | .norm v68 => (.norm, mkS [(1, (.bp 0 0)), (3, (jB v68))], [some (.box ((NettingFlow.cells be1).map .pl))])
def f57n1S (be1 : NettingFlow) : Tr × Hp := (mkS [(1, (.bp 0 0))], [some (.box ((NettingFlow.cells be1).map .pl))])
noncomputable def f57n1 (be1 : NettingFlow) : Option f57n1O :=
  bif (seq be1.Set str_x) then
    (f36 be1.Ccy).bind fun x47 =>
    bif x47 then
      (f36 be1.From).bind fun x50 =>
      bif x50 then
        (f36 be1.To).bind fun x53 =>
        bif x53 then
          some (.norm (!(seq be1.From be1.To)))
        else
          some (.norm false)
      else
        some (.norm false)
    else
      some (.norm false)
  else
    (f36 be1.Set).bind fun x56 =>
    bif x56 then
      (f36 be1.Ccy).bind fun x59 =>
      bif x59 then
        (f36 be1.From).bind fun x62 =>
        bif x62 then
          (f36 be1.To).bind fun x65 =>
          bif x65 then
            some (.norm (!(seq be1.From be1.To)))
          else
            some (.norm false)
        else
          some (.norm false)
      else
        some (.norm false)
    else
      some (.norm false)
theorem f57n1_ok (be1 : NettingFlow) {o : f57n1O} (h : (f57n1 be1) = some o) : T Try.prog Try.f57.ntmps 0 (cL (dropC 1 c57)) (f57n1S be1) (fun r => r = f57n1E be1 o) := by
  unfold f57n1 at h
  rcases cond_cases h with ⟨h46, h⟩ | ⟨h46, h⟩
  · obtain ⟨x47, h48, h⟩ := bind_cases h
    rcases cond_cases h with ⟨h49, h⟩ | ⟨h49, h⟩
    · obtain ⟨x50, h51, h⟩ := bind_cases h
      rcases cond_cases h with ⟨h52, h⟩ | ⟨h52, h⟩
      · obtain ⟨x53, h54, h⟩ := bind_cases h
        rcases cond_cases h with ⟨h55, h⟩ | ⟨h55, h⟩
        · obtain rfl := some_inj h
          exact rE cfg_ok [(jT [4, 5, 6, 14, 15, 16, 19, 20, 21, 24, 25, 26, 27, 28], [(7, .bool true), jH 11 (jB x47), jH 16 (jB x50), (17, .bool true), jH 21 (jB x53), (22, .bool true), (29, .bool true)], [])] [] [] [0] [1, 3] (.norm, (f57n1E be1 (.norm (!(seq be1.From be1.To)))).2) (ap4 h46 (ap4 h49 (ap4 h52 (ap2 h55 (ap4 h55 (ap (f36_ok be1.Ccy h48) (ap (f36_ok be1.From h51) (ap (f36_ok be1.To h54) an)))))))) rfl
        · obtain rfl := some_inj h
          exact rE cfg_ok [(jF [24, 25, 26, 27, 28] ++ jT [4, 5, 6, 14, 15, 16, 19, 20, 21], [(7, .bool true), jH 11 (jB x47), jH 16 (jB x50), (17, .bool true), jH 21 (jB x53), (22, .bool true), (29, .bool false)], [])] [] [] [0] [1, 3] (.norm, (f57n1E be1 (.norm false)).2) (ap4 h46 (ap4 h49 (ap4 h52 (ap2 h55 (ap4 h55 (ap (f36_ok be1.Ccy h48) (ap (f36_ok be1.From h51) (ap (f36_ok be1.To h54) an)))))))) rfl
      · obtain rfl := some_inj h
        exact rE cfg_ok [(jF [19, 20, 21] ++ jT [4, 5, 6, 14, 15, 16], [(7, .bool true), jH 11 (jB x47), jH 16 (jB x50), (17, .bool true), (22, .bool false)], [])] [] [] [0] [1, 3] (.norm, (f57n1E be1 (.norm false)).2) (ap4 h46 (ap4 h49 (ap4 h52 (ap (f36_ok be1.Ccy h48) (ap (f36_ok be1.From h51) an))))) rfl
    · obtain rfl := some_inj h
      exact rE cfg_ok [(jF [14, 15, 16] ++ jT [4, 5, 6], [(7, .bool true), jH 11 (jB x47), (17, .bool false)], [])] [] [] [0] [1, 3] (.norm, (f57n1E be1 (.norm false)).2) (ap4 h46 (ap4 h49 (ap (f36_ok be1.Ccy h48) an))) rfl
  · obtain ⟨x56, h57, h⟩ := bind_cases h
    rcases cond_cases h with ⟨h58, h⟩ | ⟨h58, h⟩
    · obtain ⟨x59, h60, h⟩ := bind_cases h
      rcases cond_cases h with ⟨h61, h⟩ | ⟨h61, h⟩
      · obtain ⟨x62, h63, h⟩ := bind_cases h
        rcases cond_cases h with ⟨h64, h⟩ | ⟨h64, h⟩
        · obtain ⟨x65, h66, h⟩ := bind_cases h
          rcases cond_cases h with ⟨h67, h⟩ | ⟨h67, h⟩
          · obtain rfl := some_inj h
            exact rE cfg_ok [(jF [4, 5, 6] ++ jT [9, 10, 11, 14, 15, 16, 19, 20, 21, 24, 25, 26, 27, 28], [jH 6 (jB x56), (7, .bool false), jH 11 (jB x59), (12, .bool true), jH 16 (jB x62), (17, .bool true), jH 21 (jB x65), (22, .bool true), (29, .bool true)], [])] [] [] [0] [1, 3] (.norm, (f57n1E be1 (.norm (!(seq be1.From be1.To)))).2) (ap4 h46 (ap4 h58 (ap4 h61 (ap4 h64 (ap2 h67 (ap4 h67 (ap (f36_ok be1.Set h57) (ap (f36_ok be1.Ccy h60) (ap (f36_ok be1.From h63) (ap (f36_ok be1.To h66) an)))))))))) rfl
          · obtain rfl := some_inj h
            exact rE cfg_ok [(jF [4, 5, 6, 24, 25, 26, 27, 28] ++ jT [9, 10, 11, 14, 15, 16, 19, 20, 21], [jH 6 (jB x56), (7, .bool false), jH 11 (jB x59), (12, .bool true), jH 16 (jB x62), (17, .bool true), jH 21 (jB x65), (22, .bool true), (29, .bool false)], [])] [] [] [0] [1, 3] (.norm, (f57n1E be1 (.norm false)).2) (ap4 h46 (ap4 h58 (ap4 h61 (ap4 h64 (ap2 h67 (ap4 h67 (ap (f36_ok be1.Set h57) (ap (f36_ok be1.Ccy h60) (ap (f36_ok be1.From h63) (ap (f36_ok be1.To h66) an)))))))))) rfl
        · obtain rfl := some_inj h
          exact rE cfg_ok [(jF [4, 5, 6, 19, 20, 21] ++ jT [9, 10, 11, 14, 15, 16], [jH 6 (jB x56), (7, .bool false), jH 11 (jB x59), (12, .bool true), jH 16 (jB x62), (17, .bool true), (22, .bool false)], [])] [] [] [0] [1, 3] (.norm, (f57n1E be1 (.norm false)).2) (ap4 h46 (ap4 h58 (ap4 h61 (ap4 h64 (ap (f36_ok be1.Set h57) (ap (f36_ok be1.Ccy h60) (ap (f36_ok be1.From h63) an))))))) rfl
      · obtain rfl := some_inj h
        exact rE cfg_ok [(jF [4, 5, 6, 14, 15, 16] ++ jT [9, 10, 11], [jH 6 (jB x56), (7, .bool false), jH 11 (jB x59), (12, .bool true), (17, .bool false)], [])] [] [] [0] [1, 3] (.norm, (f57n1E be1 (.norm false)).2) (ap4 h46 (ap4 h58 (ap4 h61 (ap (f36_ok be1.Set h57) (ap (f36_ok be1.Ccy h60) an))))) rfl
    · obtain rfl := some_inj h
      exact rE cfg_ok [(jF [4, 5, 6, 9, 10, 11], [jH 6 (jB x56), (7, .bool false), (12, .bool false)], [])] [] [] [0] [1, 3] (.norm, (f57n1E be1 (.norm false)).2) (ap4 h46 (ap4 h58 (ap (f36_ok be1.Set h57) an))) rfl
inductive f57n0O where
  | ret (v80 : Bool)
def f57n0E (a1 : NettingFlow) : f57n0O → Ex × Tr × Hp
  | .ret v80 => (.ret, mkS [(2, (jB v80))], [])
def f57n0S (a1 : NettingFlow) : Tr × Hp := (initS [(jA NettingFlow.cells a1)] 0 .leaf, [])
noncomputable def f57n0 (a1 : NettingFlow) : Option f57n0O :=
  (f57n1 a1).bind fun o69 => match o69 with
  | .norm v71 => bif v71 then
      bif (decide (0 ≤ a1.Date)) then
        bif (decide (a1.Date ≤ 99999)) then
          bif (decide (1 ≤ a1.Amount)) then
            some (.ret (decide (a1.Amount ≤ 1125899906842624)))
          else
            some (.ret false)
        else
          some (.ret false)
      else
        some (.ret false)
    else
      some (.ret false)
theorem f57n0_ok (a1 : NettingFlow) {o : f57n0O} (h : (f57n0 a1) = some o) : T Try.prog Try.f57.ntmps 0 c57 (f57n0S a1) (fun r => r = f57n0E a1 o) := by
  unfold f57n0 at h
  refine rN cfg_ok 1 [j3] [] [] [0] [1] (f57n1S a1) an ?_
  obtain ⟨o69, h70, h⟩ := bind_cases h
  cases o69 with
  | norm v71 =>
    refine T.oneN (by kernel_rfl) (f57n1_ok a1 h70) (st2 := (f57n1E a1 (.norm v71)).2) rfl ?_
    rcases cond_cases h with ⟨h76, h⟩ | ⟨h76, h⟩
    · rcases cond_cases h with ⟨h77, h⟩ | ⟨h77, h⟩
      · rcases cond_cases h with ⟨h78, h⟩ | ⟨h78, h⟩
        · rcases cond_cases h with ⟨h79, h⟩ | ⟨h79, h⟩
          · obtain rfl := some_inj h
            exact rE cfg_ok [(jT [2, 3, 4, 7, 8, 9, 12, 13, 14, 17, 18, 19], [(5, .bool true), (10, .bool true), (15, .bool true), (20, .bool true)], [])] [] [] [] [2] (.ret, (f57n0E a1 (.ret (decide (a1.Amount ≤ 1125899906842624)))).2) (ap4 h76 (ap4 h77 (ap4 h78 (ap4 h79 an)))) rfl
          · obtain rfl := some_inj h
            exact rE cfg_ok [(jF [17, 18, 19] ++ jT [2, 3, 4, 7, 8, 9, 12, 13, 14], [(5, .bool true), (10, .bool true), (15, .bool true), (20, .bool false)], [])] [] [] [] [2] (.ret, (f57n0E a1 (.ret false)).2) (ap4 h76 (ap4 h77 (ap4 h78 (ap4 h79 an)))) rfl
        · obtain rfl := some_inj h
          exact rE cfg_ok [(jF [12, 13, 14] ++ jT [2, 3, 4, 7, 8, 9], [(5, .bool true), (10, .bool true), (15, .bool false)], [])] [] [] [] [2] (.ret, (f57n0E a1 (.ret false)).2) (ap4 h76 (ap4 h77 (ap4 h78 an))) rfl
      · obtain rfl := some_inj h
        exact rE cfg_ok [(jF [7, 8, 9] ++ jT [2, 3, 4], [(5, .bool true), (10, .bool false)], [])] [] [] [] [2] (.ret, (f57n0E a1 (.ret false)).2) (ap4 h76 (ap4 h77 an)) rfl
    · obtain rfl := some_inj h
      exact rE cfg_ok [(jF [2, 3, 4], [(5, .bool false)], [])] [] [] [] [2] (.ret, (f57n0E a1 (.ret false)).2) (ap4 h76 an) rfl
noncomputable def f57 (a1 : NettingFlow) : Option Bool := (f57n0 a1).bind fun o => match o with
  | .ret v80 => some v80
theorem f57_ok (a1 : NettingFlow) {r : Bool} (h : (f57 a1) = some r) : CallS Try.prog false 57 [(jA NettingFlow.cells a1)] [] (jB r) [] := by
  unfold f57 at h
  obtain ⟨o, ho, h⟩ := bind_cases h
  cases o with
  | ret v80 =>
    obtain rfl := some_inj h
    exact CallS.plain cfg_ok (f := Try.f57) (c := c57) (by kernel_rfl) (by kernel_rfl) (by kernel_rfl) (by kernel_rfl) ((f57n0_ok a1 ho).mono fun r e => by subst e; exact ⟨.inl rfl, (jB v80), (jB v80), by kernel_rfl, by kernel_rfl, ((Wk.refl _) : Wk (jB v80) (jB v80))⟩)

noncomputable def c56 : Code := Try.f56.body.getD .skip
inductive f56n0O where
  | ret (v6 : Bool)
def f56n0E (a1 : NettingFlow) : f56n0O → Ex × Tr × Hp
  | .ret v6 => (.ret, mkS [(2, (jB v6))], [])
def f56n0S (a1 : NettingFlow) : Tr × Hp := (initS [(jA NettingFlow.cells a1)] 0 .leaf, [])
noncomputable def f56n0 (a1 : NettingFlow) : Option f56n0O :=
  (f57 a1).bind fun x4 =>
  some (.ret (!x4))
theorem f56n0_ok (a1 : NettingFlow) {o : f56n0O} (h : (f56n0 a1) = some o) : T Try.prog Try.f56.ntmps 0 c56 (f56n0S a1) (fun r => r = f56n0E a1 o) := by
  unfold f56n0 at h
  obtain ⟨x4, h5, h⟩ := bind_cases h
  obtain rfl := some_inj h
  exact rE cfg_ok [j3, ([], [jH 1 (jB x4)], [])] [] [] [] [2] (.ret, (f56n0E a1 (.ret (!x4))).2) (ap (f57_ok a1 h5) an) rfl
noncomputable def f56 (a1 : NettingFlow) : Option Bool := (f56n0 a1).bind fun o => match o with
  | .ret v6 => some v6
theorem f56_ok (a1 : NettingFlow) {r : Bool} (h : (f56 a1) = some r) : CallS Try.prog false 56 [(jA NettingFlow.cells a1)] [] (jB r) [] := by
  unfold f56 at h
  obtain ⟨o, ho, h⟩ := bind_cases h
  cases o with
  | ret v6 =>
    obtain rfl := some_inj h
    exact CallS.plain cfg_ok (f := Try.f56) (c := c56) (by kernel_rfl) (by kernel_rfl) (by kernel_rfl) (by kernel_rfl) ((f56n0_ok a1 ho).mono fun r e => by subst e; exact ⟨.inl rfl, (jB v6), (jB v6), by kernel_rfl, by kernel_rfl, ((Wk.refl _) : Wk (jB v6) (jB v6))⟩)

noncomputable def c70 : Code := Try.f70.body.getD .skip
inductive f70_56n2O where
  | exit0
  | ret (v40 : Int)
def f70_56n2E (ba1 : List NettingFlow) : f70_56n2O → Ex × Tr × Hp
  | .exit0 => ((.exit 0), mkS [], [])
  | .ret v40 => (.ret, mkS [(4, (jI v40))], [])
def f70_56n2S (ba1 : List NettingFlow) (v27 : Int) : Tr × Hp := (mkS [(0, (jL 6 NettingFlow.cells ba1)), (1, (.pl (.fn 56))), (7, (jI (ba1.length : Int))), (8, (jI v27))], [])
noncomputable def f70_56n2 : Nat → List NettingFlow → Int → Option f70_56n2O
  | 0, _, _ => none
  | f + 1, ba1, v27 =>
    bif (decide (v27 < (ba1.length : Int))) then
      (at? ba1 v27).bind fun x35 =>
      (f56 x35).bind fun x37 =>
      bif x37 then
        some (.ret v27)
      else
        (f70_56n2 f ba1 (wr64 (v27 + 1)))
    else
      some .exit0
theorem f70_56n2_ok : ∀ (f : Nat) (ba1 : List NettingFlow) (v27 : Int) {o : f70_56n2O}, (f70_56n2 f ba1 v27) = some o → TL Try.prog Try.f70.ntmps 0 f (cL (cL (dropC 1 (cL (dropC 1 c70))))) (f70_56n2S ba1 v27) (fun r => r = f70_56n2E ba1 o)
  | 0, _, _, o, h => by rw [f70_56n2] at h; cases h
  | f + 1, ba1, v27, o, h => by
    rw [f70_56n2] at h
    refine TL.body (K := fun s => ∃ v27 : Int, s = (f70_56n2S ba1 v27) ∧ (f70_56n2 f ba1 v27) = some o) ?_ (by rintro _ ⟨v27, rfl, hk⟩; exact f70_56n2_ok f _ _ hk)
    rcases cond_cases h with ⟨h29, h⟩ | ⟨h29, h⟩
    · obtain ⟨x35, h36, h⟩ := bind_cases h
      obtain ⟨x37, h38, h⟩ := bind_cases h
      rcases cond_cases h with ⟨h39, h⟩ | ⟨h39, h⟩
      · obtain rfl := some_inj h
        exact rK cfg_ok 3 [j3, j3, ([], [(3, .idx (Int.toNat v27) (NettingFlow.cells x35)), jH 5 (jB x37)], []), j3] [some true, some true] [] [] [4] .ret ((f70_56n2E ba1 (.ret v27)).2) (ap h29 (ap (at_some h36).1 (ap (at_map NettingFlow.cells (at_some h36).2) (ap (f56_ok x35 h38) (ap h39 an))))) (LoopQ.out rfl rfl)
      · exact rE cfg_ok [j3, j3, ([], [(3, .idx (Int.toNat v27) (NettingFlow.cells x35)), jH 5 (jB x37)], []), j3] [some true, some false] [] [] [0, 1, 7, 8] (.norm, (f70_56n2S ba1 (wr64 (v27 + 1)))) (ap h29 (ap (at_some h36).1 (ap (at_map NettingFlow.cells (at_some h36).2) (ap (f56_ok x35 h38) (ap h39 an))))) (LoopQ.norm ⟨(wr64 (v27 + 1)), rfl, h⟩)
    · obtain rfl := some_inj h
      exact rK cfg_ok 2 [j3] [some false] [] [] [] (.exit 0) ((f70_56n2E ba1 .exit0).2) (ap h29 an) (LoopQ.out rfl rfl)
noncomputable def f70_56n2L (ba1 : List NettingFlow) : List NettingFlow → Int → Option f70_56n2O
  | [], v27 =>
    some .exit0
  | x0 :: rest, v27 =>
    (f56 x0).bind fun x37 =>
    bif x37 then
      some (.ret v27)
    else
      (f70_56n2L ba1 rest (v27 + 1))
theorem f70_56n2L_eq (ba1 : List NettingFlow) : ∀ (rest : List NettingFlow) (f k : Nat), ba1.drop k = rest → ba1.length ≤ maxLen → rest.length < f → f70_56n2 f ba1 (k : Int) = f70_56n2L ba1 rest (k : Int)
  | _, 0, _, _, _, hf => absurd hf (Nat.not_lt_zero _)
  | [], f + 1, k, hd, hm, hf => by
    have hk : ¬ ((k : Int) < (ba1.length : Int)) := by have := drop_nil hd; omega
    rw [f70_56n2, f70_56n2L]
    simp only [decide_eq_false hk, cond_false]
  | x0 :: rest, f + 1, k, hd, hm, hf => by
    obtain ⟨hx, hlt, hd'⟩ := drop_cons hd
    have hk : (k : Int) < (ba1.length : Int) := by omega
    have hw : wr64 ((k : Int) + 1) = (k : Int) + 1 := wr64_of (by omega) (by unfold maxLen at hm; omega)
    have ih : f70_56n2 f ba1 ((k : Int) + 1) = f70_56n2L ba1 rest ((k : Int) + 1) := f70_56n2L_eq ba1 rest f (k + 1) hd' hm (by simpa using hf)
    rw [f70_56n2, f70_56n2L]
    simp only [decide_eq_true hk, cond_true, at_nat, hx, Option.bind_some, hw, ih]
theorem f70_56n2_run (ba1 : List NettingFlow) (hm : ba1.length ≤ maxLen) : f70_56n2 FUEL ba1 0 = f70_56n2L ba1 ba1 0 := f70_56n2L_eq ba1 ba1 FUEL 0 List.drop_zero hm (lt_FUEL hm)
inductive f70_56n1O where
  | norm
  | ret (v44 : Int)
def f70_56n1E (ba1 : List NettingFlow) : f70_56n1O → Ex × Tr × Hp
  | .norm => (.norm, mkS [], [])
  | .ret v44 => (.ret, mkS [(4, (jI v44))], [])
def f70_56n1S (ba1 : List NettingFlow) : Tr × Hp := (mkS [(0, (jL 6 NettingFlow.cells ba1)), (1, (.pl (.fn 56)))], [])
noncomputable def f70_56n1 (ba1 : List NettingFlow) : Option f70_56n1O :=
  (f70_56n2 FUEL ba1 0).bind fun o41 => match o41 with
  | .exit0 => some .norm
  | .ret v43 => some (.ret v43)
theorem f70_56n1_ok (ba1 : List NettingFlow) {o : f70_56n1O} (h : (f70_56n1 ba1) = some o) : T Try.prog Try.f70.ntmps 0 (cL (dropC 1 c70)) (f70_56n1S ba1) (fun r => r = f70_56n1E ba1 o) := by
  unfold f70_56n1 at h
  refine rN cfg_ok 1 [([], [], [(1, .val (jI (ba1.length : Int)))])] [] [] [] [0, 1, 7, 8] (f70_56n2S ba1 0) (ap (len_cv (xs := ba1) (c := NettingFlow.cells)) an) ?_
  obtain ⟨o41, h42, h⟩ := bind_cases h
  cases o41 with
  | exit0 =>
    obtain rfl := some_inj h
    exact T.last' (T.bl (i := 0) (by kernel_rfl) (by kernel_rfl) (f70_56n2_ok FUEL ba1 0 h42)) (tds := []) (m := []) (keep := []) (st2 := (f70_56n1E ba1 .norm).2) (by kernel_rfl) an rfl
  | ret v43 =>
    obtain rfl := some_inj h
    exact T.last' (T.bl (i := 0) (by kernel_rfl) (by kernel_rfl) (f70_56n2_ok FUEL ba1 0 h42)) (tds := []) (m := []) (keep := [4]) (st2 := (f70_56n1E ba1 (.ret v43)).2) (by kernel_rfl) an rfl
inductive f70_56n0O where
  | ret (v48 : Int)
def f70_56n0E (a1 : List NettingFlow) : f70_56n0O → Ex × Tr × Hp
  | .ret v48 => (.ret, mkS [(4, (jI v48))], [])
def f70_56n0S (a1 : List NettingFlow) : Tr × Hp := (initS [(jL 6 NettingFlow.cells a1), (.pl (.fn 56))] 0 .leaf, [])
noncomputable def f70_56n0 (a1 : List NettingFlow) : Option f70_56n0O :=
  (f70_56n1 a1).bind fun o45 => match o45 with
  | .norm => some (.ret (-1))
  | .ret v47 => some (.ret v47)
theorem f70_56n0_ok (a1 : List NettingFlow) {o : f70_56n0O} (h : (f70_56n0 a1) = some o) : T Try.prog Try.f70.ntmps 0 c70 (f70_56n0S a1) (fun r => r = f70_56n0E a1 o) := by
  unfold f70_56n0 at h
  refine rN cfg_ok 1 [j3] [] [] [] [0, 1] (f70_56n1S a1) an ?_
  obtain ⟨o45, h46, h⟩ := bind_cases h
  cases o45 with
  | norm =>
    refine T.oneN (by kernel_rfl) (f70_56n1_ok a1 h46) (st2 := (f70_56n1E a1 .norm).2) rfl ?_
    obtain rfl := some_inj h
    exact rE cfg_ok [j3] [] [] [] [4] (.ret, (f70_56n0E a1 (.ret (-1))).2) an rfl
  | ret v47 =>
    obtain rfl := some_inj h
    exact T.oneX' (by kernel_rfl) (f70_56n1_ok a1 h46) (tds := []) (m := []) (keep := [4]) (st2 := (f70_56n0E a1 (.ret v47)).2) (by kernel_rfl) an rfl rfl
noncomputable def f70_56 (a1 : List NettingFlow) : Option Int := (f70_56n0 a1).bind fun o => match o with
  | .ret v48 => some v48
theorem f70_56_ok (a1 : List NettingFlow) {r : Int} (h : (f70_56 a1) = some r) : CallS Try.prog false 70 [(jL 6 NettingFlow.cells a1), (.pl (.fn 56))] [] (jI r) [] := by
  unfold f70_56 at h
  obtain ⟨o, ho, h⟩ := bind_cases h
  cases o with
  | ret v48 =>
    obtain rfl := some_inj h
    exact CallS.plain cfg_ok (f := Try.f70) (c := c70) (by kernel_rfl) (by kernel_rfl) (by kernel_rfl) (by kernel_rfl) ((f70_56n0_ok a1 ho).mono fun r e => by subst e; exact ⟨.inl rfl, (jI v48), (jI v48), by kernel_rfl, by kernel_rfl, ((Wk.refl _) : Wk (jI v48) (jI v48))⟩)

noncomputable def c58 : Code := Try.f58.body.getD .skip
inductive f58_56n0O where
  | ret (v6 : Bool)
def f58_56n0E (a1 : List NettingFlow) : f58_56n0O → Ex × Tr × Hp
  | .ret v6 => (.ret, mkS [(4, (jB v6))], [])
def f58_56n0S (a1 : List NettingFlow) : Tr × Hp := (initS [(jL 6 NettingFlow.cells a1), (.pl (.fn 56))] 0 .leaf, [])
noncomputable def f58_56n0 (a1 : List NettingFlow) : Option f58_56n0O :=
  (f70_56 a1).bind fun x4 =>
  some (.ret (decide (0 ≤ x4)))
theorem f58_56n0_ok (a1 : List NettingFlow) {o : f58_56n0O} (h : (f58_56n0 a1) = some o) : T Try.prog Try.f58.ntmps 0 c58 (f58_56n0S a1) (fun r => r = f58_56n0E a1 o) := by
  unfold f58_56n0 at h
  obtain ⟨x4, h5, h⟩ := bind_cases h
  obtain rfl := some_inj h
  exact rE cfg_ok [j3, ([], [jH 2 (jI x4)], [])] [] [] [] [4] (.ret, (f58_56n0E a1 (.ret (decide (0 ≤ x4)))).2) (ap (f70_56_ok a1 h5) an) rfl
noncomputable def f58_56 (a1 : List NettingFlow) : Option Bool := (f58_56n0 a1).bind fun o => match o with
  | .ret v6 => some v6
theorem f58_56_ok (a1 : List NettingFlow) {r : Bool} (h : (f58_56 a1) = some r) : CallS Try.prog false 58 [(jL 6 NettingFlow.cells a1), (.pl (.fn 56))] [] (jB r) [] := by
  unfold f58_56 at h
  obtain ⟨o, ho, h⟩ := bind_cases h
  cases o with
  | ret v6 =>
    obtain rfl := some_inj h
    exact CallS.plain cfg_ok (f := Try.f58) (c := c58) (by kernel_rfl) (by kernel_rfl) (by kernel_rfl) (by kernel_rfl) ((f58_56n0_ok a1 ho).mono fun r e => by subst e; exact ⟨.inl rfl, (jB v6), (jB v6), by kernel_rfl, by kernel_rfl, ((Wk.refl _) : Wk (jB v6) (jB v6))⟩)

noncomputable def c35 : Code := Try.f35.body.getD .skip
inductive f35n0O where
  | ret (v10 : Int)
def f35n0E (a1 : List NettingFlow) : f35n0O → Ex × Tr × Hp
  | .ret v10 => (.ret, mkS [(2, (jI v10))], [])
def f35n0S (a1 : List NettingFlow) : Tr × Hp := (initS [(jL 6 NettingFlow.cells a1)] 0 .leaf, [])
noncomputable def f35n0 (a1 : List NettingFlow) : Option f35n0O :=
  bif (decide (500 < (a1.length : Int))) then
    some (.ret 8)
  else
    (f58_56 a1).bind fun x7 =>
    bif x7 then
      some (.ret 8)
    else
      some (.ret 0)
theorem f35n0_ok (a1 : List NettingFlow) {o : f35n0O} (h : (f35n0 a1) = some o) : T Try.prog Try.f35.ntmps 0 c35 (f35n0S a1) (fun r => r = f35n0E a1 o) := by
  unfold f35n0 at h
  rcases cond_cases h with ⟨h6, h⟩ | ⟨h6, h⟩
  · obtain rfl := some_inj h
    exact rK cfg_ok 3 [j3, j3, (jT [4, 5, 6], [(7, .bool true)], [(1, .val (jI (a1.length : Int)))]), j3] [none] [] [] [2] .ret ((f35n0E a1 (.ret 8)).2) (ap (len_cv (xs := a1) (c := NettingFlow.cells)) (ap4 h6 an)) rfl
  · obtain ⟨x7, h8, h⟩ := bind_cases h
    rcases cond_cases h with ⟨h9, h⟩ | ⟨h9, h⟩
    · obtain rfl := some_inj h
      exact rK cfg_ok 3 [j3, j3, (jF [4, 5, 6], [jH 6 (jB x7), (7, .bool false)], [(1, .val (jI (a1.length : Int)))]), j3] [some true] [] [] [2] .ret ((f35n0E a1 (.ret 8)).2) (ap (len_cv (xs := a1) (c := NettingFlow.cells)) (ap4 h6 (ap (f58_56_ok a1 h8) (ap h9 an)))) rfl
    · obtain rfl := some_inj h
      exact rE cfg_ok [j3, j3, (jF [4, 5, 6], [jH 6 (jB x7), (7, .bool false)], [(1, .val (jI (a1.length : Int)))]), j3] [some false] [] [] [2] (.ret, (f35n0E a1 (.ret 0)).2) (ap (len_cv (xs := a1) (c := NettingFlow.cells)) (ap4 h6 (ap (f58_56_ok a1 h8) (ap h9 an)))) rfl
noncomputable def f35 (a1 : List NettingFlow) : Option Int := (f35n0 a1).bind fun o => match o with
  | .ret v10 => some v10
theorem f35_ok (a1 : List NettingFlow) {r : Int} (h : (f35 a1) = some r) : CallS Try.prog false 35 [(jL 6 NettingFlow.cells a1)] [] (jI r) [] := by
  unfold f35 at h
  obtain ⟨o, ho, h⟩ := bind_cases h
  cases o with
  | ret v10 =>
    obtain rfl := some_inj h
    exact CallS.plain cfg_ok (f := Try.f35) (c := c35) (by kernel_rfl) (by kernel_rfl) (by kernel_rfl) (by kernel_rfl) ((f35n0_ok a1 ho).mono fun r e => by subst e; exact ⟨.inl rfl, (jI v10), (jI v10), by kernel_rfl, by kernel_rfl, ((Wk.refl _) : Wk (jI v10) (jI v10))⟩)

noncomputable def c37 : Code := Try.f37.body.getD .skip
inductive f37n0O where
  | ret (v7 : NettingFlow)
def f37n0E (a1 : Key_) (a2 : ByteArray) (a3 : ByteArray) (a4 : Int) : f37n0O → Ex × Tr × Hp
  | .ret v7 => (.ret, mkS [(8, (.bp 0 0)), (9, (.pl (.bool (!(decide (a4 = 0))))))], [some (.box ((NettingFlow.cells v7).map .pl))])
def f37n0S (a1 : Key_) (a2 : ByteArray) (a3 : ByteArray) (a4 : Int) : Tr × Hp := (initS [(jA Key_.cells a1), (jS a2), (jS a3), (jI a4)] 0 .leaf, [])
noncomputable def f37n0 (a1 : Key_) (a2 : ByteArray) (a3 : ByteArray) (a4 : Int) : Option f37n0O :=
  bif (decide (a4 < 0)) then
    some (.ret (NettingFlow.mk a1.date a1.set a1.ccy a3 a2 (wr64 (0 - a4))))
  else
    some (.ret (NettingFlow.mk a1.date a1.set a1.ccy a2 a3 a4))
theorem f37n0_ok (a1 : Key_) (a2 : ByteArray) (a3 : ByteArray) (a4 : Int) {o : f37n0O} (h : (f37n0 a1 a2 a3 a4) = some o) : T Try.prog Try.f37.ntmps 0 c37 (f37n0S a1 a2 a3 a4) (fun r => r = f37n0E a1 a2 a3 a4 o) := by
  unfold f37n0 at h
  rcases cond_cases h with ⟨h6, h⟩ | ⟨h6, h⟩
  · obtain rfl := some_inj h
    exact rE cfg_ok [j3, j3, j3, j3, j3] [some true] [] [1] [8, 9] (.ret, (f37n0E a1 a2 a3 a4 (.ret (NettingFlow.mk a1.date a1.set a1.ccy a3 a2 (wr64 (0 - a4))))).2) (ap h6 an) rfl
  · obtain rfl := some_inj h
    exact rE cfg_ok [j3, j3, j3, j3] [some false] [] [1] [8, 9] (.ret, (f37n0E a1 a2 a3 a4 (.ret (NettingFlow.mk a1.date a1.set a1.ccy a2 a3 a4))).2) (ap h6 an) rfl
noncomputable def f37 (a1 : Key_) (a2 : ByteArray) (a3 : ByteArray) (a4 : Int) : Option (NettingFlow × Bool) := (f37n0 a1 a2 a3 a4).bind fun o => match o with
  | .ret v7 => some (v7, (!(decide (a4 = 0))))
theorem f37_ok (a1 : Key_) (a2 : ByteArray) (a3 : ByteArray) (a4 : Int) {r : NettingFlow × Bool} (h : (f37 a1 a2 a3 a4) = some r) : CallS Try.prog false 37 [(jA Key_.cells a1), (jS a2), (jS a3), (jI a4)] [] (.tup [(jA NettingFlow.cells r.1), (jB r.2)]) [] := by
  unfold f37 at h
  obtain ⟨o, ho, h⟩ := bind_cases h
  cases o with
  | ret v7 =>
    obtain rfl := some_inj h
    exact CallS.plain cfg_ok (f := Try.f37) (c := c37) (by kernel_rfl) (by kernel_rfl) (by kernel_rfl) (by kernel_rfl) ((f37n0_ok a1 a2 a3 a4 ho).mono fun r e => by subst e; exact ⟨.inl rfl, (.tup [(jA NettingFlow.cells v7), (.pl (.bool (!(decide (a4 = 0)))))]), (.tup [(jA NettingFlow.cells v7), (.pl (.bool (!(decide (a4 = 0)))))]), by kernel_rfl, by kernel_rfl, ((Wk.refl _) : Wk (.tup [(jA NettingFlow.cells v7), (.pl (.bool (!(decide (a4 = 0)))))]) (.tup [(jA NettingFlow.cells v7), (.pl (.bool (!(decide (a4 = 0)))))]))⟩)

noncomputable def c62 : Code := Try.f62.body.getD .skip
inductive f62n0O where
  | ret
def f62n0E (a1 : Int) : f62n0O → Ex × Tr × Hp
  | .ret => (.ret, mkS [(2, (.pl (.bool (!(decide (a1 = a1))))))], [])
def f62n0S (a1 : Int) : Tr × Hp := (initS [(jI a1)] 0 .leaf, [])
noncomputable def f62n0 (a1 : Int) : Option f62n0O :=
  some .ret
theorem f62n0_ok (a1 : Int) {o : f62n0O} (h : (f62n0 a1) = some o) : T Try.prog Try.f62.ntmps 0 c62 (f62n0S a1) (fun r => r = f62n0E a1 o) := by
  unfold f62n0 at h
  obtain rfl := some_inj h
  exact rE cfg_ok [j3, j3] [] [] [] [2] (.ret, (f62n0E a1 .ret).2) an rfl
noncomputable def f62 (a1 : Int) : Option Bool := (f62n0 a1).bind fun o => match o with
  | .ret => some (!(decide (a1 = a1)))
theorem f62_ok (a1 : Int) {r : Bool} (h : (f62 a1) = some r) : CallS Try.prog false 62 [(jI a1)] [] (jB r) [] := by
  unfold f62 at h
  obtain ⟨o, ho, h⟩ := bind_cases h
  cases o with
  | ret =>
    obtain rfl := some_inj h
    exact CallS.plain cfg_ok (f := Try.f62) (c := c62) (by kernel_rfl) (by kernel_rfl) (by kernel_rfl) (by kernel_rfl) ((f62n0_ok a1 ho).mono fun r e => by subst e; exact ⟨.inl rfl, (.pl (.bool (!(decide (a1 = a1))))), (.pl (.bool (!(decide (a1 = a1))))), by kernel_rfl, by kernel_rfl, ((Wk.refl _) : Wk (.pl (.bool (!(decide (a1 = a1))))) (.pl (.bool (!(decide (a1 = a1))))))⟩)

noncomputable def c41 : Code := Try.f41.body.getD .skip
inductive f41n0O where
  | ret (v21 : Int)
def f41n0E (a1 : Int) (a2 : Int) : f41n0O → Ex × Tr × Hp
  | .ret v21 => (.ret, mkS [(4, (jI v21))], [])
def f41n0S (a1 : Int) (a2 : Int) : Tr × Hp := (initS [(jI a1), (jI a2)] 0 .leaf, [])
noncomputable def f41n0 (a1 : Int) (a2 : Int) : Option f41n0O :=
  (f62 a1).bind fun x5 =>
  (f62 a2).bind fun x9 =>
  bif x5 then
    bif x9 then
      some (.ret 0)
    else
      some (.ret (-1))
  else
    bif x9 then
      some (.ret 1)
    else
      bif (decide (a1 < a2)) then
        some (.ret (-1))
      else
        bif (decide (a2 < a1)) then
          some (.ret 1)
        else
          some (.ret 0)
theorem f41n0_ok (a1 : Int) (a2 : Int) {o : f41n0O} (h : (f41n0 a1 a2) = some o) : T Try.prog Try.f41.ntmps 0 c41 (f41n0S a1 a2) (fun r => r = f41n0E a1 a2 o) := by
  unfold f41n0 at h
  obtain ⟨x5, h6, h⟩ := bind_cases h
  obtain ⟨x9, h10, h⟩ := bind_cases h
  rcases cond_cases h with ⟨h13, h⟩ | ⟨h13, h⟩
  · rcases cond_cases h with ⟨h14, h⟩ | ⟨h14, h⟩
    · obtain rfl := some_inj h
      exact rK cfg_ok 4 [j3, ([], [jH 1 (jB x5)], []), ([], [jH 1 (jB x9)], []), j3, j3, j3] [some true, some true] [] [] [4] .ret ((f41n0E a1 a2 (.ret 0)).2) (ap (f62_ok a1 h6) (ap (f62_ok a2 h10) (ap h13 (ap h14 an)))) rfl
    · obtain rfl := some_inj h
      exact rK cfg_ok 4 [j3, ([], [jH 1 (jB x5)], []), ([], [jH 1 (jB x9)], []), j3, j3, j3] [some true, some false] [] [] [4] .ret ((f41n0E a1 a2 (.ret (-1))).2) (ap (f62_ok a1 h6) (ap (f62_ok a2 h10) (ap h13 (ap h14 an)))) rfl
  · rcases cond_cases h with ⟨h16, h⟩ | ⟨h16, h⟩
    · obtain rfl := some_inj h
      exact rK cfg_ok 5 [j3, ([], [jH 1 (jB x5)], []), ([], [jH 1 (jB x9)], []), j3, j3, j3] [some false, some true] [] [] [4] .ret ((f41n0E a1 a2 (.ret 1)).2) (ap (f62_ok a1 h6) (ap (f62_ok a2 h10) (ap h13 (ap h16 an)))) rfl
    · rcases cond_cases h with ⟨h18, h⟩ | ⟨h18, h⟩
      · obtain rfl := some_inj h
        exact rK cfg_ok 6 [j3, ([], [jH 1 (jB x5)], []), ([], [jH 1 (jB x9)], []), j3, j3, j3, j3] [some false, some false, some true] [] [] [4] .ret ((f41n0E a1 a2 (.ret (-1))).2) (ap (f62_ok a1 h6) (ap (f62_ok a2 h10) (ap h13 (ap h16 (ap h18 an))))) rfl
      · rcases cond_cases h with ⟨h20, h⟩ | ⟨h20, h⟩
        · obtain rfl := some_inj h
          exact rK cfg_ok 7 [j3, ([], [jH 1 (jB x5)], []), ([], [jH 1 (jB x9)], []), j3, j3, j3, j3, j3] [some false, some false, some false, some true] [] [] [4] .ret ((f41n0E a1 a2 (.ret 1)).2) (ap (f62_ok a1 h6) (ap (f62_ok a2 h10) (ap h13 (ap h16 (ap h18 (ap h20 an)))))) rfl
        · obtain rfl := some_inj h
          exact rE cfg_ok [j3, ([], [jH 1 (jB x5)], []), ([], [jH 1 (jB x9)], []), j3, j3, j3, j3, j3] [some false, some false, some false, some false] [] [] [4] (.ret, (f41n0E a1 a2 (.ret 0)).2) (ap (f62_ok a1 h6) (ap (f62_ok a2 h10) (ap h13 (ap h16 (ap h18 (ap h20 an)))))) rfl
noncomputable def f41 (a1 : Int) (a2 : Int) : Option Int := (f41n0 a1 a2).bind fun o => match o with
  | .ret v21 => some v21
theorem f41_ok (a1 : Int) (a2 : Int) {r : Int} (h : (f41 a1 a2) = some r) : CallS Try.prog false 41 [(jI a1), (jI a2)] [] (jI r) [] := by
  unfold f41 at h
  obtain ⟨o, ho, h⟩ := bind_cases h
  cases o with
  | ret v21 =>
    obtain rfl := some_inj h
    exact CallS.plain cfg_ok (f := Try.f41) (c := c41) (by kernel_rfl) (by kernel_rfl) (by kernel_rfl) (by kernel_rfl) ((f41n0_ok a1 a2 ho).mono fun r e => by subst e; exact ⟨.inl rfl, (jI v21), (jI v21), by kernel_rfl, by kernel_rfl, ((Wk.refl _) : Wk (jI v21) (jI v21))⟩)

noncomputable def c63 : Code := Try.f63.body.getD .skip
inductive f63n0O where
  | ret
def f63n0E (a1 : ByteArray) : f63n0O → Ex × Tr × Hp
  | .ret => (.ret, mkS [(2, (.pl (.bool (!(seq a1 a1)))))], [])
def f63n0S (a1 : ByteArray) : Tr × Hp := (initS [(jS a1)] 0 .leaf, [])
noncomputable def f63n0 (a1 : ByteArray) : Option f63n0O :=
  some .ret
theorem f63n0_ok (a1 : ByteArray) {o : f63n0O} (h : (f63n0 a1) = some o) : T Try.prog Try.f63.ntmps 0 c63 (f63n0S a1) (fun r => r = f63n0E a1 o) := by
  unfold f63n0 at h
  obtain rfl := some_inj h
  exact rE cfg_ok [j3, j3] [] [] [] [2] (.ret, (f63n0E a1 .ret).2) an rfl
noncomputable def f63 (a1 : ByteArray) : Option Bool := (f63n0 a1).bind fun o => match o with
  | .ret => some (!(seq a1 a1))
theorem f63_ok (a1 : ByteArray) {r : Bool} (h : (f63 a1) = some r) : CallS Try.prog false 63 [(jS a1)] [] (jB r) [] := by
  unfold f63 at h
  obtain ⟨o, ho, h⟩ := bind_cases h
  cases o with
  | ret =>
    obtain rfl := some_inj h
    exact CallS.plain cfg_ok (f := Try.f63) (c := c63) (by kernel_rfl) (by kernel_rfl) (by kernel_rfl) (by kernel_rfl) ((f63n0_ok a1 ho).mono fun r e => by subst e; exact ⟨.inl rfl, (.pl (.bool (!(seq a1 a1)))), (.pl (.bool (!(seq a1 a1)))), by kernel_rfl, by kernel_rfl, ((Wk.refl _) : Wk (.pl (.bool (!(seq a1 a1)))) (.pl (.bool (!(seq a1 a1)))))⟩)

noncomputable def c42 : Code := Try.f42.body.getD .skip
inductive f42n0O where
  | ret (v21 : Int)
def f42n0E (a1 : ByteArray) (a2 : ByteArray) : f42n0O → Ex × Tr × Hp
  | .ret v21 => (.ret, mkS [(4, (jI v21))], [])
def f42n0S (a1 : ByteArray) (a2 : ByteArray) : Tr × Hp := (initS [(jS a1), (jS a2)] 0 .leaf, [])
noncomputable def f42n0 (a1 : ByteArray) (a2 : ByteArray) : Option f42n0O :=
  (f63 a1).bind fun x5 =>
  (f63 a2).bind fun x9 =>
  bif x5 then
    bif x9 then
      some (.ret 0)
    else
      some (.ret (-1))
  else
    bif x9 then
      some (.ret 1)
    else
      bif (slt a1 a2) then
        some (.ret (-1))
      else
        bif (slt a1 a2 || seq a1 a2) then
          some (.ret 0)
        else
          some (.ret 1)
theorem f42n0_ok (a1 : ByteArray) (a2 : ByteArray) {o : f42n0O} (h : (f42n0 a1 a2) = some o) : T Try.prog Try.f42.ntmps 0 c42 (f42n0S a1 a2) (fun r => r = f42n0E a1 a2 o) := by
  unfold f42n0 at h
  obtain ⟨x5, h6, h⟩ := bind_cases h
  obtain ⟨x9, h10, h⟩ := bind_cases h
  rcases cond_cases h with ⟨h13, h⟩ | ⟨h13, h⟩
  · rcases cond_cases h with ⟨h14, h⟩ | ⟨h14, h⟩
    · obtain rfl := some_inj h
      exact rK cfg_ok 4 [j3, ([], [jH 1 (jB x5)], []), ([], [jH 1 (jB x9)], []), j3, j3, j3] [some true, some true] [] [] [4] .ret ((f42n0E a1 a2 (.ret 0)).2) (ap (f63_ok a1 h6) (ap (f63_ok a2 h10) (ap h13 (ap h14 an)))) rfl
    · obtain rfl := some_inj h
      exact rK cfg_ok 4 [j3, ([], [jH 1 (jB x5)], []), ([], [jH 1 (jB x9)], []), j3, j3, j3] [some true, some false] [] [] [4] .ret ((f42n0E a1 a2 (.ret (-1))).2) (ap (f63_ok a1 h6) (ap (f63_ok a2 h10) (ap h13 (ap h14 an)))) rfl
  · rcases cond_cases h with ⟨h16, h⟩ | ⟨h16, h⟩
    · obtain rfl := some_inj h
      exact rK cfg_ok 5 [j3, ([], [jH 1 (jB x5)], []), ([], [jH 1 (jB x9)], []), j3, j3, j3] [some false, some true] [] [] [4] .ret ((f42n0E a1 a2 (.ret 1)).2) (ap (f63_ok a1 h6) (ap (f63_ok a2 h10) (ap h13 (ap h16 an)))) rfl
    · rcases cond_cases h with ⟨h18, h⟩ | ⟨h18, h⟩
      · obtain rfl := some_inj h
        exact rK cfg_ok 6 [j3, ([], [jH 1 (jB x5)], []), ([], [jH 1 (jB x9)], []), j3, j3, j3, j3] [some false, some false, some true] [] [] [4] .ret ((f42n0E a1 a2 (.ret (-1))).2) (ap (f63_ok a1 h6) (ap (f63_ok a2 h10) (ap h13 (ap h16 (ap h18 an))))) rfl
      · rcases cond_cases h with ⟨h20, h⟩ | ⟨h20, h⟩
        · obtain rfl := some_inj h
          exact rE cfg_ok [j3, ([], [jH 1 (jB x5)], []), ([], [jH 1 (jB x9)], []), j3, j3, j3, j3, j3] [some false, some false, some false, some false] [] [] [4] (.ret, (f42n0E a1 a2 (.ret 0)).2) (ap (f63_ok a1 h6) (ap (f63_ok a2 h10) (ap h13 (ap h16 (ap h18 (ap (not_t h20) an)))))) rfl
        · obtain rfl := some_inj h
          exact rK cfg_ok 7 [j3, ([], [jH 1 (jB x5)], []), ([], [jH 1 (jB x9)], []), j3, j3, j3, j3, j3] [some false, some false, some false, some true] [] [] [4] .ret ((f42n0E a1 a2 (.ret 1)).2) (ap (f63_ok a1 h6) (ap (f63_ok a2 h10) (ap h13 (ap h16 (ap h18 (ap (not_f h20) an)))))) rfl
noncomputable def f42 (a1 : ByteArray) (a2 : ByteArray) : Option Int := (f42n0 a1 a2).bind fun o => match o with
  | .ret v21 => some v21
theorem f42_ok (a1 : ByteArray) (a2 : ByteArray) {r : Int} (h : (f42 a1 a2) = some r) : CallS Try.prog false 42 [(jS a1), (jS a2)] [] (jI r) [] := by
  unfold f42 at h
  obtain ⟨o, ho, h⟩ := bind_cases h
  cases o with
  | ret v21 =>
    obtain rfl := some_inj h
    exact CallS.plain cfg_ok (f := Try.f42) (c := c42) (by kernel_rfl) (by kernel_rfl) (by kernel_rfl) (by kernel_rfl) ((f42n0_ok a1 a2 ho).mono fun r e => by subst e; exact ⟨.inl rfl, (jI v21), (jI v21), by kernel_rfl, by kernel_rfl, ((Wk.refl _) : Wk (jI v21) (jI v21))⟩)

noncomputable def c40 : Code := Try.f40.body.getD .skip
inductive f40n2O where
  | exit0
  | ret (v28 : Int)
def f40n2E (bg1 : List Int) : f40n2O → Ex × Tr × Hp
  | .exit0 => ((.exit 0), mkS [(3, (jI 0))], [])
  | .ret v28 => (.ret, mkS [(2, (jI v28))], [])
def f40n2S (bg1 : List Int) (v19 : Int) : Tr × Hp := (mkS [(3, (jI 0)), (6, (.pl (.sl .any 1 (bg1.map (cInt .i64))))), (7, (jI (bg1.length : Int))), (8, (jI v19))], [])
noncomputable def f40n2 : Nat → List Int → Int → Option f40n2O
  | 0, _, _ => none
  | f + 1, bg1, v19 =>
    bif (decide (v19 < (bg1.length : Int))) then
      (at? bg1 v19).bind fun x25 =>
      bif (decide (x25 = 0)) then
        (f40n2 f bg1 (wr64 (v19 + 1)))
      else
        some (.ret x25)
    else
      some .exit0
theorem f40n2_ok : ∀ (f : Nat) (bg1 : List Int) (v19 : Int) {o : f40n2O}, (f40n2 f bg1 v19) = some o → TL Try.prog Try.f40.ntmps 0 f (cL (cL (dropC 1 (cL (dropC 2 c40))))) (f40n2S bg1 v19) (fun r => r = f40n2E bg1 o)
  | 0, _, _, o, h => by rw [f40n2] at h; cases h
  | f + 1, bg1, v19, o, h => by
    rw [f40n2] at h
    refine TL.body (K := fun s => ∃ v19 : Int, s = (f40n2S bg1 v19) ∧ (f40n2 f bg1 v19) = some o) ?_ (by rintro _ ⟨v19, rfl, hk⟩; exact f40n2_ok f _ _ hk)
    rcases cond_cases h with ⟨h21, h⟩ | ⟨h21, h⟩
    · obtain ⟨x25, h26, h⟩ := bind_cases h
      rcases cond_cases h with ⟨h27, h⟩ | ⟨h27, h⟩
      · exact rE cfg_ok [j3, ([], [(0, .idx (Int.toNat v19) ((cInt .i64) x25))], []), j3, j3] [some true, some false] [] [] [3, 6, 7, 8] (.norm, (f40n2S bg1 (wr64 (v19 + 1)))) (ap h21 (ap (at_some h26).1 (ap (at_map (cInt .i64) (at_some h26).2) (ap (not_t h27) an)))) (LoopQ.norm ⟨(wr64 (v19 + 1)), rfl, h⟩)
      · obtain rfl := some_inj h
        exact rK cfg_ok 3 [j3, ([], [(0, .idx (Int.toNat v19) ((cInt .i64) x25))], []), j3, j3] [some true, some true] [] [] [2] .ret ((f40n2E bg1 (.ret x25)).2) (ap h21 (ap (at_some h26).1 (ap (at_map (cInt .i64) (at_some h26).2) (ap (not_f h27) an)))) (LoopQ.out rfl rfl)
    · obtain rfl := some_inj h
      exact rK cfg_ok 2 [j3] [some false] [] [] [3] (.exit 0) ((f40n2E bg1 .exit0).2) (ap h21 an) (LoopQ.out rfl rfl)
noncomputable def f40n2L (bg1 : List Int) : List Int → Int → Option f40n2O
  | [], v19 =>
    some .exit0
  | x0 :: rest, v19 =>
    bif (decide (x0 = 0)) then
      (f40n2L bg1 rest (v19 + 1))
    else
      some (.ret x0)
theorem f40n2L_eq (bg1 : List Int) : ∀ (rest : List Int) (f k : Nat), bg1.drop k = rest → bg1.length ≤ maxLen → rest.length < f → f40n2 f bg1 (k : Int) = f40n2L bg1 rest (k : Int)
  | _, 0, _, _, _, hf => absurd hf (Nat.not_lt_zero _)
  | [], f + 1, k, hd, hm, hf => by
    have hk : ¬ ((k : Int) < (bg1.length : Int)) := by have := drop_nil hd; omega
    rw [f40n2, f40n2L]
    simp only [decide_eq_false hk, cond_false]
  | x0 :: rest, f + 1, k, hd, hm, hf => by
    obtain ⟨hx, hlt, hd'⟩ := drop_cons hd
    have hk : (k : Int) < (bg1.length : Int) := by omega
    have hw : wr64 ((k : Int) + 1) = (k : Int) + 1 := wr64_of (by omega) (by unfold maxLen at hm; omega)
    have ih : f40n2 f bg1 ((k : Int) + 1) = f40n2L bg1 rest ((k : Int) + 1) := f40n2L_eq bg1 rest f (k + 1) hd' hm (by simpa using hf)
    rw [f40n2, f40n2L]
    simp only [decide_eq_true hk, cond_true, at_nat, hx, Option.bind_some, hw, ih]
theorem f40n2_run (bg1 : List Int) (hm : bg1.length ≤ maxLen) : f40n2 FUEL bg1 0 = f40n2L bg1 bg1 0 := f40n2L_eq bg1 bg1 FUEL 0 List.drop_zero hm (lt_FUEL hm)
inductive f40n1O where
  | norm
  | ret (v32 : Int)
def f40n1E (bg1 : List Int) : f40n1O → Ex × Tr × Hp
  | .norm => (.norm, mkS [(3, (jI 0))], [])
  | .ret v32 => (.ret, mkS [(2, (jI v32))], [])
def f40n1S (bg1 : List Int) : Tr × Hp := (mkS [(0, (.pl (.sl .any 1 (bg1.map (cInt .i64))))), (3, (jI 0))], [])
noncomputable def f40n1 (bg1 : List Int) : Option f40n1O :=
  (f40n2 FUEL bg1 0).bind fun o29 => match o29 with
  | .exit0 => some .norm
  | .ret v31 => some (.ret v31)
theorem f40n1_ok (bg1 : List Int) {o : f40n1O} (h : (f40n1 bg1) = some o) : T Try.prog Try.f40.ntmps 0 (cL (dropC 2 c40)) (f40n1S bg1) (fun r => r = f40n1E bg1 o) := by
  unfold f40n1 at h
  refine rN cfg_ok 1 [([], [], [(1, .val (jI (bg1.length : Int)))])] [] [] [] [3, 6, 7, 8] (f40n2S bg1 0) (ap (len_cv (xs := bg1) (c := (cInt .i64))) an) ?_
  obtain ⟨o29, h30, h⟩ := bind_cases h
  cases o29 with
  | exit0 =>
    obtain rfl := some_inj h
    exact T.last' (T.bl (i := 0) (by kernel_rfl) (by kernel_rfl) (f40n2_ok FUEL bg1 0 h30)) (tds := []) (m := []) (keep := [3]) (st2 := (f40n1E bg1 .norm).2) (by kernel_rfl) an rfl
  | ret v31 =>
    obtain rfl := some_inj h
    exact T.last' (T.bl (i := 0) (by kernel_rfl) (by kernel_rfl) (f40n2_ok FUEL bg1 0 h30)) (tds := []) (m := []) (keep := [2]) (st2 := (f40n1E bg1 (.ret v31)).2) (by kernel_rfl) an rfl
inductive f40n0O where
  | ret (v36 : Int)
def f40n0E (a1 : List Int) : f40n0O → Ex × Tr × Hp
  | .ret v36 => (.ret, mkS [(2, (jI v36))], [])
def f40n0S (a1 : List Int) : Tr × Hp := (initS [(.pl (.sl .any 1 (a1.map (cInt .i64))))] 0 .leaf, [])
noncomputable def f40n0 (a1 : List Int) : Option f40n0O :=
  (f40n1 a1).bind fun o33 => match o33 with
  | .norm => some (.ret 0)
  | .ret v35 => some (.ret v35)
theorem f40n0_ok (a1 : List Int) {o : f40n0O} (h : (f40n0 a1) = some o) : T Try.prog Try.f40.ntmps 0 c40 (f40n0S a1) (fun r => r = f40n0E a1 o) := by
  unfold f40n0 at h
  refine rN cfg_ok 2 [j3, j3] [] [] [] [0, 3] (f40n1S a1) an ?_
  obtain ⟨o33, h34, h⟩ := bind_cases h
  cases o33 with
  | norm =>
    refine T.oneN (by kernel_rfl) (f40n1_ok a1 h34) (st2 := (f40n1E a1 .norm).2) rfl ?_
    obtain rfl := some_inj h
    exact rE cfg_ok [j3] [] [] [] [2] (.ret, (f40n0E a1 (.ret 0)).2) an rfl
  | ret v35 =>
    obtain rfl := some_inj h
    exact T.oneX' (by kernel_rfl) (f40n1_ok a1 h34) (tds := []) (m := []) (keep := [2]) (st2 := (f40n0E a1 (.ret v35)).2) (by kernel_rfl) an rfl rfl
noncomputable def f40 (a1 : List Int) : Option Int := (f40n0 a1).bind fun o => match o with
  | .ret v36 => some v36
theorem f40_ok (a1 : List Int) {r : Int} (h : (f40 a1) = some r) : CallS Try.prog false 40 [(.pl (.sl .any 1 (a1.map (cInt .i64))))] [] (jI r) [] := by
  unfold f40 at h
  obtain ⟨o, ho, h⟩ := bind_cases h
  cases o with
  | ret v36 =>
    obtain rfl := some_inj h
    exact CallS.plain cfg_ok (f := Try.f40) (c := c40) (by kernel_rfl) (by kernel_rfl) (by kernel_rfl) (by kernel_rfl) ((f40n0_ok a1 ho).mono fun r e => by subst e; exact ⟨.inl rfl, (jI v36), (jI v36), by kernel_rfl, by kernel_rfl, ((Wk.refl _) : Wk (jI v36) (jI v36))⟩)

noncomputable def c39 : Code := Try.f39.body.getD .skip
inductive f39n0O where
  | ret (v19 : Int)
def f39n0E (a1 : Share_) (a2 : Share_) : f39n0O → Ex × Tr × Hp
  | .ret v19 => (.ret, mkS [(4, (jI v19))], [])
def f39n0S (a1 : Share_) (a2 : Share_) : Tr × Hp := (initS [(jA Share_.cells a1), (jA Share_.cells a2)] 0 .leaf, [])
noncomputable def f39n0 (a1 : Share_) (a2 : Share_) : Option f39n0O :=
  (f41 a1.flow.Date a2.flow.Date).bind fun x11 =>
  (f42 a1.flow.Ccy a2.flow.Ccy).bind fun x13 =>
  (f42 a1.party a2.party).bind fun x15 =>
  (f40 [x11, x13, x15]).bind fun x17 =>
  some (.ret x17)
theorem f39n0_ok (a1 : Share_) (a2 : Share_) {o : f39n0O} (h : (f39n0 a1 a2) = some o) : T Try.prog Try.f39.ntmps 0 c39 (f39n0S a1 a2) (fun r => r = f39n0E a1 a2 o) := by
  unfold f39n0 at h
  obtain ⟨x11, h12, h⟩ := bind_cases h
  obtain ⟨x13, h14, h⟩ := bind_cases h
  obtain ⟨x15, h16, h⟩ := bind_cases h
  obtain ⟨x17, h18, h⟩ := bind_cases h
  obtain rfl := some_inj h
  exact rE cfg_ok [j3, ([], [jH 6 (jI x11), jH 13 (jI x13), jH 18 (jI x15), jH 20 (jI x17)], [])] [] [] [] [4] (.ret, (f39n0E a1 a2 (.ret x17)).2) (ap (same_val (e := ⟨false, 42, [(jS a1.flow.Ccy), (jS a2.flow.Ccy)], [], (jI x13), []⟩) (f := ⟨false, 42, [(jS a1.party), (jS a2.party)], [], (jI x15), []⟩) (fun k => by simp only [jL, jS, jI, jB, jA, NettingFlow.cells_eq, NettingFlow.map_eq, NettingSet.cells_eq, NettingSet.map_eq, Key_.cells_eq, Key_.map_eq, Row_.cells_eq, Row_.map_eq, List.cons.injEq, AV.pl.injEq, PV.str.injEq, PV.int.injEq, PV.bool.injEq, PV.agg.injEq, PV.sl.injEq, and_true, true_and] at k; have e0 : x13 = x15 := Option.some.inj (by rw [← h14, ← h16]; simp only [k]); exact ⟨by rw [e0], rfl⟩)) (ap (f41_ok a1.flow.Date a2.flow.Date h12) (ap (f42_ok a1.flow.Ccy a2.flow.Ccy h14) (ap (f42_ok a1.party a2.party h16) (ap (f40_ok [x11, x13, x15] h18) an))))) rfl
noncomputable def f39 (a1 : Share_) (a2 : Share_) : Option Int := (f39n0 a1 a2).bind fun o => match o with
  | .ret v19 => some v19
theorem f39_ok (a1 : Share_) (a2 : Share_) {r : Int} (h : (f39 a1 a2) = some r) : CallS Try.prog false 39 [(jA Share_.cells a1), (jA Share_.cells a2)] [] (jI r) [] := by
  unfold f39 at h
  obtain ⟨o, ho, h⟩ := bind_cases h
  cases o with
  | ret v19 =>
    obtain rfl := some_inj h
    exact CallS.plain cfg_ok (f := Try.f39) (c := c39) (by kernel_rfl) (by kernel_rfl) (by kernel_rfl) (by kernel_rfl) ((f39n0_ok a1 a2 ho).mono fun r e => by subst e; exact ⟨.inl rfl, (jI v19), (jI v19), by kernel_rfl, by kernel_rfl, ((Wk.refl _) : Wk (jI v19) (jI v19))⟩)

instance : Inhabited Share_ := ⟨(Share_.mk str_x (NettingFlow.mk 0 str_x str_x str_x str_x 0))⟩
def so38_39_good (xs : List Share_) : Prop := ∃ c : Share_ → Share_ → Int, (∀ x y, f39 x y = some (c x y)) ∧ Go.Sort.SWO (ltOf c) ∧ xs.length < 4611686018427387904
open Classical in
noncomputable def so38_39 (xs : List Share_) : Option (List Share_) := if h : so38_39_good xs then some (sortL h.choose xs) else none
theorem so38_39_val {xs : List Share_} {c : Share_ → Share_ → Int} (hc : ∀ x y, f39 x y = some (c x y)) (o : Go.Sort.SWO (ltOf c)) (hl : xs.length < 4611686018427387904) : so38_39 xs = some (sortL c xs) := by
  have h : so38_39_good xs := ⟨c, hc, o, hl⟩
  unfold so38_39
  rw [dif_pos h]
  have e : h.choose = c := funext fun x => funext fun y => Option.some.inj ((h.choose_spec.1 x y).symm.trans (hc x y))
  rw [e]
theorem so38_39_ok (xs : List Share_) {r : List Share_} (h : so38_39 xs = some r) :
    CallS Try.prog true 38 [.own 0, .pl (.fn 39)] [some (.row false 7 (xs.map Share_.cells))] (.tup []) [some (.row false 7 (r.map Share_.cells))] := by
  unfold so38_39 at h
  by_cases hc : so38_39_good xs
  · rw [dif_pos hc] at h
    obtain rfl := some_inj h
    have hs := hc.choose_spec
    exact sort_callS (cells := Share_.cells) so_lays rfl so_agg so_size (enters_of Try.func38 (by kernel_rfl) rfl) (fun _ => rfl) (fun x q hq => by
      simp only [Share_.cells, List.mem_cons, List.not_mem_nil, or_false] at hq
      rcases hq with rfl | rfl | rfl | rfl | rfl | rfl | rfl <;> rfl) _ hs.2.1 (fun x y => f39_ok _ _ (hs.1 x y)) xs hs.2.2
  · rw [dif_neg hc] at h; cases h


noncomputable def c16 : Code := Try.f16.body.getD .skip
inductive f16r1n2O where
  | exit0 (v37 : List (Key_ × Int))
def f16r1n2E (bb1 : ByteArray) (ba2 : List NettingFlow) : f16r1n2O → Ex × Tr × Hp
  | .exit0 v37 => ((.exit 0), mkS [(0, (jS bb1)), (7, (.mp 1))], [jR 6 NettingFlow.cells ba2, some (.map (v37.map (mkv (pAgg Key_.cells) (pInt .i64))))])
def f16r1n2S (bb1 : ByteArray) (ba2 : List NettingFlow) (v29 : Int) (v30 : List (Key_ × Int)) : Tr × Hp := (mkS [(0, (jS bb1)), (7, (.mp 1)), (27, (.own 0)), (28, (jI (ba2.length : Int))), (29, (jI v29))], [jR 6 NettingFlow.cells ba2, some (.map (v30.map (mkv (pAgg Key_.cells) (pInt .i64))))])
noncomputable def f16r1n2 : Nat → ByteArray → List NettingFlow → Int → List (Key_ × Int) → Option f16r1n2O
  | 0, _, _, _, _ => none
  | f + 1, bb1, ba2, v29, v30 =>
    bif (decide (v29 < (ba2.length : Int))) then
      (at? ba2 v29).bind fun x35 =>
      (f16r1n2 f bb1 ba2 (wr64 (v29 + 1)) (mPut Key_.eqb (Key_.mk x35.Date x35.To x35.Ccy) (wr64 ((mGet Key_.eqb 0 (Key_.mk x35.Date x35.To x35.Ccy) (mPut Key_.eqb (Key_.mk x35.Date x35.From x35.Ccy) (wr64 ((mGet Key_.eqb 0 (Key_.mk x35.Date x35.From x35.Ccy) v30) - x35.Amount)) v30)) + x35.Amount)) (mPut Key_.eqb (Key_.mk x35.Date x35.From x35.Ccy) (wr64 ((mGet Key_.eqb 0 (Key_.mk x35.Date x35.From x35.Ccy) v30) - x35.Amount)) v30)))
    else
      some (.exit0 v30)
theorem f16r1n2_ok : ∀ (f : Nat) (bb1 : ByteArray) (ba2 : List NettingFlow) (v29 : Int) (v30 : List (Key_ × Int)) {o : f16r1n2O}, (f16r1n2 f bb1 ba2 v29 v30) = some o → TL Try.prog Try.f16.ntmps 1 f (cL (cL (dropC 1 (cL (dropC 4 c16))))) (f16r1n2S bb1 ba2 v29 v30) (fun r => r = f16r1n2E bb1 ba2 o)
  | 0, _, _, _, _, o, h => by rw [f16r1n2] at h; cases h
  | f + 1, bb1, ba2, v29, v30, o, h => by
    rw [f16r1n2] at h
    refine TL.body (K := fun s => ∃ v29 : Int, ∃ v30 : List (Key_ × Int), s = (f16r1n2S bb1 ba2 v29 v30) ∧ (f16r1n2 f bb1 ba2 v29 v30) = some o) ?_ (by rintro _ ⟨v29, v30, rfl, hk⟩; exact f16r1n2_ok f _ _ _ _ hk)
    rcases cond_cases h with ⟨h32, h⟩ | ⟨h32, h⟩
    · obtain ⟨x35, h36, h⟩ := bind_cases h
      exact rE cfg_ok [j3, ([], [(0, .at_ (Int.toNat v29)), (1, .idx 0 (NettingFlow.cells x35))], []), ([], [(8, .look ((pInt .i64) (mGet Key_.eqb 0 (Key_.mk x35.Date x35.From x35.Ccy) v30)) (mHas Key_.eqb (Key_.mk x35.Date x35.From x35.Ccy) v30)), (12, .ment ((pInt .i64) (mGet Key_.eqb 0 (Key_.mk x35.Date x35.From x35.Ccy) v30)) (mIdx Key_.eqb (Key_.mk x35.Date x35.From x35.Ccy) v30) ((mEns Key_.eqb 0 (Key_.mk x35.Date x35.From x35.Ccy) v30).map (mkv (pAgg Key_.cells) (pInt .i64)))), (14, .mst (mIdx Key_.eqb (Key_.mk x35.Date x35.From x35.Ccy) v30) ((pAgg Key_.cells) (Key_.mk x35.Date x35.From x35.Ccy)) ((pInt .i64) (mGet Key_.eqb 0 (Key_.mk x35.Date x35.From x35.Ccy) v30)))], [(14, .map 1 ((mPut Key_.eqb (Key_.mk x35.Date x35.From x35.Ccy) (wr64 ((mGet Key_.eqb 0 (Key_.mk x35.Date x35.From x35.Ccy) v30) - x35.Amount)) v30).map (mkv (pAgg Key_.cells) (pInt .i64))))]), ([], [(8, .look ((pInt .i64) (mGet Key_.eqb 0 (Key_.mk x35.Date x35.To x35.Ccy) (mPut Key_.eqb (Key_.mk x35.Date x35.From x35.Ccy) (wr64 ((mGet Key_.eqb 0 (Key_.mk x35.Date x35.From x35.Ccy) v30) - x35.Amount)) v30))) (mHas Key_.eqb (Key_.mk x35.Date x35.To x35.Ccy) (mPut Key_.eqb (Key_.mk x35.Date x35.From x35.Ccy) (wr64 ((mGet Key_.eqb 0 (Key_.mk x35.Date x35.From x35.Ccy) v30) - x35.Amount)) v30))), (12, .ment ((pInt .i64) (mGet Key_.eqb 0 (Key_.mk x35.Date x35.To x35.Ccy) (mPut Key_.eqb (Key_.mk x35.Date x35.From x35.Ccy) (wr64 ((mGet Key_.eqb 0 (Key_.mk x35.Date x35.From x35.Ccy) v30) - x35.Amount)) v30))) (mIdx Key_.eqb (Key_.mk x35.Date x35.To x35.Ccy) (mPut Key_.eqb (Key_.mk x35.Date x35.From x35.Ccy) (wr64 ((mGet Key_.eqb 0 (Key_.mk x35.Date x35.From x35.Ccy) v30) - x35.Amount)) v30)) ((mEns Key_.eqb 0 (Key_.mk x35.Date x35.To x35.Ccy) (mPut Key_.eqb (Key_.mk x35.Date x35.From x35.Ccy) (wr64 ((mGet Key_.eqb 0 (Key_.mk x35.Date x35.From x35.Ccy) v30) - x35.Amount)) v30)).map (mkv (pAgg Key_.cells) (pInt .i64)))), (14, .mst (mIdx Key_.eqb (Key_.mk x35.Date x35.To x35.Ccy) (mPut Key_.eqb (Key_.mk x35.Date x35.From x35.Ccy) (wr64 ((mGet Key_.eqb 0 (Key_.mk x35.Date x35.From x35.Ccy) v30) - x35.Amount)) v30)) ((pAgg Key_.cells) (Key_.mk x35.Date x35.To x35.Ccy)) ((pInt .i64) (mGet Key_.eqb 0 (Key_.mk x35.Date x35.To x35.Ccy) (mPut Key_.eqb (Key_.mk x35.Date x35.From x35.Ccy) (wr64 ((mGet Key_.eqb 0 (Key_.mk x35.Date x35.From x35.Ccy) v30) - x35.Amount)) v30))))], [(14, .map 1 ((mPut Key_.eqb (Key_.mk x35.Date x35.To x35.Ccy) (wr64 ((mGet Key_.eqb 0 (Key_.mk x35.Date x35.To x35.Ccy) (mPut Key_.eqb (Key_.mk x35.Date x35.From x35.Ccy) (wr64 ((mGet Key_.eqb 0 (Key_.mk x35.Date x35.From x35.Ccy) v30) - x35.Amount)) v30)) + x35.Amount)) (mPut Key_.eqb (Key_.mk x35.Date x35.From x35.Ccy) (wr64 ((mGet Key_.eqb 0 (Key_.mk x35.Date x35.From x35.Ccy) v30) - x35.Amount)) v30)).map (mkv (pAgg Key_.cells) (pInt .i64))))]), j3] [some true] [] [1] [0, 7, 27, 28, 29] (.norm, (f16r1n2S bb1 ba2 (wr64 (v29 + 1)) (mPut Key_.eqb (Key_.mk x35.Date x35.To x35.Ccy) (wr64 ((mGet Key_.eqb 0 (Key_.mk x35.Date x35.To x35.Ccy) (mPut Key_.eqb (Key_.mk x35.Date x35.From x35.Ccy) (wr64 ((mGet Key_.eqb 0 (Key_.mk x35.Date x35.From x35.Ccy) v30) - x35.Amount)) v30)) + x35.Amount)) (mPut Key_.eqb (Key_.mk x35.Date x35.From x35.Ccy) (wr64 ((mGet Key_.eqb 0 (Key_.mk x35.Date x35.From x35.Ccy) v30) - x35.Amount)) v30)))) (ap h32 (ap (at_some h36).1 (ap (lt_map NettingFlow.cells (at_some h36).2) (ap (at_map NettingFlow.cells (at_some h36).2) (ap (look_map (vp := (pInt .i64)) (e := 3) key_62 0 (by kernel_rfl) (Key_.mk x35.Date x35.From x35.Ccy) v30) (ap (ment_map (vp := (pInt .i64)) (e := 3) key_62 0 (by kernel_rfl) (Key_.mk x35.Date x35.From x35.Ccy) v30) (ap (rfl : ((mIdx Key_.eqb (Key_.mk x35.Date x35.From x35.Ccy) v30) : Int) = (((mIdx Key_.eqb (Key_.mk x35.Date x35.From x35.Ccy) v30) : Nat) : Int)) (ap (mst_at (vp := (pInt .i64)) key_62 0 (Key_.mk x35.Date x35.From x35.Ccy) v30) (ap (mst_put (vp := (pInt .i64)) key_62 0 (wr64 ((mGet Key_.eqb 0 (Key_.mk x35.Date x35.From x35.Ccy) v30) - x35.Amount)) (Key_.mk x35.Date x35.From x35.Ccy) v30) (ap (look_map (vp := (pInt .i64)) (e := 3) key_62 0 (by kernel_rfl) (Key_.mk x35.Date x35.To x35.Ccy) (mPut Key_.eqb (Key_.mk x35.Date x35.From x35.Ccy) (wr64 ((mGet Key_.eqb 0 (Key_.mk x35.Date x35.From x35.Ccy) v30) - x35.Amount)) v30)) (ap (ment_map (vp := (pInt .i64)) (e := 3) key_62 0 (by kernel_rfl) (Key_.mk x35.Date x35.To x35.Ccy) (mPut Key_.eqb (Key_.mk x35.Date x35.From x35.Ccy) (wr64 ((mGet Key_.eqb 0 (Key_.mk x35.Date x35.From x35.Ccy) v30) - x35.Amount)) v30)) (ap (rfl : ((mIdx Key_.eqb (Key_.mk x35.Date x35.To x35.Ccy) (mPut Key_.eqb (Key_.mk x35.Date x35.From x35.Ccy) (wr64 ((mGet Key_.eqb 0 (Key_.mk x35.Date x35.From x35.Ccy) v30) - x35.Amount)) v30)) : Int) = (((mIdx Key_.eqb (Key_.mk x35.Date x35.To x35.Ccy) (mPut Key_.eqb (Key_.mk x35.Date x35.From x35.Ccy) (wr64 ((mGet Key_.eqb 0 (Key_.mk x35.Date x35.From x35.Ccy) v30) - x35.Amount)) v30)) : Nat) : Int)) (ap (mst_at (vp := (pInt .i64)) key_62 0 (Key_.mk x35.Date x35.To x35.Ccy) (mPut Key_.eqb (Key_.mk x35.Date x35.From x35.Ccy) (wr64 ((mGet Key_.eqb 0 (Key_.mk x35.Date x35.From x35.Ccy) v30) - x35.Amount)) v30)) (ap (mst_put (vp := (pInt .i64)) key_62 0 (wr64 ((mGet Key_.eqb 0 (Key_.mk x35.Date x35.To x35.Ccy) (mPut Key_.eqb (Key_.mk x35.Date x35.From x35.Ccy) (wr64 ((mGet Key_.eqb 0 (Key_.mk x35.Date x35.From x35.Ccy) v30) - x35.Amount)) v30)) + x35.Amount)) (Key_.mk x35.Date x35.To x35.Ccy) (mPut Key_.eqb (Key_.mk x35.Date x35.From x35.Ccy) (wr64 ((mGet Key_.eqb 0 (Key_.mk x35.Date x35.From x35.Ccy) v30) - x35.Amount)) v30)) an)))))))))))))) (LoopQ.norm ⟨(wr64 (v29 + 1)), (mPut Key_.eqb (Key_.mk x35.Date x35.To x35.Ccy) (wr64 ((mGet Key_.eqb 0 (Key_.mk x35.Date x35.To x35.Ccy) (mPut Key_.eqb (Key_.mk x35.Date x35.From x35.Ccy) (wr64 ((mGet Key_.eqb 0 (Key_.mk x35.Date x35.From x35.Ccy) v30) - x35.Amount)) v30)) + x35.Amount)) (mPut Key_.eqb (Key_.mk x35.Date x35.From x35.Ccy) (wr64 ((mGet Key_.eqb 0 (Key_.mk x35.Date x35.From x35.Ccy) v30) - x35.Amount)) v30)), rfl, h⟩)
    · obtain rfl := some_inj h
      exact rK cfg_ok 2 [j3] [some false] [] [1] [0, 7] (.exit 0) ((f16r1n2E bb1 ba2 (.exit0 v30)).2) (ap h32 an) (LoopQ.out rfl rfl)
noncomputable def f16r1n2L (bb1 : ByteArray) (ba2 : List NettingFlow) : List NettingFlow → Int → (List (Key_ × Int)) → Option f16r1n2O
  | [], v29, v30 =>
    some (.exit0 v30)
  | x0 :: rest, v29, v30 =>
    (f16r1n2L bb1 ba2 rest (v29 + 1) (mPut Key_.eqb (Key_.mk x0.Date x0.To x0.Ccy) (wr64 ((mGet Key_.eqb 0 (Key_.mk x0.Date x0.To x0.Ccy) (mPut Key_.eqb (Key_.mk x0.Date x0.From x0.Ccy) (wr64 ((mGet Key_.eqb 0 (Key_.mk x0.Date x0.From x0.Ccy) v30) - x0.Amount)) v30)) + x0.Amount)) (mPut Key_.eqb (Key_.mk x0.Date x0.From x0.Ccy) (wr64 ((mGet Key_.eqb 0 (Key_.mk x0.Date x0.From x0.Ccy) v30) - x0.Amount)) v30)))
theorem f16r1n2L_eq (bb1 : ByteArray) (ba2 : List NettingFlow) : ∀ (rest : List NettingFlow) (f k : Nat) (v30 : List (Key_ × Int)), ba2.drop k = rest → ba2.length ≤ maxLen → rest.length < f → f16r1n2 f bb1 ba2 (k : Int) v30 = f16r1n2L bb1 ba2 rest (k : Int) v30
  | _, 0, _, _, _, _, hf => absurd hf (Nat.not_lt_zero _)
  | [], f + 1, k, v30, hd, hm, hf => by
    have hk : ¬ ((k : Int) < (ba2.length : Int)) := by have := drop_nil hd; omega
    rw [f16r1n2, f16r1n2L]
    simp only [decide_eq_false hk, cond_false]
  | x0 :: rest, f + 1, k, v30, hd, hm, hf => by
    obtain ⟨hx, hlt, hd'⟩ := drop_cons hd
    have hk : (k : Int) < (ba2.length : Int) := by omega
    have hw : wr64 ((k : Int) + 1) = (k : Int) + 1 := wr64_of (by omega) (by unfold maxLen at hm; omega)
    have ih : ∀ (v30 : List (Key_ × Int)), f16r1n2 f bb1 ba2 ((k : Int) + 1) v30 = f16r1n2L bb1 ba2 rest ((k : Int) + 1) v30 := fun v30 => f16r1n2L_eq bb1 ba2 rest f (k + 1) v30 hd' hm (by simpa using hf)
    rw [f16r1n2, f16r1n2L]
    simp only [decide_eq_true hk, cond_true, at_nat, hx, Option.bind_some, hw, ih]
theorem f16r1n2_run (bb1 : ByteArray) (ba2 : List NettingFlow) (v30 : List (Key_ × Int)) (hm : ba2.length ≤ maxLen) : f16r1n2 FUEL bb1 ba2 0 v30 = f16r1n2L bb1 ba2 ba2 0 v30 := f16r1n2L_eq bb1 ba2 ba2 FUEL 0 v30 List.drop_zero hm (lt_FUEL hm)
inductive f16r1n1O where
  | norm (v41 : List (Key_ × Int))
def f16r1n1E (bb1 : ByteArray) (ba2 : List NettingFlow) : f16r1n1O → Ex × Tr × Hp
  | .norm v41 => (.norm, mkS [(0, (jS bb1)), (7, (.mp 1))], [jR 6 NettingFlow.cells ba2, some (.map (v41.map (mkv (pAgg Key_.cells) (pInt .i64))))])
def f16r1n1S (bb1 : ByteArray) (ba2 : List NettingFlow) : Tr × Hp := (mkS [(0, (jS bb1)), (1, (.own 0)), (7, (.mp 1))], [jR 6 NettingFlow.cells ba2, some (.map ([].map (mkv (pAgg Key_.cells) (pInt .i64))))])
noncomputable def f16r1n1 (bb1 : ByteArray) (ba2 : List NettingFlow) : Option f16r1n1O :=
  (f16r1n2 FUEL bb1 ba2 0 []).bind fun o38 => match o38 with
  | .exit0 v40 => some (.norm v40)
theorem f16r1n1_ok (bb1 : ByteArray) (ba2 : List NettingFlow) {o : f16r1n1O} (h : (f16r1n1 bb1 ba2) = some o) : T Try.prog Try.f16.ntmps 1 (cL (dropC 4 c16)) (f16r1n1S bb1 ba2) (fun r => r = f16r1n1E bb1 ba2 o) := by
  unfold f16r1n1 at h
  refine rN cfg_ok 1 [([], [], [(1, .val (jI (ba2.length : Int)))])] [] [] [1] [0, 7, 27, 28, 29] (f16r1n2S bb1 ba2 0 []) (ap (len_cv (xs := ba2) (c := NettingFlow.cells)) an) ?_
  obtain ⟨o38, h39, h⟩ := bind_cases h
  cases o38 with
  | exit0 v40 =>
    obtain rfl := some_inj h
    exact T.last' (T.bl (i := 0) (by kernel_rfl) (by kernel_rfl) (f16r1n2_ok FUEL bb1 ba2 0 [] h39)) (tds := []) (m := [1]) (keep := [0, 7]) (st2 := (f16r1n1E bb1 ba2 (.norm v40)).2) (by kernel_rfl) an rfl
inductive f16r1n4O where
  | exit2 (v90 : List Share_)
  | ret
def f16r1n4E (bb1 : ByteArray) (ba2 : List NettingFlow) (bf3 : List (Key_ × Int)) : f16r1n4O → Ex × Tr × Hp
  | .exit2 v90 => ((.exit 2), mkS [(10, (.own 1))], [jR 6 NettingFlow.cells ba2, jR 7 Share_.cells v90])
  | .ret => (.ret, mkS [(4, (.pl (.sl .nil 0 []))), (5, (jI 14))], [jR 6 NettingFlow.cells ba2])
def f16r1n4S (bb1 : ByteArray) (ba2 : List NettingFlow) (bf3 : List (Key_ × Int)) (v74 : List Share_) (sn0 : List Nat) : Tr × Hp := (mkS [(0, (jS bb1)), (10, (.own 1)), (63, (.it 2))], [jR 6 NettingFlow.cells ba2, jR 7 Share_.cells v74, some (.iter 3 (bf3.map (mkv (pAgg Key_.cells) (pInt .i64))).length sn0), some (.map (bf3.map (mkv (pAgg Key_.cells) (pInt .i64))))])
noncomputable def f16r1n4 (bb1 : ByteArray) (ba2 : List NettingFlow) (bf3 : List (Key_ × Int)) : List (Key_ × Int) → (List Share_) → Option f16r1n4O
  | [], v74 =>
    some (.exit2 v74)
  | x76 :: rest, v74 =>
    bif (seq x76.1.set bb1) then
      (f16r1n4 bb1 ba2 bf3 rest v74)
    else
      bif (decide (1125899906842624 < (mxI x76.2 (wr64 (0 - x76.2))))) then
        some .ret
      else
        (f37 (Key_.mk x76.1.date str_x x76.1.ccy) bb1 x76.1.set x76.2).bind fun x86 =>
        bif x86.2 then
          req (fit (v74.length + 1) 96) <|
          (f16r1n4 bb1 ba2 bf3 rest (v74 ++ [(Share_.mk x76.1.set x86.1)]))
        else
          (f16r1n4 bb1 ba2 bf3 rest v74)
theorem f16r1n4_ok (bb1 : ByteArray) (ba2 : List NettingFlow) (bf3 : List (Key_ × Int)) : ∀ (f : Nat) (sn0 rem : List Nat) (v74 : List Share_) {Q : f16r1n4O → Prop}, Rem bf3.length sn0 rem → rem.length < f → (∀ p, p.Perm rem → ∃ o, f16r1n4 bb1 ba2 bf3 (ords bf3 p) v74 = some o ∧ Q o) → TL Try.prog Try.f16.ntmps 1 f (cL (cL (dropC 1 (cL (dropC 1 (dropC 1 (dropC 4 c16))))))) (f16r1n4S bb1 ba2 bf3 v74 sn0) (fun r => ∃ o, Q o ∧ r = f16r1n4E bb1 ba2 bf3 o)
  | 0, _, _, _, _, _, hf, _ => absurd hf (Nat.not_lt_zero _)
  | f + 1, sn0, rem, v74, Q, hR, hf, H => by
    refine TL.bodyQ (K := fun s => ∃ (sn0 rem : List Nat) (v74 : List Share_), s = f16r1n4S bb1 ba2 bf3 v74 sn0 ∧ Rem bf3.length sn0 rem ∧ rem.length < f ∧ (∀ p, p.Perm rem → ∃ o, f16r1n4 bb1 ba2 bf3 (ords bf3 p) v74 = some o ∧ Q o)) ?_ (by rintro _ ⟨sn0, rem, v74, rfl, h1, h2, h3⟩; exact f16r1n4_ok bb1 ba2 bf3 f sn0 rem v74 h1 h2 h3)
    refine T.oneNext cfg_ok (x := .tmp 63) (t := 64) (tb := 65) (i := 2) (o := 3) (m := (bf3.map (mkv (pAgg Key_.cells) (pInt .i64))).length) (seen := sn0) (kvs := (bf3.map (mkv (pAgg Key_.cells) (pInt .i64)))) (by kernel_rfl) (by kernel_rfl) (by kernel_rfl) (by kernel_rfl) (by kernel_rfl) (by kernel_rfl) rfl (fun hs => ?_) (fun j75 k v hj hs hx => ?_)
    · obtain rfl := hR.none (by simpa using hs)
      obtain ⟨o, h0, hq⟩ := H [] (List.Perm.refl _)
      have h : f16r1n4 bb1 ba2 bf3 [] v74 = some o := h0
      rw [f16r1n4] at h
      obtain rfl := some_inj h
      exact rK cfg_ok 1 [] [none] [] [1] [10] (.exit 2) ((f16r1n4E bb1 ba2 bf3 (.exit2 v74)).2) an (LoopQ2.out ⟨_, hq, rfl⟩ rfl)
    · obtain ⟨x76, h77, rfl, rfl⟩ := mkv_at hx
      obtain ⟨hR2, hlen, hP⟩ := hR.step (j := j75) (by simpa using hj) hs
      have H2 : ∀ p, p.Perm (rem.erase j75) → ∃ o, f16r1n4 bb1 ba2 bf3 (x76 :: ords bf3 p) v74 = some o ∧ Q o := fun p hp => by obtain ⟨o, h, hq⟩ := H _ (hP p hp); rw [ords_cons h77] at h; exact ⟨o, h, hq⟩
      obtain ⟨o, h, hq⟩ := H2 _ (List.Perm.refl _)
      rw [f16r1n4] at h
      rcases cond_cases h with ⟨h84, h⟩ | ⟨h84, h⟩
      · exact rE cfg_ok [([], [(0, .entr j75 ((pAgg Key_.cells) x76.1) ((pInt .i64) x76.2))], []), j3] [none, some true] [] [1, 2, 3] [0, 10, 63] (.norm, (f16r1n4S bb1 ba2 bf3 v74 (sn0 ++ [j75]))) (ap (last_app (seen := sn0) (j := j75)) (ap (rfl : (bf3.map (mkv (pAgg Key_.cells) (pInt .i64))).length = (bf3.map (mkv (pAgg Key_.cells) (pInt .i64))).length) (ap (at_mkv (kp := (pAgg Key_.cells)) (vp := (pInt .i64)) h77) (ap h84 an)))) (LoopQ2.norm ⟨sn0 ++ [j75], rem.erase j75, v74, rfl, hR2, by omega, fun p hp => by obtain ⟨o, h, hq⟩ := H2 p hp; refine ⟨o, ?_, hq⟩; rw [f16r1n4] at h; simp only [h84, cond_true, cond_false, Option.bind_some, req] at h; exact h⟩)
      · rcases cond_cases h with ⟨h85, h⟩ | ⟨h85, h⟩
        · obtain rfl := some_inj h
          exact rE cfg_ok [([], [(0, .entr j75 ((pAgg Key_.cells) x76.1) ((pInt .i64) x76.2))], []), j3, j3, j3] [none, some false, some true] [] [] [4, 5] (.ret, (f16r1n4E bb1 ba2 bf3 .ret).2) (ap (last_app (seen := sn0) (j := j75)) (ap (rfl : (bf3.map (mkv (pAgg Key_.cells) (pInt .i64))).length = (bf3.map (mkv (pAgg Key_.cells) (pInt .i64))).length) (ap (at_mkv (kp := (pAgg Key_.cells)) (vp := (pInt .i64)) h77) (ap h84 (ap h85 an))))) (LoopQ2.out ⟨_, hq, rfl⟩ rfl)
        · obtain ⟨x86, h87, h⟩ := bind_cases h
          rcases cond_cases h with ⟨h88, h⟩ | ⟨h88, h⟩
          · obtain ⟨h89, h⟩ := req_cases h
            exact rE cfg_ok [([], [(0, .entr j75 ((pAgg Key_.cells) x76.1) ((pInt .i64) x76.2))], []), j3, j3, ([], [jH 9 (.tup [(jA NettingFlow.cells x86.1), (jB x86.2)])], []), j3, ([], [(6, .fits)], [(6, .row 7 ((v74 ++ [(Share_.mk x76.1.set x86.1)]).map Share_.cells))])] [none, some false, some false, some true] [] [7, 2, 3] [0, 10, 63] (.norm, (f16r1n4S bb1 ba2 bf3 (v74 ++ [(Share_.mk x76.1.set x86.1)]) (sn0 ++ [j75]))) (ap (last_app (seen := sn0) (j := j75)) (ap (rfl : (bf3.map (mkv (pAgg Key_.cells) (pInt .i64))).length = (bf3.map (mkv (pAgg Key_.cells) (pInt .i64))).length) (ap (at_mkv (kp := (pAgg Key_.cells)) (vp := (pInt .i64)) h77) (ap h84 (ap h85 (ap (f37_ok (Key_.mk x76.1.date str_x x76.1.ccy) bb1 x76.1.set x76.2 h87) (ap h88 (ap (fit_map (te := ti71) (xs := v74) (n := 1) (c := Share_.cells) h89 rfl) (ap (app_cv (xs := v74) (ys := [(Share_.mk x76.1.set x86.1)]) (c := Share_.cells)) an))))))))) (LoopQ2.norm ⟨sn0 ++ [j75], rem.erase j75, (v74 ++ [(Share_.mk x76.1.set x86.1)]), rfl, hR2, by omega, fun p hp => by obtain ⟨o, h, hq⟩ := H2 p hp; refine ⟨o, ?_, hq⟩; rw [f16r1n4] at h; simp only [h84, h85, h87, h88, h89, cond_true, cond_false, Option.bind_some, req] at h; exact h⟩)
          · exact rE cfg_ok [([], [(0, .entr j75 ((pAgg Key_.cells) x76.1) ((pInt .i64) x76.2))], []), j3, j3, ([], [jH 9 (.tup [(jA NettingFlow.cells x86.1), (jB x86.2)])], []), j3] [none, some false, some false, some false] [] [1, 2, 3] [0, 10, 63] (.norm, (f16r1n4S bb1 ba2 bf3 v74 (sn0 ++ [j75]))) (ap (last_app (seen := sn0) (j := j75)) (ap (rfl : (bf3.map (mkv (pAgg Key_.cells) (pInt .i64))).length = (bf3.map (mkv (pAgg Key_.cells) (pInt .i64))).length) (ap (at_mkv (kp := (pAgg Key_.cells)) (vp := (pInt .i64)) h77) (ap h84 (ap h85 (ap (f37_ok (Key_.mk x76.1.date str_x x76.1.ccy) bb1 x76.1.set x76.2 h87) (ap h88 an))))))) (LoopQ2.norm ⟨sn0 ++ [j75], rem.erase j75, v74, rfl, hR2, by omega, fun p hp => by obtain ⟨o, h, hq⟩ := H2 p hp; refine ⟨o, ?_, hq⟩; rw [f16r1n4] at h; simp only [h84, h85, h87, h88, cond_true, cond_false, Option.bind_some, req] at h; exact h⟩)
inductive f16r1n3O where
  | norm (v94 : List Share_)
  | ret
def f16r1n3E (bb1 : ByteArray) (ba2 : List NettingFlow) (bf3 : List (Key_ × Int)) : f16r1n3O → Ex × Tr × Hp
  | .norm v94 => (.norm, mkS [(10, (.own 1))], [jR 6 NettingFlow.cells ba2, jR 7 Share_.cells v94])
  | .ret => (.ret, mkS [(4, (.pl (.sl .nil 0 []))), (5, (jI 14))], [jR 6 NettingFlow.cells ba2])
def f16r1n3S (bb1 : ByteArray) (ba2 : List NettingFlow) (bf3 : List (Key_ × Int)) : Tr × Hp := (mkS [(0, (jS bb1)), (7, (.mp 1)), (10, (.pl (.sl .nil 0 [])))], [jR 6 NettingFlow.cells ba2, some (.map (bf3.map (mkv (pAgg Key_.cells) (pInt .i64))))])
noncomputable def f16r1n3 (bb1 : ByteArray) (ba2 : List NettingFlow) (bf3 : List (Key_ × Int)) (p : List (Key_ × Int)) : Option f16r1n3O :=
  (f16r1n4 bb1 ba2 bf3 p []).bind fun o91 => match o91 with
  | .exit2 v93 => some (.norm v93)
  | .ret => some .ret
theorem f16r1n3_ok (bb1 : ByteArray) (ba2 : List NettingFlow) (bf3 : List (Key_ × Int)) {Q : f16r1n3O → Prop} (H : ∀ p, p.Perm bf3 → ∃ o, f16r1n3 bb1 ba2 bf3 p = some o ∧ Q o) : T Try.prog Try.f16.ntmps 1 (cL (dropC 1 (dropC 1 (dropC 4 c16)))) (f16r1n3S bb1 ba2 bf3) (fun r => ∃ o, Q o ∧ r = f16r1n3E bb1 ba2 bf3 o) := by
  refine rN cfg_ok 1 [j3] [] [.mat 10 7] [3, 2, 1] [0, 10, 63] (f16r1n4S bb1 ba2 bf3 [] []) an ?_
  refine T.lastQ (T.blQ (i := 2) (by kernel_rfl) (by kernel_rfl) (f16r1n4_ok bb1 ba2 bf3 _ [] (List.range bf3.length) [] (Rem.start _) (Nat.lt_succ_self _) (Q := fun y => ∃ o, (match y with | .exit2 v93 => some (.norm v93) | .ret => some .ret) = some o ∧ Q o) (fun p hp => by obtain ⟨o, h, hq⟩ := H _ (ords_perm hp); unfold f16r1n3 at h; obtain ⟨y, hy, h⟩ := bind_ex h; exact ⟨y, hy, o, h, hq⟩))) ?_
  rintro y ⟨o, h, hq⟩
  cases y with
  | exit2 v93 =>
    obtain rfl := some_inj h
    exact Tidy.of [] [1] [10] ((f16r1n3E bb1 ba2 bf3 (.norm v93)).2) (by kernel_rfl) an ⟨_, hq, rfl⟩
  | ret =>
    obtain rfl := some_inj h
    exact Tidy.of [] [] [4, 5] ((f16r1n3E bb1 ba2 bf3 .ret).2) (by kernel_rfl) an ⟨_, hq, rfl⟩
inductive f16r1n6O where
  | exit4 (v130 : List NettingFlow)
def f16r1n6E (bh2 : List Share_) (ba1 : List NettingFlow) : f16r1n6O → Ex × Tr × Hp
  | .exit4 v130 => ((.exit 4), mkS [(15, (.own 1))], [jR 6 NettingFlow.cells ba1, jR 6 NettingFlow.cells v130])
def f16r1n6S (bh2 : List Share_) (ba1 : List NettingFlow) (v120 : Int) (v121 : List NettingFlow) : Tr × Hp := (mkS [(15, (.own 1)), (104, (.own 2)), (105, (jI (bh2.length : Int))), (106, (jI v120))], [jR 6 NettingFlow.cells ba1, jR 6 NettingFlow.cells v121, jR 7 Share_.cells bh2])
noncomputable def f16r1n6 : Nat → List Share_ → List NettingFlow → Int → List NettingFlow → Option f16r1n6O
  | 0, _, _, _, _ => none
  | f + 1, bh2, ba1, v120, v121 =>
    bif (decide (v120 < (bh2.length : Int))) then
      (at? bh2 v120).bind fun x127 =>
      req (fit (v121.length + 1) 80) <|
      (f16r1n6 f bh2 ba1 (wr64 (v120 + 1)) (v121 ++ [x127.flow]))
    else
      some (.exit4 v121)
theorem f16r1n6_ok : ∀ (f : Nat) (bh2 : List Share_) (ba1 : List NettingFlow) (v120 : Int) (v121 : List NettingFlow) {o : f16r1n6O}, (f16r1n6 f bh2 ba1 v120 v121) = some o → TL Try.prog Try.f16.ntmps 1 f (cL (cL (dropC 1 (cL (dropC 3 (dropC 1 (dropC 1 (dropC 1 (dropC 4 c16))))))))) (f16r1n6S bh2 ba1 v120 v121) (fun r => r = f16r1n6E bh2 ba1 o)
  | 0, _, _, _, _, o, h => by rw [f16r1n6] at h; cases h
  | f + 1, bh2, ba1, v120, v121, o, h => by
    rw [f16r1n6] at h
    refine TL.body (K := fun s => ∃ v120 : Int, ∃ v121 : List NettingFlow, s = (f16r1n6S bh2 ba1 v120 v121) ∧ (f16r1n6 f bh2 ba1 v120 v121) = some o) ?_ (by rintro _ ⟨v120, v121, rfl, hk⟩; exact f16r1n6_ok f _ _ _ _ hk)
    rcases cond_cases h with ⟨h123, h⟩ | ⟨h123, h⟩
    · obtain ⟨x127, h128, h⟩ := bind_cases h
      obtain ⟨h129, h⟩ := req_cases h
      exact rE cfg_ok [j3, ([], [(0, .at_ (Int.toNat v120)), (1, .idx 0 (Share_.cells x127))], []), ([], [(4, .fits)], [(4, .row 5 ((v121 ++ [x127.flow]).map NettingFlow.cells))]), j3] [some true] [] [5, 2] [15, 104, 105, 106] (.norm, (f16r1n6S bh2 ba1 (wr64 (v120 + 1)) (v121 ++ [x127.flow]))) (ap h123 (ap (at_some h128).1 (ap (lt_map Share_.cells (at_some h128).2) (ap (at_map Share_.cells (at_some h128).2) (ap (fit_map (te := ti32) (xs := v121) (n := 1) (c := NettingFlow.cells) h129 rfl) (ap (app_cv (xs := v121) (ys := [x127.flow]) (c := NettingFlow.cells)) an)))))) (LoopQ.norm ⟨(wr64 (v120 + 1)), (v121 ++ [x127.flow]), rfl, h⟩)
    · obtain rfl := some_inj h
      exact rK cfg_ok 2 [j3] [some false] [] [1] [15] (.exit 4) ((f16r1n6E bh2 ba1 (.exit4 v121)).2) (ap h123 an) (LoopQ.out rfl rfl)
noncomputable def f16r1n6L (bh2 : List Share_) (ba1 : List NettingFlow) : List Share_ → Int → (List NettingFlow) → Option f16r1n6O
  | [], v120, v121 =>
    some (.exit4 v121)
  | x0 :: rest, v120, v121 =>
    req (fit (v121.length + 1) 80) <|
    (f16r1n6L bh2 ba1 rest (v120 + 1) (v121 ++ [x0.flow]))
theorem f16r1n6L_eq (bh2 : List Share_) (ba1 : List NettingFlow) : ∀ (rest : List Share_) (f k : Nat) (v121 : List NettingFlow), bh2.drop k = rest → bh2.length ≤ maxLen → rest.length < f → f16r1n6 f bh2 ba1 (k : Int) v121 = f16r1n6L bh2 ba1 rest (k : Int) v121
  | _, 0, _, _, _, _, hf => absurd hf (Nat.not_lt_zero _)
  | [], f + 1, k, v121, hd, hm, hf => by
    have hk : ¬ ((k : Int) < (bh2.length : Int)) := by have := drop_nil hd; omega
    rw [f16r1n6, f16r1n6L]
    simp only [decide_eq_false hk, cond_false]
  | x0 :: rest, f + 1, k, v121, hd, hm, hf => by
    obtain ⟨hx, hlt, hd'⟩ := drop_cons hd
    have hk : (k : Int) < (bh2.length : Int) := by omega
    have hw : wr64 ((k : Int) + 1) = (k : Int) + 1 := wr64_of (by omega) (by unfold maxLen at hm; omega)
    have ih : ∀ (v121 : List NettingFlow), f16r1n6 f bh2 ba1 ((k : Int) + 1) v121 = f16r1n6L bh2 ba1 rest ((k : Int) + 1) v121 := fun v121 => f16r1n6L_eq bh2 ba1 rest f (k + 1) v121 hd' hm (by simpa using hf)
    rw [f16r1n6, f16r1n6L]
    simp only [decide_eq_true hk, cond_true, at_nat, hx, Option.bind_some, hw, ih]
theorem f16r1n6_run (bh2 : List Share_) (ba1 : List NettingFlow) (v121 : List NettingFlow) (hm : bh2.length ≤ maxLen) : f16r1n6 FUEL bh2 ba1 0 v121 = f16r1n6L bh2 ba1 bh2 0 v121 := f16r1n6L_eq bh2 ba1 bh2 FUEL 0 v121 List.drop_zero hm (lt_FUEL hm)
inductive f16r1n5O where
  | norm (v134 : List NettingFlow)
def f16r1n5E (ba1 : List NettingFlow) (bh2 : List Share_) : f16r1n5O → Ex × Tr × Hp
  | .norm v134 => (.norm, mkS [(15, (.own 1))], [jR 6 NettingFlow.cells ba1, jR 6 NettingFlow.cells v134])
def f16r1n5S (ba1 : List NettingFlow) (bh2 : List Share_) : Tr × Hp := (mkS [(10, (.own 1)), (15, (.pl (.sl .nil 0 [])))], [jR 6 NettingFlow.cells ba1, jR 7 Share_.cells bh2])
noncomputable def f16r1n5 (ba1 : List NettingFlow) (bh2 : List Share_) : Option f16r1n5O :=
  (f16r1n6 FUEL bh2 ba1 0 []).bind fun o131 => match o131 with
  | .exit4 v133 => some (.norm v133)
theorem f16r1n5_ok (ba1 : List NettingFlow) (bh2 : List Share_) {o : f16r1n5O} (h : (f16r1n5 ba1 bh2) = some o) : T Try.prog Try.f16.ntmps 1 (cL (dropC 3 (dropC 1 (dropC 1 (dropC 1 (dropC 4 c16)))))) (f16r1n5S ba1 bh2) (fun r => r = f16r1n5E ba1 bh2 o) := by
  unfold f16r1n5 at h
  refine rN cfg_ok 1 [([], [], [(1, .val (jI (bh2.length : Int)))])] [] [.mat 15 6] [2, 1] [15, 104, 105, 106] (f16r1n6S bh2 ba1 0 []) (ap (len_cv (xs := bh2) (c := Share_.cells)) an) ?_
  obtain ⟨o131, h132, h⟩ := bind_cases h
  cases o131 with
  | exit4 v133 =>
    obtain rfl := some_inj h
    exact T.last' (T.bl (i := 4) (by kernel_rfl) (by kernel_rfl) (f16r1n6_ok FUEL bh2 ba1 0 [] h132)) (tds := []) (m := [1]) (keep := [15]) (st2 := (f16r1n5E ba1 bh2 (.norm v133)).2) (by kernel_rfl) an rfl
inductive f16r1n0O where
  | ret (v138 : Int) (v139 : List NettingFlow)
def f16r1n0E (a1 : ByteArray) (a2 : List NettingFlow) : f16r1n0O → Ex × Tr × Hp
  | .ret v138 v139 => (.ret, mkS [(4, (.own 1)), (5, (jI v138))], [jR 6 NettingFlow.cells a2, jR 6 NettingFlow.cells v139])
def f16r1n0S (a1 : ByteArray) (a2 : List NettingFlow) : Tr × Hp := (initS [(jS a1), (.own 0)] 0 .leaf, [jR 6 NettingFlow.cells a2])
noncomputable def f16r1n0 (a1 : ByteArray) (a2 : List NettingFlow) : Option f16r1n0O :=
  (f35 a2).bind fun x6 =>
  bif (decide (x6 = 0)) then
    (f36 a1).bind fun x12 =>
    bif x12 then
      (f16r1n1 a1 a2).bind fun o42 => match o42 with
      | .norm v44 => (anyOrder v44 fun p => (f16r1n3 a1 a2 v44 p).bind fun o95 => match o95 with
        | .norm v97 => bif (decide (500 < (v97.length : Int))) then
            some (.ret 4 [])
          else
            (so38_39 v97).bind fun x102 =>
            (f16r1n5 a2 x102).bind fun o135 => match o135 with
            | .norm v137 => some (.ret 0 v137)
        | .ret => some (.ret 14 []))
    else
      some (.ret 2 [])
  else
    some (.ret x6 [])
theorem f16r1n0_ok (a1 : ByteArray) (a2 : List NettingFlow) {o : f16r1n0O} (h : (f16r1n0 a1 a2) = some o) : T Try.prog Try.f16.ntmps 1 c16 (f16r1n0S a1 a2) (fun r => r = f16r1n0E a1 a2 o) := by
  unfold f16r1n0 at h
  obtain ⟨x6, h7, h⟩ := bind_cases h
  rcases cond_cases h with ⟨h8, h⟩ | ⟨h8, h⟩
  · obtain ⟨x12, h13, h⟩ := bind_cases h
    rcases cond_cases h with ⟨h14, h⟩ | ⟨h14, h⟩
    · refine rN cfg_ok 4 [j3, ([], [jH 1 (jI x6)], []), j3, ([], [jH 1 (jB x12)], []), j3] [some false, some false] [] [1] [0, 1, 7] (f16r1n1S a1 a2) (ap (f35_ok a2 h7) (ap (not_t h8) (ap (f36_ok a1 h13) (ap (not_t h14) an)))) ?_
      obtain ⟨o42, h43, h⟩ := bind_cases h
      cases o42 with
      | norm v44 =>
        refine T.oneN (by kernel_rfl) (f16r1n1_ok a1 a2 h43) (st2 := (f16r1n1E a1 a2 (.norm v44)).2) rfl ?_
        refine rN cfg_ok 1 [j3] [] [] [1] [0, 7, 10] (f16r1n3S a1 a2 v44) an ?_
        refine T.oneQ (by kernel_rfl) (f16r1n3_ok a1 a2 v44 (fun p hp => bind_ex (anyOrder_at h p hp))) ?_
        intro o95 h
        cases o95 with
        | norm v97 =>
          refine OneR.go ((f16r1n3E a1 a2 v44 (.norm v97)).2) rfl ?_
          rcases cond_cases h with ⟨h99, h⟩ | ⟨h99, h⟩
          · obtain rfl := some_inj h
            exact rK cfg_ok 1 [([], [], [(1, .val (jI (v97.length : Int)))]), j3] [some true] [.mat 4 6] [2] [4, 5] .ret ((f16r1n0E a1 a2 (.ret 4 [])).2) (ap (len_cv (xs := v97) (c := Share_.cells)) (ap h99 an)) rfl
          · obtain ⟨x102, h103, h⟩ := bind_cases h
            refine rN cfg_ok 3 [([], [], [(1, .val (jI (v97.length : Int)))]), ([], [(1, .call (.tup []) [none, jR 7 Share_.cells x102])], []), j3] [some false] [] [1] [10, 15] (f16r1n5S a2 x102) (ap (len_cv (xs := v97) (c := Share_.cells)) (ap h99 (ap (CallS.rn 2 [1] (so38_39_ok v97 h103)) an))) ?_
            obtain ⟨o135, h136, h⟩ := bind_cases h
            cases o135 with
            | norm v137 =>
              refine T.oneN (by kernel_rfl) (f16r1n5_ok a2 x102 h136) (st2 := (f16r1n5E a2 x102 (.norm v137)).2) rfl ?_
              obtain rfl := some_inj h
              exact rE cfg_ok [j3] [] [] [1] [4, 5] (.ret, (f16r1n0E a1 a2 (.ret 0 v137)).2) an rfl
        | ret =>
          obtain rfl := some_inj h
          exact OneR.out [.mat 4 6] [1] [4, 5] ((f16r1n0E a1 a2 (.ret 14 [])).2) (by kernel_rfl) an rfl rfl
    · obtain rfl := some_inj h
      exact rK cfg_ok 3 [j3, ([], [jH 1 (jI x6)], []), j3, ([], [jH 1 (jB x12)], []), j3] [some false, some true] [.mat 4 6] [1] [4, 5] .ret ((f16r1n0E a1 a2 (.ret 2 [])).2) (ap (f35_ok a2 h7) (ap (not_t h8) (ap (f36_ok a1 h13) (ap (not_f h14) an)))) rfl
  · obtain rfl := some_inj h
    exact rK cfg_ok 2 [j3, ([], [jH 1 (jI x6)], []), j3, j3] [some true] [.mat 4 6] [1] [4, 5] .ret ((f16r1n0E a1 a2 (.ret x6 [])).2) (ap (f35_ok a2 h7) (ap (not_f h8) an)) rfl
noncomputable def f16r1 (a1 : ByteArray) (a2 : List NettingFlow) : Option (Int × (List NettingFlow)) := (f16r1n0 a1 a2).bind fun o => match o with
  | .ret v138 v139 => some (v138, v139)
theorem f16r1_ok (a1 : ByteArray) (a2 : List NettingFlow) {r : Int × (List NettingFlow)} (h : (f16r1 a1 a2) = some r) : CallS Try.prog true 16 [(jS a1), (.own 0)] [jR 6 NettingFlow.cells a2] (.tup [(.own 1), (jI r.1)]) [jR 6 NettingFlow.cells a2, jR 6 NettingFlow.cells r.2] := by
  unfold f16r1 at h
  obtain ⟨o, ho, h⟩ := bind_cases h
  cases o with
  | ret v138 v139 =>
    obtain rfl := some_inj h
    exact CallS.shared cfg_ok (f := Try.f16) (c := c16) (by kernel_rfl) (by kernel_rfl) (by kernel_rfl) ((f16r1n0_ok a1 a2 ho).mono fun r e => by subst e; exact ⟨.inl rfl, by kernel_rfl, by kernel_rfl⟩)

noncomputable def c49 : Code := Try.f49.body.getD .skip
inductive f49n3O where
  | norm (v302 : Bool)
def f49n3E (bb1 : ByteArray) (bd2 : Int) (bc3 : UInt8) : f49n3O → Ex × Tr × Hp
  | .norm v302 => (.norm, mkS [(0, (jS bb1)), (3, (jI bd2)), (4, (.pl (.int .u8 (bc3.toNat : Int)))), (5, (jB v302))], [])
def f49n3S (bb1 : ByteArray) (bd2 : Int) (bc3 : UInt8) : Tr × Hp := (mkS [(0, (jS bb1)), (3, (jI bd2)), (4, (.pl (.int .u8 (bc3.toNat : Int))))], [])
noncomputable def f49n3 (bb1 : ByteArray) (bd2 : Int) (bc3 : UInt8) : Option f49n3O :=
  bif (decide (97 ≤ (bc3.toNat : Int))) then
    bif (decide ((bc3.toNat : Int) ≤ 122)) then
      some (.norm true)
    else
      bif (decide (65 ≤ (bc3.toNat : Int))) then
        some (.norm (decide ((bc3.toNat : Int) ≤ 90)))
      else
        some (.norm false)
  else
    bif (decide (65 ≤ (bc3.toNat : Int))) then
      some (.norm (decide ((bc3.toNat : Int) ≤ 90)))
    else
      some (.norm false)
theorem f49n3_ok (bb1 : ByteArray) (bd2 : Int) (bc3 : UInt8) {o : f49n3O} (h : (f49n3 bb1 bd2 bc3) = some o) : T Try.prog Try.f49.ntmps 0 (cL (dropC 1 (cL (cL (dropC 1 (cL (cL (dropC 1 (cL (dropC 2 c49)))))))))) (f49n3S bb1 bd2 bc3) (fun r => r = f49n3E bb1 bd2 bc3 o) := by
  unfold f49n3 at h
  rcases cond_cases h with ⟨h298, h⟩ | ⟨h298, h⟩
  · rcases cond_cases h with ⟨h299, h⟩ | ⟨h299, h⟩
    · obtain rfl := some_inj h
      exact rE cfg_ok [(jT [3, 4, 7, 8, 9, 12], [(5, .bool true), (13, .bool true)], [])] [] [] [] [0, 3, 4, 5] (.norm, (f49n3E bb1 bd2 bc3 (.norm true)).2) (ap3 h298 (ap h299 (ap4 h299 an))) rfl
    · rcases cond_cases h with ⟨h300, h⟩ | ⟨h300, h⟩
      · obtain rfl := some_inj h
        exact rE cfg_ok [(jF [7, 8, 9, 12] ++ jT [3, 4, 10, 11], [(5, .bool true), (12, .bool true), (13, .bool false)], [])] [] [] [] [0, 3, 4, 5] (.norm, (f49n3E bb1 bd2 bc3 (.norm (decide ((bc3.toNat : Int) ≤ 90)))).2) (ap3 h298 (ap3 h299 (ap2 h300 (ap h299 (ap h300 (ap h299 an)))))) rfl
      · obtain rfl := some_inj h
        exact rE cfg_ok [(jF [7, 8, 9, 10, 11, 12] ++ jT [3, 4], [(5, .bool true), (12, .bool false), (13, .bool false)], [])] [] [] [] [0, 3, 4, 5] (.norm, (f49n3E bb1 bd2 bc3 (.norm false)).2) (ap3 h298 (ap3 h299 (ap2 h300 (ap h299 (ap h300 (ap h299 an)))))) rfl
  · rcases cond_cases h with ⟨h301, h⟩ | ⟨h301, h⟩
    · obtain rfl := some_inj h
      exact rE cfg_ok [(jF [3, 4] ++ jT [10, 11], [(5, .bool false), (12, .bool true)], [])] [] [] [] [0, 3, 4, 5] (.norm, (f49n3E bb1 bd2 bc3 (.norm (decide ((bc3.toNat : Int) ≤ 90)))).2) (ap3 h298 (ap3 h301 an)) rfl
    · obtain rfl := some_inj h
      exact rE cfg_ok [(jF [3, 4, 10, 11], [(5, .bool false), (12, .bool false)], [])] [] [] [] [0, 3, 4, 5] (.norm, (f49n3E bb1 bd2 bc3 (.norm false)).2) (ap3 h298 (ap3 h301 an)) rfl
inductive f49n4O where
  | norm (v318 : Bool)
def f49n4E (bb1 : ByteArray) (bd2 : Int) (bc3 : UInt8) (bi4 : Bool) : f49n4O → Ex × Tr × Hp
  | .norm v318 => (.norm, mkS [(0, (jS bb1)), (3, (jI bd2)), (5, (jB bi4)), (6, (jB v318))], [])
def f49n4S (bb1 : ByteArray) (bd2 : Int) (bc3 : UInt8) (bi4 : Bool) : Tr × Hp := (mkS [(0, (jS bb1)), (3, (jI bd2)), (4, (.pl (.int .u8 (bc3.toNat : Int)))), (5, (jB bi4))], [])
noncomputable def f49n4 (bb1 : ByteArray) (bd2 : Int) (bc3 : UInt8) (bi4 : Bool) : Option f49n4O :=
  bif (decide (48 ≤ (bc3.toNat : Int))) then
    bif (decide ((bc3.toNat : Int) ≤ 57)) then
      some (.norm true)
    else
      bif (decide ((bc3.toNat : Int) = 95)) then
        some (.norm true)
      else
        some (.norm (decide ((bc3.toNat : Int) = 45)))
  else
    bif (decide ((bc3.toNat : Int) = 95)) then
      some (.norm true)
    else
      some (.norm (decide ((bc3.toNat : Int) = 45)))
theorem f49n4_ok (bb1 : ByteArray) (bd2 : Int) (bc3 : UInt8) (bi4 : Bool) {o : f49n4O} (h : (f49n4 bb1 bd2 bc3 bi4) = some o) : T Try.prog Try.f49.ntmps 0 (cL (dropC 0 (dropC 1 (dropC 1 (cL (cL (dropC 1 (cL (cL (dropC 1 (cL (dropC 2 c49)))))))))))) (f49n4S bb1 bd2 bc3 bi4) (fun r => r = f49n4E bb1 bd2 bc3 bi4 o) := by
  unfold f49n4 at h
  rcases cond_cases h with ⟨h314, h⟩ | ⟨h314, h⟩
  · rcases cond_cases h with ⟨h315, h⟩ | ⟨h315, h⟩
    · obtain rfl := some_inj h
      exact rE cfg_ok [(jT [3, 4, 7, 8], [(5, .bool true), (9, .bool true)], [])] [] [] [] [0, 3, 5, 6] (.norm, (f49n4E bb1 bd2 bc3 bi4 (.norm true)).2) (ap3 h314 (ap3 h315 an)) rfl
    · rcases cond_cases h with ⟨h316, h⟩ | ⟨h316, h⟩
      · obtain rfl := some_inj h
        exact rE cfg_ok [(jF [7, 8] ++ jT [3, 4, 11, 12], [(5, .bool true), (9, .bool false), (13, .bool true)], [])] [] [] [] [0, 3, 5, 6] (.norm, (f49n4E bb1 bd2 bc3 bi4 (.norm true)).2) (ap3 h314 (ap3 h315 (ap3 h316 an))) rfl
      · obtain rfl := some_inj h
        exact rE cfg_ok [(jF [7, 8, 11, 12] ++ jT [3, 4], [(5, .bool true), (9, .bool false), (13, .bool false)], [])] [] [] [] [0, 3, 5, 6] (.norm, (f49n4E bb1 bd2 bc3 bi4 (.norm (decide ((bc3.toNat : Int) = 45)))).2) (ap3 h314 (ap3 h315 (ap3 h316 an))) rfl
  · rcases cond_cases h with ⟨h317, h⟩ | ⟨h317, h⟩
    · obtain rfl := some_inj h
      exact rE cfg_ok [(jF [3, 4] ++ jT [11, 12], [(5, .bool false), (13, .bool true)], [])] [] [] [] [0, 3, 5, 6] (.norm, (f49n4E bb1 bd2 bc3 bi4 (.norm true)).2) (ap3 h314 (ap3 h317 an)) rfl
    · obtain rfl := some_inj h
      exact rE cfg_ok [(jF [3, 4, 11, 12], [(5, .bool false), (13, .bool false)], [])] [] [] [] [0, 3, 5, 6] (.norm, (f49n4E bb1 bd2 bc3 bi4 (.norm (decide ((bc3.toNat : Int) = 45)))).2) (ap3 h314 (ap3 h317 an)) rfl
inductive f49n5O where
  | norm (v328 : Bool)
def f49n5E (bb1 : ByteArray) (bd2 : Int) (bi3 : Bool) (bi4 : Bool) : f49n5O → Ex × Tr × Hp
  | .norm v328 => (.norm, mkS [(0, (jS bb1)), (3, (jI bd2)), (61, (jB v328))], [])
def f49n5S (bb1 : ByteArray) (bd2 : Int) (bi3 : Bool) (bi4 : Bool) : Tr × Hp := (mkS [(0, (jS bb1)), (3, (jI bd2)), (5, (jB bi3)), (6, (jB bi4))], [])
noncomputable def f49n5 (bb1 : ByteArray) (bd2 : Int) (bi3 : Bool) (bi4 : Bool) : Option f49n5O :=
  bif bi3 then
    some (.norm false)
  else
    bif bi4 then
      some (.norm (decide (bd2 = 0)))
    else
      some (.norm true)
theorem f49n5_ok (bb1 : ByteArray) (bd2 : Int) (bi3 : Bool) (bi4 : Bool) {o : f49n5O} (h : (f49n5 bb1 bd2 bi3 bi4) = some o) : T Try.prog Try.f49.ntmps 0 (cL (dropC 0 (dropC 1 (dropC 0 (dropC 1 (dropC 1 (cL (cL (dropC 1 (cL (cL (dropC 1 (cL (dropC 2 c49)))))))))))))) (f49n5S bb1 bd2 bi3 bi4) (fun r => r = f49n5E bb1 bd2 bi3 bi4 o) := by
  unfold f49n5 at h
  rcases cond_cases h with ⟨h326, h⟩ | ⟨h326, h⟩
  · obtain rfl := some_inj h
    exact rE cfg_ok [(jF [3, 4, 5, 8], [(9, .bool false)], [])] [] [] [] [0, 3, 61] (.norm, (f49n5E bb1 bd2 bi3 bi4 (.norm false)).2) (ap (not_t h326) (ap4 (not_t h326) an)) rfl
  · rcases cond_cases h with ⟨h327, h⟩ | ⟨h327, h⟩
    · obtain rfl := some_inj h
      exact rE cfg_ok [(jF [6, 7] ++ jT [3, 4, 5, 8], [(8, .bool false), (9, .bool true)], [])] [] [] [] [0, 3, 61] (.norm, (f49n5E bb1 bd2 bi3 bi4 (.norm (decide (bd2 = 0)))).2) (ap3 (not_f h326) (ap2 (not_t h327) (ap (not_f h326) (ap (not_t h327) (ap (not_f h326) an))))) rfl
    · obtain rfl := some_inj h
      exact rE cfg_ok [(jT [3, 4, 5, 6, 7, 8], [(8, .bool true), (9, .bool true)], [])] [] [] [] [0, 3, 61] (.norm, (f49n5E bb1 bd2 bi3 bi4 (.norm true)).2) (ap3 (not_f h326) (ap2 (not_f h327) (ap (not_f h326) (ap (not_f h327) (ap (not_f h326) an))))) rfl
inductive f49n2O where
  | norm
  | ret
def f49n2E (bb1 : ByteArray) (bd2 : Int) : f49n2O → Ex × Tr × Hp
  | .norm => (.norm, mkS [(0, (jS bb1)), (3, (jI bd2))], [])
  | .ret => (.ret, mkS [(2, (jB false))], [])
def f49n2S (bb1 : ByteArray) (bd2 : Int) : Tr × Hp := (mkS [(0, (jS bb1)), (3, (jI bd2))], [])
noncomputable def f49n2 (bb1 : ByteArray) (bd2 : Int) : Option f49n2O :=
  (at? bb1.data.toList bd2).bind fun x288 =>
  (f49n3 bb1 bd2 x288).bind fun o303 => match o303 with
  | .norm v305 => (f49n4 bb1 bd2 x288 v305).bind fun o319 => match o319 with
    | .norm v321 => (f49n5 bb1 bd2 v305 v321).bind fun o329 => match o329 with
      | .norm v331 => bif v331 then
          some .ret
        else
          some .norm
theorem f49n2_ok (bb1 : ByteArray) (bd2 : Int) {o : f49n2O} (h : (f49n2 bb1 bd2) = some o) : T Try.prog Try.f49.ntmps 0 (cL (dropC 1 (cL (cL (dropC 1 (cL (dropC 2 c49))))))) (f49n2S bb1 bd2) (fun r => r = f49n2E bb1 bd2 o) := by
  unfold f49n2 at h
  refine T.block' (i := 1) (by kernel_rfl) ?_
  obtain ⟨x288, h289, h⟩ := bind_cases h
  refine rN cfg_ok 1 [([], [(2, .byte (Int.toNat bd2) x288)], [])] [] [] [] [0, 3, 4] (f49n3S bb1 bd2 x288) (ap (at_some h289).1 (ap (at_some h289).2 an)) ?_
  obtain ⟨o303, h304, h⟩ := bind_cases h
  cases o303 with
  | norm v305 =>
    refine T.oneN (by kernel_rfl) (f49n3_ok bb1 bd2 x288 h304) (st2 := (f49n3E bb1 bd2 x288 (.norm v305)).2) rfl ?_
    refine rN cfg_ok 0 [] [] [] [] [0, 3, 4, 5] (f49n4S bb1 bd2 x288 v305) an ?_
    obtain ⟨o319, h320, h⟩ := bind_cases h
    cases o319 with
    | norm v321 =>
      refine T.oneN (by kernel_rfl) (f49n4_ok bb1 bd2 x288 v305 h320) (st2 := (f49n4E bb1 bd2 x288 v305 (.norm v321)).2) rfl ?_
      refine rN cfg_ok 0 [] [] [] [] [0, 3, 5, 6] (f49n5S bb1 bd2 v305 v321) an ?_
      obtain ⟨o329, h330, h⟩ := bind_cases h
      cases o329 with
      | norm v331 =>
        refine T.oneN (by kernel_rfl) (f49n5_ok bb1 bd2 v305 v321 h330) (st2 := (f49n5E bb1 bd2 v305 v321 (.norm v331)).2) rfl ?_
        rcases cond_cases h with ⟨h333, h⟩ | ⟨h333, h⟩
        · obtain rfl := some_inj h
          exact rE cfg_ok [j3] [some true] [] [] [2] (.ret, (f49n2E bb1 bd2 .ret).2) (ap h333 an) rfl
        · obtain rfl := some_inj h
          exact rE cfg_ok [] [some false] [] [] [0, 3] (.norm, (f49n2E bb1 bd2 .norm).2) (ap h333 an) rfl
inductive f49n6O where
  | exit0
  | ret
def f49n6E (bb1 : ByteArray) : f49n6O → Ex × Tr × Hp
  | .exit0 => ((.exit 0), mkS [], [])
  | .ret => (.ret, mkS [(2, (jB false))], [])
def f49n6S (bb1 : ByteArray) (v219 : Int) : Tr × Hp := (mkS [(0, (jS bb1)), (3, (jI v219))], [])
noncomputable def f49n6 : Nat → ByteArray → Int → Option f49n6O
  | 0, _, _ => none
  | f + 1, bb1, v219 =>
    bif (decide (v219 < (bb1.size : Int))) then
      (f49n2 bb1 v219).bind fun o334 => match o334 with
      | .norm => (f49n6 f bb1 (wr64 (v219 + 1)))
      | .ret => some .ret
    else
      some .exit0
theorem f49n6_ok : ∀ (f : Nat) (bb1 : ByteArray) (v219 : Int) {o : f49n6O}, (f49n6 f bb1 v219) = some o → TL Try.prog Try.f49.ntmps 0 f (cL (cL (dropC 1 (cL (dropC 2 c49))))) (f49n6S bb1 v219) (fun r => r = f49n6E bb1 o)
  | 0, _, _, o, h => by rw [f49n6] at h; cases h
  | f + 1, bb1, v219, o, h => by
    rw [f49n6] at h
    refine TL.body (K := fun s => ∃ v219 : Int, s = (f49n6S bb1 v219) ∧ (f49n6 f bb1 v219) = some o) ?_ (by rintro _ ⟨v219, rfl, hk⟩; exact f49n6_ok f _ _ hk)
    rcases cond_cases h with ⟨h221, h⟩ | ⟨h221, h⟩
    · refine rN cfg_ok 1 [j3] [some true] [] [] [0, 3] (f49n2S bb1 v219) (ap h221 an) ?_
      obtain ⟨o334, h335, h⟩ := bind_cases h
      cases o334 with
      | norm =>
        refine T.oneN (by kernel_rfl) (f49n2_ok bb1 v219 h335) (st2 := (f49n2E bb1 v219 .norm).2) rfl ?_
        exact rE cfg_ok [j3] [] [] [] [0, 3] (.norm, (f49n6S bb1 (wr64 (v219 + 1)))) an (LoopQ.norm ⟨(wr64 (v219 + 1)), rfl, h⟩)
      | ret =>
        obtain rfl := some_inj h
        exact T.oneX' (by kernel_rfl) (f49n2_ok bb1 v219 h335) (tds := []) (m := []) (keep := [2]) (st2 := (f49n6E bb1 .ret).2) (by kernel_rfl) an rfl (LoopQ.out rfl rfl)
    · obtain rfl := some_inj h
      exact rK cfg_ok 1 [j3] [some false] [] [] [] (.exit 0) ((f49n6E bb1 .exit0).2) (ap h221 an) (LoopQ.out rfl rfl)
inductive f49n1O where
  | norm
  | ret
def f49n1E (bb1 : ByteArray) : f49n1O → Ex × Tr × Hp
  | .norm => (.norm, mkS [], [])
  | .ret => (.ret, mkS [(2, (jB false))], [])
def f49n1S (bb1 : ByteArray) : Tr × Hp := (mkS [(0, (jS bb1))], [])
noncomputable def f49n1 (bb1 : ByteArray) : Option f49n1O :=
  (f49n6 FUEL bb1 0).bind fun o336 => match o336 with
  | .exit0 => some .norm
  | .ret => some .ret
theorem f49n1_ok (bb1 : ByteArray) {o : f49n1O} (h : (f49n1 bb1) = some o) : T Try.prog Try.f49.ntmps 0 (cL (dropC 2 c49)) (f49n1S bb1) (fun r => r = f49n1E bb1 o) := by
  unfold f49n1 at h
  refine rN cfg_ok 1 [j3] [] [] [] [0, 3] (f49n6S bb1 0) an ?_
  obtain ⟨o336, h337, h⟩ := bind_cases h
  cases o336 with
  | exit0 =>
    obtain rfl := some_inj h
    exact T.last' (T.bl (i := 0) (by kernel_rfl) (by kernel_rfl) (f49n6_ok FUEL bb1 0 h337)) (tds := []) (m := []) (keep := []) (st2 := (f49n1E bb1 .norm).2) (by kernel_rfl) an rfl
  | ret =>
    obtain rfl := some_inj h
    exact T.last' (T.bl (i := 0) (by kernel_rfl) (by kernel_rfl) (f49n6_ok FUEL bb1 0 h337)) (tds := []) (m := []) (keep := [2]) (st2 := (f49n1E bb1 .ret).2) (by kernel_rfl) an rfl
inductive f49n0O where
  | ret (v340 : Bool)
def f49n0E (a1 : ByteArray) : f49n0O → Ex × Tr × Hp
  | .ret v340 => (.ret, mkS [(2, (jB v340))], [])
def f49n0S (a1 : ByteArray) : Tr × Hp := (initS [(jS a1)] 0 .leaf, [])
noncomputable def f49n0 (a1 : ByteArray) : Option f49n0O :=
  bif (decide ((a1.size : Int) < 1)) then
    some (.ret false)
  else
    bif (decide (40 < (a1.size : Int))) then
      some (.ret false)
    else
      (f49n1 a1).bind fun o338 => match o338 with
      | .norm => some (.ret true)
      | .ret => some (.ret false)
theorem f49n0_ok (a1 : ByteArray) {o : f49n0O} (h : (f49n0 a1) = some o) : T Try.prog Try.f49.ntmps 0 c49 (f49n0S a1) (fun r => r = f49n0E a1 o) := by
  unfold f49n0 at h
  rcases cond_cases h with ⟨h4, h⟩ | ⟨h4, h⟩
  · obtain rfl := some_inj h
    exact rK cfg_ok 2 [j3, (jT [4, 5, 6], [(7, .bool true)], []), j3] [none] [] [] [2] .ret ((f49n0E a1 (.ret false)).2) (ap4 h4 an) rfl
  · rcases cond_cases h with ⟨h5, h⟩ | ⟨h5, h⟩
    · obtain rfl := some_inj h
      exact rK cfg_ok 2 [j3, (jF [4, 5, 6], [(7, .bool false)], []), j3] [some true] [] [] [2] .ret ((f49n0E a1 (.ret false)).2) (ap4 h4 (ap h5 an)) rfl
    · refine rN cfg_ok 2 [j3, (jF [4, 5, 6], [(7, .bool false)], [])] [some false] [] [] [0] (f49n1S a1) (ap4 h4 (ap h5 an)) ?_
      obtain ⟨o338, h339, h⟩ := bind_cases h
      cases o338 with
      | norm =>
        refine T.oneN (by kernel_rfl) (f49n1_ok a1 h339) (st2 := (f49n1E a1 .norm).2) rfl ?_
        obtain rfl := some_inj h
        exact rE cfg_ok [j3] [] [] [] [2] (.ret, (f49n0E a1 (.ret true)).2) an rfl
      | ret =>
        obtain rfl := some_inj h
        exact T.oneX' (by kernel_rfl) (f49n1_ok a1 h339) (tds := []) (m := []) (keep := [2]) (st2 := (f49n0E a1 (.ret false)).2) (by kernel_rfl) an rfl rfl
noncomputable def f49 (a1 : ByteArray) : Option Bool := (f49n0 a1).bind fun o => match o with
  | .ret v340 => some v340
theorem f49_ok (a1 : ByteArray) {r : Bool} (h : (f49 a1) = some r) : CallS Try.prog false 49 [(jS a1)] [] (jB r) [] := by
  unfold f49 at h
  obtain ⟨o, ho, h⟩ := bind_cases h
  cases o with
  | ret v340 =>
    obtain rfl := some_inj h
    exact CallS.plain cfg_ok (f := Try.f49) (c := c49) (by kernel_rfl) (by kernel_rfl) (by kernel_rfl) (by kernel_rfl) ((f49n0_ok a1 ho).mono fun r e => by subst e; exact ⟨.inl rfl, (jB v340), (jB v340), by kernel_rfl, by kernel_rfl, ((Wk.refl _) : Wk (jB v340) (jB v340))⟩)
end Go.Proofs.Ytkcafackfihmiaa
namespace Go.Proofs.Ytkcafackfihmiaa
set_option linter.unusedVariables false
set_option linter.unusedSimpArgs false
set_option maxRecDepth 100000
open Go.RowKit
noncomputable def c67 : Code := Try.f67.body.getD .skip
inductive f67n2O where
  | norm (v92 : Bool)
def f67n2E (be1 : NettingFlow) : f67n2O → Ex × Tr × Hp
  | .norm v92 => (.norm, mkS [(1, (.bp 0 0)), (36, (jB v92))], [some (.box ((NettingFlow.cells be1).map .pl))])
def f67n2S (be1 : NettingFlow) : Tr × Hp := (mkS [(1, (.bp 0 0))], [some (.box ((NettingFlow.cells be1).map .pl))])
noncomputable def f67n2 (be1 : NettingFlow) : Option f67n2O :=
  bif (seq be1.Set str_x) then
    (f49 be1.Ccy).bind fun x71 =>
    bif x71 then
      (f49 be1.From).bind fun x74 =>
      bif x74 then
        (f49 be1.To).bind fun x77 =>
        bif x77 then
          some (.norm (seq be1.From be1.To))
        else
          some (.norm true)
      else
        some (.norm true)
    else
      some (.norm true)
  else
    (f49 be1.Set).bind fun x80 =>
    bif x80 then
      (f49 be1.Ccy).bind fun x83 =>
      bif x83 then
        (f49 be1.From).bind fun x86 =>
        bif x86 then
          (f49 be1.To).bind fun x89 =>
          bif x89 then
            some (.norm (seq be1.From be1.To))
          else
            some (.norm true)
        else
          some (.norm true)
      else
        some (.norm true)
    else
      some (.norm true)
theorem f67n2_ok (be1 : NettingFlow) {o : f67n2O} (h : (f67n2 be1) = some o) : T Try.prog Try.f67.ntmps 0 (cL (dropC 0 (cL (dropC 1 c67)))) (f67n2S be1) (fun r => r = f67n2E be1 o) := by
  unfold f67n2 at h
  rcases cond_cases h with ⟨h70, h⟩ | ⟨h70, h⟩
  · obtain ⟨x71, h72, h⟩ := bind_cases h
    rcases cond_cases h with ⟨h73, h⟩ | ⟨h73, h⟩
    · obtain ⟨x74, h75, h⟩ := bind_cases h
      rcases cond_cases h with ⟨h76, h⟩ | ⟨h76, h⟩
      · obtain ⟨x77, h78, h⟩ := bind_cases h
        rcases cond_cases h with ⟨h79, h⟩ | ⟨h79, h⟩
        · obtain rfl := some_inj h
          exact rE cfg_ok [(jF [4, 5, 6, 7, 16, 17, 18, 19, 22, 23, 24, 25, 28, 29, 30, 31, 32], [(8, .bool false), jH 12 (jB x71), jH 18 (jB x74), (20, .bool false), jH 24 (jB x77), (26, .bool false), (33, .bool false)], [])] [] [] [0] [1, 36] (.norm, (f67n2E be1 (.norm (seq be1.From be1.To))).2) (ap (not_t h70) (ap4 (not_t h70) (ap (not_t h73) (ap4 (not_t h73) (ap (not_t h76) (ap4 (not_t h76) (ap2 (not_t h79) (ap4 (not_t h79) (ap (f49_ok be1.Ccy h72) (ap (f49_ok be1.From h75) (ap (f49_ok be1.To h78) an))))))))))) rfl
        · obtain rfl := some_inj h
          exact rE cfg_ok [(jF [4, 5, 6, 7, 16, 17, 18, 19, 22, 23, 24, 25] ++ jT [28, 29, 30, 31, 32], [(8, .bool false), jH 12 (jB x71), jH 18 (jB x74), (20, .bool false), jH 24 (jB x77), (26, .bool false), (33, .bool true)], [])] [] [] [0] [1, 36] (.norm, (f67n2E be1 (.norm true)).2) (ap (not_t h70) (ap4 (not_t h70) (ap (not_t h73) (ap4 (not_t h73) (ap (not_t h76) (ap4 (not_t h76) (ap2 (not_f h79) (ap4 (not_f h79) (ap (f49_ok be1.Ccy h72) (ap (f49_ok be1.From h75) (ap (f49_ok be1.To h78) an))))))))))) rfl
      · obtain rfl := some_inj h
        exact rE cfg_ok [(jF [4, 5, 6, 7, 16, 17, 18, 19] ++ jT [22, 23, 24, 25], [(8, .bool false), jH 12 (jB x71), jH 18 (jB x74), (20, .bool false), (26, .bool true)], [])] [] [] [0] [1, 36] (.norm, (f67n2E be1 (.norm true)).2) (ap (not_t h70) (ap4 (not_t h70) (ap (not_t h73) (ap4 (not_t h73) (ap (not_f h76) (ap4 (not_f h76) (ap (f49_ok be1.Ccy h72) (ap (f49_ok be1.From h75) an)))))))) rfl
    · obtain rfl := some_inj h
      exact rE cfg_ok [(jF [4, 5, 6, 7] ++ jT [16, 17, 18, 19], [(8, .bool false), jH 12 (jB x71), (20, .bool true)], [])] [] [] [0] [1, 36] (.norm, (f67n2E be1 (.norm true)).2) (ap (not_t h70) (ap4 (not_t h70) (ap (not_f h73) (ap4 (not_f h73) (ap (f49_ok be1.Ccy h72) an))))) rfl
  · obtain ⟨x80, h81, h⟩ := bind_cases h
    rcases cond_cases h with ⟨h82, h⟩ | ⟨h82, h⟩
    · obtain ⟨x83, h84, h⟩ := bind_cases h
      rcases cond_cases h with ⟨h85, h⟩ | ⟨h85, h⟩
      · obtain ⟨x86, h87, h⟩ := bind_cases h
        rcases cond_cases h with ⟨h88, h⟩ | ⟨h88, h⟩
        · obtain ⟨x89, h90, h⟩ := bind_cases h
          rcases cond_cases h with ⟨h91, h⟩ | ⟨h91, h⟩
          · obtain rfl := some_inj h
            exact rE cfg_ok [(jF [10, 11, 12, 13, 16, 17, 18, 19, 22, 23, 24, 25, 28, 29, 30, 31, 32] ++ jT [4, 5, 6, 7], [jH 6 (jB x80), (8, .bool true), jH 12 (jB x83), (14, .bool false), jH 18 (jB x86), (20, .bool false), jH 24 (jB x89), (26, .bool false), (33, .bool false)], [])] [] [] [0] [1, 36] (.norm, (f67n2E be1 (.norm (seq be1.From be1.To))).2) (ap (not_f h70) (ap4 (not_f h70) (ap (not_t h82) (ap4 (not_t h82) (ap (not_t h85) (ap4 (not_t h85) (ap (not_t h88) (ap4 (not_t h88) (ap2 (not_t h91) (ap4 (not_t h91) (ap (f49_ok be1.Set h81) (ap (f49_ok be1.Ccy h84) (ap (f49_ok be1.From h87) (ap (f49_ok be1.To h90) an)))))))))))))) rfl
          · obtain rfl := some_inj h
            exact rE cfg_ok [(jF [10, 11, 12, 13, 16, 17, 18, 19, 22, 23, 24, 25] ++ jT [4, 5, 6, 7, 28, 29, 30, 31, 32], [jH 6 (jB x80), (8, .bool true), jH 12 (jB x83), (14, .bool false), jH 18 (jB x86), (20, .bool false), jH 24 (jB x89), (26, .bool false), (33, .bool true)], [])] [] [] [0] [1, 36] (.norm, (f67n2E be1 (.norm true)).2) (ap (not_f h70) (ap4 (not_f h70) (ap (not_t h82) (ap4 (not_t h82) (ap (not_t h85) (ap4 (not_t h85) (ap (not_t h88) (ap4 (not_t h88) (ap2 (not_f h91) (ap4 (not_f h91) (ap (f49_ok be1.Set h81) (ap (f49_ok be1.Ccy h84) (ap (f49_ok be1.From h87) (ap (f49_ok be1.To h90) an)))))))))))))) rfl
        · obtain rfl := some_inj h
          exact rE cfg_ok [(jF [10, 11, 12, 13, 16, 17, 18, 19] ++ jT [4, 5, 6, 7, 22, 23, 24, 25], [jH 6 (jB x80), (8, .bool true), jH 12 (jB x83), (14, .bool false), jH 18 (jB x86), (20, .bool false), (26, .bool true)], [])] [] [] [0] [1, 36] (.norm, (f67n2E be1 (.norm true)).2) (ap (not_f h70) (ap4 (not_f h70) (ap (not_t h82) (ap4 (not_t h82) (ap (not_t h85) (ap4 (not_t h85) (ap (not_f h88) (ap4 (not_f h88) (ap (f49_ok be1.Set h81) (ap (f49_ok be1.Ccy h84) (ap (f49_ok be1.From h87) an))))))))))) rfl
      · obtain rfl := some_inj h
        exact rE cfg_ok [(jF [10, 11, 12, 13] ++ jT [4, 5, 6, 7, 16, 17, 18, 19], [jH 6 (jB x80), (8, .bool true), jH 12 (jB x83), (14, .bool false), (20, .bool true)], [])] [] [] [0] [1, 36] (.norm, (f67n2E be1 (.norm true)).2) (ap (not_f h70) (ap4 (not_f h70) (ap (not_t h82) (ap4 (not_t h82) (ap (not_f h85) (ap4 (not_f h85) (ap (f49_ok be1.Set h81) (ap (f49_ok be1.Ccy h84) an)))))))) rfl
    · obtain rfl := some_inj h
      exact rE cfg_ok [(jT [4, 5, 6, 7, 10, 11, 12, 13], [jH 6 (jB x80), (8, .bool true), (14, .bool true)], [])] [] [] [0] [1, 36] (.norm, (f67n2E be1 (.norm true)).2) (ap (not_f h70) (ap4 (not_f h70) (ap (not_f h82) (ap4 (not_f h82) (ap (f49_ok be1.Set h81) an))))) rfl
inductive f67n1O where
  | norm
  | ret
def f67n1E (be1 : NettingFlow) : f67n1O → Ex × Tr × Hp
  | .norm => (.norm, mkS [(1, (.bp 0 0))], [some (.box ((NettingFlow.cells be1).map .pl))])
  | .ret => (.ret, mkS [(2, (jB false))], [])
def f67n1S (be1 : NettingFlow) : Tr × Hp := (mkS [(1, (.bp 0 0))], [some (.box ((NettingFlow.cells be1).map .pl))])
noncomputable def f67n1 (be1 : NettingFlow) : Option f67n1O :=
  (f67n2 be1).bind fun o93 => match o93 with
  | .norm v95 => bif v95 then
      some .ret
    else
      some .norm
theorem f67n1_ok (be1 : NettingFlow) {o : f67n1O} (h : (f67n1 be1) = some o) : T Try.prog Try.f67.ntmps 0 (cL (dropC 1 c67)) (f67n1S be1) (fun r => r = f67n1E be1 o) := by
  unfold f67n1 at h
  refine rN cfg_ok 0 [] [] [] [0] [1] (f67n2S be1) an ?_
  obtain ⟨o93, h94, h⟩ := bind_cases h
  cases o93 with
  | norm v95 =>
    refine T.oneN (by kernel_rfl) (f67n2_ok be1 h94) (st2 := (f67n2E be1 (.norm v95)).2) rfl ?_
    rcases cond_cases h with ⟨h97, h⟩ | ⟨h97, h⟩
    · obtain rfl := some_inj h
      exact rE cfg_ok [j3] [some true] [] [] [2] (.ret, (f67n1E be1 .ret).2) (ap h97 an) rfl
    · obtain rfl := some_inj h
      exact rE cfg_ok [] [some false] [] [0] [1] (.norm, (f67n1E be1 .norm).2) (ap h97 an) rfl
inductive f67n0O where
  | ret (v106 : Bool)
def f67n0E (a1 : NettingFlow) : f67n0O → Ex × Tr × Hp
  | .ret v106 => (.ret, mkS [(2, (jB v106))], [])
def f67n0S (a1 : NettingFlow) : Tr × Hp := (initS [(jA NettingFlow.cells a1)] 0 .leaf, [])
noncomputable def f67n0 (a1 : NettingFlow) : Option f67n0O :=
  (f67n1 a1).bind fun o98 => match o98 with
  | .norm => bif (decide (0 ≤ a1.Date)) then
      bif (decide (a1.Date ≤ 99999)) then
        bif (decide (1 ≤ a1.Amount)) then
          some (.ret (decide (a1.Amount ≤ 1125899906842624)))
        else
          some (.ret false)
      else
        some (.ret false)
    else
      some (.ret false)
  | .ret => some (.ret false)
theorem f67n0_ok (a1 : NettingFlow) {o : f67n0O} (h : (f67n0 a1) = some o) : T Try.prog Try.f67.ntmps 0 c67 (f67n0S a1) (fun r => r = f67n0E a1 o) := by
  unfold f67n0 at h
  refine rN cfg_ok 1 [j3] [] [] [0] [1] (f67n1S a1) an ?_
  obtain ⟨o98, h99, h⟩ := bind_cases h
  cases o98 with
  | norm =>
    refine T.oneN (by kernel_rfl) (f67n1_ok a1 h99) (st2 := (f67n1E a1 .norm).2) rfl ?_
    rcases cond_cases h with ⟨h103, h⟩ | ⟨h103, h⟩
    · rcases cond_cases h with ⟨h104, h⟩ | ⟨h104, h⟩
      · rcases cond_cases h with ⟨h105, h⟩ | ⟨h105, h⟩
        · obtain rfl := some_inj h
          exact rE cfg_ok [(jT [4, 5, 6, 9, 10, 11, 14, 15, 16], [(7, .bool true), (12, .bool true), (17, .bool true)], [])] [] [] [] [2] (.ret, (f67n0E a1 (.ret (decide (a1.Amount ≤ 1125899906842624)))).2) (ap4 h103 (ap4 h104 (ap4 h105 an))) rfl
        · obtain rfl := some_inj h
          exact rE cfg_ok [(jF [14, 15, 16] ++ jT [4, 5, 6, 9, 10, 11], [(7, .bool true), (12, .bool true), (17, .bool false)], [])] [] [] [] [2] (.ret, (f67n0E a1 (.ret false)).2) (ap4 h103 (ap4 h104 (ap4 h105 an))) rfl
      · obtain rfl := some_inj h
        exact rE cfg_ok [(jF [9, 10, 11] ++ jT [4, 5, 6], [(7, .bool true), (12, .bool false)], [])] [] [] [] [2] (.ret, (f67n0E a1 (.ret false)).2) (ap4 h103 (ap4 h104 an)) rfl
    · obtain rfl := some_inj h
      exact rE cfg_ok [(jF [4, 5, 6], [(7, .bool false)], [])] [] [] [] [2] (.ret, (f67n0E a1 (.ret false)).2) (ap4 h103 an) rfl
  | ret =>
    obtain rfl := some_inj h
    exact T.oneX' (by kernel_rfl) (f67n1_ok a1 h99) (tds := []) (m := []) (keep := [2]) (st2 := (f67n0E a1 (.ret false)).2) (by kernel_rfl) an rfl rfl
noncomputable def f67 (a1 : NettingFlow) : Option Bool := (f67n0 a1).bind fun o => match o with
  | .ret v106 => some v106
theorem f67_ok (a1 : NettingFlow) {r : Bool} (h : (f67 a1) = some r) : CallS Try.prog false 67 [(jA NettingFlow.cells a1)] [] (jB r) [] := by
  unfold f67 at h
  obtain ⟨o, ho, h⟩ := bind_cases h
  cases o with
  | ret v106 =>
    obtain rfl := some_inj h
    exact CallS.plain cfg_ok (f := Try.f67) (c := c67) (by kernel_rfl) (by kernel_rfl) (by kernel_rfl) (by kernel_rfl) ((f67n0_ok a1 ho).mono fun r e => by subst e; exact ⟨.inl rfl, (jB v106), (jB v106), by kernel_rfl, by kernel_rfl, ((Wk.refl _) : Wk (jB v106) (jB v106))⟩)

noncomputable def c48 : Code := Try.f48.body.getD .skip
inductive f48n2O where
  | exit0
  | ret
def f48n2E (ba1 : List NettingFlow) : f48n2O → Ex × Tr × Hp
  | .exit0 => ((.exit 0), mkS [(0, (jL 6 NettingFlow.cells ba1))], [])
  | .ret => (.ret, mkS [(2, (jB false))], [])
def f48n2S (ba1 : List NettingFlow) (v29 : Int) : Tr × Hp := (mkS [(0, (jL 6 NettingFlow.cells ba1)), (3, (jI v29))], [])
noncomputable def f48n2 : Nat → List NettingFlow → Int → Option f48n2O
  | 0, _, _ => none
  | f + 1, ba1, v29 =>
    bif (decide (v29 < (ba1.length : Int))) then
      bif (decide (v29 < 500)) then
        (at? ba1 v29).bind fun x39 =>
        (f67 x39).bind fun x41 =>
        bif x41 then
          (f48n2 f ba1 (wr64 (v29 + 1)))
        else
          some .ret
      else
        some .exit0
    else
      some .exit0
theorem f48n2_ok : ∀ (f : Nat) (ba1 : List NettingFlow) (v29 : Int) {o : f48n2O}, (f48n2 f ba1 v29) = some o → TL Try.prog Try.f48.ntmps 0 f (cL (cL (dropC 1 (cL (dropC 1 c48))))) (f48n2S ba1 v29) (fun r => r = f48n2E ba1 o)
  | 0, _, _, o, h => by rw [f48n2] at h; cases h
  | f + 1, ba1, v29, o, h => by
    rw [f48n2] at h
    refine TL.body (K := fun s => ∃ v29 : Int, s = (f48n2S ba1 v29) ∧ (f48n2 f ba1 v29) = some o) ?_ (by rintro _ ⟨v29, rfl, hk⟩; exact f48n2_ok f _ _ hk)
    rcases cond_cases h with ⟨h32, h⟩ | ⟨h32, h⟩
    · rcases cond_cases h with ⟨h33, h⟩ | ⟨h33, h⟩
      · obtain ⟨x39, h40, h⟩ := bind_cases h
        obtain ⟨x41, h42, h⟩ := bind_cases h
        rcases cond_cases h with ⟨h43, h⟩ | ⟨h43, h⟩
        · exact rE cfg_ok [([(5, true), (6, true)], [(7, .bool true)], [(2, .val (jI (ba1.length : Int)))]), ([], [(2, .idx (Int.toNat v29) (NettingFlow.cells x39)), jH 4 (jB x41)], []), j3] [some true, some false] [] [] [0, 3] (.norm, (f48n2S ba1 (wr64 (v29 + 1)))) (ap (len_cv (xs := ba1) (c := NettingFlow.cells)) (ap3 h32 (ap h33 (ap (at_some h40).1 (ap (at_map NettingFlow.cells (at_some h40).2) (ap (f67_ok x39 h42) (ap (not_t h43) an))))))) (LoopQ.norm ⟨(wr64 (v29 + 1)), rfl, h⟩)
        · obtain rfl := some_inj h
          exact rK cfg_ok 2 [([(5, true), (6, true)], [(7, .bool true)], [(2, .val (jI (ba1.length : Int)))]), ([], [(2, .idx (Int.toNat v29) (NettingFlow.cells x39)), jH 4 (jB x41)], []), j3] [some true, some true] [] [] [2] .ret ((f48n2E ba1 .ret).2) (ap (len_cv (xs := ba1) (c := NettingFlow.cells)) (ap3 h32 (ap h33 (ap (at_some h40).1 (ap (at_map NettingFlow.cells (at_some h40).2) (ap (f67_ok x39 h42) (ap (not_f h43) an))))))) (LoopQ.out rfl rfl)
      · obtain rfl := some_inj h
        exact rK cfg_ok 1 [([(5, true), (6, true)], [(7, .bool true)], [(2, .val (jI (ba1.length : Int)))])] [some false] [] [] [0] (.exit 0) ((f48n2E ba1 .exit0).2) (ap (len_cv (xs := ba1) (c := NettingFlow.cells)) (ap3 h32 (ap h33 an))) (LoopQ.out rfl rfl)
    · obtain rfl := some_inj h
      exact rK cfg_ok 1 [([(5, false), (6, false)], [(7, .bool false)], [(2, .val (jI (ba1.length : Int)))])] [none] [] [] [0] (.exit 0) ((f48n2E ba1 .exit0).2) (ap (len_cv (xs := ba1) (c := NettingFlow.cells)) (ap3 h32 an)) (LoopQ.out rfl rfl)
noncomputable def f48n2L (ba1 : List NettingFlow) : List NettingFlow → Int → Option f48n2O
  | [], v29 =>
    some .exit0
  | x0 :: rest, v29 =>
    bif (decide (v29 < 500)) then
      (f67 x0).bind fun x41 =>
      bif x41 then
        (f48n2L ba1 rest (v29 + 1))
      else
        some .ret
    else
      some .exit0
theorem f48n2L_eq (ba1 : List NettingFlow) : ∀ (rest : List NettingFlow) (f k : Nat), ba1.drop k = rest → ba1.length ≤ maxLen → rest.length < f → f48n2 f ba1 (k : Int) = f48n2L ba1 rest (k : Int)
  | _, 0, _, _, _, hf => absurd hf (Nat.not_lt_zero _)
  | [], f + 1, k, hd, hm, hf => by
    have hk : ¬ ((k : Int) < (ba1.length : Int)) := by have := drop_nil hd; omega
    rw [f48n2, f48n2L]
    simp only [decide_eq_false hk, cond_false]
  | x0 :: rest, f + 1, k, hd, hm, hf => by
    obtain ⟨hx, hlt, hd'⟩ := drop_cons hd
    have hk : (k : Int) < (ba1.length : Int) := by omega
    have hw : wr64 ((k : Int) + 1) = (k : Int) + 1 := wr64_of (by omega) (by unfold maxLen at hm; omega)
    have ih : f48n2 f ba1 ((k : Int) + 1) = f48n2L ba1 rest ((k : Int) + 1) := f48n2L_eq ba1 rest f (k + 1) hd' hm (by simpa using hf)
    rw [f48n2, f48n2L]
    simp only [decide_eq_true hk, cond_true, at_nat, hx, Option.bind_some, hw, ih]
theorem f48n2_run (ba1 : List NettingFlow) (hm : ba1.length ≤ maxLen) : f48n2 FUEL ba1 0 = f48n2L ba1 ba1 0 := f48n2L_eq ba1 ba1 FUEL 0 List.drop_zero hm (lt_FUEL hm)
inductive f48n1O where
  | norm
  | ret
def f48n1E (ba1 : List NettingFlow) : f48n1O → Ex × Tr × Hp
  | .norm => (.norm, mkS [(0, (jL 6 NettingFlow.cells ba1))], [])
  | .ret => (.ret, mkS [(2, (jB false))], [])
def f48n1S (ba1 : List NettingFlow) : Tr × Hp := (mkS [(0, (jL 6 NettingFlow.cells ba1))], [])
noncomputable def f48n1 (ba1 : List NettingFlow) : Option f48n1O :=
  (f48n2 FUEL ba1 0).bind fun o44 => match o44 with
  | .exit0 => some .norm
  | .ret => some .ret
theorem f48n1_ok (ba1 : List NettingFlow) {o : f48n1O} (h : (f48n1 ba1) = some o) : T Try.prog Try.f48.ntmps 0 (cL (dropC 1 c48)) (f48n1S ba1) (fun r => r = f48n1E ba1 o) := by
  unfold f48n1 at h
  refine rN cfg_ok 1 [j3] [] [] [] [0, 3] (f48n2S ba1 0) an ?_
  obtain ⟨o44, h45, h⟩ := bind_cases h
  cases o44 with
  | exit0 =>
    obtain rfl := some_inj h
    exact T.last' (T.bl (i := 0) (by kernel_rfl) (by kernel_rfl) (f48n2_ok FUEL ba1 0 h45)) (tds := []) (m := []) (keep := [0]) (st2 := (f48n1E ba1 .norm).2) (by kernel_rfl) an rfl
  | ret =>
    obtain rfl := some_inj h
    exact T.last' (T.bl (i := 0) (by kernel_rfl) (by kernel_rfl) (f48n2_ok FUEL ba1 0 h45)) (tds := []) (m := []) (keep := [2]) (st2 := (f48n1E ba1 .ret).2) (by kernel_rfl) an rfl
inductive f48n0O where
  | ret (v48 : Bool)
def f48n0E (a1 : List NettingFlow) : f48n0O → Ex × Tr × Hp
  | .ret v48 => (.ret, mkS [(2, (jB v48))], [])
def f48n0S (a1 : List NettingFlow) : Tr × Hp := (initS [(jL 6 NettingFlow.cells a1)] 0 .leaf, [])
noncomputable def f48n0 (a1 : List NettingFlow) : Option f48n0O :=
  (f48n1 a1).bind fun o46 => match o46 with
  | .norm => some (.ret (decide ((a1.length : Int) ≤ 500)))
  | .ret => some (.ret false)
theorem f48n0_ok (a1 : List NettingFlow) {o : f48n0O} (h : (f48n0 a1) = some o) : T Try.prog Try.f48.ntmps 0 c48 (f48n0S a1) (fun r => r = f48n0E a1 o) := by
  unfold f48n0 at h
  refine rN cfg_ok 1 [j3] [] [] [] [0] (f48n1S a1) an ?_
  obtain ⟨o46, h47, h⟩ := bind_cases h
  cases o46 with
  | norm =>
    refine T.oneN (by kernel_rfl) (f48n1_ok a1 h47) (st2 := (f48n1E a1 .norm).2) rfl ?_
    obtain rfl := some_inj h
    exact rE cfg_ok [([], [], [(1, .val (jI (a1.length : Int)))])] [] [] [] [2] (.ret, (f48n0E a1 (.ret (decide ((a1.length : Int) ≤ 500)))).2) (ap (len_cv (xs := a1) (c := NettingFlow.cells)) an) rfl
  | ret =>
    obtain rfl := some_inj h
    exact T.oneX' (by kernel_rfl) (f48n1_ok a1 h47) (tds := []) (m := []) (keep := [2]) (st2 := (f48n0E a1 (.ret false)).2) (by kernel_rfl) an rfl rfl
noncomputable def f48 (a1 : List NettingFlow) : Option Bool := (f48n0 a1).bind fun o => match o with
  | .ret v48 => some v48
theorem f48_ok (a1 : List NettingFlow) {r : Bool} (h : (f48 a1) = some r) : CallS Try.prog false 48 [(jL 6 NettingFlow.cells a1)] [] (jB r) [] := by
  unfold f48 at h
  obtain ⟨o, ho, h⟩ := bind_cases h
  cases o with
  | ret v48 =>
    obtain rfl := some_inj h
    exact CallS.plain cfg_ok (f := Try.f48) (c := c48) (by kernel_rfl) (by kernel_rfl) (by kernel_rfl) (by kernel_rfl) ((f48n0_ok a1 ho).mono fun r e => by subst e; exact ⟨.inl rfl, (jB v48), (jB v48), by kernel_rfl, by kernel_rfl, ((Wk.refl _) : Wk (jB v48) (jB v48))⟩)

noncomputable def c68 : Code := Try.f68.body.getD .skip
inductive f68n0O where
  | ret (v7 : Bool)
def f68n0E (a1 : Row_) (a2 : Row_) : f68n0O → Ex × Tr × Hp
  | .ret v7 => (.ret, mkS [(4, (jB v7))], [])
def f68n0S (a1 : Row_) (a2 : Row_) : Tr × Hp := (initS [(jA Row_.cells a1), (jA Row_.cells a2)] 0 .leaf, [])
noncomputable def f68n0 (a1 : Row_) (a2 : Row_) : Option f68n0O :=
  bif (decide (a1.date = a2.date)) then
    bif (seq a1.ccy a2.ccy) then
      some (.ret (slt a1.party a2.party))
    else
      some (.ret (slt a1.ccy a2.ccy))
  else
    some (.ret (decide (a1.date < a2.date)))
theorem f68n0_ok (a1 : Row_) (a2 : Row_) {o : f68n0O} (h : (f68n0 a1 a2) = some o) : T Try.prog Try.f68.ntmps 0 c68 (f68n0S a1 a2) (fun r => r = f68n0E a1 a2 o) := by
  unfold f68n0 at h
  rcases cond_cases h with ⟨h4, h⟩ | ⟨h4, h⟩
  · rcases cond_cases h with ⟨h6, h⟩ | ⟨h6, h⟩
    · obtain rfl := some_inj h
      exact rE cfg_ok [j3, j3, j3, j3] [some false, some false] [] [] [4] (.ret, (f68n0E a1 a2 (.ret (slt a1.party a2.party))).2) (ap (not_t h4) (ap (not_t h6) an)) rfl
    · obtain rfl := some_inj h
      exact rK cfg_ok 3 [j3, j3, j3, j3] [some false, some true] [] [] [4] .ret ((f68n0E a1 a2 (.ret (slt a1.ccy a2.ccy))).2) (ap (not_t h4) (ap (not_f h6) an)) rfl
  · obtain rfl := some_inj h
    exact rK cfg_ok 2 [j3, j3, j3] [some true] [] [] [4] .ret ((f68n0E a1 a2 (.ret (decide (a1.date < a2.date)))).2) (ap (not_f h4) an) rfl
noncomputable def f68 (a1 : Row_) (a2 : Row_) : Option Bool := (f68n0 a1 a2).bind fun o => match o with
  | .ret v7 => some v7
theorem f68_ok (a1 : Row_) (a2 : Row_) {r : Bool} (h : (f68 a1 a2) = some r) : CallS Try.prog false 68 [(jA Row_.cells a1), (jA Row_.cells a2)] [] (jB r) [] := by
  unfold f68 at h
  obtain ⟨o, ho, h⟩ := bind_cases h
  cases o with
  | ret v7 =>
    obtain rfl := some_inj h
    exact CallS.plain cfg_ok (f := Try.f68) (c := c68) (by kernel_rfl) (by kernel_rfl) (by kernel_rfl) (by kernel_rfl) ((f68n0_ok a1 a2 ho).mono fun r e => by subst e; exact ⟨.inl rfl, (jB v7), (jB v7), by kernel_rfl, by kernel_rfl, ((Wk.refl _) : Wk (jB v7) (jB v7))⟩)

noncomputable def c51 : Code := Try.f51.body.getD .skip
inductive f51n2O where
  | exit0 (v71 : Bool) (v72 : List Row_)
  | ret
def f51n2E (bj1 : List Row_) (bk2 : Row_) : f51n2O → Ex × Tr × Hp
  | .exit0 v71 v72 => ((.exit 0), mkS [(3, (.bp 0 0)), (5, (.own 1)), (6, (jB v71))], [some (.box ((Row_.cells bk2).map .pl)), jR 3 Row_.cells v72])
  | .ret => (.ret, mkS [(4, (jL 3 Row_.cells bj1))], [])
def f51n2S (bj1 : List Row_) (bk2 : Row_) (v44 : Bool) (v45 : Int) (v46 : List Row_) : Tr × Hp := (mkS [(0, (jL 3 Row_.cells bj1)), (3, (.bp 0 0)), (5, (.own 1)), (6, (jB v44)), (7, (jI v45))], [some (.box ((Row_.cells bk2).map .pl)), jR 3 Row_.cells v46])
noncomputable def f51n2 : Nat → List Row_ → Row_ → Bool → Int → List Row_ → Option f51n2O
  | 0, _, _, _, _, _ => none
  | f + 1, bj1, bk2, v44, v45, v46 =>
    bif (decide (v45 < (bj1.length : Int))) then
      (at? bj1 v45).bind fun x60 =>
      bif (Row_.eqb x60 bk2) then
        some .ret
      else
        bif v44 then
          req (fit (v46.length + 1) 40) <|
          (f51n2 f bj1 bk2 v44 (wr64 (v45 + 1)) (v46 ++ [x60]))
        else
          (f68 bk2 x60).bind fun x65 =>
          bif x65 then
            req (fit (v46.length + 1) 40) <|
            req (fit ((v46 ++ [bk2]).length + 1) 40) <|
            (f51n2 f bj1 bk2 true (wr64 (v45 + 1)) ((v46 ++ [bk2]) ++ [x60]))
          else
            req (fit (v46.length + 1) 40) <|
            (f51n2 f bj1 bk2 v44 (wr64 (v45 + 1)) (v46 ++ [x60]))
    else
      some (.exit0 v44 v46)
theorem f51n2_ok : ∀ (f : Nat) (bj1 : List Row_) (bk2 : Row_) (v44 : Bool) (v45 : Int) (v46 : List Row_) {o : f51n2O}, (f51n2 f bj1 bk2 v44 v45 v46) = some o → TL Try.prog Try.f51.ntmps 0 f (cL (cL (dropC 1 (cL (dropC 3 c51))))) (f51n2S bj1 bk2 v44 v45 v46) (fun r => r = f51n2E bj1 bk2 o)
  | 0, _, _, _, _, _, o, h => by rw [f51n2] at h; cases h
  | f + 1, bj1, bk2, v44, v45, v46, o, h => by
    rw [f51n2] at h
    refine TL.body (K := fun s => ∃ v44 : Bool, ∃ v45 : Int, ∃ v46 : List Row_, s = (f51n2S bj1 bk2 v44 v45 v46) ∧ (f51n2 f bj1 bk2 v44 v45 v46) = some o) ?_ (by rintro _ ⟨v44, v45, v46, rfl, hk⟩; exact f51n2_ok f _ _ _ _ _ hk)
    rcases cond_cases h with ⟨h48, h⟩ | ⟨h48, h⟩
    · obtain ⟨x60, h61, h⟩ := bind_cases h
      rcases cond_cases h with ⟨h62, h⟩ | ⟨h62, h⟩
      · obtain rfl := some_inj h
        exact rK cfg_ok 2 [([], [], [(2, .val (jI (bj1.length : Int)))]), ([], [(2, .idx (Int.toNat v45) (Row_.cells x60)), (5, .bool (Row_.eqb x60 bk2))], []), j3] [some true, some true] [] [] [4] .ret ((f51n2E bj1 bk2 .ret).2) (ap (len_cv (xs := bj1) (c := Row_.cells)) (ap h48 (ap (at_some h61).1 (ap (at_map Row_.cells (at_some h61).2) (ap (Row_.eqb_ok x60 bk2) (ap h62 an)))))) (LoopQ.out rfl rfl)
      · rcases cond_cases h with ⟨h63, h⟩ | ⟨h63, h⟩
        · obtain ⟨h64, h⟩ := req_cases h
          exact rE cfg_ok [([], [], [(2, .val (jI (bj1.length : Int)))]), ([], [(2, .idx (Int.toNat v45) (Row_.cells x60)), (5, .bool (Row_.eqb x60 bk2))], []), (jF [3, 4, 5, 6, 7, 8], [(9, .bool false)], []), ([], [(3, .idx (Int.toNat v45) (Row_.cells x60)), (6, .fits)], [(6, .row 5 ((v46 ++ [x60]).map Row_.cells))]), j3] [some true, some false, none] [] [0, 5] [0, 3, 5, 6, 7] (.norm, (f51n2S bj1 bk2 v44 (wr64 (v45 + 1)) (v46 ++ [x60]))) (ap (len_cv (xs := bj1) (c := Row_.cells)) (ap h48 (ap (at_some h61).1 (ap (at_map Row_.cells (at_some h61).2) (ap (Row_.eqb_ok x60 bk2) (ap h62 (ap3 (not_t h63) (ap4 (not_t h63) (ap (at_some h61).1 (ap (at_map Row_.cells (at_some h61).2) (ap (fit_map (te := ti87) (xs := v46) (n := 1) (c := Row_.cells) h64 rfl) (ap (app_cv (xs := v46) (ys := [x60]) (c := Row_.cells)) an)))))))))))) (LoopQ.norm ⟨v44, (wr64 (v45 + 1)), (v46 ++ [x60]), rfl, h⟩)
        · obtain ⟨x65, h66, h⟩ := bind_cases h
          rcases cond_cases h with ⟨h67, h⟩ | ⟨h67, h⟩
          · obtain ⟨h68, h⟩ := req_cases h
            obtain ⟨h69, h⟩ := req_cases h
            exact rE cfg_ok [([], [], [(2, .val (jI (bj1.length : Int)))]), ([], [(2, .idx (Int.toNat v45) (Row_.cells x60)), (5, .bool (Row_.eqb x60 bk2))], []), (jT [3, 4, 5, 6, 7, 8], [(6, .idx (Int.toNat v45) (Row_.cells x60)), jH 8 (jB x65), (9, .bool true)], []), ([], [(3, .fits)], [(3, .row 5 ((v46 ++ [bk2]).map Row_.cells))]), j3, ([], [(3, .idx (Int.toNat v45) (Row_.cells x60)), (6, .fits)], [(6, .row 7 (((v46 ++ [bk2]) ++ [x60]).map Row_.cells))]), j3] [some true, some false, some true] [] [0, 7] [0, 3, 5, 6, 7] (.norm, (f51n2S bj1 bk2 true (wr64 (v45 + 1)) ((v46 ++ [bk2]) ++ [x60]))) (ap (len_cv (xs := bj1) (c := Row_.cells)) (ap h48 (ap (at_some h61).1 (ap (at_map Row_.cells (at_some h61).2) (ap (Row_.eqb_ok x60 bk2) (ap h62 (ap4 (not_f h63) (ap (at_some h61).1 (ap (at_map Row_.cells (at_some h61).2) (ap3 (not_f h63) (ap (f68_ok bk2 x60 h66) (ap h67 (ap (fit_map (te := ti87) (xs := v46) (n := 1) (c := Row_.cells) h68 rfl) (ap (app_cv (xs := v46) (ys := [bk2]) (c := Row_.cells)) (ap (at_some h61).1 (ap (at_map Row_.cells (at_some h61).2) (ap (fit_map (te := ti87) (xs := (v46 ++ [bk2])) (n := 1) (c := Row_.cells) h69 rfl) (ap (app_cv (xs := (v46 ++ [bk2])) (ys := [x60]) (c := Row_.cells)) an)))))))))))))))))) (LoopQ.norm ⟨true, (wr64 (v45 + 1)), ((v46 ++ [bk2]) ++ [x60]), rfl, h⟩)
          · obtain ⟨h70, h⟩ := req_cases h
            exact rE cfg_ok [([], [], [(2, .val (jI (bj1.length : Int)))]), ([], [(2, .idx (Int.toNat v45) (Row_.cells x60)), (5, .bool (Row_.eqb x60 bk2))], []), (jT [3, 4, 5, 6, 7, 8], [(6, .idx (Int.toNat v45) (Row_.cells x60)), jH 8 (jB x65), (9, .bool true)], []), ([], [(3, .idx (Int.toNat v45) (Row_.cells x60)), (6, .fits)], [(6, .row 5 ((v46 ++ [x60]).map Row_.cells))]), j3] [some true, some false, some false] [] [0, 5] [0, 3, 5, 6, 7] (.norm, (f51n2S bj1 bk2 v44 (wr64 (v45 + 1)) (v46 ++ [x60]))) (ap (len_cv (xs := bj1) (c := Row_.cells)) (ap h48 (ap (at_some h61).1 (ap (at_map Row_.cells (at_some h61).2) (ap (Row_.eqb_ok x60 bk2) (ap h62 (ap4 (not_f h63) (ap (at_some h61).1 (ap (at_map Row_.cells (at_some h61).2) (ap3 (not_f h63) (ap (f68_ok bk2 x60 h66) (ap h67 (ap (at_some h61).1 (ap (at_map Row_.cells (at_some h61).2) (ap (fit_map (te := ti87) (xs := v46) (n := 1) (c := Row_.cells) h70 rfl) (ap (app_cv (xs := v46) (ys := [x60]) (c := Row_.cells)) an)))))))))))))))) (LoopQ.norm ⟨v44, (wr64 (v45 + 1)), (v46 ++ [x60]), rfl, h⟩)
    · obtain rfl := some_inj h
      exact rK cfg_ok 1 [([], [], [(2, .val (jI (bj1.length : Int)))])] [some false] [] [0, 1] [3, 5, 6] (.exit 0) ((f51n2E bj1 bk2 (.exit0 v44 v46)).2) (ap (len_cv (xs := bj1) (c := Row_.cells)) (ap h48 an)) (LoopQ.out rfl rfl)
noncomputable def f51n2L (bj1 : List Row_) (bk2 : Row_) : List Row_ → Bool → Int → (List Row_) → Option f51n2O
  | [], v44, v45, v46 =>
    some (.exit0 v44 v46)
  | x0 :: rest, v44, v45, v46 =>
    bif (Row_.eqb x0 bk2) then
      some .ret
    else
      bif v44 then
        req (fit (v46.length + 1) 40) <|
        (f51n2L bj1 bk2 rest v44 (v45 + 1) (v46 ++ [x0]))
      else
        (f68 bk2 x0).bind fun x65 =>
        bif x65 then
          req (fit (v46.length + 1) 40) <|
          req (fit ((v46 ++ [bk2]).length + 1) 40) <|
          (f51n2L bj1 bk2 rest true (v45 + 1) ((v46 ++ [bk2]) ++ [x0]))
        else
          req (fit (v46.length + 1) 40) <|
          (f51n2L bj1 bk2 rest v44 (v45 + 1) (v46 ++ [x0]))
theorem f51n2L_eq (bj1 : List Row_) (bk2 : Row_) : ∀ (rest : List Row_) (f k : Nat) (v44 : Bool) (v46 : List Row_), bj1.drop k = rest → bj1.length ≤ maxLen → rest.length < f → f51n2 f bj1 bk2 v44 (k : Int) v46 = f51n2L bj1 bk2 rest v44 (k : Int) v46
  | _, 0, _, _, _, _, _, hf => absurd hf (Nat.not_lt_zero _)
  | [], f + 1, k, v44, v46, hd, hm, hf => by
    have hk : ¬ ((k : Int) < (bj1.length : Int)) := by have := drop_nil hd; omega
    rw [f51n2, f51n2L]
    simp only [decide_eq_false hk, cond_false]
  | x0 :: rest, f + 1, k, v44, v46, hd, hm, hf => by
    obtain ⟨hx, hlt, hd'⟩ := drop_cons hd
    have hk : (k : Int) < (bj1.length : Int) := by omega
    have hw : wr64 ((k : Int) + 1) = (k : Int) + 1 := wr64_of (by omega) (by unfold maxLen at hm; omega)
    have ih : ∀ (v44 : Bool) (v46 : List Row_), f51n2 f bj1 bk2 v44 ((k : Int) + 1) v46 = f51n2L bj1 bk2 rest v44 ((k : Int) + 1) v46 := fun v44 v46 => f51n2L_eq bj1 bk2 rest f (k + 1) v44 v46 hd' hm (by simpa using hf)
    rw [f51n2, f51n2L]
    simp only [decide_eq_true hk, cond_true, at_nat, hx, Option.bind_some, hw, ih]
theorem f51n2_run (bj1 : List Row_) (bk2 : Row_) (v44 : Bool) (v46 : List Row_) (hm : bj1.length ≤ maxLen) : f51n2 FUEL bj1 bk2 v44 0 v46 = f51n2L bj1 bk2 bj1 v44 0 v46 := f51n2L_eq bj1 bk2 bj1 FUEL 0 v44 v46 List.drop_zero hm (lt_FUEL hm)
inductive f51n1O where
  | norm (v77 : Bool) (v78 : List Row_)
  | ret
def f51n1E (bj1 : List Row_) (bk2 : Row_) : f51n1O → Ex × Tr × Hp
  | .norm v77 v78 => (.norm, mkS [(3, (.bp 0 0)), (5, (.own 1)), (6, (jB v77))], [some (.box ((Row_.cells bk2).map .pl)), jR 3 Row_.cells v78])
  | .ret => (.ret, mkS [(4, (jL 3 Row_.cells bj1))], [])
def f51n1S (bj1 : List Row_) (bk2 : Row_) : Tr × Hp := (mkS [(0, (jL 3 Row_.cells bj1)), (3, (.bp 0 0)), (5, (.pl (.sl .nil 0 []))), (6, (jB false))], [some (.box ((Row_.cells bk2).map .pl))])
noncomputable def f51n1 (bj1 : List Row_) (bk2 : Row_) : Option f51n1O :=
  (f51n2 FUEL bj1 bk2 false 0 []).bind fun o73 => match o73 with
  | .exit0 v75 v76 => some (.norm v75 v76)
  | .ret => some .ret
theorem f51n1_ok (bj1 : List Row_) (bk2 : Row_) {o : f51n1O} (h : (f51n1 bj1 bk2) = some o) : T Try.prog Try.f51.ntmps 0 (cL (dropC 3 c51)) (f51n1S bj1 bk2) (fun r => r = f51n1E bj1 bk2 o) := by
  unfold f51n1 at h
  refine rN cfg_ok 1 [j3] [] [.mat 5 3] [0, 1] [0, 3, 5, 6, 7] (f51n2S bj1 bk2 false 0 []) an ?_
  obtain ⟨o73, h74, h⟩ := bind_cases h
  cases o73 with
  | exit0 v75 v76 =>
    obtain rfl := some_inj h
    exact T.last' (T.bl (i := 0) (by kernel_rfl) (by kernel_rfl) (f51n2_ok FUEL bj1 bk2 false 0 [] h74)) (tds := []) (m := [0, 1]) (keep := [3, 5, 6]) (st2 := (f51n1E bj1 bk2 (.norm v75 v76)).2) (by kernel_rfl) an rfl
  | ret =>
    obtain rfl := some_inj h
    exact T.last' (T.bl (i := 0) (by kernel_rfl) (by kernel_rfl) (f51n2_ok FUEL bj1 bk2 false 0 [] h74)) (tds := []) (m := []) (keep := [4]) (st2 := (f51n1E bj1 bk2 .ret).2) (by kernel_rfl) an rfl
inductive f51n0O where
  | ret (v87 : List Row_)
def f51n0E (a1 : List Row_) (a2 : Row_) : f51n0O → Ex × Tr × Hp
  | .ret v87 => (.ret, mkS [(4, (jL 3 Row_.cells v87))], [])
def f51n0S (a1 : List Row_) (a2 : Row_) : Tr × Hp := (initS [(jL 3 Row_.cells a1), (jA Row_.cells a2)] 0 .leaf, [])
noncomputable def f51n0 (a1 : List Row_) (a2 : Row_) : Option f51n0O :=
  (f51n1 a1 a2).bind fun o79 => match o79 with
  | .norm v81 v82 => bif v81 then
      some (.ret v82)
    else
      req (fit (v82.length + 1) 40) <|
      some (.ret (v82 ++ [a2]))
  | .ret => some (.ret a1)
theorem f51n0_ok (a1 : List Row_) (a2 : Row_) {o : f51n0O} (h : (f51n0 a1 a2) = some o) : T Try.prog Try.f51.ntmps 0 c51 (f51n0S a1 a2) (fun r => r = f51n0E a1 a2 o) := by
  unfold f51n0 at h
  refine rN cfg_ok 3 [j3, j3, j3] [] [] [0] [0, 3, 5, 6] (f51n1S a1 a2) an ?_
  obtain ⟨o79, h80, h⟩ := bind_cases h
  cases o79 with
  | norm v81 v82 =>
    refine T.oneN (by kernel_rfl) (f51n1_ok a1 a2 h80) (st2 := (f51n1E a1 a2 (.norm v81 v82)).2) rfl ?_
    rcases cond_cases h with ⟨h85, h⟩ | ⟨h85, h⟩
    · obtain rfl := some_inj h
      exact rE cfg_ok [j3, j3] [some false] [.frz 4] [] [4] (.ret, (f51n0E a1 a2 (.ret v82)).2) (ap (not_t h85) an) rfl
    · obtain ⟨h86, h⟩ := req_cases h
      obtain rfl := some_inj h
      exact rE cfg_ok [j3, ([], [(3, .fits)], [(3, .row 3 ((v82 ++ [a2]).map Row_.cells))]), j3] [some true] [.frz 4] [] [4] (.ret, (f51n0E a1 a2 (.ret (v82 ++ [a2]))).2) (ap (not_f h85) (ap (fit_map (te := ti87) (xs := v82) (n := 1) (c := Row_.cells) h86 rfl) (ap (app_cv (xs := v82) (ys := [a2]) (c := Row_.cells)) an))) rfl
  | ret =>
    obtain rfl := some_inj h
    exact T.oneX' (by kernel_rfl) (f51n1_ok a1 a2 h80) (tds := []) (m := []) (keep := [4]) (st2 := (f51n0E a1 a2 (.ret a1)).2) (by kernel_rfl) an rfl rfl
noncomputable def f51 (a1 : List Row_) (a2 : Row_) : Option (List Row_) := (f51n0 a1 a2).bind fun o => match o with
  | .ret v87 => some v87
theorem f51_ok (a1 : List Row_) (a2 : Row_) {r : List Row_} (h : (f51 a1 a2) = some r) : CallS Try.prog false 51 [(jL 3 Row_.cells a1), (jA Row_.cells a2)] [] (jL 3 Row_.cells r) [] := by
  unfold f51 at h
  obtain ⟨o, ho, h⟩ := bind_cases h
  cases o with
  | ret v87 =>
    obtain rfl := some_inj h
    exact CallS.plain cfg_ok (f := Try.f51) (c := c51) (by kernel_rfl) (by kernel_rfl) (by kernel_rfl) (by kernel_rfl) ((f51n0_ok a1 a2 ho).mono fun r e => by subst e; exact ⟨.inl rfl, (jL 3 Row_.cells v87), (jL 3 Row_.cells v87), by kernel_rfl, by kernel_rfl, ((Wk.refl _) : Wk (jL 3 Row_.cells v87) (jL 3 Row_.cells v87))⟩)

noncomputable def c52 : Code := Try.f52.body.getD .skip
inductive f52n2O where
  | exit0 (v57 : Int)
def f52n2E (ba1 : List NettingFlow) (bb2 : ByteArray) (bd3 : Int) (bb4 : ByteArray) : f52n2O → Ex × Tr × Hp
  | .exit0 v57 => ((.exit 0), mkS [(9, (jI v57))], [])
def f52n2S (ba1 : List NettingFlow) (bb2 : ByteArray) (bd3 : Int) (bb4 : ByteArray) (v39 : Int) (v40 : Int) : Tr × Hp := (mkS [(0, (jL 6 NettingFlow.cells ba1)), (1, (jS bb2)), (2, (jI bd3)), (3, (jS bb4)), (9, (jI v39)), (10, (jI v40))], [])
noncomputable def f52n2 : Nat → List NettingFlow → ByteArray → Int → ByteArray → Int → Int → Option f52n2O
  | 0, _, _, _, _, _, _ => none
  | f + 1, ba1, bb2, bd3, bb4, v39, v40 =>
    bif (decide (v40 < (ba1.length : Int))) then
      (at? ba1 v40).bind fun x50 =>
      bif (decide (x50.Date = bd3)) then
        bif (seq x50.Ccy bb4) then
          bif (seq x50.To bb2) then
            bif (seq x50.From bb2) then
              (f52n2 f ba1 bb2 bd3 bb4 (wr64 ((wr64 (v39 + x50.Amount)) - x50.Amount)) (wr64 (v40 + 1)))
            else
              (f52n2 f ba1 bb2 bd3 bb4 (wr64 (v39 + x50.Amount)) (wr64 (v40 + 1)))
          else
            bif (seq x50.From bb2) then
              (f52n2 f ba1 bb2 bd3 bb4 (wr64 (v39 - x50.Amount)) (wr64 (v40 + 1)))
            else
              (f52n2 f ba1 bb2 bd3 bb4 v39 (wr64 (v40 + 1)))
        else
          (f52n2 f ba1 bb2 bd3 bb4 v39 (wr64 (v40 + 1)))
      else
        (f52n2 f ba1 bb2 bd3 bb4 v39 (wr64 (v40 + 1)))
    else
      some (.exit0 v39)
theorem f52n2_ok : ∀ (f : Nat) (ba1 : List NettingFlow) (bb2 : ByteArray) (bd3 : Int) (bb4 : ByteArray) (v39 : Int) (v40 : Int) {o : f52n2O}, (f52n2 f ba1 bb2 bd3 bb4 v39 v40) = some o → TL Try.prog Try.f52.ntmps 0 f (cL (cL (dropC 1 (cL (dropC 2 c52))))) (f52n2S ba1 bb2 bd3 bb4 v39 v40) (fun r => r = f52n2E ba1 bb2 bd3 bb4 o)
  | 0, _, _, _, _, _, _, o, h => by rw [f52n2] at h; cases h
  | f + 1, ba1, bb2, bd3, bb4, v39, v40, o, h => by
    rw [f52n2] at h
    refine TL.body (K := fun s => ∃ v39 : Int, ∃ v40 : Int, s = (f52n2S ba1 bb2 bd3 bb4 v39 v40) ∧ (f52n2 f ba1 bb2 bd3 bb4 v39 v40) = some o) ?_ (by rintro _ ⟨v39, v40, rfl, hk⟩; exact f52n2_ok f _ _ _ _ _ _ hk)
    rcases cond_cases h with ⟨h42, h⟩ | ⟨h42, h⟩
    · obtain ⟨x50, h51, h⟩ := bind_cases h
      rcases cond_cases h with ⟨h52, h⟩ | ⟨h52, h⟩
      · rcases cond_cases h with ⟨h53, h⟩ | ⟨h53, h⟩
        · rcases cond_cases h with ⟨h54, h⟩ | ⟨h54, h⟩
          · rcases cond_cases h with ⟨h55, h⟩ | ⟨h55, h⟩
            · exact rE cfg_ok [([], [], [(2, .val (jI (ba1.length : Int)))]), (jT [8, 9, 10, 11, 12, 13, 14, 17, 18, 19, 20, 21, 22, 23], [(2, .idx (Int.toNat v40) (NettingFlow.cells x50)), (10, .idx (Int.toNat v40) (NettingFlow.cells x50)), (15, .bool true), (19, .idx (Int.toNat v40) (NettingFlow.cells x50)), (24, .bool true)], []), ([], [(3, .idx (Int.toNat v40) (NettingFlow.cells x50))], []), (jT [8, 9, 10, 11, 12, 13, 14, 17, 18, 19, 20, 21, 22, 23], [(2, .idx (Int.toNat v40) (NettingFlow.cells x50)), (10, .idx (Int.toNat v40) (NettingFlow.cells x50)), (15, .bool true), (19, .idx (Int.toNat v40) (NettingFlow.cells x50)), (24, .bool true)], []), ([], [(3, .idx (Int.toNat v40) (NettingFlow.cells x50))], []), j3] [some true, some true, some true] [] [] [0, 1, 2, 3, 9, 10] (.norm, (f52n2S ba1 bb2 bd3 bb4 (wr64 ((wr64 (v39 + x50.Amount)) - x50.Amount)) (wr64 (v40 + 1)))) (ap (len_cv (xs := ba1) (c := NettingFlow.cells)) (ap h42 (ap (at_some h51).1 (ap (at_map NettingFlow.cells (at_some h51).2) (ap3 h52 (ap (at_some h51).1 (ap (at_map NettingFlow.cells (at_some h51).2) (ap h52 (ap4 h52 (ap3 h53 (ap (at_some h51).1 (ap (at_map NettingFlow.cells (at_some h51).2) (ap h53 (ap4 h53 (ap h54 (ap (at_some h51).1 (ap (at_map NettingFlow.cells (at_some h51).2) (ap (at_some h51).1 (ap (at_map NettingFlow.cells (at_some h51).2) (ap3 h52 (ap (at_some h51).1 (ap (at_map NettingFlow.cells (at_some h51).2) (ap h52 (ap4 h52 (ap3 h53 (ap (at_some h51).1 (ap (at_map NettingFlow.cells (at_some h51).2) (ap h53 (ap4 h53 (ap h55 (ap (at_some h51).1 (ap (at_map NettingFlow.cells (at_some h51).2) an)))))))))))))))))))))))))))))))) (LoopQ.norm ⟨(wr64 ((wr64 (v39 + x50.Amount)) - x50.Amount)), (wr64 (v40 + 1)), rfl, h⟩)
            · exact rE cfg_ok [([], [], [(2, .val (jI (ba1.length : Int)))]), (jT [8, 9, 10, 11, 12, 13, 14, 17, 18, 19, 20, 21, 22, 23], [(2, .idx (Int.toNat v40) (NettingFlow.cells x50)), (10, .idx (Int.toNat v40) (NettingFlow.cells x50)), (15, .bool true), (19, .idx (Int.toNat v40) (NettingFlow.cells x50)), (24, .bool true)], []), ([], [(3, .idx (Int.toNat v40) (NettingFlow.cells x50))], []), (jT [8, 9, 10, 11, 12, 13, 14, 17, 18, 19, 20, 21, 22, 23], [(2, .idx (Int.toNat v40) (NettingFlow.cells x50)), (10, .idx (Int.toNat v40) (NettingFlow.cells x50)), (15, .bool true), (19, .idx (Int.toNat v40) (NettingFlow.cells x50)), (24, .bool true)], []), j3] [some true, some true, some false] [] [] [0, 1, 2, 3, 9, 10] (.norm, (f52n2S ba1 bb2 bd3 bb4 (wr64 (v39 + x50.Amount)) (wr64 (v40 + 1)))) (ap (len_cv (xs := ba1) (c := NettingFlow.cells)) (ap h42 (ap (at_some h51).1 (ap (at_map NettingFlow.cells (at_some h51).2) (ap3 h52 (ap (at_some h51).1 (ap (at_map NettingFlow.cells (at_some h51).2) (ap h52 (ap4 h52 (ap3 h53 (ap (at_some h51).1 (ap (at_map NettingFlow.cells (at_some h51).2) (ap h53 (ap4 h53 (ap h54 (ap (at_some h51).1 (ap (at_map NettingFlow.cells (at_some h51).2) (ap (at_some h51).1 (ap (at_map NettingFlow.cells (at_some h51).2) (ap3 h52 (ap (at_some h51).1 (ap (at_map NettingFlow.cells (at_some h51).2) (ap h52 (ap4 h52 (ap3 h53 (ap (at_some h51).1 (ap (at_map NettingFlow.cells (at_some h51).2) (ap h53 (ap4 h53 (ap h55 an)))))))))))))))))))))))))))))) (LoopQ.norm ⟨(wr64 (v39 + x50.Amount)), (wr64 (v40 + 1)), rfl, h⟩)
          · rcases cond_cases h with ⟨h56, h⟩ | ⟨h56, h⟩
            · exact rE cfg_ok [([], [], [(2, .val (jI (ba1.length : Int)))]), (jT [8, 9, 10, 11, 12, 13, 14, 17, 18, 19, 20, 21, 22, 23], [(2, .idx (Int.toNat v40) (NettingFlow.cells x50)), (10, .idx (Int.toNat v40) (NettingFlow.cells x50)), (15, .bool true), (19, .idx (Int.toNat v40) (NettingFlow.cells x50)), (24, .bool true)], []), (jT [8, 9, 10, 11, 12, 13, 14, 17, 18, 19, 20, 21, 22, 23], [(2, .idx (Int.toNat v40) (NettingFlow.cells x50)), (10, .idx (Int.toNat v40) (NettingFlow.cells x50)), (15, .bool true), (19, .idx (Int.toNat v40) (NettingFlow.cells x50)), (24, .bool true)], []), ([], [(3, .idx (Int.toNat v40) (NettingFlow.cells x50))], []), j3] [some true, some false, some true] [] [] [0, 1, 2, 3, 9, 10] (.norm, (f52n2S ba1 bb2 bd3 bb4 (wr64 (v39 - x50.Amount)) (wr64 (v40 + 1)))) (ap (len_cv (xs := ba1) (c := NettingFlow.cells)) (ap h42 (ap (at_some h51).1 (ap (at_map NettingFlow.cells (at_some h51).2) (ap3 h52 (ap (at_some h51).1 (ap (at_map NettingFlow.cells (at_some h51).2) (ap h52 (ap4 h52 (ap3 h53 (ap (at_some h51).1 (ap (at_map NettingFlow.cells (at_some h51).2) (ap h53 (ap4 h53 (ap h54 (ap (at_some h51).1 (ap (at_map NettingFlow.cells (at_some h51).2) (ap3 h52 (ap (at_some h51).1 (ap (at_map NettingFlow.cells (at_some h51).2) (ap h52 (ap4 h52 (ap3 h53 (ap (at_some h51).1 (ap (at_map NettingFlow.cells (at_some h51).2) (ap h53 (ap4 h53 (ap h56 (ap (at_some h51).1 (ap (at_map NettingFlow.cells (at_some h51).2) an)))))))))))))))))))))))))))))) (LoopQ.norm ⟨(wr64 (v39 - x50.Amount)), (wr64 (v40 + 1)), rfl, h⟩)
            · exact rE cfg_ok [([], [], [(2, .val (jI (ba1.length : Int)))]), (jT [8, 9, 10, 11, 12, 13, 14, 17, 18, 19, 20, 21, 22, 23], [(2, .idx (Int.toNat v40) (NettingFlow.cells x50)), (10, .idx (Int.toNat v40) (NettingFlow.cells x50)), (15, .bool true), (19, .idx (Int.toNat v40) (NettingFlow.cells x50)), (24, .bool true)], []), (jT [8, 9, 10, 11, 12, 13, 14, 17, 18, 19, 20, 21, 22, 23], [(2, .idx (Int.toNat v40) (NettingFlow.cells x50)), (10, .idx (Int.toNat v40) (NettingFlow.cells x50)), (15, .bool true), (19, .idx (Int.toNat v40) (NettingFlow.cells x50)), (24, .bool true)], []), j3] [some true, some false, some false] [] [] [0, 1, 2, 3, 9, 10] (.norm, (f52n2S ba1 bb2 bd3 bb4 v39 (wr64 (v40 + 1)))) (ap (len_cv (xs := ba1) (c := NettingFlow.cells)) (ap h42 (ap (at_some h51).1 (ap (at_map NettingFlow.cells (at_some h51).2) (ap3 h52 (ap (at_some h51).1 (ap (at_map NettingFlow.cells (at_some h51).2) (ap h52 (ap4 h52 (ap3 h53 (ap (at_some h51).1 (ap (at_map NettingFlow.cells (at_some h51).2) (ap h53 (ap4 h53 (ap h54 (ap (at_some h51).1 (ap (at_map NettingFlow.cells (at_some h51).2) (ap3 h52 (ap (at_some h51).1 (ap (at_map NettingFlow.cells (at_some h51).2) (ap h52 (ap4 h52 (ap3 h53 (ap (at_some h51).1 (ap (at_map NettingFlow.cells (at_some h51).2) (ap h53 (ap4 h53 (ap h56 an)))))))))))))))))))))))))))) (LoopQ.norm ⟨v39, (wr64 (v40 + 1)), rfl, h⟩)
        · exact rE cfg_ok [([], [], [(2, .val (jI (ba1.length : Int)))]), (jF [17, 18, 19, 20, 21, 22, 23] ++ jT [8, 9, 10, 11, 12, 13, 14], [(2, .idx (Int.toNat v40) (NettingFlow.cells x50)), (10, .idx (Int.toNat v40) (NettingFlow.cells x50)), (15, .bool true), (24, .bool false)], []), (jF [17, 18, 19, 20, 21, 22, 23] ++ jT [8, 9, 10, 11, 12, 13, 14], [(2, .idx (Int.toNat v40) (NettingFlow.cells x50)), (10, .idx (Int.toNat v40) (NettingFlow.cells x50)), (15, .bool true), (24, .bool false)], []), j3] [some true, none, none] [] [] [0, 1, 2, 3, 9, 10] (.norm, (f52n2S ba1 bb2 bd3 bb4 v39 (wr64 (v40 + 1)))) (ap (len_cv (xs := ba1) (c := NettingFlow.cells)) (ap h42 (ap (at_some h51).1 (ap (at_map NettingFlow.cells (at_some h51).2) (ap3 h52 (ap (at_some h51).1 (ap (at_map NettingFlow.cells (at_some h51).2) (ap h52 (ap4 h52 (ap4 h53 (ap4 h53 (ap (at_some h51).1 (ap (at_map NettingFlow.cells (at_some h51).2) (ap3 h52 (ap (at_some h51).1 (ap (at_map NettingFlow.cells (at_some h51).2) (ap h52 (ap4 h52 (ap4 h53 (ap4 h53 an)))))))))))))))))))) (LoopQ.norm ⟨v39, (wr64 (v40 + 1)), rfl, h⟩)
      · exact rE cfg_ok [([], [], [(2, .val (jI (ba1.length : Int)))]), (jF [8, 9, 10, 11, 12, 13, 14], [(2, .idx (Int.toNat v40) (NettingFlow.cells x50)), (15, .bool false)], []), (jF [8, 9, 10, 11, 12, 13, 14], [(2, .idx (Int.toNat v40) (NettingFlow.cells x50)), (15, .bool false)], []), j3] [some true, none, none] [] [] [0, 1, 2, 3, 9, 10] (.norm, (f52n2S ba1 bb2 bd3 bb4 v39 (wr64 (v40 + 1)))) (ap (len_cv (xs := ba1) (c := NettingFlow.cells)) (ap h42 (ap (at_some h51).1 (ap (at_map NettingFlow.cells (at_some h51).2) (ap4 h52 (ap4 h52 (ap (at_some h51).1 (ap (at_map NettingFlow.cells (at_some h51).2) (ap4 h52 (ap4 h52 an)))))))))) (LoopQ.norm ⟨v39, (wr64 (v40 + 1)), rfl, h⟩)
    · obtain rfl := some_inj h
      exact rK cfg_ok 1 [([], [], [(2, .val (jI (ba1.length : Int)))])] [some false] [] [] [9] (.exit 0) ((f52n2E ba1 bb2 bd3 bb4 (.exit0 v39)).2) (ap (len_cv (xs := ba1) (c := NettingFlow.cells)) (ap h42 an)) (LoopQ.out rfl rfl)
noncomputable def f52n2L (ba1 : List NettingFlow) (bb2 : ByteArray) (bd3 : Int) (bb4 : ByteArray) : List NettingFlow → Int → Int → Option f52n2O
  | [], v39, v40 =>
    some (.exit0 v39)
  | x0 :: rest, v39, v40 =>
    bif (decide (x0.Date = bd3)) then
      bif (seq x0.Ccy bb4) then
        bif (seq x0.To bb2) then
          bif (seq x0.From bb2) then
            (f52n2L ba1 bb2 bd3 bb4 rest (wr64 ((wr64 (v39 + x0.Amount)) - x0.Amount)) (v40 + 1))
          else
            (f52n2L ba1 bb2 bd3 bb4 rest (wr64 (v39 + x0.Amount)) (v40 + 1))
        else
          bif (seq x0.From bb2) then
            (f52n2L ba1 bb2 bd3 bb4 rest (wr64 (v39 - x0.Amount)) (v40 + 1))
          else
            (f52n2L ba1 bb2 bd3 bb4 rest v39 (v40 + 1))
      else
        (f52n2L ba1 bb2 bd3 bb4 rest v39 (v40 + 1))
    else
      (f52n2L ba1 bb2 bd3 bb4 rest v39 (v40 + 1))
theorem f52n2L_eq (ba1 : List NettingFlow) (bb2 : ByteArray) (bd3 : Int) (bb4 : ByteArray) : ∀ (rest : List NettingFlow) (f k : Nat) (v39 : Int), ba1.drop k = rest → ba1.length ≤ maxLen → rest.length < f → f52n2 f ba1 bb2 bd3 bb4 v39 (k : Int) = f52n2L ba1 bb2 bd3 bb4 rest v39 (k : Int)
  | _, 0, _, _, _, _, hf => absurd hf (Nat.not_lt_zero _)
  | [], f + 1, k, v39, hd, hm, hf => by
    have hk : ¬ ((k : Int) < (ba1.length : Int)) := by have := drop_nil hd; omega
    rw [f52n2, f52n2L]
    simp only [decide_eq_false hk, cond_false]
  | x0 :: rest, f + 1, k, v39, hd, hm, hf => by
    obtain ⟨hx, hlt, hd'⟩ := drop_cons hd
    have hk : (k : Int) < (ba1.length : Int) := by omega
    have hw : wr64 ((k : Int) + 1) = (k : Int) + 1 := wr64_of (by omega) (by unfold maxLen at hm; omega)
    have ih : ∀ (v39 : Int), f52n2 f ba1 bb2 bd3 bb4 v39 ((k : Int) + 1) = f52n2L ba1 bb2 bd3 bb4 rest v39 ((k : Int) + 1) := fun v39 => f52n2L_eq ba1 bb2 bd3 bb4 rest f (k + 1) v39 hd' hm (by simpa using hf)
    rw [f52n2, f52n2L]
    simp only [decide_eq_true hk, cond_true, at_nat, hx, Option.bind_some, hw, ih]
theorem f52n2_run (ba1 : List NettingFlow) (bb2 : ByteArray) (bd3 : Int) (bb4 : ByteArray) (v39 : Int) (hm : ba1.length ≤ maxLen) : f52n2 FUEL ba1 bb2 bd3 bb4 v39 0 = f52n2L ba1 bb2 bd3 bb4 ba1 v39 0 := f52n2L_eq ba1 bb2 bd3 bb4 ba1 FUEL 0 v39 List.drop_zero hm (lt_FUEL hm)
inductive f52n1O where
  | norm (v61 : Int)
def f52n1E (ba1 : List NettingFlow) (bb2 : ByteArray) (bd3 : Int) (bb4 : ByteArray) : f52n1O → Ex × Tr × Hp
  | .norm v61 => (.norm, mkS [(9, (jI v61))], [])
def f52n1S (ba1 : List NettingFlow) (bb2 : ByteArray) (bd3 : Int) (bb4 : ByteArray) : Tr × Hp := (mkS [(0, (jL 6 NettingFlow.cells ba1)), (1, (jS bb2)), (2, (jI bd3)), (3, (jS bb4)), (9, (jI 0))], [])
noncomputable def f52n1 (ba1 : List NettingFlow) (bb2 : ByteArray) (bd3 : Int) (bb4 : ByteArray) : Option f52n1O :=
  (f52n2 FUEL ba1 bb2 bd3 bb4 0 0).bind fun o58 => match o58 with
  | .exit0 v60 => some (.norm v60)
theorem f52n1_ok (ba1 : List NettingFlow) (bb2 : ByteArray) (bd3 : Int) (bb4 : ByteArray) {o : f52n1O} (h : (f52n1 ba1 bb2 bd3 bb4) = some o) : T Try.prog Try.f52.ntmps 0 (cL (dropC 2 c52)) (f52n1S ba1 bb2 bd3 bb4) (fun r => r = f52n1E ba1 bb2 bd3 bb4 o) := by
  unfold f52n1 at h
  refine rN cfg_ok 1 [j3] [] [] [] [0, 1, 2, 3, 9, 10] (f52n2S ba1 bb2 bd3 bb4 0 0) an ?_
  obtain ⟨o58, h59, h⟩ := bind_cases h
  cases o58 with
  | exit0 v60 =>
    obtain rfl := some_inj h
    exact T.last' (T.bl (i := 0) (by kernel_rfl) (by kernel_rfl) (f52n2_ok FUEL ba1 bb2 bd3 bb4 0 0 h59)) (tds := []) (m := []) (keep := [9]) (st2 := (f52n1E ba1 bb2 bd3 bb4 (.norm v60)).2) (by kernel_rfl) an rfl
inductive f52n0O where
  | ret (v65 : Int)
def f52n0E (a1 : List NettingFlow) (a2 : ByteArray) (a3 : Int) (a4 : ByteArray) : f52n0O → Ex × Tr × Hp
  | .ret v65 => (.ret, mkS [(8, (jI v65))], [])
def f52n0S (a1 : List NettingFlow) (a2 : ByteArray) (a3 : Int) (a4 : ByteArray) : Tr × Hp := (initS [(jL 6 NettingFlow.cells a1), (jS a2), (jI a3), (jS a4)] 0 .leaf, [])
noncomputable def f52n0 (a1 : List NettingFlow) (a2 : ByteArray) (a3 : Int) (a4 : ByteArray) : Option f52n0O :=
  (f52n1 a1 a2 a3 a4).bind fun o62 => match o62 with
  | .norm v64 => some (.ret v64)
theorem f52n0_ok (a1 : List NettingFlow) (a2 : ByteArray) (a3 : Int) (a4 : ByteArray) {o : f52n0O} (h : (f52n0 a1 a2 a3 a4) = some o) : T Try.prog Try.f52.ntmps 0 c52 (f52n0S a1 a2 a3 a4) (fun r => r = f52n0E a1 a2 a3 a4 o) := by
  unfold f52n0 at h
  refine rN cfg_ok 2 [j3, j3] [] [] [] [0, 1, 2, 3, 9] (f52n1S a1 a2 a3 a4) an ?_
  obtain ⟨o62, h63, h⟩ := bind_cases h
  cases o62 with
  | norm v64 =>
    refine T.oneN (by kernel_rfl) (f52n1_ok a1 a2 a3 a4 h63) (st2 := (f52n1E a1 a2 a3 a4 (.norm v64)).2) rfl ?_
    obtain rfl := some_inj h
    exact rE cfg_ok [j3] [] [] [] [8] (.ret, (f52n0E a1 a2 a3 a4 (.ret v64)).2) an rfl
noncomputable def f52 (a1 : List NettingFlow) (a2 : ByteArray) (a3 : Int) (a4 : ByteArray) : Option Int := (f52n0 a1 a2 a3 a4).bind fun o => match o with
  | .ret v65 => some v65
theorem f52_ok (a1 : List NettingFlow) (a2 : ByteArray) (a3 : Int) (a4 : ByteArray) {r : Int} (h : (f52 a1 a2 a3 a4) = some r) : CallS Try.prog false 52 [(jL 6 NettingFlow.cells a1), (jS a2), (jI a3), (jS a4)] [] (jI r) [] := by
  unfold f52 at h
  obtain ⟨o, ho, h⟩ := bind_cases h
  cases o with
  | ret v65 =>
    obtain rfl := some_inj h
    exact CallS.plain cfg_ok (f := Try.f52) (c := c52) (by kernel_rfl) (by kernel_rfl) (by kernel_rfl) (by kernel_rfl) ((f52n0_ok a1 a2 a3 a4 ho).mono fun r e => by subst e; exact ⟨.inl rfl, (jI v65), (jI v65), by kernel_rfl, by kernel_rfl, ((Wk.refl _) : Wk (jI v65) (jI v65))⟩)

noncomputable def c28 : Code := Try.f28.body.getD .skip
inductive f28n2O where
  | exit0 (v61 : List Row_)
def f28n2E (bb1 : ByteArray) (ba2 : List NettingFlow) : f28n2O → Ex × Tr × Hp
  | .exit0 v61 => ((.exit 0), mkS [(0, (jS bb1)), (1, (jL 6 NettingFlow.cells ba2)), (6, (jL 3 Row_.cells v61))], [])
def f28n2S (bb1 : ByteArray) (ba2 : List NettingFlow) (v45 : List Row_) (v46 : Int) : Tr × Hp := (mkS [(0, (jS bb1)), (1, (jL 6 NettingFlow.cells ba2)), (6, (jL 3 Row_.cells v45)), (7, (jI v46))], [])
noncomputable def f28n2 : Nat → ByteArray → List NettingFlow → List Row_ → Int → Option f28n2O
  | 0, _, _, _, _ => none
  | f + 1, bb1, ba2, v45, v46 =>
    bif (decide (v46 < (ba2.length : Int))) then
      (at? ba2 v46).bind fun x55 =>
      (f51 v45 (Row_.mk x55.Date x55.Ccy x55.From)).bind fun x57 =>
      (f51 x57 (Row_.mk x55.Date x55.Ccy x55.To)).bind fun x59 =>
      (f28n2 f bb1 ba2 x59 (wr64 (v46 + 1)))
    else
      some (.exit0 v45)
theorem f28n2_ok : ∀ (f : Nat) (bb1 : ByteArray) (ba2 : List NettingFlow) (v45 : List Row_) (v46 : Int) {o : f28n2O}, (f28n2 f bb1 ba2 v45 v46) = some o → TL Try.prog Try.f28.ntmps 0 f (cL (cL (dropC 1 (cL (dropC 4 c28))))) (f28n2S bb1 ba2 v45 v46) (fun r => r = f28n2E bb1 ba2 o)
  | 0, _, _, _, _, o, h => by rw [f28n2] at h; cases h
  | f + 1, bb1, ba2, v45, v46, o, h => by
    rw [f28n2] at h
    refine TL.body (K := fun s => ∃ v45 : List Row_, ∃ v46 : Int, s = (f28n2S bb1 ba2 v45 v46) ∧ (f28n2 f bb1 ba2 v45 v46) = some o) ?_ (by rintro _ ⟨v45, v46, rfl, hk⟩; exact f28n2_ok f _ _ _ _ hk)
    rcases cond_cases h with ⟨h48, h⟩ | ⟨h48, h⟩
    · obtain ⟨x55, h56, h⟩ := bind_cases h
      obtain ⟨x57, h58, h⟩ := bind_cases h
      obtain ⟨x59, h60, h⟩ := bind_cases h
      exact rE cfg_ok [([], [], [(2, .val (jI (ba2.length : Int)))]), ([], [(3, .idx (Int.toNat v46) (NettingFlow.cells x55)), (8, .idx (Int.toNat v46) (NettingFlow.cells x55)), (13, .idx (Int.toNat v46) (NettingFlow.cells x55)), jH 17 (jL 3 Row_.cells x57)], []), ([], [(3, .idx (Int.toNat v46) (NettingFlow.cells x55)), (8, .idx (Int.toNat v46) (NettingFlow.cells x55)), (13, .idx (Int.toNat v46) (NettingFlow.cells x55)), jH 17 (jL 3 Row_.cells x59)], []), j3] [some true] [] [] [0, 1, 6, 7] (.norm, (f28n2S bb1 ba2 x59 (wr64 (v46 + 1)))) (ap (len_cv (xs := ba2) (c := NettingFlow.cells)) (ap h48 (ap (at_some h56).1 (ap (at_map NettingFlow.cells (at_some h56).2) (ap (at_some h56).1 (ap (at_map NettingFlow.cells (at_some h56).2) (ap (at_some h56).1 (ap (at_map NettingFlow.cells (at_some h56).2) (ap (f51_ok v45 (Row_.mk x55.Date x55.Ccy x55.From) h58) (ap (at_some h56).1 (ap (at_map NettingFlow.cells (at_some h56).2) (ap (at_some h56).1 (ap (at_map NettingFlow.cells (at_some h56).2) (ap (at_some h56).1 (ap (at_map NettingFlow.cells (at_some h56).2) (ap (f51_ok x57 (Row_.mk x55.Date x55.Ccy x55.To) h60) an)))))))))))))))) (LoopQ.norm ⟨x59, (wr64 (v46 + 1)), rfl, h⟩)
    · obtain rfl := some_inj h
      exact rK cfg_ok 1 [([], [], [(2, .val (jI (ba2.length : Int)))])] [some false] [] [] [0, 1, 6] (.exit 0) ((f28n2E bb1 ba2 (.exit0 v45)).2) (ap (len_cv (xs := ba2) (c := NettingFlow.cells)) (ap h48 an)) (LoopQ.out rfl rfl)
noncomputable def f28n2L (bb1 : ByteArray) (ba2 : List NettingFlow) : List NettingFlow → (List Row_) → Int → Option f28n2O
  | [], v45, v46 =>
    some (.exit0 v45)
  | x0 :: rest, v45, v46 =>
    (f51 v45 (Row_.mk x0.Date x0.Ccy x0.From)).bind fun x57 =>
    (f51 x57 (Row_.mk x0.Date x0.Ccy x0.To)).bind fun x59 =>
    (f28n2L bb1 ba2 rest x59 (v46 + 1))
theorem f28n2L_eq (bb1 : ByteArray) (ba2 : List NettingFlow) : ∀ (rest : List NettingFlow) (f k : Nat) (v45 : List Row_), ba2.drop k = rest → ba2.length ≤ maxLen → rest.length < f → f28n2 f bb1 ba2 v45 (k : Int) = f28n2L bb1 ba2 rest v45 (k : Int)
  | _, 0, _, _, _, _, hf => absurd hf (Nat.not_lt_zero _)
  | [], f + 1, k, v45, hd, hm, hf => by
    have hk : ¬ ((k : Int) < (ba2.length : Int)) := by have := drop_nil hd; omega
    rw [f28n2, f28n2L]
    simp only [decide_eq_false hk, cond_false]
  | x0 :: rest, f + 1, k, v45, hd, hm, hf => by
    obtain ⟨hx, hlt, hd'⟩ := drop_cons hd
    have hk : (k : Int) < (ba2.length : Int) := by omega
    have hw : wr64 ((k : Int) + 1) = (k : Int) + 1 := wr64_of (by omega) (by unfold maxLen at hm; omega)
    have ih : ∀ (v45 : List Row_), f28n2 f bb1 ba2 v45 ((k : Int) + 1) = f28n2L bb1 ba2 rest v45 ((k : Int) + 1) := fun v45 => f28n2L_eq bb1 ba2 rest f (k + 1) v45 hd' hm (by simpa using hf)
    rw [f28n2, f28n2L]
    simp only [decide_eq_true hk, cond_true, at_nat, hx, Option.bind_some, hw, ih]
theorem f28n2_run (bb1 : ByteArray) (ba2 : List NettingFlow) (v45 : List Row_) (hm : ba2.length ≤ maxLen) : f28n2 FUEL bb1 ba2 v45 0 = f28n2L bb1 ba2 ba2 v45 0 := f28n2L_eq bb1 ba2 ba2 FUEL 0 v45 List.drop_zero hm (lt_FUEL hm)
inductive f28n1O where
  | norm (v65 : List Row_)
def f28n1E (bb1 : ByteArray) (ba2 : List NettingFlow) : f28n1O → Ex × Tr × Hp
  | .norm v65 => (.norm, mkS [(0, (jS bb1)), (1, (jL 6 NettingFlow.cells ba2)), (6, (jL 3 Row_.cells v65))], [])
def f28n1S (bb1 : ByteArray) (ba2 : List NettingFlow) : Tr × Hp := (mkS [(0, (jS bb1)), (1, (jL 6 NettingFlow.cells ba2)), (6, (.pl (.sl .nil 0 [])))], [])
noncomputable def f28n1 (bb1 : ByteArray) (ba2 : List NettingFlow) : Option f28n1O :=
  (f28n2 FUEL bb1 ba2 [] 0).bind fun o62 => match o62 with
  | .exit0 v64 => some (.norm v64)
theorem f28n1_ok (bb1 : ByteArray) (ba2 : List NettingFlow) {o : f28n1O} (h : (f28n1 bb1 ba2) = some o) : T Try.prog Try.f28.ntmps 0 (cL (dropC 4 c28)) (f28n1S bb1 ba2) (fun r => r = f28n1E bb1 ba2 o) := by
  unfold f28n1 at h
  refine rN cfg_ok 1 [j3] [] [.wk 6 (.pl (.sl .any 3 ([].map Row_.cells)))] [] [0, 1, 6, 7] (f28n2S bb1 ba2 [] 0) (ap ((Wk.pl (WkP.nil (f := .nil) (sz := 0) (sz' := 3))) : Wk (.pl (.sl .nil 0 [])) (.pl (.sl .any 3 ([].map Row_.cells)))) an) ?_
  obtain ⟨o62, h63, h⟩ := bind_cases h
  cases o62 with
  | exit0 v64 =>
    obtain rfl := some_inj h
    exact T.last' (T.bl (i := 0) (by kernel_rfl) (by kernel_rfl) (f28n2_ok FUEL bb1 ba2 [] 0 h63)) (tds := []) (m := []) (keep := [0, 1, 6]) (st2 := (f28n1E bb1 ba2 (.norm v64)).2) (by kernel_rfl) an rfl
inductive f28n4O where
  | exit2 (v141 : List NettingFlow)
  | ret
def f28n4E (bb1 : ByteArray) (ba2 : List NettingFlow) (bj3 : List Row_) : f28n4O → Ex × Tr × Hp
  | .exit2 v141 => ((.exit 2), mkS [(8, (.own 0))], [jR 6 NettingFlow.cells v141])
  | .ret => (.ret, mkS [(4, (.pl (.sl .nil 0 []))), (5, (jI 14))], [])
def f28n4S (bb1 : ByteArray) (ba2 : List NettingFlow) (bj3 : List Row_) (v115 : Int) (v116 : List NettingFlow) : Tr × Hp := (mkS [(0, (jS bb1)), (1, (jL 6 NettingFlow.cells ba2)), (6, (jL 3 Row_.cells bj3)), (8, (.own 0)), (9, (jI v115))], [jR 6 NettingFlow.cells v116])
noncomputable def f28n4 : Nat → ByteArray → List NettingFlow → List Row_ → Int → List NettingFlow → Option f28n4O
  | 0, _, _, _, _, _ => none
  | f + 1, bb1, ba2, bj3, v115, v116 =>
    bif (decide (v115 < (bj3.length : Int))) then
      (at? bj3 v115).bind fun x130 =>
      (f52 ba2 x130.party x130.date x130.ccy).bind fun x132 =>
      bif (seq x130.party bb1) then
        (f28n4 f bb1 ba2 bj3 (wr64 (v115 + 1)) v116)
      else
        bif (decide (x132 = 0)) then
          (f28n4 f bb1 ba2 bj3 (wr64 (v115 + 1)) v116)
        else
          bif (decide (x132 < 0)) then
            bif (decide (1125899906842624 < (wr64 (0 - x132)))) then
              some .ret
            else
              req (fit (v116.length + 1) 80) <|
              (f28n4 f bb1 ba2 bj3 (wr64 (v115 + 1)) (v116 ++ [(NettingFlow.mk x130.date str_x x130.ccy x130.party bb1 (wr64 (0 - x132)))]))
          else
            bif (decide (1125899906842624 < x132)) then
              some .ret
            else
              req (fit (v116.length + 1) 80) <|
              (f28n4 f bb1 ba2 bj3 (wr64 (v115 + 1)) (v116 ++ [(NettingFlow.mk x130.date str_x x130.ccy bb1 x130.party x132)]))
    else
      some (.exit2 v116)
theorem f28n4_ok : ∀ (f : Nat) (bb1 : ByteArray) (ba2 : List NettingFlow) (bj3 : List Row_) (v115 : Int) (v116 : List NettingFlow) {o : f28n4O}, (f28n4 f bb1 ba2 bj3 v115 v116) = some o → TL Try.prog Try.f28.ntmps 0 f (cL (cL (dropC 1 (cL (dropC 1 (dropC 1 (dropC 4 c28))))))) (f28n4S bb1 ba2 bj3 v115 v116) (fun r => r = f28n4E bb1 ba2 bj3 o)
  | 0, _, _, _, _, _, o, h => by rw [f28n4] at h; cases h
  | f + 1, bb1, ba2, bj3, v115, v116, o, h => by
    rw [f28n4] at h
    refine TL.body (K := fun s => ∃ v115 : Int, ∃ v116 : List NettingFlow, s = (f28n4S bb1 ba2 bj3 v115 v116) ∧ (f28n4 f bb1 ba2 bj3 v115 v116) = some o) ?_ (by rintro _ ⟨v115, v116, rfl, hk⟩; exact f28n4_ok f _ _ _ _ _ hk)
    rcases cond_cases h with ⟨h118, h⟩ | ⟨h118, h⟩
    · obtain ⟨x130, h131, h⟩ := bind_cases h
      obtain ⟨x132, h133, h⟩ := bind_cases h
      rcases cond_cases h with ⟨h134, h⟩ | ⟨h134, h⟩
      · exact rE cfg_ok [([], [], [(2, .val (jI (bj3.length : Int)))]), ([], [(2, .idx (Int.toNat v115) (Row_.cells x130))], []), ([], [jH 7 (jI x132)], []), ([(5, true), (6, true)], [(7, .bool true)], []), j3] [some true, none] [] [0] [0, 1, 6, 8, 9] (.norm, (f28n4S bb1 ba2 bj3 (wr64 (v115 + 1)) v116)) (ap (len_cv (xs := bj3) (c := Row_.cells)) (ap h118 (ap (at_some h131).1 (ap (at_map Row_.cells (at_some h131).2) (ap (f52_ok ba2 x130.party x130.date x130.ccy h133) (ap3 h134 an)))))) (LoopQ.norm ⟨(wr64 (v115 + 1)), v116, rfl, h⟩)
      · rcases cond_cases h with ⟨h135, h⟩ | ⟨h135, h⟩
        · exact rE cfg_ok [([], [], [(2, .val (jI (bj3.length : Int)))]), ([], [(2, .idx (Int.toNat v115) (Row_.cells x130))], []), ([], [jH 7 (jI x132)], []), ([(5, false), (6, false)], [(7, .bool false)], []), j3] [some true, some true] [] [0] [0, 1, 6, 8, 9] (.norm, (f28n4S bb1 ba2 bj3 (wr64 (v115 + 1)) v116)) (ap (len_cv (xs := bj3) (c := Row_.cells)) (ap h118 (ap (at_some h131).1 (ap (at_map Row_.cells (at_some h131).2) (ap (f52_ok ba2 x130.party x130.date x130.ccy h133) (ap3 h134 (ap h135 an))))))) (LoopQ.norm ⟨(wr64 (v115 + 1)), v116, rfl, h⟩)
        · rcases cond_cases h with ⟨h136, h⟩ | ⟨h136, h⟩
          · rcases cond_cases h with ⟨h137, h⟩ | ⟨h137, h⟩
            · obtain rfl := some_inj h
              exact rK cfg_ok 2 [([], [], [(2, .val (jI (bj3.length : Int)))]), ([], [(2, .idx (Int.toNat v115) (Row_.cells x130))], []), ([], [jH 7 (jI x132)], []), ([(5, false), (6, false)], [(7, .bool false)], []), j3, j3, j3, j3, j3] [some true, some false, some true, some true] [] [] [4, 5] .ret ((f28n4E bb1 ba2 bj3 .ret).2) (ap (len_cv (xs := bj3) (c := Row_.cells)) (ap h118 (ap (at_some h131).1 (ap (at_map Row_.cells (at_some h131).2) (ap (f52_ok ba2 x130.party x130.date x130.ccy h133) (ap3 h134 (ap h135 (ap h136 (ap h137 an))))))))) (LoopQ.out rfl rfl)
            · obtain ⟨h138, h⟩ := req_cases h
              exact rE cfg_ok [([], [], [(2, .val (jI (bj3.length : Int)))]), ([], [(2, .idx (Int.toNat v115) (Row_.cells x130))], []), ([], [jH 7 (jI x132)], []), ([(5, false), (6, false)], [(7, .bool false)], []), j3, j3, j3, j3, ([], [(3, .fits)], [(3, .row 4 ((v116 ++ [(NettingFlow.mk x130.date str_x x130.ccy x130.party bb1 (wr64 (0 - x132)))]).map NettingFlow.cells))]), j3] [some true, some false, some true, some false] [] [4] [0, 1, 6, 8, 9] (.norm, (f28n4S bb1 ba2 bj3 (wr64 (v115 + 1)) (v116 ++ [(NettingFlow.mk x130.date str_x x130.ccy x130.party bb1 (wr64 (0 - x132)))]))) (ap (len_cv (xs := bj3) (c := Row_.cells)) (ap h118 (ap (at_some h131).1 (ap (at_map Row_.cells (at_some h131).2) (ap (f52_ok ba2 x130.party x130.date x130.ccy h133) (ap3 h134 (ap h135 (ap h136 (ap h137 (ap (fit_map (te := ti32) (xs := v116) (n := 1) (c := NettingFlow.cells) h138 rfl) (ap (app_cv (xs := v116) (ys := [(NettingFlow.mk x130.date str_x x130.ccy x130.party bb1 (wr64 (0 - x132)))]) (c := NettingFlow.cells)) an))))))))))) (LoopQ.norm ⟨(wr64 (v115 + 1)), (v116 ++ [(NettingFlow.mk x130.date str_x x130.ccy x130.party bb1 (wr64 (0 - x132)))]), rfl, h⟩)
          · rcases cond_cases h with ⟨h139, h⟩ | ⟨h139, h⟩
            · obtain rfl := some_inj h
              exact rK cfg_ok 2 [([], [], [(2, .val (jI (bj3.length : Int)))]), ([], [(2, .idx (Int.toNat v115) (Row_.cells x130))], []), ([], [jH 7 (jI x132)], []), ([(5, false), (6, false)], [(7, .bool false)], []), j3, j3, j3, j3] [some true, some false, some false, some true] [] [] [4, 5] .ret ((f28n4E bb1 ba2 bj3 .ret).2) (ap (len_cv (xs := bj3) (c := Row_.cells)) (ap h118 (ap (at_some h131).1 (ap (at_map Row_.cells (at_some h131).2) (ap (f52_ok ba2 x130.party x130.date x130.ccy h133) (ap3 h134 (ap h135 (ap h136 (ap h139 an))))))))) (LoopQ.out rfl rfl)
            · obtain ⟨h140, h⟩ := req_cases h
              exact rE cfg_ok [([], [], [(2, .val (jI (bj3.length : Int)))]), ([], [(2, .idx (Int.toNat v115) (Row_.cells x130))], []), ([], [jH 7 (jI x132)], []), ([(5, false), (6, false)], [(7, .bool false)], []), j3, j3, j3, ([], [(3, .fits)], [(3, .row 4 ((v116 ++ [(NettingFlow.mk x130.date str_x x130.ccy bb1 x130.party x132)]).map NettingFlow.cells))]), j3] [some true, some false, some false, some false] [] [4] [0, 1, 6, 8, 9] (.norm, (f28n4S bb1 ba2 bj3 (wr64 (v115 + 1)) (v116 ++ [(NettingFlow.mk x130.date str_x x130.ccy bb1 x130.party x132)]))) (ap (len_cv (xs := bj3) (c := Row_.cells)) (ap h118 (ap (at_some h131).1 (ap (at_map Row_.cells (at_some h131).2) (ap (f52_ok ba2 x130.party x130.date x130.ccy h133) (ap3 h134 (ap h135 (ap h136 (ap h139 (ap (fit_map (te := ti32) (xs := v116) (n := 1) (c := NettingFlow.cells) h140 rfl) (ap (app_cv (xs := v116) (ys := [(NettingFlow.mk x130.date str_x x130.ccy bb1 x130.party x132)]) (c := NettingFlow.cells)) an))))))))))) (LoopQ.norm ⟨(wr64 (v115 + 1)), (v116 ++ [(NettingFlow.mk x130.date str_x x130.ccy bb1 x130.party x132)]), rfl, h⟩)
    · obtain rfl := some_inj h
      exact rK cfg_ok 1 [([], [], [(2, .val (jI (bj3.length : Int)))])] [some false] [] [0] [8] (.exit 2) ((f28n4E bb1 ba2 bj3 (.exit2 v116)).2) (ap (len_cv (xs := bj3) (c := Row_.cells)) (ap h118 an)) (LoopQ.out rfl rfl)
noncomputable def f28n4L (bb1 : ByteArray) (ba2 : List NettingFlow) (bj3 : List Row_) : List Row_ → Int → (List NettingFlow) → Option f28n4O
  | [], v115, v116 =>
    some (.exit2 v116)
  | x0 :: rest, v115, v116 =>
    (f52 ba2 x0.party x0.date x0.ccy).bind fun x132 =>
    bif (seq x0.party bb1) then
      (f28n4L bb1 ba2 bj3 rest (v115 + 1) v116)
    else
      bif (decide (x132 = 0)) then
        (f28n4L bb1 ba2 bj3 rest (v115 + 1) v116)
      else
        bif (decide (x132 < 0)) then
          bif (decide (1125899906842624 < (wr64 (0 - x132)))) then
            some .ret
          else
            req (fit (v116.length + 1) 80) <|
            (f28n4L bb1 ba2 bj3 rest (v115 + 1) (v116 ++ [(NettingFlow.mk x0.date str_x x0.ccy x0.party bb1 (wr64 (0 - x132)))]))
        else
          bif (decide (1125899906842624 < x132)) then
            some .ret
          else
            req (fit (v116.length + 1) 80) <|
            (f28n4L bb1 ba2 bj3 rest (v115 + 1) (v116 ++ [(NettingFlow.mk x0.date str_x x0.ccy bb1 x0.party x132)]))
theorem f28n4L_eq (bb1 : ByteArray) (ba2 : List NettingFlow) (bj3 : List Row_) : ∀ (rest : List Row_) (f k : Nat) (v116 : List NettingFlow), bj3.drop k = rest → bj3.length ≤ maxLen → rest.length < f → f28n4 f bb1 ba2 bj3 (k : Int) v116 = f28n4L bb1 ba2 bj3 rest (k : Int) v116
  | _, 0, _, _, _, _, hf => absurd hf (Nat.not_lt_zero _)
  | [], f + 1, k, v116, hd, hm, hf => by
    have hk : ¬ ((k : Int) < (bj3.length : Int)) := by have := drop_nil hd; omega
    rw [f28n4, f28n4L]
    simp only [decide_eq_false hk, cond_false]
  | x0 :: rest, f + 1, k, v116, hd, hm, hf => by
    obtain ⟨hx, hlt, hd'⟩ := drop_cons hd
    have hk : (k : Int) < (bj3.length : Int) := by omega
    have hw : wr64 ((k : Int) + 1) = (k : Int) + 1 := wr64_of (by omega) (by unfold maxLen at hm; omega)
    have ih : ∀ (v116 : List NettingFlow), f28n4 f bb1 ba2 bj3 ((k : Int) + 1) v116 = f28n4L bb1 ba2 bj3 rest ((k : Int) + 1) v116 := fun v116 => f28n4L_eq bb1 ba2 bj3 rest f (k + 1) v116 hd' hm (by simpa using hf)
    rw [f28n4, f28n4L]
    simp only [decide_eq_true hk, cond_true, at_nat, hx, Option.bind_some, hw, ih]
theorem f28n4_run (bb1 : ByteArray) (ba2 : List NettingFlow) (bj3 : List Row_) (v116 : List NettingFlow) (hm : bj3.length ≤ maxLen) : f28n4 FUEL bb1 ba2 bj3 0 v116 = f28n4L bb1 ba2 bj3 bj3 0 v116 := f28n4L_eq bb1 ba2 bj3 bj3 FUEL 0 v116 List.drop_zero hm (lt_FUEL hm)
inductive f28n3O where
  | norm (v145 : List NettingFlow)
  | ret
def f28n3E (bb1 : ByteArray) (ba2 : List NettingFlow) (bj3 : List Row_) : f28n3O → Ex × Tr × Hp
  | .norm v145 => (.norm, mkS [(8, (.own 0))], [jR 6 NettingFlow.cells v145])
  | .ret => (.ret, mkS [(4, (.pl (.sl .nil 0 []))), (5, (jI 14))], [])
def f28n3S (bb1 : ByteArray) (ba2 : List NettingFlow) (bj3 : List Row_) : Tr × Hp := (mkS [(0, (jS bb1)), (1, (jL 6 NettingFlow.cells ba2)), (6, (jL 3 Row_.cells bj3)), (8, (.pl (.sl .nil 0 [])))], [])
noncomputable def f28n3 (bb1 : ByteArray) (ba2 : List NettingFlow) (bj3 : List Row_) : Option f28n3O :=
  (f28n4 FUEL bb1 ba2 bj3 0 []).bind fun o142 => match o142 with
  | .exit2 v144 => some (.norm v144)
  | .ret => some .ret
theorem f28n3_ok (bb1 : ByteArray) (ba2 : List NettingFlow) (bj3 : List Row_) {o : f28n3O} (h : (f28n3 bb1 ba2 bj3) = some o) : T Try.prog Try.f28.ntmps 0 (cL (dropC 1 (dropC 1 (dropC 4 c28)))) (f28n3S bb1 ba2 bj3) (fun r => r = f28n3E bb1 ba2 bj3 o) := by
  unfold f28n3 at h
  refine rN cfg_ok 1 [j3] [] [.mat 8 6] [0] [0, 1, 6, 8, 9] (f28n4S bb1 ba2 bj3 0 []) an ?_
  obtain ⟨o142, h143, h⟩ := bind_cases h
  cases o142 with
  | exit2 v144 =>
    obtain rfl := some_inj h
    exact T.last' (T.bl (i := 2) (by kernel_rfl) (by kernel_rfl) (f28n4_ok FUEL bb1 ba2 bj3 0 [] h143)) (tds := []) (m := [0]) (keep := [8]) (st2 := (f28n3E bb1 ba2 bj3 (.norm v144)).2) (by kernel_rfl) an rfl
  | ret =>
    obtain rfl := some_inj h
    exact T.last' (T.bl (i := 2) (by kernel_rfl) (by kernel_rfl) (f28n4_ok FUEL bb1 ba2 bj3 0 [] h143)) (tds := []) (m := []) (keep := [4, 5]) (st2 := (f28n3E bb1 ba2 bj3 .ret).2) (by kernel_rfl) an rfl
inductive f28n0O where
  | ret (v151 : Int) (v152 : List NettingFlow)
def f28n0E (a1 : ByteArray) (a2 : List NettingFlow) : f28n0O → Ex × Tr × Hp
  | .ret v151 v152 => (.ret, mkS [(4, (.own 0)), (5, (jI v151))], [jR 6 NettingFlow.cells v152])
def f28n0S (a1 : ByteArray) (a2 : List NettingFlow) : Tr × Hp := (initS [(jS a1), (jL 6 NettingFlow.cells a2)] 0 .leaf, [])
noncomputable def f28n0 (a1 : ByteArray) (a2 : List NettingFlow) : Option f28n0O :=
  (f48 a2).bind fun x6 =>
  bif x6 then
    (f49 a1).bind fun x12 =>
    bif x12 then
      (f28n1 a1 a2).bind fun o66 => match o66 with
      | .norm v68 => (f28n3 a1 a2 v68).bind fun o146 => match o146 with
        | .norm v148 => bif (decide (500 < (v148.length : Int))) then
            some (.ret 4 [])
          else
            some (.ret 0 v148)
        | .ret => some (.ret 14 [])
    else
      some (.ret 2 [])
  else
    some (.ret 8 [])
theorem f28n0_ok (a1 : ByteArray) (a2 : List NettingFlow) {o : f28n0O} (h : (f28n0 a1 a2) = some o) : T Try.prog Try.f28.ntmps 0 c28 (f28n0S a1 a2) (fun r => r = f28n0E a1 a2 o) := by
  unfold f28n0 at h
  obtain ⟨x6, h7, h⟩ := bind_cases h
  rcases cond_cases h with ⟨h8, h⟩ | ⟨h8, h⟩
  · obtain ⟨x12, h13, h⟩ := bind_cases h
    rcases cond_cases h with ⟨h14, h⟩ | ⟨h14, h⟩
    · refine rN cfg_ok 4 [j3, ([], [jH 1 (jB x6)], []), ([], [jH 1 (jB x12)], []), j3] [some false, some false] [] [] [0, 1, 6] (f28n1S a1 a2) (ap (f48_ok a2 h7) (ap (not_t h8) (ap (f49_ok a1 h13) (ap (not_t h14) an)))) ?_
      obtain ⟨o66, h67, h⟩ := bind_cases h
      cases o66 with
      | norm v68 =>
        refine T.oneN (by kernel_rfl) (f28n1_ok a1 a2 h67) (st2 := (f28n1E a1 a2 (.norm v68)).2) rfl ?_
        refine rN cfg_ok 1 [j3] [] [] [] [0, 1, 6, 8] (f28n3S a1 a2 v68) an ?_
        obtain ⟨o146, h147, h⟩ := bind_cases h
        cases o146 with
        | norm v148 =>
          refine T.oneN (by kernel_rfl) (f28n3_ok a1 a2 v68 h147) (st2 := (f28n3E a1 a2 v68 (.norm v148)).2) rfl ?_
          rcases cond_cases h with ⟨h150, h⟩ | ⟨h150, h⟩
          · obtain rfl := some_inj h
            exact rK cfg_ok 1 [([], [], [(1, .val (jI (v148.length : Int)))]), j3] [some true] [.mat 4 6] [1] [4, 5] .ret ((f28n0E a1 a2 (.ret 4 [])).2) (ap (len_cv (xs := v148) (c := NettingFlow.cells)) (ap h150 an)) rfl
          · obtain rfl := some_inj h
            exact rE cfg_ok [([], [], [(1, .val (jI (v148.length : Int)))]), j3] [some false] [] [0] [4, 5] (.ret, (f28n0E a1 a2 (.ret 0 v148)).2) (ap (len_cv (xs := v148) (c := NettingFlow.cells)) (ap h150 an)) rfl
        | ret =>
          obtain rfl := some_inj h
          exact T.oneX' (by kernel_rfl) (f28n3_ok a1 a2 v68 h147) (tds := [.mat 4 6]) (m := [0]) (keep := [4, 5]) (st2 := (f28n0E a1 a2 (.ret 14 [])).2) (by kernel_rfl) an rfl rfl
    · obtain rfl := some_inj h
      exact rK cfg_ok 3 [j3, ([], [jH 1 (jB x6)], []), ([], [jH 1 (jB x12)], []), j3] [some false, some true] [.mat 4 6] [0] [4, 5] .ret ((f28n0E a1 a2 (.ret 2 [])).2) (ap (f48_ok a2 h7) (ap (not_t h8) (ap (f49_ok a1 h13) (ap (not_f h14) an)))) rfl
  · obtain rfl := some_inj h
    exact rK cfg_ok 2 [j3, ([], [jH 1 (jB x6)], []), j3] [some true] [.mat 4 6] [0] [4, 5] .ret ((f28n0E a1 a2 (.ret 8 [])).2) (ap (f48_ok a2 h7) (ap (not_f h8) an)) rfl
noncomputable def f28 (a1 : ByteArray) (a2 : List NettingFlow) : Option ((List NettingFlow) × Int) := (f28n0 a1 a2).bind fun o => match o with
  | .ret v151 v152 => some (v152, v151)
theorem f28_ok (a1 : ByteArray) (a2 : List NettingFlow) {r : (List NettingFlow) × Int} (h : (f28 a1 a2) = some r) : CallS Try.prog false 28 [(jS a1), (jL 6 NettingFlow.cells a2)] [] (.tup [(jL 6 NettingFlow.cells r.1), (jI r.2)]) [] := by
  unfold f28 at h
  obtain ⟨o, ho, h⟩ := bind_cases h
  cases o with
  | ret v151 v152 =>
    obtain rfl := some_inj h
    exact CallS.plain cfg_ok (f := Try.f28) (c := c28) (by kernel_rfl) (by kernel_rfl) (by kernel_rfl) (by kernel_rfl) ((f28n0_ok a1 a2 ho).mono fun r e => by subst e; exact ⟨.inl rfl, (.tup [(.own 0), (jI v151)]), (.tup [(jL 6 NettingFlow.cells v152), (jI v151)]), by kernel_rfl, by kernel_rfl, ((Wk.refl _) : Wk (.tup [(jL 6 NettingFlow.cells v152), (jI v151)]) (.tup [(jL 6 NettingFlow.cells v152), (jI v151)]))⟩)

noncomputable def c50 : Code := Try.f50.body.getD .skip
inductive f50n0O where
  | ret (v4 : Int) (v5 : Int)
def f50n0E (a1 : Int) : f50n0O → Ex × Tr × Hp
  | .ret v4 v5 => (.ret, mkS [(2, (jI v4)), (3, (jI v5))], [])
def f50n0S (a1 : Int) : Tr × Hp := (initS [(jI a1)] 0 .leaf, [])
noncomputable def f50n0 (a1 : Int) : Option f50n0O :=
  bif (decide (1125899906842624 < (mxI a1 (wr64 (0 - a1))))) then
    some (.ret 0 14)
  else
    some (.ret a1 0)
theorem f50n0_ok (a1 : Int) {o : f50n0O} (h : (f50n0 a1) = some o) : T Try.prog Try.f50.ntmps 0 c50 (f50n0S a1) (fun r => r = f50n0E a1 o) := by
  unfold f50n0 at h
  rcases cond_cases h with ⟨h3, h⟩ | ⟨h3, h⟩
  · obtain rfl := some_inj h
    exact rK cfg_ok 2 [j3, j3, j3] [some true] [] [] [2, 3] .ret ((f50n0E a1 (.ret 0 14)).2) (ap h3 an) rfl
  · obtain rfl := some_inj h
    exact rE cfg_ok [j3, j3, j3] [some false] [] [] [2, 3] (.ret, (f50n0E a1 (.ret a1 0)).2) (ap h3 an) rfl
noncomputable def f50 (a1 : Int) : Option (Int × Int) := (f50n0 a1).bind fun o => match o with
  | .ret v4 v5 => some (v4, v5)
theorem f50_ok (a1 : Int) {r : Int × Int} (h : (f50 a1) = some r) : CallS Try.prog false 50 [(jI a1)] [] (.tup [(jI r.1), (jI r.2)]) [] := by
  unfold f50 at h
  obtain ⟨o, ho, h⟩ := bind_cases h
  cases o with
  | ret v4 v5 =>
    obtain rfl := some_inj h
    exact CallS.plain cfg_ok (f := Try.f50) (c := c50) (by kernel_rfl) (by kernel_rfl) (by kernel_rfl) (by kernel_rfl) ((f50n0_ok a1 ho).mono fun r e => by subst e; exact ⟨.inl rfl, (.tup [(jI v4), (jI v5)]), (.tup [(jI v4), (jI v5)]), by kernel_rfl, by kernel_rfl, ((Wk.refl _) : Wk (.tup [(jI v4), (jI v5)]) (.tup [(jI v4), (jI v5)]))⟩)

noncomputable def c27 : Code := Try.f27.body.getD .skip
inductive f27n2O where
  | exit0 (v57 : Int)
def f27n2E (bb2 : ByteArray) (bd3 : Int) (bb4 : ByteArray) (ba1 : List NettingFlow) : f27n2O → Ex × Tr × Hp
  | .exit0 v57 => ((.exit 0), mkS [(11, (jI v57))], [])
def f27n2S (bb2 : ByteArray) (bd3 : Int) (bb4 : ByteArray) (ba1 : List NettingFlow) (v41 : Int) (v42 : Int) : Tr × Hp := (mkS [(1, (jS bb2)), (2, (jI bd3)), (3, (jS bb4)), (11, (jI v41)), (19, (jL 6 NettingFlow.cells ba1)), (20, (jI (ba1.length : Int))), (21, (jI v42))], [])
noncomputable def f27n2 : Nat → ByteArray → Int → ByteArray → List NettingFlow → Int → Int → Option f27n2O
  | 0, _, _, _, _, _, _ => none
  | f + 1, bb2, bd3, bb4, ba1, v41, v42 =>
    bif (decide (v42 < (ba1.length : Int))) then
      (at? ba1 v42).bind fun x51 =>
      bif (decide (x51.Date = bd3)) then
        bif (seq x51.Ccy bb4) then
          bif (seq x51.To bb2) then
            (f27n2 f bb2 bd3 bb4 ba1 (wr64 (v41 + x51.Amount)) (wr64 (v42 + 1)))
          else
            bif (seq x51.From bb2) then
              (f27n2 f bb2 bd3 bb4 ba1 (wr64 (v41 - x51.Amount)) (wr64 (v42 + 1)))
            else
              (f27n2 f bb2 bd3 bb4 ba1 v41 (wr64 (v42 + 1)))
        else
          (f27n2 f bb2 bd3 bb4 ba1 v41 (wr64 (v42 + 1)))
      else
        (f27n2 f bb2 bd3 bb4 ba1 v41 (wr64 (v42 + 1)))
    else
      some (.exit0 v41)
theorem f27n2_ok : ∀ (f : Nat) (bb2 : ByteArray) (bd3 : Int) (bb4 : ByteArray) (ba1 : List NettingFlow) (v41 : Int) (v42 : Int) {o : f27n2O}, (f27n2 f bb2 bd3 bb4 ba1 v41 v42) = some o → TL Try.prog Try.f27.ntmps 0 f (cL (cL (dropC 1 (cL (dropC 3 c27))))) (f27n2S bb2 bd3 bb4 ba1 v41 v42) (fun r => r = f27n2E bb2 bd3 bb4 ba1 o)
  | 0, _, _, _, _, _, _, o, h => by rw [f27n2] at h; cases h
  | f + 1, bb2, bd3, bb4, ba1, v41, v42, o, h => by
    rw [f27n2] at h
    refine TL.body (K := fun s => ∃ v41 : Int, ∃ v42 : Int, s = (f27n2S bb2 bd3 bb4 ba1 v41 v42) ∧ (f27n2 f bb2 bd3 bb4 ba1 v41 v42) = some o) ?_ (by rintro _ ⟨v41, v42, rfl, hk⟩; exact f27n2_ok f _ _ _ _ _ _ hk)
    rcases cond_cases h with ⟨h44, h⟩ | ⟨h44, h⟩
    · obtain ⟨x51, h52, h⟩ := bind_cases h
      rcases cond_cases h with ⟨h53, h⟩ | ⟨h53, h⟩
      · rcases cond_cases h with ⟨h54, h⟩ | ⟨h54, h⟩
        · rcases cond_cases h with ⟨h55, h⟩ | ⟨h55, h⟩
          · exact rE cfg_ok [j3, ([], [(0, .idx (Int.toNat v42) (NettingFlow.cells x51))], []), (jF [5, 6, 7, 8], [(9, .bool false)], []), j3, j3, j3] [some true, some false, some true] [] [] [1, 2, 3, 11, 19, 20, 21] (.norm, (f27n2S bb2 bd3 bb4 ba1 (wr64 (v41 + x51.Amount)) (wr64 (v42 + 1)))) (ap h44 (ap (at_some h52).1 (ap (at_map NettingFlow.cells (at_some h52).2) (ap (not_t h53) (ap4 (not_t h53) (ap (not_t h54) (ap h55 an))))))) (LoopQ.norm ⟨(wr64 (v41 + x51.Amount)), (wr64 (v42 + 1)), rfl, h⟩)
          · rcases cond_cases h with ⟨h56, h⟩ | ⟨h56, h⟩
            · exact rE cfg_ok [j3, ([], [(0, .idx (Int.toNat v42) (NettingFlow.cells x51))], []), (jF [5, 6, 7, 8], [(9, .bool false)], []), j3, j3, j3, j3] [some true, some false, some false, some true] [] [] [1, 2, 3, 11, 19, 20, 21] (.norm, (f27n2S bb2 bd3 bb4 ba1 (wr64 (v41 - x51.Amount)) (wr64 (v42 + 1)))) (ap h44 (ap (at_some h52).1 (ap (at_map NettingFlow.cells (at_some h52).2) (ap (not_t h53) (ap4 (not_t h53) (ap (not_t h54) (ap h55 (ap h56 an)))))))) (LoopQ.norm ⟨(wr64 (v41 - x51.Amount)), (wr64 (v42 + 1)), rfl, h⟩)
            · exact rE cfg_ok [j3, ([], [(0, .idx (Int.toNat v42) (NettingFlow.cells x51))], []), (jF [5, 6, 7, 8], [(9, .bool false)], []), j3, j3, j3] [some true, some false, some false, some false] [] [] [1, 2, 3, 11, 19, 20, 21] (.norm, (f27n2S bb2 bd3 bb4 ba1 v41 (wr64 (v42 + 1)))) (ap h44 (ap (at_some h52).1 (ap (at_map NettingFlow.cells (at_some h52).2) (ap (not_t h53) (ap4 (not_t h53) (ap (not_t h54) (ap h55 (ap h56 an)))))))) (LoopQ.norm ⟨v41, (wr64 (v42 + 1)), rfl, h⟩)
        · exact rE cfg_ok [j3, ([], [(0, .idx (Int.toNat v42) (NettingFlow.cells x51))], []), (jF [5, 6, 7, 8], [(9, .bool false)], []), j3] [some true, some true] [] [] [1, 2, 3, 11, 19, 20, 21] (.norm, (f27n2S bb2 bd3 bb4 ba1 v41 (wr64 (v42 + 1)))) (ap h44 (ap (at_some h52).1 (ap (at_map NettingFlow.cells (at_some h52).2) (ap (not_t h53) (ap4 (not_t h53) (ap (not_f h54) an)))))) (LoopQ.norm ⟨v41, (wr64 (v42 + 1)), rfl, h⟩)
      · exact rE cfg_ok [j3, ([], [(0, .idx (Int.toNat v42) (NettingFlow.cells x51))], []), (jT [5, 6, 7, 8], [(9, .bool true)], []), j3] [some true, none] [] [] [1, 2, 3, 11, 19, 20, 21] (.norm, (f27n2S bb2 bd3 bb4 ba1 v41 (wr64 (v42 + 1)))) (ap h44 (ap (at_some h52).1 (ap (at_map NettingFlow.cells (at_some h52).2) (ap (not_f h53) (ap4 (not_f h53) an))))) (LoopQ.norm ⟨v41, (wr64 (v42 + 1)), rfl, h⟩)
    · obtain rfl := some_inj h
      exact rK cfg_ok 2 [j3] [some false] [] [] [11] (.exit 0) ((f27n2E bb2 bd3 bb4 ba1 (.exit0 v41)).2) (ap h44 an) (LoopQ.out rfl rfl)
noncomputable def f27n2L (bb2 : ByteArray) (bd3 : Int) (bb4 : ByteArray) (ba1 : List NettingFlow) : List NettingFlow → Int → Int → Option f27n2O
  | [], v41, v42 =>
    some (.exit0 v41)
  | x0 :: rest, v41, v42 =>
    bif (decide (x0.Date = bd3)) then
      bif (seq x0.Ccy bb4) then
        bif (seq x0.To bb2) then
          (f27n2L bb2 bd3 bb4 ba1 rest (wr64 (v41 + x0.Amount)) (v42 + 1))
        else
          bif (seq x0.From bb2) then
            (f27n2L bb2 bd3 bb4 ba1 rest (wr64 (v41 - x0.Amount)) (v42 + 1))
          else
            (f27n2L bb2 bd3 bb4 ba1 rest v41 (v42 + 1))
      else
        (f27n2L bb2 bd3 bb4 ba1 rest v41 (v42 + 1))
    else
      (f27n2L bb2 bd3 bb4 ba1 rest v41 (v42 + 1))
theorem f27n2L_eq (bb2 : ByteArray) (bd3 : Int) (bb4 : ByteArray) (ba1 : List NettingFlow) : ∀ (rest : List NettingFlow) (f k : Nat) (v41 : Int), ba1.drop k = rest → ba1.length ≤ maxLen → rest.length < f → f27n2 f bb2 bd3 bb4 ba1 v41 (k : Int) = f27n2L bb2 bd3 bb4 ba1 rest v41 (k : Int)
  | _, 0, _, _, _, _, hf => absurd hf (Nat.not_lt_zero _)
  | [], f + 1, k, v41, hd, hm, hf => by
    have hk : ¬ ((k : Int) < (ba1.length : Int)) := by have := drop_nil hd; omega
    rw [f27n2, f27n2L]
    simp only [decide_eq_false hk, cond_false]
  | x0 :: rest, f + 1, k, v41, hd, hm, hf => by
    obtain ⟨hx, hlt, hd'⟩ := drop_cons hd
    have hk : (k : Int) < (ba1.length : Int) := by omega
    have hw : wr64 ((k : Int) + 1) = (k : Int) + 1 := wr64_of (by omega) (by unfold maxLen at hm; omega)
    have ih : ∀ (v41 : Int), f27n2 f bb2 bd3 bb4 ba1 v41 ((k : Int) + 1) = f27n2L bb2 bd3 bb4 ba1 rest v41 ((k : Int) + 1) := fun v41 => f27n2L_eq bb2 bd3 bb4 ba1 rest f (k + 1) v41 hd' hm (by simpa using hf)
    rw [f27n2, f27n2L]
    simp only [decide_eq_true hk, cond_true, at_nat, hx, Option.bind_some, hw, ih]
theorem f27n2_run (bb2 : ByteArray) (bd3 : Int) (bb4 : ByteArray) (ba1 : List NettingFlow) (v41 : Int) (hm : ba1.length ≤ maxLen) : f27n2 FUEL bb2 bd3 bb4 ba1 v41 0 = f27n2L bb2 bd3 bb4 ba1 ba1 v41 0 := f27n2L_eq bb2 bd3 bb4 ba1 ba1 FUEL 0 v41 List.drop_zero hm (lt_FUEL hm)
inductive f27n1O where
  | norm (v61 : Int)
def f27n1E (ba1 : List NettingFlow) (bb2 : ByteArray) (bd3 : Int) (bb4 : ByteArray) : f27n1O → Ex × Tr × Hp
  | .norm v61 => (.norm, mkS [(11, (jI v61))], [])
def f27n1S (ba1 : List NettingFlow) (bb2 : ByteArray) (bd3 : Int) (bb4 : ByteArray) : Tr × Hp := (mkS [(0, (jL 6 NettingFlow.cells ba1)), (1, (jS bb2)), (2, (jI bd3)), (3, (jS bb4)), (11, (jI 0))], [])
noncomputable def f27n1 (ba1 : List NettingFlow) (bb2 : ByteArray) (bd3 : Int) (bb4 : ByteArray) : Option f27n1O :=
  (f27n2 FUEL bb2 bd3 bb4 ba1 0 0).bind fun o58 => match o58 with
  | .exit0 v60 => some (.norm v60)
theorem f27n1_ok (ba1 : List NettingFlow) (bb2 : ByteArray) (bd3 : Int) (bb4 : ByteArray) {o : f27n1O} (h : (f27n1 ba1 bb2 bd3 bb4) = some o) : T Try.prog Try.f27.ntmps 0 (cL (dropC 3 c27)) (f27n1S ba1 bb2 bd3 bb4) (fun r => r = f27n1E ba1 bb2 bd3 bb4 o) := by
  unfold f27n1 at h
  refine rN cfg_ok 1 [([], [], [(1, .val (jI (ba1.length : Int)))])] [] [] [] [1, 2, 3, 11, 19, 20, 21] (f27n2S bb2 bd3 bb4 ba1 0 0) (ap (len_cv (xs := ba1) (c := NettingFlow.cells)) an) ?_
  obtain ⟨o58, h59, h⟩ := bind_cases h
  cases o58 with
  | exit0 v60 =>
    obtain rfl := some_inj h
    exact T.last' (T.bl (i := 0) (by kernel_rfl) (by kernel_rfl) (f27n2_ok FUEL bb2 bd3 bb4 ba1 0 0 h59)) (tds := []) (m := []) (keep := [11]) (st2 := (f27n1E ba1 bb2 bd3 bb4 (.norm v60)).2) (by kernel_rfl) an rfl
inductive f27n0O where
  | ret (v69 : Int) (v70 : Int)
def f27n0E (a1 : List NettingFlow) (a2 : ByteArray) (a3 : Int) (a4 : ByteArray) : f27n0O → Ex × Tr × Hp
  | .ret v69 v70 => (.ret, mkS [(8, (jI v69)), (9, (jI v70))], [])
def f27n0S (a1 : List NettingFlow) (a2 : ByteArray) (a3 : Int) (a4 : ByteArray) : Tr × Hp := (initS [(jL 6 NettingFlow.cells a1), (jS a2), (jI a3), (jS a4)] 0 .leaf, [])
noncomputable def f27n0 (a1 : List NettingFlow) (a2 : ByteArray) (a3 : Int) (a4 : ByteArray) : Option f27n0O :=
  (f35 a1).bind fun x8 =>
  bif (decide (x8 = 0)) then
    (f27n1 a1 a2 a3 a4).bind fun o62 => match o62 with
    | .norm v64 => (f50 v64).bind fun x67 =>
      some (.ret x67.1 x67.2)
  else
    some (.ret 0 x8)
theorem f27n0_ok (a1 : List NettingFlow) (a2 : ByteArray) (a3 : Int) (a4 : ByteArray) {o : f27n0O} (h : (f27n0 a1 a2 a3 a4) = some o) : T Try.prog Try.f27.ntmps 0 c27 (f27n0S a1 a2 a3 a4) (fun r => r = f27n0E a1 a2 a3 a4 o) := by
  unfold f27n0 at h
  obtain ⟨x8, h9, h⟩ := bind_cases h
  rcases cond_cases h with ⟨h10, h⟩ | ⟨h10, h⟩
  · refine rN cfg_ok 3 [j3, ([], [jH 1 (jI x8)], []), j3, j3] [some false] [] [] [0, 1, 2, 3, 11] (f27n1S a1 a2 a3 a4) (ap (f35_ok a1 h9) (ap (not_t h10) an)) ?_
    obtain ⟨o62, h63, h⟩ := bind_cases h
    cases o62 with
    | norm v64 =>
      refine T.oneN (by kernel_rfl) (f27n1_ok a1 a2 a3 a4 h63) (st2 := (f27n1E a1 a2 a3 a4 (.norm v64)).2) rfl ?_
      obtain ⟨x67, h68, h⟩ := bind_cases h
      obtain rfl := some_inj h
      exact rE cfg_ok [([], [jH 1 (.tup [(jI x67.1), (jI x67.2)])], [])] [] [] [] [8, 9] (.ret, (f27n0E a1 a2 a3 a4 (.ret x67.1 x67.2)).2) (ap (f50_ok v64 h68) an) rfl
  · obtain rfl := some_inj h
    exact rK cfg_ok 2 [j3, ([], [jH 1 (jI x8)], []), j3, j3] [some true] [] [] [8, 9] .ret ((f27n0E a1 a2 a3 a4 (.ret 0 x8)).2) (ap (f35_ok a1 h9) (ap (not_f h10) an)) rfl
noncomputable def f27 (a1 : List NettingFlow) (a2 : ByteArray) (a3 : Int) (a4 : ByteArray) : Option (Int × Int) := (f27n0 a1 a2 a3 a4).bind fun o => match o with
  | .ret v69 v70 => some (v69, v70)
theorem f27_ok (a1 : List NettingFlow) (a2 : ByteArray) (a3 : Int) (a4 : ByteArray) {r : Int × Int} (h : (f27 a1 a2 a3 a4) = some r) : CallS Try.prog false 27 [(jL 6 NettingFlow.cells a1), (jS a2), (jI a3), (jS a4)] [] (.tup [(jI r.1), (jI r.2)]) [] := by
  unfold f27 at h
  obtain ⟨o, ho, h⟩ := bind_cases h
  cases o with
  | ret v69 v70 =>
    obtain rfl := some_inj h
    exact CallS.plain cfg_ok (f := Try.f27) (c := c27) (by kernel_rfl) (by kernel_rfl) (by kernel_rfl) (by kernel_rfl) ((f27n0_ok a1 a2 a3 a4 ho).mono fun r e => by subst e; exact ⟨.inl rfl, (.tup [(jI v69), (jI v70)]), (.tup [(jI v69), (jI v70)]), by kernel_rfl, by kernel_rfl, ((Wk.refl _) : Wk (.tup [(jI v69), (jI v70)]) (.tup [(jI v69), (jI v70)]))⟩)

noncomputable def c53 : Code := Try.f53.body.getD .skip
inductive f53n0O where
  | ret (v6 : Int) (v7 : Int)
def f53n0E (a1 : Int) : f53n0O → Ex × Tr × Hp
  | .ret v6 v7 => (.ret, mkS [(2, (jI v6)), (3, (jI v7))], [])
def f53n0S (a1 : Int) : Tr × Hp := (initS [(jI a1)] 0 .leaf, [])
noncomputable def f53n0 (a1 : Int) : Option f53n0O :=
  bif (decide (1125899906842624 < a1)) then
    some (.ret 0 14)
  else
    bif (decide (a1 < (-1125899906842624))) then
      some (.ret 0 14)
    else
      some (.ret a1 0)
theorem f53n0_ok (a1 : Int) {o : f53n0O} (h : (f53n0 a1) = some o) : T Try.prog Try.f53.ntmps 0 c53 (f53n0S a1) (fun r => r = f53n0E a1 o) := by
  unfold f53n0 at h
  rcases cond_cases h with ⟨h4, h⟩ | ⟨h4, h⟩
  · obtain rfl := some_inj h
    exact rK cfg_ok 2 [j3, ([(3, true), (4, true)], [(5, .bool true)], []), j3] [none] [] [] [2, 3] .ret ((f53n0E a1 (.ret 0 14)).2) (ap3 h4 an) rfl
  · rcases cond_cases h with ⟨h5, h⟩ | ⟨h5, h⟩
    · obtain rfl := some_inj h
      exact rK cfg_ok 2 [j3, ([(3, false), (4, false)], [(5, .bool false)], []), j3] [some true] [] [] [2, 3] .ret ((f53n0E a1 (.ret 0 14)).2) (ap3 h4 (ap h5 an)) rfl
    · obtain rfl := some_inj h
      exact rE cfg_ok [j3, ([(3, false), (4, false)], [(5, .bool false)], []), j3] [some false] [] [] [2, 3] (.ret, (f53n0E a1 (.ret a1 0)).2) (ap3 h4 (ap h5 an)) rfl
noncomputable def f53 (a1 : Int) : Option (Int × Int) := (f53n0 a1).bind fun o => match o with
  | .ret v6 v7 => some (v6, v7)
theorem f53_ok (a1 : Int) {r : Int × Int} (h : (f53 a1) = some r) : CallS Try.prog false 53 [(jI a1)] [] (.tup [(jI r.1), (jI r.2)]) [] := by
  unfold f53 at h
  obtain ⟨o, ho, h⟩ := bind_cases h
  cases o with
  | ret v6 v7 =>
    obtain rfl := some_inj h
    exact CallS.plain cfg_ok (f := Try.f53) (c := c53) (by kernel_rfl) (by kernel_rfl) (by kernel_rfl) (by kernel_rfl) ((f53n0_ok a1 ho).mono fun r e => by subst e; exact ⟨.inl rfl, (.tup [(jI v6), (jI v7)]), (.tup [(jI v6), (jI v7)]), by kernel_rfl, by kernel_rfl, ((Wk.refl _) : Wk (.tup [(jI v6), (jI v7)]) (.tup [(jI v6), (jI v7)]))⟩)

noncomputable def c29 : Code := Try.f29.body.getD .skip
inductive f29n0O where
  | ret (v19 : Int) (v20 : Int)
def f29n0E (a1 : List NettingFlow) (a2 : ByteArray) (a3 : Int) (a4 : ByteArray) : f29n0O → Ex × Tr × Hp
  | .ret v19 v20 => (.ret, mkS [(8, (jI v19)), (9, (jI v20))], [])
def f29n0S (a1 : List NettingFlow) (a2 : ByteArray) (a3 : Int) (a4 : ByteArray) : Tr × Hp := (initS [(jL 6 NettingFlow.cells a1), (jS a2), (jI a3), (jS a4)] 0 .leaf, [])
noncomputable def f29n0 (a1 : List NettingFlow) (a2 : ByteArray) (a3 : Int) (a4 : ByteArray) : Option f29n0O :=
  (f48 a1).bind fun x8 =>
  bif x8 then
    (f52 a1 a2 a3 a4).bind fun x15 =>
    (f53 x15).bind fun x17 =>
    some (.ret x17.1 x17.2)
  else
    some (.ret 0 8)
theorem f29n0_ok (a1 : List NettingFlow) (a2 : ByteArray) (a3 : Int) (a4 : ByteArray) {o : f29n0O} (h : (f29n0 a1 a2 a3 a4) = some o) : T Try.prog Try.f29.ntmps 0 c29 (f29n0S a1 a2 a3 a4) (fun r => r = f29n0E a1 a2 a3 a4 o) := by
  unfold f29n0 at h
  obtain ⟨x8, h9, h⟩ := bind_cases h
  rcases cond_cases h with ⟨h10, h⟩ | ⟨h10, h⟩
  · obtain ⟨x15, h16, h⟩ := bind_cases h
    obtain ⟨x17, h18, h⟩ := bind_cases h
    obtain rfl := some_inj h
    exact rE cfg_ok [j3, ([], [jH 1 (jB x8)], []), ([], [jH 4 (jI x15), jH 5 (.tup [(jI x17.1), (jI x17.2)])], [])] [some false] [] [] [8, 9] (.ret, (f29n0E a1 a2 a3 a4 (.ret x17.1 x17.2)).2) (ap (f48_ok a1 h9) (ap (not_t h10) (ap (f52_ok a1 a2 a3 a4 h16) (ap (f53_ok x15 h18) an)))) rfl
  · obtain rfl := some_inj h
    exact rK cfg_ok 2 [j3, ([], [jH 1 (jB x8)], []), j3] [some true] [] [] [8, 9] .ret ((f29n0E a1 a2 a3 a4 (.ret 0 8)).2) (ap (f48_ok a1 h9) (ap (not_f h10) an)) rfl
noncomputable def f29 (a1 : List NettingFlow) (a2 : ByteArray) (a3 : Int) (a4 : ByteArray) : Option (Int × Int) := (f29n0 a1 a2 a3 a4).bind fun o => match o with
  | .ret v19 v20 => some (v19, v20)
theorem f29_ok (a1 : List NettingFlow) (a2 : ByteArray) (a3 : Int) (a4 : ByteArray) {r : Int × Int} (h : (f29 a1 a2 a3 a4) = some r) : CallS Try.prog false 29 [(jL 6 NettingFlow.cells a1), (jS a2), (jI a3), (jS a4)] [] (.tup [(jI r.1), (jI r.2)]) [] := by
  unfold f29 at h
  obtain ⟨o, ho, h⟩ := bind_cases h
  cases o with
  | ret v19 v20 =>
    obtain rfl := some_inj h
    exact CallS.plain cfg_ok (f := Try.f29) (c := c29) (by kernel_rfl) (by kernel_rfl) (by kernel_rfl) (by kernel_rfl) ((f29n0_ok a1 a2 a3 a4 ho).mono fun r e => by subst e; exact ⟨.inl rfl, (.tup [(jI v19), (jI v20)]), (.tup [(jI v19), (jI v20)]), by kernel_rfl, by kernel_rfl, ((Wk.refl _) : Wk (.tup [(jI v19), (jI v20)]) (.tup [(jI v19), (jI v20)]))⟩)

noncomputable def c26 : Code := Try.f26.body.getD .skip
inductive f26n2O where
  | exit0 (v37 : Int)
def f26n2E (bb2 : ByteArray) (ba1 : List NettingFlow) : f26n2O → Ex × Tr × Hp
  | .exit0 v37 => ((.exit 0), mkS [(7, (jI v37))], [])
def f26n2S (bb2 : ByteArray) (ba1 : List NettingFlow) (v27 : Int) (v28 : Int) : Tr × Hp := (mkS [(1, (jS bb2)), (7, (jI v27)), (15, (jL 6 NettingFlow.cells ba1)), (16, (jI (ba1.length : Int))), (17, (jI v28))], [])
noncomputable def f26n2 : Nat → ByteArray → List NettingFlow → Int → Int → Option f26n2O
  | 0, _, _, _, _ => none
  | f + 1, bb2, ba1, v27, v28 =>
    bif (decide (v28 < (ba1.length : Int))) then
      (at? ba1 v28).bind fun x34 =>
      bif (seq x34.Ccy bb2) then
        (f26n2 f bb2 ba1 (wr64 (v27 + x34.Amount)) (wr64 (v28 + 1)))
      else
        (f26n2 f bb2 ba1 v27 (wr64 (v28 + 1)))
    else
      some (.exit0 v27)
theorem f26n2_ok : ∀ (f : Nat) (bb2 : ByteArray) (ba1 : List NettingFlow) (v27 : Int) (v28 : Int) {o : f26n2O}, (f26n2 f bb2 ba1 v27 v28) = some o → TL Try.prog Try.f26.ntmps 0 f (cL (cL (dropC 1 (cL (dropC 3 c26))))) (f26n2S bb2 ba1 v27 v28) (fun r => r = f26n2E bb2 ba1 o)
  | 0, _, _, _, _, o, h => by rw [f26n2] at h; cases h
  | f + 1, bb2, ba1, v27, v28, o, h => by
    rw [f26n2] at h
    refine TL.body (K := fun s => ∃ v27 : Int, ∃ v28 : Int, s = (f26n2S bb2 ba1 v27 v28) ∧ (f26n2 f bb2 ba1 v27 v28) = some o) ?_ (by rintro _ ⟨v27, v28, rfl, hk⟩; exact f26n2_ok f _ _ _ _ hk)
    rcases cond_cases h with ⟨h30, h⟩ | ⟨h30, h⟩
    · obtain ⟨x34, h35, h⟩ := bind_cases h
      rcases cond_cases h with ⟨h36, h⟩ | ⟨h36, h⟩
      · exact rE cfg_ok [j3, ([], [(0, .idx (Int.toNat v28) (NettingFlow.cells x34))], []), j3, j3, j3] [some true, some true] [] [] [1, 7, 15, 16, 17] (.norm, (f26n2S bb2 ba1 (wr64 (v27 + x34.Amount)) (wr64 (v28 + 1)))) (ap h30 (ap (at_some h35).1 (ap (at_map NettingFlow.cells (at_some h35).2) (ap h36 an)))) (LoopQ.norm ⟨(wr64 (v27 + x34.Amount)), (wr64 (v28 + 1)), rfl, h⟩)
      · exact rE cfg_ok [j3, ([], [(0, .idx (Int.toNat v28) (NettingFlow.cells x34))], []), j3, j3] [some true, some false] [] [] [1, 7, 15, 16, 17] (.norm, (f26n2S bb2 ba1 v27 (wr64 (v28 + 1)))) (ap h30 (ap (at_some h35).1 (ap (at_map NettingFlow.cells (at_some h35).2) (ap h36 an)))) (LoopQ.norm ⟨v27, (wr64 (v28 + 1)), rfl, h⟩)
    · obtain rfl := some_inj h
      exact rK cfg_ok 2 [j3] [some false] [] [] [7] (.exit 0) ((f26n2E bb2 ba1 (.exit0 v27)).2) (ap h30 an) (LoopQ.out rfl rfl)
noncomputable def f26n2L (bb2 : ByteArray) (ba1 : List NettingFlow) : List NettingFlow → Int → Int → Option f26n2O
  | [], v27, v28 =>
    some (.exit0 v27)
  | x0 :: rest, v27, v28 =>
    bif (seq x0.Ccy bb2) then
      (f26n2L bb2 ba1 rest (wr64 (v27 + x0.Amount)) (v28 + 1))
    else
      (f26n2L bb2 ba1 rest v27 (v28 + 1))
theorem f26n2L_eq (bb2 : ByteArray) (ba1 : List NettingFlow) : ∀ (rest : List NettingFlow) (f k : Nat) (v27 : Int), ba1.drop k = rest → ba1.length ≤ maxLen → rest.length < f → f26n2 f bb2 ba1 v27 (k : Int) = f26n2L bb2 ba1 rest v27 (k : Int)
  | _, 0, _, _, _, _, hf => absurd hf (Nat.not_lt_zero _)
  | [], f + 1, k, v27, hd, hm, hf => by
    have hk : ¬ ((k : Int) < (ba1.length : Int)) := by have := drop_nil hd; omega
    rw [f26n2, f26n2L]
    simp only [decide_eq_false hk, cond_false]
  | x0 :: rest, f + 1, k, v27, hd, hm, hf => by
    obtain ⟨hx, hlt, hd'⟩ := drop_cons hd
    have hk : (k : Int) < (ba1.length : Int) := by omega
    have hw : wr64 ((k : Int) + 1) = (k : Int) + 1 := wr64_of (by omega) (by unfold maxLen at hm; omega)
    have ih : ∀ (v27 : Int), f26n2 f bb2 ba1 v27 ((k : Int) + 1) = f26n2L bb2 ba1 rest v27 ((k : Int) + 1) := fun v27 => f26n2L_eq bb2 ba1 rest f (k + 1) v27 hd' hm (by simpa using hf)
    rw [f26n2, f26n2L]
    simp only [decide_eq_true hk, cond_true, at_nat, hx, Option.bind_some, hw, ih]
theorem f26n2_run (bb2 : ByteArray) (ba1 : List NettingFlow) (v27 : Int) (hm : ba1.length ≤ maxLen) : f26n2 FUEL bb2 ba1 v27 0 = f26n2L bb2 ba1 ba1 v27 0 := f26n2L_eq bb2 ba1 ba1 FUEL 0 v27 List.drop_zero hm (lt_FUEL hm)
inductive f26n1O where
  | norm (v41 : Int)
def f26n1E (ba1 : List NettingFlow) (bb2 : ByteArray) : f26n1O → Ex × Tr × Hp
  | .norm v41 => (.norm, mkS [(7, (jI v41))], [])
def f26n1S (ba1 : List NettingFlow) (bb2 : ByteArray) : Tr × Hp := (mkS [(0, (jL 6 NettingFlow.cells ba1)), (1, (jS bb2)), (7, (jI 0))], [])
noncomputable def f26n1 (ba1 : List NettingFlow) (bb2 : ByteArray) : Option f26n1O :=
  (f26n2 FUEL bb2 ba1 0 0).bind fun o38 => match o38 with
  | .exit0 v40 => some (.norm v40)
theorem f26n1_ok (ba1 : List NettingFlow) (bb2 : ByteArray) {o : f26n1O} (h : (f26n1 ba1 bb2) = some o) : T Try.prog Try.f26.ntmps 0 (cL (dropC 3 c26)) (f26n1S ba1 bb2) (fun r => r = f26n1E ba1 bb2 o) := by
  unfold f26n1 at h
  refine rN cfg_ok 1 [([], [], [(1, .val (jI (ba1.length : Int)))])] [] [] [] [1, 7, 15, 16, 17] (f26n2S bb2 ba1 0 0) (ap (len_cv (xs := ba1) (c := NettingFlow.cells)) an) ?_
  obtain ⟨o38, h39, h⟩ := bind_cases h
  cases o38 with
  | exit0 v40 =>
    obtain rfl := some_inj h
    exact T.last' (T.bl (i := 0) (by kernel_rfl) (by kernel_rfl) (f26n2_ok FUEL bb2 ba1 0 0 h39)) (tds := []) (m := []) (keep := [7]) (st2 := (f26n1E ba1 bb2 (.norm v40)).2) (by kernel_rfl) an rfl
inductive f26n0O where
  | ret (v49 : Int) (v50 : Int)
def f26n0E (a1 : List NettingFlow) (a2 : ByteArray) : f26n0O → Ex × Tr × Hp
  | .ret v49 v50 => (.ret, mkS [(4, (jI v49)), (5, (jI v50))], [])
def f26n0S (a1 : List NettingFlow) (a2 : ByteArray) : Tr × Hp := (initS [(jL 6 NettingFlow.cells a1), (jS a2)] 0 .leaf, [])
noncomputable def f26n0 (a1 : List NettingFlow) (a2 : ByteArray) : Option f26n0O :=
  (f35 a1).bind fun x6 =>
  bif (decide (x6 = 0)) then
    (f26n1 a1 a2).bind fun o42 => match o42 with
    | .norm v44 => (f50 v44).bind fun x47 =>
      some (.ret x47.1 x47.2)
  else
    some (.ret 0 x6)
theorem f26n0_ok (a1 : List NettingFlow) (a2 : ByteArray) {o : f26n0O} (h : (f26n0 a1 a2) = some o) : T Try.prog Try.f26.ntmps 0 c26 (f26n0S a1 a2) (fun r => r = f26n0E a1 a2 o) := by
  unfold f26n0 at h
  obtain ⟨x6, h7, h⟩ := bind_cases h
  rcases cond_cases h with ⟨h8, h⟩ | ⟨h8, h⟩
  · refine rN cfg_ok 3 [j3, ([], [jH 1 (jI x6)], []), j3, j3] [some false] [] [] [0, 1, 7] (f26n1S a1 a2) (ap (f35_ok a1 h7) (ap (not_t h8) an)) ?_
    obtain ⟨o42, h43, h⟩ := bind_cases h
    cases o42 with
    | norm v44 =>
      refine T.oneN (by kernel_rfl) (f26n1_ok a1 a2 h43) (st2 := (f26n1E a1 a2 (.norm v44)).2) rfl ?_
      obtain ⟨x47, h48, h⟩ := bind_cases h
      obtain rfl := some_inj h
      exact rE cfg_ok [([], [jH 1 (.tup [(jI x47.1), (jI x47.2)])], [])] [] [] [] [4, 5] (.ret, (f26n0E a1 a2 (.ret x47.1 x47.2)).2) (ap (f50_ok v44 h48) an) rfl
  · obtain rfl := some_inj h
    exact rK cfg_ok 2 [j3, ([], [jH 1 (jI x6)], []), j3, j3] [some true] [] [] [4, 5] .ret ((f26n0E a1 a2 (.ret 0 x6)).2) (ap (f35_ok a1 h7) (ap (not_f h8) an)) rfl
noncomputable def f26 (a1 : List NettingFlow) (a2 : ByteArray) : Option (Int × Int) := (f26n0 a1 a2).bind fun o => match o with
  | .ret v49 v50 => some (v49, v50)
theorem f26_ok (a1 : List NettingFlow) (a2 : ByteArray) {r : Int × Int} (h : (f26 a1 a2) = some r) : CallS Try.prog false 26 [(jL 6 NettingFlow.cells a1), (jS a2)] [] (.tup [(jI r.1), (jI r.2)]) [] := by
  unfold f26 at h
  obtain ⟨o, ho, h⟩ := bind_cases h
  cases o with
  | ret v49 v50 =>
    obtain rfl := some_inj h
    exact CallS.plain cfg_ok (f := Try.f26) (c := c26) (by kernel_rfl) (by kernel_rfl) (by kernel_rfl) (by kernel_rfl) ((f26n0_ok a1 a2 ho).mono fun r e => by subst e; exact ⟨.inl rfl, (.tup [(jI v49), (jI v50)]), (.tup [(jI v49), (jI v50)]), by kernel_rfl, by kernel_rfl, ((Wk.refl _) : Wk (.tup [(jI v49), (jI v50)]) (.tup [(jI v49), (jI v50)]))⟩)

noncomputable def c30 : Code := Try.f30.body.getD .skip
inductive f30n2O where
  | exit0 (v37 : Int)
def f30n2E (ba1 : List NettingFlow) (bb2 : ByteArray) : f30n2O → Ex × Tr × Hp
  | .exit0 v37 => ((.exit 0), mkS [(6, (jI v37))], [])
def f30n2S (ba1 : List NettingFlow) (bb2 : ByteArray) (v27 : Int) (v28 : Int) : Tr × Hp := (mkS [(0, (jL 6 NettingFlow.cells ba1)), (1, (jS bb2)), (6, (jI v27)), (7, (jI v28))], [])
noncomputable def f30n2 : Nat → List NettingFlow → ByteArray → Int → Int → Option f30n2O
  | 0, _, _, _, _ => none
  | f + 1, ba1, bb2, v27, v28 =>
    bif (decide (v28 < (ba1.length : Int))) then
      (at? ba1 v28).bind fun x34 =>
      bif (seq x34.Ccy bb2) then
        (f30n2 f ba1 bb2 (wr64 (v27 + x34.Amount)) (wr64 (v28 + 1)))
      else
        (f30n2 f ba1 bb2 v27 (wr64 (v28 + 1)))
    else
      some (.exit0 v27)
theorem f30n2_ok : ∀ (f : Nat) (ba1 : List NettingFlow) (bb2 : ByteArray) (v27 : Int) (v28 : Int) {o : f30n2O}, (f30n2 f ba1 bb2 v27 v28) = some o → TL Try.prog Try.f30.ntmps 0 f (cL (cL (dropC 1 (cL (dropC 3 c30))))) (f30n2S ba1 bb2 v27 v28) (fun r => r = f30n2E ba1 bb2 o)
  | 0, _, _, _, _, o, h => by rw [f30n2] at h; cases h
  | f + 1, ba1, bb2, v27, v28, o, h => by
    rw [f30n2] at h
    refine TL.body (K := fun s => ∃ v27 : Int, ∃ v28 : Int, s = (f30n2S ba1 bb2 v27 v28) ∧ (f30n2 f ba1 bb2 v27 v28) = some o) ?_ (by rintro _ ⟨v27, v28, rfl, hk⟩; exact f30n2_ok f _ _ _ _ hk)
    rcases cond_cases h with ⟨h30, h⟩ | ⟨h30, h⟩
    · obtain ⟨x34, h35, h⟩ := bind_cases h
      rcases cond_cases h with ⟨h36, h⟩ | ⟨h36, h⟩
      · exact rE cfg_ok [([], [], [(2, .val (jI (ba1.length : Int)))]), ([], [(2, .idx (Int.toNat v28) (NettingFlow.cells x34))], []), ([], [(3, .idx (Int.toNat v28) (NettingFlow.cells x34))], []), j3] [some true, some true] [] [] [0, 1, 6, 7] (.norm, (f30n2S ba1 bb2 (wr64 (v27 + x34.Amount)) (wr64 (v28 + 1)))) (ap (len_cv (xs := ba1) (c := NettingFlow.cells)) (ap h30 (ap (at_some h35).1 (ap (at_map NettingFlow.cells (at_some h35).2) (ap h36 (ap (at_some h35).1 (ap (at_map NettingFlow.cells (at_some h35).2) an))))))) (LoopQ.norm ⟨(wr64 (v27 + x34.Amount)), (wr64 (v28 + 1)), rfl, h⟩)
      · exact rE cfg_ok [([], [], [(2, .val (jI (ba1.length : Int)))]), ([], [(2, .idx (Int.toNat v28) (NettingFlow.cells x34))], []), j3] [some true, some false] [] [] [0, 1, 6, 7] (.norm, (f30n2S ba1 bb2 v27 (wr64 (v28 + 1)))) (ap (len_cv (xs := ba1) (c := NettingFlow.cells)) (ap h30 (ap (at_some h35).1 (ap (at_map NettingFlow.cells (at_some h35).2) (ap h36 an))))) (LoopQ.norm ⟨v27, (wr64 (v28 + 1)), rfl, h⟩)
    · obtain rfl := some_inj h
      exact rK cfg_ok 1 [([], [], [(2, .val (jI (ba1.length : Int)))])] [some false] [] [] [6] (.exit 0) ((f30n2E ba1 bb2 (.exit0 v27)).2) (ap (len_cv (xs := ba1) (c := NettingFlow.cells)) (ap h30 an)) (LoopQ.out rfl rfl)
noncomputable def f30n2L (ba1 : List NettingFlow) (bb2 : ByteArray) : List NettingFlow → Int → Int → Option f30n2O
  | [], v27, v28 =>
    some (.exit0 v27)
  | x0 :: rest, v27, v28 =>
    bif (seq x0.Ccy bb2) then
      (f30n2L ba1 bb2 rest (wr64 (v27 + x0.Amount)) (v28 + 1))
    else
      (f30n2L ba1 bb2 rest v27 (v28 + 1))
theorem f30n2L_eq (ba1 : List NettingFlow) (bb2 : ByteArray) : ∀ (rest : List NettingFlow) (f k : Nat) (v27 : Int), ba1.drop k = rest → ba1.length ≤ maxLen → rest.length < f → f30n2 f ba1 bb2 v27 (k : Int) = f30n2L ba1 bb2 rest v27 (k : Int)
  | _, 0, _, _, _, _, hf => absurd hf (Nat.not_lt_zero _)
  | [], f + 1, k, v27, hd, hm, hf => by
    have hk : ¬ ((k : Int) < (ba1.length : Int)) := by have := drop_nil hd; omega
    rw [f30n2, f30n2L]
    simp only [decide_eq_false hk, cond_false]
  | x0 :: rest, f + 1, k, v27, hd, hm, hf => by
    obtain ⟨hx, hlt, hd'⟩ := drop_cons hd
    have hk : (k : Int) < (ba1.length : Int) := by omega
    have hw : wr64 ((k : Int) + 1) = (k : Int) + 1 := wr64_of (by omega) (by unfold maxLen at hm; omega)
    have ih : ∀ (v27 : Int), f30n2 f ba1 bb2 v27 ((k : Int) + 1) = f30n2L ba1 bb2 rest v27 ((k : Int) + 1) := fun v27 => f30n2L_eq ba1 bb2 rest f (k + 1) v27 hd' hm (by simpa using hf)
    rw [f30n2, f30n2L]
    simp only [decide_eq_true hk, cond_true, at_nat, hx, Option.bind_some, hw, ih]
theorem f30n2_run (ba1 : List NettingFlow) (bb2 : ByteArray) (v27 : Int) (hm : ba1.length ≤ maxLen) : f30n2 FUEL ba1 bb2 v27 0 = f30n2L ba1 bb2 ba1 v27 0 := f30n2L_eq ba1 bb2 ba1 FUEL 0 v27 List.drop_zero hm (lt_FUEL hm)
inductive f30n1O where
  | norm (v41 : Int)
def f30n1E (ba1 : List NettingFlow) (bb2 : ByteArray) : f30n1O → Ex × Tr × Hp
  | .norm v41 => (.norm, mkS [(6, (jI v41))], [])
def f30n1S (ba1 : List NettingFlow) (bb2 : ByteArray) : Tr × Hp := (mkS [(0, (jL 6 NettingFlow.cells ba1)), (1, (jS bb2)), (6, (jI 0))], [])
noncomputable def f30n1 (ba1 : List NettingFlow) (bb2 : ByteArray) : Option f30n1O :=
  (f30n2 FUEL ba1 bb2 0 0).bind fun o38 => match o38 with
  | .exit0 v40 => some (.norm v40)
theorem f30n1_ok (ba1 : List NettingFlow) (bb2 : ByteArray) {o : f30n1O} (h : (f30n1 ba1 bb2) = some o) : T Try.prog Try.f30.ntmps 0 (cL (dropC 3 c30)) (f30n1S ba1 bb2) (fun r => r = f30n1E ba1 bb2 o) := by
  unfold f30n1 at h
  refine rN cfg_ok 1 [j3] [] [] [] [0, 1, 6, 7] (f30n2S ba1 bb2 0 0) an ?_
  obtain ⟨o38, h39, h⟩ := bind_cases h
  cases o38 with
  | exit0 v40 =>
    obtain rfl := some_inj h
    exact T.last' (T.bl (i := 0) (by kernel_rfl) (by kernel_rfl) (f30n2_ok FUEL ba1 bb2 0 0 h39)) (tds := []) (m := []) (keep := [6]) (st2 := (f30n1E ba1 bb2 (.norm v40)).2) (by kernel_rfl) an rfl
inductive f30n0O where
  | ret (v49 : Int) (v50 : Int)
def f30n0E (a1 : List NettingFlow) (a2 : ByteArray) : f30n0O → Ex × Tr × Hp
  | .ret v49 v50 => (.ret, mkS [(4, (jI v49)), (5, (jI v50))], [])
def f30n0S (a1 : List NettingFlow) (a2 : ByteArray) : Tr × Hp := (initS [(jL 6 NettingFlow.cells a1), (jS a2)] 0 .leaf, [])
noncomputable def f30n0 (a1 : List NettingFlow) (a2 : ByteArray) : Option f30n0O :=
  (f48 a1).bind fun x6 =>
  bif x6 then
    (f30n1 a1 a2).bind fun o42 => match o42 with
    | .norm v44 => (f53 v44).bind fun x47 =>
      some (.ret x47.1 x47.2)
  else
    some (.ret 0 8)
theorem f30n0_ok (a1 : List NettingFlow) (a2 : ByteArray) {o : f30n0O} (h : (f30n0 a1 a2) = some o) : T Try.prog Try.f30.ntmps 0 c30 (f30n0S a1 a2) (fun r => r = f30n0E a1 a2 o) := by
  unfold f30n0 at h
  obtain ⟨x6, h7, h⟩ := bind_cases h
  rcases cond_cases h with ⟨h8, h⟩ | ⟨h8, h⟩
  · refine rN cfg_ok 3 [j3, ([], [jH 1 (jB x6)], []), j3] [some false] [] [] [0, 1, 6] (f30n1S a1 a2) (ap (f48_ok a1 h7) (ap (not_t h8) an)) ?_
    obtain ⟨o42, h43, h⟩ := bind_cases h
    cases o42 with
    | norm v44 =>
      refine T.oneN (by kernel_rfl) (f30n1_ok a1 a2 h43) (st2 := (f30n1E a1 a2 (.norm v44)).2) rfl ?_
      obtain ⟨x47, h48, h⟩ := bind_cases h
      obtain rfl := some_inj h
      exact rE cfg_ok [([], [jH 1 (.tup [(jI x47.1), (jI x47.2)])], [])] [] [] [] [4, 5] (.ret, (f30n0E a1 a2 (.ret x47.1 x47.2)).2) (ap (f53_ok v44 h48) an) rfl
  · obtain rfl := some_inj h
    exact rK cfg_ok 2 [j3, ([], [jH 1 (jB x6)], []), j3] [some true] [] [] [4, 5] .ret ((f30n0E a1 a2 (.ret 0 8)).2) (ap (f48_ok a1 h7) (ap (not_f h8) an)) rfl
noncomputable def f30 (a1 : List NettingFlow) (a2 : ByteArray) : Option (Int × Int) := (f30n0 a1 a2).bind fun o => match o with
  | .ret v49 v50 => some (v49, v50)
theorem f30_ok (a1 : List NettingFlow) (a2 : ByteArray) {r : Int × Int} (h : (f30 a1 a2) = some r) : CallS Try.prog false 30 [(jL 6 NettingFlow.cells a1), (jS a2)] [] (.tup [(jI r.1), (jI r.2)]) [] := by
  unfold f30 at h
  obtain ⟨o, ho, h⟩ := bind_cases h
  cases o with
  | ret v49 v50 =>
    obtain rfl := some_inj h
    exact CallS.plain cfg_ok (f := Try.f30) (c := c30) (by kernel_rfl) (by kernel_rfl) (by kernel_rfl) (by kernel_rfl) ((f30n0_ok a1 a2 ho).mono fun r e => by subst e; exact ⟨.inl rfl, (.tup [(jI v49), (jI v50)]), (.tup [(jI v49), (jI v50)]), by kernel_rfl, by kernel_rfl, ((Wk.refl _) : Wk (.tup [(jI v49), (jI v50)]) (.tup [(jI v49), (jI v50)]))⟩)

noncomputable def c17 : Code := Try.f17.body.getD .skip
inductive f17n2O where
  | exit0
  | ret
def f17n2E (ba1 : List NettingFlow) (ba2 : List NettingFlow) : f17n2O → Ex × Tr × Hp
  | .exit0 => ((.exit 0), mkS [], [])
  | .ret => (.ret, mkS [(4, (jB false))], [])
def f17n2S (ba1 : List NettingFlow) (ba2 : List NettingFlow) (v30 : Int) : Tr × Hp := (mkS [(0, (jL 6 NettingFlow.cells ba1)), (1, (jL 6 NettingFlow.cells ba2)), (5, (jI v30))], [])
noncomputable def f17n2 : Nat → List NettingFlow → List NettingFlow → Int → Option f17n2O
  | 0, _, _, _ => none
  | f + 1, ba1, ba2, v30 =>
    bif (decide (v30 < (ba1.length : Int))) then
      (at? ba1 v30).bind fun x38 =>
      (at? ba2 v30).bind fun x40 =>
      bif (NettingFlow.eqb x38 x40) then
        (f17n2 f ba1 ba2 (wr64 (v30 + 1)))
      else
        some .ret
    else
      some .exit0
theorem f17n2_ok : ∀ (f : Nat) (ba1 : List NettingFlow) (ba2 : List NettingFlow) (v30 : Int) {o : f17n2O}, (f17n2 f ba1 ba2 v30) = some o → TL Try.prog Try.f17.ntmps 0 f (cL (cL (dropC 1 (cL (dropC 2 c17))))) (f17n2S ba1 ba2 v30) (fun r => r = f17n2E ba1 ba2 o)
  | 0, _, _, _, o, h => by rw [f17n2] at h; cases h
  | f + 1, ba1, ba2, v30, o, h => by
    rw [f17n2] at h
    refine TL.body (K := fun s => ∃ v30 : Int, s = (f17n2S ba1 ba2 v30) ∧ (f17n2 f ba1 ba2 v30) = some o) ?_ (by rintro _ ⟨v30, rfl, hk⟩; exact f17n2_ok f _ _ _ hk)
    rcases cond_cases h with ⟨h32, h⟩ | ⟨h32, h⟩
    · obtain ⟨x38, h39, h⟩ := bind_cases h
      obtain ⟨x40, h41, h⟩ := bind_cases h
      rcases cond_cases h with ⟨h42, h⟩ | ⟨h42, h⟩
      · exact rE cfg_ok [([], [], [(2, .val (jI (ba1.length : Int)))]), ([], [(2, .idx (Int.toNat v30) (NettingFlow.cells x38)), (6, .idx (Int.toNat v30) (NettingFlow.cells x40)), (8, .bool (NettingFlow.eqb x38 x40))], []), j3] [some true, some false] [] [] [0, 1, 5] (.norm, (f17n2S ba1 ba2 (wr64 (v30 + 1)))) (ap (len_cv (xs := ba1) (c := NettingFlow.cells)) (ap h32 (ap (at_some h39).1 (ap (at_map NettingFlow.cells (at_some h39).2) (ap (at_some h41).1 (ap (at_map NettingFlow.cells (at_some h41).2) (ap (NettingFlow.eqb_ok x38 x40) (ap (not_t h42) an)))))))) (LoopQ.norm ⟨(wr64 (v30 + 1)), rfl, h⟩)
      · obtain rfl := some_inj h
        exact rK cfg_ok 2 [([], [], [(2, .val (jI (ba1.length : Int)))]), ([], [(2, .idx (Int.toNat v30) (NettingFlow.cells x38)), (6, .idx (Int.toNat v30) (NettingFlow.cells x40)), (8, .bool (NettingFlow.eqb x38 x40))], []), j3] [some true, some true] [] [] [4] .ret ((f17n2E ba1 ba2 .ret).2) (ap (len_cv (xs := ba1) (c := NettingFlow.cells)) (ap h32 (ap (at_some h39).1 (ap (at_map NettingFlow.cells (at_some h39).2) (ap (at_some h41).1 (ap (at_map NettingFlow.cells (at_some h41).2) (ap (NettingFlow.eqb_ok x38 x40) (ap (not_f h42) an)))))))) (LoopQ.out rfl rfl)
    · obtain rfl := some_inj h
      exact rK cfg_ok 1 [([], [], [(2, .val (jI (ba1.length : Int)))])] [some false] [] [] [] (.exit 0) ((f17n2E ba1 ba2 .exit0).2) (ap (len_cv (xs := ba1) (c := NettingFlow.cells)) (ap h32 an)) (LoopQ.out rfl rfl)
noncomputable def f17n2L (ba1 : List NettingFlow) (ba2 : List NettingFlow) : List NettingFlow → Int → Option f17n2O
  | [], v30 =>
    some .exit0
  | x0 :: rest, v30 =>
    (at? ba2 v30).bind fun x40 =>
    bif (NettingFlow.eqb x0 x40) then
      (f17n2L ba1 ba2 rest (v30 + 1))
    else
      some .ret
theorem f17n2L_eq (ba1 : List NettingFlow) (ba2 : List NettingFlow) : ∀ (rest : List NettingFlow) (f k : Nat), ba1.drop k = rest → ba1.length ≤ maxLen → rest.length < f → f17n2 f ba1 ba2 (k : Int) = f17n2L ba1 ba2 rest (k : Int)
  | _, 0, _, _, _, hf => absurd hf (Nat.not_lt_zero _)
  | [], f + 1, k, hd, hm, hf => by
    have hk : ¬ ((k : Int) < (ba1.length : Int)) := by have := drop_nil hd; omega
    rw [f17n2, f17n2L]
    simp only [decide_eq_false hk, cond_false]
  | x0 :: rest, f + 1, k, hd, hm, hf => by
    obtain ⟨hx, hlt, hd'⟩ := drop_cons hd
    have hk : (k : Int) < (ba1.length : Int) := by omega
    have hw : wr64 ((k : Int) + 1) = (k : Int) + 1 := wr64_of (by omega) (by unfold maxLen at hm; omega)
    have ih : f17n2 f ba1 ba2 ((k : Int) + 1) = f17n2L ba1 ba2 rest ((k : Int) + 1) := f17n2L_eq ba1 ba2 rest f (k + 1) hd' hm (by simpa using hf)
    rw [f17n2, f17n2L]
    simp only [decide_eq_true hk, cond_true, at_nat, hx, Option.bind_some, hw, ih]
theorem f17n2_run (ba1 : List NettingFlow) (ba2 : List NettingFlow) (hm : ba1.length ≤ maxLen) : f17n2 FUEL ba1 ba2 0 = f17n2L ba1 ba2 ba1 0 := f17n2L_eq ba1 ba2 ba1 FUEL 0 List.drop_zero hm (lt_FUEL hm)
inductive f17n1O where
  | norm
  | ret
def f17n1E (ba1 : List NettingFlow) (ba2 : List NettingFlow) : f17n1O → Ex × Tr × Hp
  | .norm => (.norm, mkS [], [])
  | .ret => (.ret, mkS [(4, (jB false))], [])
def f17n1S (ba1 : List NettingFlow) (ba2 : List NettingFlow) : Tr × Hp := (mkS [(0, (jL 6 NettingFlow.cells ba1)), (1, (jL 6 NettingFlow.cells ba2))], [])
noncomputable def f17n1 (ba1 : List NettingFlow) (ba2 : List NettingFlow) : Option f17n1O :=
  (f17n2 FUEL ba1 ba2 0).bind fun o43 => match o43 with
  | .exit0 => some .norm
  | .ret => some .ret
theorem f17n1_ok (ba1 : List NettingFlow) (ba2 : List NettingFlow) {o : f17n1O} (h : (f17n1 ba1 ba2) = some o) : T Try.prog Try.f17.ntmps 0 (cL (dropC 2 c17)) (f17n1S ba1 ba2) (fun r => r = f17n1E ba1 ba2 o) := by
  unfold f17n1 at h
  refine rN cfg_ok 1 [j3] [] [] [] [0, 1, 5] (f17n2S ba1 ba2 0) an ?_
  obtain ⟨o43, h44, h⟩ := bind_cases h
  cases o43 with
  | exit0 =>
    obtain rfl := some_inj h
    exact T.last' (T.bl (i := 0) (by kernel_rfl) (by kernel_rfl) (f17n2_ok FUEL ba1 ba2 0 h44)) (tds := []) (m := []) (keep := []) (st2 := (f17n1E ba1 ba2 .norm).2) (by kernel_rfl) an rfl
  | ret =>
    obtain rfl := some_inj h
    exact T.last' (T.bl (i := 0) (by kernel_rfl) (by kernel_rfl) (f17n2_ok FUEL ba1 ba2 0 h44)) (tds := []) (m := []) (keep := [4]) (st2 := (f17n1E ba1 ba2 .ret).2) (by kernel_rfl) an rfl
inductive f17n0O where
  | ret (v47 : Bool)
def f17n0E (a1 : List NettingFlow) (a2 : List NettingFlow) : f17n0O → Ex × Tr × Hp
  | .ret v47 => (.ret, mkS [(4, (jB v47))], [])
def f17n0S (a1 : List NettingFlow) (a2 : List NettingFlow) : Tr × Hp := (initS [(jL 6 NettingFlow.cells a1), (jL 6 NettingFlow.cells a2)] 0 .leaf, [])
noncomputable def f17n0 (a1 : List NettingFlow) (a2 : List NettingFlow) : Option f17n0O :=
  bif (decide ((a1.length : Int) = (a2.length : Int))) then
    (f17n1 a1 a2).bind fun o45 => match o45 with
    | .norm => some (.ret true)
    | .ret => some (.ret false)
  else
    some (.ret false)
theorem f17n0_ok (a1 : List NettingFlow) (a2 : List NettingFlow) {o : f17n0O} (h : (f17n0 a1 a2) = some o) : T Try.prog Try.f17.ntmps 0 c17 (f17n0S a1 a2) (fun r => r = f17n0E a1 a2 o) := by
  unfold f17n0 at h
  rcases cond_cases h with ⟨h4, h⟩ | ⟨h4, h⟩
  · refine rN cfg_ok 2 [j3, ([], [], [(1, .val (jI (a1.length : Int))), (3, .val (jI (a2.length : Int)))])] [some false] [] [] [0, 1] (f17n1S a1 a2) (ap (len_cv (xs := a1) (c := NettingFlow.cells)) (ap (len_cv (xs := a2) (c := NettingFlow.cells)) (ap (not_t h4) an))) ?_
    obtain ⟨o45, h46, h⟩ := bind_cases h
    cases o45 with
    | norm =>
      refine T.oneN (by kernel_rfl) (f17n1_ok a1 a2 h46) (st2 := (f17n1E a1 a2 .norm).2) rfl ?_
      obtain rfl := some_inj h
      exact rE cfg_ok [j3] [] [] [] [4] (.ret, (f17n0E a1 a2 (.ret true)).2) an rfl
    | ret =>
      obtain rfl := some_inj h
      exact T.oneX' (by kernel_rfl) (f17n1_ok a1 a2 h46) (tds := []) (m := []) (keep := [4]) (st2 := (f17n0E a1 a2 (.ret false)).2) (by kernel_rfl) an rfl rfl
  · obtain rfl := some_inj h
    exact rK cfg_ok 2 [j3, ([], [], [(1, .val (jI (a1.length : Int))), (3, .val (jI (a2.length : Int)))]), j3] [some true] [] [] [4] .ret ((f17n0E a1 a2 (.ret false)).2) (ap (len_cv (xs := a1) (c := NettingFlow.cells)) (ap (len_cv (xs := a2) (c := NettingFlow.cells)) (ap (not_f h4) an))) rfl
noncomputable def f17 (a1 : List NettingFlow) (a2 : List NettingFlow) : Option Bool := (f17n0 a1 a2).bind fun o => match o with
  | .ret v47 => some v47
theorem f17_ok (a1 : List NettingFlow) (a2 : List NettingFlow) {r : Bool} (h : (f17 a1 a2) = some r) : CallS Try.prog false 17 [(jL 6 NettingFlow.cells a1), (jL 6 NettingFlow.cells a2)] [] (jB r) [] := by
  unfold f17 at h
  obtain ⟨o, ho, h⟩ := bind_cases h
  cases o with
  | ret v47 =>
    obtain rfl := some_inj h
    exact CallS.plain cfg_ok (f := Try.f17) (c := c17) (by kernel_rfl) (by kernel_rfl) (by kernel_rfl) (by kernel_rfl) ((f17n0_ok a1 a2 ho).mono fun r e => by subst e; exact ⟨.inl rfl, (jB v47), (jB v47), by kernel_rfl, by kernel_rfl, ((Wk.refl _) : Wk (jB v47) (jB v47))⟩)
end Go.Proofs.Ytkcafackfihmiaa
namespace Go.Proofs.Ytkcafackfihmiaa
set_option linter.unusedVariables false
set_option linter.unusedSimpArgs false
set_option maxRecDepth 100000
open Go.RowKit
noncomputable def c25 : Code := Try.f25.body.getD .skip
inductive f25r1n1O where
  | exit0 (v24 : List NettingFlow)
def f25r1n1E : f25r1n1O → Ex × Tr × Hp
  | .exit0 v24 => ((.exit 0), mkS [], [jR 6 NettingFlow.cells v24])
def f25r1n1S (v16 : Int) (v17 : List NettingFlow) : Tr × Hp := (mkS [(0, (.own 0)), (2, (jI v16))], [jR 6 NettingFlow.cells v17])
noncomputable def f25r1n1 : Nat → Int → List NettingFlow → Option f25r1n1O
  | 0, _, _ => none
  | f + 1, v16, v17 =>
    bif (decide (v16 < (v17.length : Int))) then
      (at? v17 v16).bind fun x22 =>
      (f25r1n1 f (wr64 (v16 + 1)) (v17.set (Int.toNat v16) (NettingFlow.mk x22.Date x22.Set x22.Ccy x22.From x22.To (-77))))
    else
      some (.exit0 v17)
theorem f25r1n1_ok : ∀ (f : Nat) (v16 : Int) (v17 : List NettingFlow) {o : f25r1n1O}, (f25r1n1 f v16 v17) = some o → TL Try.prog Try.f25.ntmps 1 f (cL (cL (dropC 1 c25))) (f25r1n1S v16 v17) (fun r => r = f25r1n1E o)
  | 0, _, _, o, h => by rw [f25r1n1] at h; cases h
  | f + 1, v16, v17, o, h => by
    rw [f25r1n1] at h
    refine TL.body (K := fun s => ∃ v16 : Int, ∃ v17 : List NettingFlow, s = (f25r1n1S v16 v17) ∧ (f25r1n1 f v16 v17) = some o) ?_ (by rintro _ ⟨v16, v17, rfl, hk⟩; exact f25r1n1_ok f _ _ hk)
    rcases cond_cases h with ⟨h19, h⟩ | ⟨h19, h⟩
    · obtain ⟨x22, h23, h⟩ := bind_cases h
      exact rE cfg_ok [([], [], [(2, .val (jI (v17.length : Int)))]), ([], [(2, .at_ (Int.toNat v16)), (4, .idx 0 (NettingFlow.cells x22))], [(4, .row 0 ((v17.set (Int.toNat v16) (NettingFlow.mk x22.Date x22.Set x22.Ccy x22.From x22.To (-77))).map NettingFlow.cells))]), j3] [some true] [] [] [0, 2] (.norm, (f25r1n1S (wr64 (v16 + 1)) (v17.set (Int.toNat v16) (NettingFlow.mk x22.Date x22.Set x22.Ccy x22.From x22.To (-77))))) (ap (len_cv (xs := v17) (c := NettingFlow.cells)) (ap h19 (ap (at_some h23).1 (ap (lt_map NettingFlow.cells (at_some h23).2) (ap (at_map NettingFlow.cells (at_some h23).2) (ap (set_cv (xs := v17) (c := NettingFlow.cells) (k := (Int.toNat v16)) (x := (NettingFlow.mk x22.Date x22.Set x22.Ccy x22.From x22.To (-77)))) an)))))) (LoopQ.norm ⟨(wr64 (v16 + 1)), (v17.set (Int.toNat v16) (NettingFlow.mk x22.Date x22.Set x22.Ccy x22.From x22.To (-77))), rfl, h⟩)
    · obtain rfl := some_inj h
      exact rK cfg_ok 1 [([], [], [(2, .val (jI (v17.length : Int)))])] [some false] [] [] [] (.exit 0) ((f25r1n1E (.exit0 v17)).2) (ap (len_cv (xs := v17) (c := NettingFlow.cells)) (ap h19 an)) (LoopQ.out rfl rfl)
inductive f25r1n0O where
  | norm (v28 : List NettingFlow)
def f25r1n0E (a1 : List NettingFlow) : f25r1n0O → Ex × Tr × Hp
  | .norm v28 => (.norm, mkS [], [jR 6 NettingFlow.cells v28])
def f25r1n0S (a1 : List NettingFlow) : Tr × Hp := (initS [(.own 0)] 0 .leaf, [jR 6 NettingFlow.cells a1])
noncomputable def f25r1n0 (a1 : List NettingFlow) : Option f25r1n0O :=
  (f25r1n1 FUEL 0 a1).bind fun o25 => match o25 with
  | .exit0 v27 => some (.norm v27)
theorem f25r1n0_ok (a1 : List NettingFlow) {o : f25r1n0O} (h : (f25r1n0 a1) = some o) : T Try.prog Try.f25.ntmps 1 c25 (f25r1n0S a1) (fun r => r = f25r1n0E a1 o) := by
  unfold f25r1n0 at h
  refine rN cfg_ok 1 [j3] [] [] [] [0, 2] (f25r1n1S 0 a1) an ?_
  obtain ⟨o25, h26, h⟩ := bind_cases h
  cases o25 with
  | exit0 v27 =>
    obtain rfl := some_inj h
    exact T.last' (T.bl (i := 0) (by kernel_rfl) (by kernel_rfl) (f25r1n1_ok FUEL 0 a1 h26)) (tds := []) (m := []) (keep := []) (st2 := (f25r1n0E a1 (.norm v27)).2) (by kernel_rfl) an rfl
noncomputable def f25r1 (a1 : List NettingFlow) : Option (List NettingFlow) := (f25r1n0 a1).bind fun o => match o with
  | .norm v28 => some v28
theorem f25r1_ok (a1 : List NettingFlow) {r : List NettingFlow} (h : (f25r1 a1) = some r) : CallS Try.prog true 25 [(.own 0)] [jR 6 NettingFlow.cells a1] (.tup []) [jR 6 NettingFlow.cells r] := by
  unfold f25r1 at h
  obtain ⟨o, ho, h⟩ := bind_cases h
  cases o with
  | norm v28 =>
    obtain rfl := some_inj h
    exact CallS.shared cfg_ok (f := Try.f25) (c := c25) (by kernel_rfl) (by kernel_rfl) (by kernel_rfl) ((f25r1n0_ok a1 ho).mono fun r e => by subst e; exact ⟨.inr rfl, by kernel_rfl, by kernel_rfl⟩)

noncomputable def c9 : Code := Try.f9.body.getD .skip
inductive f9n1O where
  | norm (v98 : Bool)
def f9n1E (ba1 : List NettingFlow) (bi2 : Bool) (bl3 : Int × (List NettingFlow)) (bm4 : (List NettingFlow) × Int) (bn5 : Int × Int) (bn6 : Int × Int) (bn7 : Int × Int) (bn8 : Int × Int) (ba9 : List NettingFlow) : f9n1O → Ex × Tr × Hp
  | .norm v98 => (.norm, mkS [(0, (jL 6 NettingFlow.cells ba1)), (9, (jB bi2)), (10, (.own 0)), (11, (.own 1)), (23, (jB v98))], [jR 6 NettingFlow.cells ba9, jR 6 NettingFlow.cells bl3.2])
def f9n1S (ba1 : List NettingFlow) (bi2 : Bool) (bl3 : Int × (List NettingFlow)) (bm4 : (List NettingFlow) × Int) (bn5 : Int × Int) (bn6 : Int × Int) (bn7 : Int × Int) (bn8 : Int × Int) (ba9 : List NettingFlow) : Tr × Hp := (mkS [(0, (jL 6 NettingFlow.cells ba1)), (9, (jB bi2)), (10, (.own 0)), (11, (.own 1)), (12, (jI bl3.1)), (13, (jL 6 NettingFlow.cells bm4.1)), (14, (jI bm4.2)), (15, (jI bn5.1)), (16, (jI bn5.2)), (17, (jI bn6.1)), (18, (jI bn6.2)), (19, (jI bn7.1)), (20, (jI bn7.2)), (21, (jI bn8.1)), (22, (jI bn8.2))], [jR 6 NettingFlow.cells ba9, jR 6 NettingFlow.cells bl3.2])
noncomputable def f9n1 (ba1 : List NettingFlow) (bi2 : Bool) (bl3 : Int × (List NettingFlow)) (bm4 : (List NettingFlow) × Int) (bn5 : Int × Int) (bn6 : Int × Int) (bn7 : Int × Int) (bn8 : Int × Int) (ba9 : List NettingFlow) : Option f9n1O :=
  (f17 bl3.2 bm4.1).bind fun x91 =>
  bif x91 then
    bif (decide (bl3.1 = bm4.2)) then
      bif (decide (bn5.1 = bn6.1)) then
        bif (decide (bn5.2 = bn6.2)) then
          bif (decide (bn7.1 = bn8.1)) then
            some (.norm (decide (bn7.2 = bn8.2)))
          else
            some (.norm false)
        else
          some (.norm false)
      else
        some (.norm false)
    else
      some (.norm false)
  else
    some (.norm false)
theorem f9n1_ok (ba1 : List NettingFlow) (bi2 : Bool) (bl3 : Int × (List NettingFlow)) (bm4 : (List NettingFlow) × Int) (bn5 : Int × Int) (bn6 : Int × Int) (bn7 : Int × Int) (bn8 : Int × Int) (ba9 : List NettingFlow) {o : f9n1O} (h : (f9n1 ba1 bi2 bl3 bm4 bn5 bn6 bn7 bn8 ba9) = some o) : T Try.prog Try.f9.ntmps 0 (cL (dropC 5 (dropC 5 c9))) (f9n1S ba1 bi2 bl3 bm4 bn5 bn6 bn7 bn8 ba9) (fun r => r = f9n1E ba1 bi2 bl3 bm4 bn5 bn6 bn7 bn8 ba9 o) := by
  unfold f9n1 at h
  obtain ⟨x91, h92, h⟩ := bind_cases h
  rcases cond_cases h with ⟨h93, h⟩ | ⟨h93, h⟩
  · rcases cond_cases h with ⟨h94, h⟩ | ⟨h94, h⟩
    · rcases cond_cases h with ⟨h95, h⟩ | ⟨h95, h⟩
      · rcases cond_cases h with ⟨h96, h⟩ | ⟨h96, h⟩
        · rcases cond_cases h with ⟨h97, h⟩ | ⟨h97, h⟩
          · obtain rfl := some_inj h
            exact rE cfg_ok [(jT [4, 5, 6, 9, 10, 11, 14, 15, 16, 19, 20, 21, 24, 25, 26], [jH 2 (jB x91), (7, .bool true), (12, .bool true), (17, .bool true), (22, .bool true), (27, .bool true)], [])] [] [] [0, 1] [0, 9, 10, 11, 23] (.norm, (f9n1E ba1 bi2 bl3 bm4 bn5 bn6 bn7 bn8 ba9 (.norm (decide (bn7.2 = bn8.2)))).2) (ap4 h93 (ap4 h94 (ap4 h95 (ap4 h96 (ap4 h97 (ap (f17_ok bl3.2 bm4.1 h92) an)))))) rfl
          · obtain rfl := some_inj h
            exact rE cfg_ok [(jF [24, 25, 26] ++ jT [4, 5, 6, 9, 10, 11, 14, 15, 16, 19, 20, 21], [jH 2 (jB x91), (7, .bool true), (12, .bool true), (17, .bool true), (22, .bool true), (27, .bool false)], [])] [] [] [0, 1] [0, 9, 10, 11, 23] (.norm, (f9n1E ba1 bi2 bl3 bm4 bn5 bn6 bn7 bn8 ba9 (.norm false)).2) (ap4 h93 (ap4 h94 (ap4 h95 (ap4 h96 (ap4 h97 (ap (f17_ok bl3.2 bm4.1 h92) an)))))) rfl
        · obtain rfl := some_inj h
          exact rE cfg_ok [(jF [19, 20, 21] ++ jT [4, 5, 6, 9, 10, 11, 14, 15, 16], [jH 2 (jB x91), (7, .bool true), (12, .bool true), (17, .bool true), (22, .bool false)], [])] [] [] [0, 1] [0, 9, 10, 11, 23] (.norm, (f9n1E ba1 bi2 bl3 bm4 bn5 bn6 bn7 bn8 ba9 (.norm false)).2) (ap4 h93 (ap4 h94 (ap4 h95 (ap4 h96 (ap (f17_ok bl3.2 bm4.1 h92) an))))) rfl
      · obtain rfl := some_inj h
        exact rE cfg_ok [(jF [14, 15, 16] ++ jT [4, 5, 6, 9, 10, 11], [jH 2 (jB x91), (7, .bool true), (12, .bool true), (17, .bool false)], [])] [] [] [0, 1] [0, 9, 10, 11, 23] (.norm, (f9n1E ba1 bi2 bl3 bm4 bn5 bn6 bn7 bn8 ba9 (.norm false)).2) (ap4 h93 (ap4 h94 (ap4 h95 (ap (f17_ok bl3.2 bm4.1 h92) an)))) rfl
    · obtain rfl := some_inj h
      exact rE cfg_ok [(jF [9, 10, 11] ++ jT [4, 5, 6], [jH 2 (jB x91), (7, .bool true), (12, .bool false)], [])] [] [] [0, 1] [0, 9, 10, 11, 23] (.norm, (f9n1E ba1 bi2 bl3 bm4 bn5 bn6 bn7 bn8 ba9 (.norm false)).2) (ap4 h93 (ap4 h94 (ap (f17_ok bl3.2 bm4.1 h92) an))) rfl
  · obtain rfl := some_inj h
    exact rE cfg_ok [(jF [4, 5, 6], [jH 2 (jB x91), (7, .bool false)], [])] [] [] [0, 1] [0, 9, 10, 11, 23] (.norm, (f9n1E ba1 bi2 bl3 bm4 bn5 bn6 bn7 bn8 ba9 (.norm false)).2) (ap4 h93 (ap (f17_ok bl3.2 bm4.1 h92) an)) rfl
inductive f9n0O where
  | ret (v112 : Bool)
def f9n0E (a1 : List NettingFlow) (a2 : ByteArray) (a3 : ByteArray) (a4 : Int) : f9n0O → Ex × Tr × Hp
  | .ret v112 => (.ret, mkS [(8, (jB v112))], [])
def f9n0S (a1 : List NettingFlow) (a2 : ByteArray) (a3 : ByteArray) (a4 : Int) : Tr × Hp := (initS [(jL 6 NettingFlow.cells a1), (jS a2), (jS a3), (jI a4)] 0 .leaf, [])
noncomputable def f9n0 (a1 : List NettingFlow) (a2 : ByteArray) (a3 : ByteArray) (a4 : Int) : Option f9n0O :=
  f11.bind fun x7 =>
  (f12 [] a1).bind fun x13 =>
  bif x13 then
    some (.ret x7)
  else
    bif x7 then
      (f14r1 a1).bind fun x19 =>
      (f16r1 a2 x19).bind fun x23 =>
      (f28 a2 a1).bind fun x59 =>
      (f27 x19 a2 a4 a3).bind fun x63 =>
      (f29 a1 a2 a4 a3).bind fun x67 =>
      (f26 x19 a3).bind fun x71 =>
      (f30 a1 a3).bind fun x75 =>
      (f9n1 a1 x7 x23 x59 x63 x67 x71 x75 x19).bind fun o99 => match o99 with
      | .norm v101 => (f25r1 x23.2).bind fun x104 =>
        bif v101 then
          (f17 x19 a1).bind fun x110 =>
          some (.ret x110)
        else
          some (.ret false)
    else
      some (.ret x7)
theorem f9n0_ok (a1 : List NettingFlow) (a2 : ByteArray) (a3 : ByteArray) (a4 : Int) {o : f9n0O} (h : (f9n0 a1 a2 a3 a4) = some o) : T Try.prog Try.f9.ntmps 0 c9 (f9n0S a1 a2 a3 a4) (fun r => r = f9n0E a1 a2 a3 a4 o) := by
  unfold f9n0 at h
  obtain ⟨x7, h8, h⟩ := bind_cases h
  obtain ⟨x13, h14, h⟩ := bind_cases h
  rcases cond_cases h with ⟨h15, h⟩ | ⟨h15, h⟩
  · obtain rfl := some_inj h
    exact rK cfg_ok 3 [j3, ([], [jH 0 (jB x7)], []), ([(3, true), (4, true)], [jH 1 (jB x13), (5, .bool true)], []), j3] [none] [] [] [8] .ret ((f9n0E a1 a2 a3 a4 (.ret x7)).2) (ap (f11_ok h8) (ap3 h15 (ap (CallS.wk (args' := [(.pl (.sl .nil 0 [])), (jL 6 NettingFlow.cells a1)]) (f12_ok [] a1 h14) (wlc (Wk.pl (WkP.nil (f := .nil) (sz := 0) (sz' := 3))) (wlc (Wk.refl _) wln)) (Wk.refl _) rfl) an))) rfl
  · rcases cond_cases h with ⟨h16, h⟩ | ⟨h16, h⟩
    · obtain ⟨x19, h20, h⟩ := bind_cases h
      obtain ⟨x23, h24, h⟩ := bind_cases h
      refine rN cfg_ok 5 [j3, ([], [jH 0 (jB x7)], []), ([(3, false), (4, false)], [jH 1 (jB x13), (5, .bool false)], []), ([], [(1, .call (.own 0) [jR 6 NettingFlow.cells x19])], []), ([], [(2, .call (.tup [(.own 1), (jI x23.1)]) [jR 6 NettingFlow.cells x19, jR 6 NettingFlow.cells x23.2])], [])] [some false] [] [0, 1] [0, 1, 2, 3, 9, 10, 11, 12] (mkS [(0, (jL 6 NettingFlow.cells a1)), (1, (jS a2)), (2, (jS a3)), (3, (jI a4)), (9, (jB x7)), (10, (.own 0)), (11, (.own 1)), (12, (jI x23.1))], [jR 6 NettingFlow.cells x19, jR 6 NettingFlow.cells x23.2]) (ap (f11_ok h8) (ap3 h15 (ap (CallS.wk (args' := [(.pl (.sl .nil 0 [])), (jL 6 NettingFlow.cells a1)]) (f12_ok [] a1 h14) (wlc (Wk.pl (WkP.nil (f := .nil) (sz := 0) (sz' := 3))) (wlc (Wk.refl _) wln)) (Wk.refl _) rfl) (ap (not_t h16) (ap (f14r1_ok a1 h20) (ap (f16r1_ok a2 x19 h24) an)))))) ?_
      obtain ⟨x59, h60, h⟩ := bind_cases h
      obtain ⟨x63, h64, h⟩ := bind_cases h
      obtain ⟨x67, h68, h⟩ := bind_cases h
      obtain ⟨x71, h72, h⟩ := bind_cases h
      obtain ⟨x75, h76, h⟩ := bind_cases h
      refine rN cfg_ok 5 [([], [jH 2 (.tup [(jL 6 NettingFlow.cells x59.1), (jI x59.2)])], []), ([], [jH 4 (.tup [(jI x63.1), (jI x63.2)])], []), ([], [jH 4 (.tup [(jI x67.1), (jI x67.2)])], []), ([], [jH 2 (.tup [(jI x71.1), (jI x71.2)])], []), ([], [jH 2 (.tup [(jI x75.1), (jI x75.2)])], [])] [] [] [0, 1] [0, 9, 10, 11, 12, 13, 14, 15, 16, 17, 18, 19, 20, 21, 22] (f9n1S a1 x7 x23 x59 x63 x67 x71 x75 x19) (ap (f28_ok a2 a1 h60) (ap (f27_ok x19 a2 a4 a3 h64) (ap (f29_ok a1 a2 a4 a3 h68) (ap (f26_ok x19 a3 h72) (ap (f30_ok a1 a3 h76) an))))) ?_
      obtain ⟨o99, h100, h⟩ := bind_cases h
      cases o99 with
      | norm v101 =>
        refine T.oneN (by kernel_rfl) (f9n1_ok a1 x7 x23 x59 x63 x67 x71 x75 x19 h100) (st2 := (f9n1E a1 x7 x23 x59 x63 x67 x71 x75 x19 (.norm v101)).2) rfl ?_
        obtain ⟨x104, h105, h⟩ := bind_cases h
        rcases cond_cases h with ⟨h109, h⟩ | ⟨h109, h⟩
        · obtain ⟨x110, h111, h⟩ := bind_cases h
          obtain rfl := some_inj h
          exact rE cfg_ok [([], [(1, .call (.tup []) [none, jR 6 NettingFlow.cells x104])], []), (jT [2, 5, 6, 7], [(3, .bool true), jH 7 (jB x110), (8, .bool true)], [])] [] [] [] [8] (.ret, (f9n0E a1 a2 a3 a4 (.ret x110)).2) (ap (CallS.rn 2 [1] (f25r1_ok x23.2 h105)) (ap2 h16 (ap4 h109 (ap (f17_ok x19 a1 h111) an)))) rfl
        · obtain rfl := some_inj h
          exact rE cfg_ok [([], [(1, .call (.tup []) [none, jR 6 NettingFlow.cells x104])], []), (jF [5, 6, 7] ++ jT [2], [(3, .bool true), (8, .bool false)], [])] [] [] [] [8] (.ret, (f9n0E a1 a2 a3 a4 (.ret false)).2) (ap (CallS.rn 2 [1] (f25r1_ok x23.2 h105)) (ap2 h16 (ap4 h109 an))) rfl
    · obtain rfl := some_inj h
      exact rK cfg_ok 3 [j3, ([], [jH 0 (jB x7)], []), ([(3, false), (4, false)], [jH 1 (jB x13), (5, .bool false)], []), j3] [some true] [] [] [8] .ret ((f9n0E a1 a2 a3 a4 (.ret x7)).2) (ap (f11_ok h8) (ap3 h15 (ap (CallS.wk (args' := [(.pl (.sl .nil 0 [])), (jL 6 NettingFlow.cells a1)]) (f12_ok [] a1 h14) (wlc (Wk.pl (WkP.nil (f := .nil) (sz := 0) (sz' := 3))) (wlc (Wk.refl _) wln)) (Wk.refl _) rfl) (ap (not_f h16) an)))) rfl
noncomputable def f9 (a1 : List NettingFlow) (a2 : ByteArray) (a3 : ByteArray) (a4 : Int) : Option Bool := (f9n0 a1 a2 a3 a4).bind fun o => match o with
  | .ret v112 => some v112
theorem f9_ok (a1 : List NettingFlow) (a2 : ByteArray) (a3 : ByteArray) (a4 : Int) {r : Bool} (h : (f9 a1 a2 a3 a4) = some r) : CallS Try.prog false 9 [(jL 6 NettingFlow.cells a1), (jS a2), (jS a3), (jI a4)] [] (jB r) [] := by
  unfold f9 at h
  obtain ⟨o, ho, h⟩ := bind_cases h
  cases o with
  | ret v112 =>
    obtain rfl := some_inj h
    exact CallS.plain cfg_ok (f := Try.f9) (c := c9) (by kernel_rfl) (by kernel_rfl) (by kernel_rfl) (by kernel_rfl) ((f9n0_ok a1 a2 a3 a4 ho).mono fun r e => by subst e; exact ⟨.inl rfl, (jB v112), (jB v112), by kernel_rfl, by kernel_rfl, ((Wk.refl _) : Wk (jB v112) (jB v112))⟩)











end Go.Proofs.Ytkcafackfihmiaa
namespace Go.Proofs.Ytkcafackfihmiaa
set_option linter.unusedVariables false
set_option linter.unusedSimpArgs false
set_option maxRecDepth 100000
open Go.RowKit










end Go.Proofs.Ytkcafackfihmiaa
namespace Go.Proofs.Ytkcafackfihmiaa
set_option linter.unusedVariables false
set_option linter.unusedSimpArgs false
set_option maxRecDepth 100000
open Go.RowKit





end Go.Proofs.Ytkcafackfihmiaa
namespace Go.Proofs.Ytkcafackfihmiaa
set_option linter.unusedVariables false
set_option linter.unusedSimpArgs false
open Go.RowKit



end Go.Proofs.Ytkcafackfihmiaa
namespace Go.Proofs.Ytkcafackfihmiaa
set_option linter.unusedVariables false
set_option linter.unusedSimpArgs false
open Go.RowKit



end Go.Proofs.Ytkcafackfihmiaa
namespace Go.Proofs.Ytkcafackfihmiaa
set_option linter.unusedVariables false
set_option linter.unusedSimpArgs false
open Go.RowKit
end Go.Proofs.Ytkcafackfihmiaa
namespace Go.Proofs.Ytkcafackfihmiaa
set_option linter.unusedVariables false
set_option linter.unusedSimpArgs false
open Go.RowKit
end Go.Proofs.Ytkcafackfihmiaa
namespace Go.Proofs.Ytkcafackfihmiaa
set_option linter.unusedVariables false
set_option linter.unusedSimpArgs false
open Go.RowKit
abbrev NF := NettingFlow
abbrev NS := NettingSet

theorem f59_eq (c : Int) : f59 c = some (ltrI c) := by
  unfold f59 f59n0 ltrI
  cases decide (97 ≤ c) <;> cases decide (c ≤ 122) <;> cases decide (65 ≤ c) <;> cases decide (c ≤ 90) <;> rfl
theorem f36n2_eq {s : ByteArray} {k : Int} {b : UInt8} (h : at? s.data.toList k = some b) : f36n2 s k = some (bif chB b then .norm else .ret) := by
  have h3 : f36n3 s b k = some (.norm (!(chB b))) := by
    unfold f36n3 chB othI
    rw [f59_eq, ltNot, ltNot]
    simp only [Option.bind_some]
    cases ltrI b.toNat <;> cases decide ((48 : Int) ≤ (b.toNat : Int)) <;> cases decide ((b.toNat : Int) ≤ 57) <;> cases decide ((b.toNat : Int) = 95) <;> cases decide ((b.toNat : Int) = 45) <;> rfl
  unfold f36n2
  rw [h]
  simp only [Option.bind_some, h3]
  cases chB b <;> rfl
theorem f36n4_at (s : ByteArray) (hs : s.data.toList.length ≤ 1000) : ∀ (r : List UInt8) (f k : Nat), s.data.toList.drop k = r → r.length < f → f36n4 f s (k : Int) = some (bif r.all chB then .exit0 else .ret)
  | _, 0, _, _, h => absurd h (Nat.not_lt_zero _)
  | [], f + 1, k, hd, _ => by
    have := drop_nil hd
    rw [f36n4, sizeList, decide_eq_false (by omega), cond_false]; rfl
  | b :: r, f + 1, k, hd, hf => by
    obtain ⟨h1, h2, h3⟩ := dropAt hd
    rw [f36n4, sizeList, decide_eq_true (by omega), cond_true, f36n2_eq h1, List.all_cons]
    cases chB b with
    | false => rfl
    | true =>
      simp only [cond_true, Option.bind_some, Bool.true_and]
      rw [wrSucc (by omega)]
      exact f36n4_at s hs r f (k + 1) h3 (by simpa using hf)
theorem f36_eq (s : ByteArray) : f36 s = some (nmB s) := by
  unfold f36 f36n0 nmB
  rw [sizeList]
  by_cases hs : s.data.toList.length ≤ 40
  · have h1 : f36n1 s = some (bif s.data.toList.all chB then .norm else .ret) := by
      unfold f36n1
      have := f36n4_at s (by omega) s.data.toList FUEL 0 List.drop_zero (fuelSmall (by omega))
      rw [show ((0 : Nat) : Int) = 0 from rfl] at this
      rw [this]
      cases s.data.toList.all chB <;> rfl
    rw [h1]
    generalize s.data.toList = l at hs
    rw [decide_eq_false (by omega : ¬ (40 : Int) < (l.length : Int))]
    cases l with
    | nil => rfl
    | cons b r =>
      have h0 : at? (b :: r) 0 = some b := rfl
      rw [decide_eq_false (by simp; omega : ¬ (((b :: r).length : Nat) : Int) < 1), h0]
      simp only [cond_false, Option.bind_some, f59_eq, isNm, decide_eq_true hs, Bool.true_and, List.all_cons, chB]
      cases ltrI b.toNat <;> cases othI b.toNat <;> cases r.all chB <;> rfl
  · rw [decide_eq_false (by omega : ¬ ((s.data.toList.length : Nat) : Int) < 1), decide_eq_true (by omega : (40 : Int) < ((s.data.toList.length : Nat) : Int))]
    have : isNm s.data.toList = false := by
      generalize s.data.toList = l at hs
      cases l with
      | nil => rfl
      | cons b r => simp only [isNm, decide_eq_false hs, Bool.false_and]
    rw [this]; rfl

theorem f62_eq (a : Int) : f62 a = some false := by unfold f62 f62n0; simp
theorem f63_eq (a : ByteArray) : f63 a = some false := by unfold f63 f63n0; simp [seq_refl]
theorem f41_eq (a b : Int) : f41 a b = some (cmpI a b) := by
  unfold f41 f41n0 cmpI
  rw [f62_eq, f62_eq]
  simp only [Option.bind_some, cond_false]
  cases decide (a < b) <;> cases decide (b < a) <;> rfl
theorem f42_eq (a b : ByteArray) : f42 a b = some (cmpB a b) := by
  unfold f42 f42n0 cmpB
  rw [f63_eq, f63_eq]
  simp only [Option.bind_some, cond_false]
  cases slt a b <;> cases seq a b <;> rfl
theorem f40_eq (x y z : Int) : f40 [x, y, z] = some (cmpOr x (cmpOr y z)) := by
  unfold f40 f40n0 f40n1 cmpOr
  rw [f40n2_run [x, y, z] (maxSmall (by simp))]
  by_cases hx : x = 0
  · by_cases hy : y = 0
    · by_cases hz : z = 0
      · subst hx hy hz; rfl
      · subst hx hy; simp only [f40n2L, decide_eq_false hz, decide_true, cond_true, cond_false, Option.bind_some]
    · subst hx; simp only [f40n2L, decide_eq_false hy, decide_true, cond_true, cond_false, Option.bind_some]
  · simp only [f40n2L, decide_eq_false hx, cond_false, Option.bind_some]
theorem cmpOr_zero {a b : Int} : cmpOr a b = 0 ↔ a = 0 ∧ b = 0 := by
  unfold cmpOr
  by_cases h : a = 0
  · rw [decide_eq_true h]; simp [h]
  · rw [decide_eq_false h]; simp [h]

def namesB (x : NF) : Bool := (seq x.Set str_x || nmB x.Set) && (nmB x.Ccy && (nmB x.From && (nmB x.To && !(seq x.From x.To))))
def goodF (x : NF) : Bool := namesB x && (decide (0 ≤ x.Date) && (decide (x.Date ≤ 99999) && (decide (1 ≤ x.Amount) && decide (x.Amount ≤ 1125899906842624))))
theorem f57_eq (x : NF) : f57 x = some (goodF x) := by
  have h1 : f57n1 x = some (.norm (namesB x)) := by
    unfold f57n1 namesB
    rw [f36_eq, f36_eq, f36_eq, f36_eq]
    cases seq x.Set str_x <;> cases nmB x.Set <;> cases nmB x.Ccy <;> cases nmB x.From <;> cases nmB x.To <;> cases seq x.From x.To <;> rfl
  unfold f57 f57n0 goodF
  rw [h1]
  cases namesB x <;> cases decide (0 ≤ x.Date) <;> cases decide (x.Date ≤ 99999) <;> cases decide (1 ≤ x.Amount) <;> cases decide (x.Amount ≤ 1125899906842624) <;> rfl
theorem f70n2L_eq (bg : List NF) : ∀ (l : List NF) (v : Int), 0 ≤ v → ∃ o, f70_56n2L bg l v = some o ∧ (l.all goodF = true → o = .exit0) ∧ (l.all goodF = false → ∃ w, 0 ≤ w ∧ o = .ret w)
  | [], v, _ => ⟨.exit0, rfl, fun _ => rfl, fun h => by cases h⟩
  | x :: r, v, hv => by
    have e56 : f56 x = some (!(goodF x)) := by unfold f56 f56n0; rw [f57_eq]; rfl
    obtain ⟨o, h1, h2, h3⟩ := f70n2L_eq bg r (v + 1) (by omega)
    rw [f70_56n2L, e56, List.all_cons]
    simp only [Option.bind_some]
    cases goodF x with
    | true => exact ⟨o, h1, by simpa using h2, by simpa using h3⟩
    | false => exact ⟨.ret v, rfl, fun h => by simp at h, fun _ => ⟨v, hv, rfl⟩⟩
def listB (l : List NF) : Bool := decide (l.length ≤ 500) && l.all goodF
theorem f35_eq {l : List NF} (hm : l.length ≤ maxLen) : f35 l = some (bif listB l then 0 else 8) := by
  have hc : f58_56 l = some (!(l.all goodF)) := by
    obtain ⟨o, h1, h2, h3⟩ := f70n2L_eq l l 0 (by omega)
    unfold f58_56 f58_56n0 f70_56 f70_56n0 f70_56n1
    rw [f70_56n2_run l hm, h1]
    cases ha : l.all goodF with
    | true => rw [h2 ha]; rfl
    | false =>
      obtain ⟨w, hw, e⟩ := h3 ha
      rw [e]
      simp only [Option.bind_some]
      rw [decide_eq_true hw]; rfl
  unfold f35 f35n0 listB
  rw [ltNot, show decide ((l.length : Int) ≤ 500) = decide (l.length ≤ 500) by congr 1; apply propext; omega, hc]
  cases decide (l.length ≤ 500) <;> cases l.all goodF <;> rfl


theorem alive_t : f11 = some true := rfl
end Go.Proofs.Ytkcafackfihmiaa
namespace Go.Proofs.Ytkcafackfihmiaa
set_option linter.unusedVariables false
set_option linter.unusedSimpArgs false
open Go.RowKit
theorem key_iff (a b : Key_) : Key_.eqb a b = true ↔ a = b := ⟨Key_.eqb_eq, fun h => by subst h; simp [Key_.eqb, seq_refl]⟩
abbrev KM := List (Key_ × Int)
def gK (k : Key_) (m : KM) : Int := mGet Key_.eqb 0 k m

def sF (w : NF → Int) : List NF → Int
  | [] => 0
  | x :: r => w x + sF w r
theorem sF_ext {w v : NF → Int} : ∀ {l : List NF}, (∀ x ∈ l, w x = v x) → sF w l = sF v l
  | [], _ => rfl
  | x :: r, h => by rw [sF, sF, h x List.mem_cons_self, sF_ext fun y hy => h y (List.mem_cons_of_mem _ hy)]
theorem sF_bound (w : NF → Int) (b : Int) : ∀ l : List NF, (∀ x ∈ l, -b ≤ w x ∧ w x ≤ b) → -(b * l.length) ≤ sF w l ∧ sF w l ≤ b * l.length
  | [], _ => by simp [sF]
  | x :: r, h => by
    have h1 := h x List.mem_cons_self
    have h2 := sF_bound w b r fun y hy => h y (List.mem_cons_of_mem _ hy)
    simp only [sF, List.length_cons, Int.natCast_add, Int.mul_add]
    simp only [Int.natCast_one, Int.mul_one]
    omega
theorem goodF_amt {x : NF} (h : goodF x = true) : 1 ≤ x.Amount ∧ x.Amount ≤ 1125899906842624 := by
  unfold goodF at h
  simp only [Bool.and_eq_true, decide_eq_true_eq] at h
  exact h.2.2.2
theorem goodF_ne {x : NF} (h : goodF x = true) : x.From ≠ x.To := fun e => by
  unfold goodF namesB at h
  rw [e, seq_refl] at h
  simp at h



def mk1 (k : Key_) (a b : ByteArray) (n : Int) : NF := bif decide (n < 0) then ⟨k.date, k.set, k.ccy, b, a, -n⟩ else ⟨k.date, k.set, k.ccy, a, b, n⟩
theorem f37_eq {k : Key_} {a b : ByteArray} {n : Int} (h1 : -4611686018427387904 ≤ n) : f37 k a b n = some (mk1 k a b n, !decide (n = 0)) := by
  unfold f37 f37n0 mk1
  rw [show wr64 (0 - n) = wr64 (-n) by rw [Int.zero_sub]]
  by_cases h : n < 0
  · rw [decide_eq_true h, cond_true, cond_true, wrIn (by omega) (by omega)]; rfl
  · rw [decide_eq_false h]; rfl
def okAmt (n : Int) : Bool := decide (-1125899906842624 ≤ n) && decide (n ≤ 1125899906842624)
theorem mx_eq {n : Int} (h1 : -4611686018427387904 ≤ n) (h2 : n ≤ 4611686018427387904) : decide ((1125899906842624 : Int) < mxI n (wr64 (0 - n))) = !okAmt n := by
  rw [wrIn (n := 0 - n) (by omega) (by omega)]
  unfold okAmt
  have e : mxI n (0 - n) = if 0 ≤ n then n else -n := by
    unfold mxI
    by_cases h : 0 ≤ n
    · rw [if_pos h, decide_eq_false (by omega)]; rfl
    · rw [if_neg h, decide_eq_true (by omega), cond_true]; omega
  rw [e, ← Bool.decide_and, ← decide_not]
  apply decide_eq_decide.2
  split <;> omega
end Go.Proofs.Ytkcafackfihmiaa
namespace Go.Proofs.Ytkcafackfihmiaa
set_option linter.unusedVariables false
set_option linter.unusedSimpArgs false
open Go.RowKit
theorem f14_eq {l : List NF} (hl : l.length ≤ 1000000) : f14r1 l = some l := by
  unfold f14r1 f14r1n0
  cases h : l with
  | nil => rfl
  | cons x r =>
    rw [h] at hl
    rw [req, fitSmall hl (by omega)]; rfl
theorem f12_eq (s : List NS) (l : List NF) : ∃ b, f12 s l = some b ∧ (b = false → s.length ≤ 80 ∧ l.length ≤ 520) := by
  unfold f12 f12n0
  by_cases h : (80 : Int) < (s.length : Int)
  · rw [decide_eq_true h]; exact ⟨true, rfl, fun h => by cases h⟩
  · rw [decide_eq_false h]
    refine ⟨_, rfl, fun k => ?_⟩
    have := of_decide_eq_false k
    omega

theorem eqb_refl (x : NF) : NettingFlow.eqb x x = true := by unfold NettingFlow.eqb; simp [seq_refl]
theorem f17n2L_same (a b : List NF) : ∀ (l pre : List NF), b = pre ++ l → f17n2L a b l ((pre.length : Nat) : Int) = some .exit0
  | [], pre, _ => rfl
  | x :: r, pre, h => by
    have ih := f17n2L_same a b r (pre ++ [x]) (by rw [h]; simp)
    rw [List.length_append, show (((pre.length + [x].length : Nat)) : Int) = (pre.length : Int) + 1 from by simp] at ih
    rw [f17n2L, at_len (a := pre) (x := x) (b := r) h rfl]
    simp only [Option.bind_some, eqb_refl, cond_true]
    exact ih
theorem f17_same {a b : List NF} (h : a = b) (hl : a.length ≤ 1000000) : f17 a b = some true := by
  subst h
  have : f17n1 a a = some .norm := by
    unfold f17n1
    rw [f17n2_run a a (maxSmall hl)]
    have := f17n2L_same a a a [] rfl
    have this' : f17n2L a a a 0 = _ := this
    rw [this']; rfl
  unfold f17 f17n0
  rw [this, decide_eq_true rfl]; rfl

def grs (c : ByteArray) (x : NF) : Int := bif seq x.Ccy c then x.Amount else 0
theorem f26n2L_eq' (c : ByteArray) (bg : List NF) : ∀ (l : List NF) (n v : Int), f26n2L c bg l (wr64 n) v = some (.exit0 (wr64 (n + sF (grs c) l)))
  | [], n, v => by simp [f26n2L, sF]
  | x :: r, n, v => by
    rw [f26n2L]
    cases h : seq x.Ccy c with
    | true => rw [cond_true, wrL, f26n2L_eq' c bg r]; simp only [sF, grs, h, cond_true, Int.add_assoc]
    | false => rw [cond_false, f26n2L_eq' c bg r]; simp only [sF, grs, h, cond_false, Int.zero_add]
def withN (n : Int) : Int × Int := bif okAmt n then (n, 0) else (0, 14)
theorem f50_eq {n : Int} (h1 : -4611686018427387904 ≤ n) (h2 : n ≤ 4611686018427387904) : f50 n = some (withN n) := by
  unfold f50 f50n0 withN
  rw [mx_eq h1 h2]
  cases okAmt n <;> rfl
theorem grs_bd {l : List NF} (h : ∀ x ∈ l, goodF x = true) (hl : l.length ≤ 500) (c : ByteArray) : 0 ≤ sF (grs c) l ∧ sF (grs c) l ≤ 562949953421312000 := by
  have h1 := sF_bound (grs c) 1125899906842624 l fun x hx => by
    have := goodF_amt (h x hx)
    unfold grs
    cases seq x.Ccy c <;> simp only [cond_true, cond_false] <;> omega
  refine ⟨?_, by omega⟩
  have : ∀ r : List NF, (∀ x ∈ r, goodF x = true) → 0 ≤ sF (grs c) r := fun r hr => by
    induction r with
    | nil => simp [sF]
    | cons x r ih =>
      have := goodF_amt (hr x List.mem_cons_self)
      have := ih fun y hy => hr y (List.mem_cons_of_mem _ hy)
      rw [sF, grs]
      cases seq x.Ccy c <;> simp only [cond_true, cond_false] <;> omega
  exact this l h
def grossS (l : List NF) (c : ByteArray) : Int × Int := bif listB l then withN (sF (grs c) l) else (0, 8)
theorem f26_eq {l : List NF} (hm : l.length ≤ maxLen) (c : ByteArray) : f26 l c = some (grossS l c) := by
  unfold f26 f26n0 grossS
  rw [f35_eq hm]
  cases hc : listB l with
  | false => rfl
  | true =>
    unfold listB at hc
    rw [Bool.and_eq_true, decide_eq_true_eq, List.all_eq_true] at hc
    have hb := grs_bd hc.2 hc.1 c
    have h1 : f26n1 l c = some (.norm (sF (grs c) l)) := by
      have := f26n2L_eq' c l l 0 0
      rw [Int.zero_add, wrIn (n := sF (grs c) l) (by omega) (by omega)] at this
      have this' : f26n2L c l l 0 0 = _ := this
      unfold f26n1
      rw [f26n2_run c l 0 hm, this']; rfl
    simp only [cond_true, Option.bind_some, decide_true, h1, f50_eq (n := sF (grs c) l) (by omega) (by omega)]
end Go.Proofs.Ytkcafackfihmiaa
