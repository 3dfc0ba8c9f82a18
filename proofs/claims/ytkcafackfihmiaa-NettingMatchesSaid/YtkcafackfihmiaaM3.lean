/- Several texts in one. No condition. -/
import Derived.Test.YtkcafackfihmiaaProg
import Derived.Test.YtkcafackfihmiaaTU
import Derived.Test.YtkcafackfihmiaaTyM
import Derived.Test.YtkcafackfihmiaaTV
namespace Go.Proofs.Ytkcafackfihmiaa
open Go.Shelf
end Go.Proofs.Ytkcafackfihmiaa
namespace Go.Proofs.Ytkcafackfihmiaa
set_option linter.unusedVariables false
set_option linter.unusedSimpArgs false
set_option maxRecDepth 100000
open Go.RowKit
structure NettingFlow where
  Date : Int
  Set : ByteArray
  Ccy : ByteArray
  From : ByteArray
  To : ByteArray
  Amount : Int
def NettingFlow.cells (x : NettingFlow) : List PV := [.int .i64 x.Date, .str x.Set, .str x.Ccy, .str x.From, .str x.To, .int .i64 x.Amount]
theorem NettingFlow.cells_eq (x y : NettingFlow) : (NettingFlow.cells x = NettingFlow.cells y) = (x = y) := propext ⟨fun h => by
  cases x; cases y
  simp_all [NettingFlow.cells], fun h => by rw [h]⟩
theorem NettingFlow.map_eq (x y : List NettingFlow) : (x.map NettingFlow.cells = y.map NettingFlow.cells) = (x = y) := map_eq_of fun a b h => by rwa [NettingFlow.cells_eq] at h
structure NettingSet where
  Name : ByteArray
  First : ByteArray
  Second : ByteArray
def NettingSet.cells (x : NettingSet) : List PV := [.str x.Name, .str x.First, .str x.Second]
theorem NettingSet.cells_eq (x y : NettingSet) : (NettingSet.cells x = NettingSet.cells y) = (x = y) := propext ⟨fun h => by
  cases x; cases y
  simp_all [NettingSet.cells], fun h => by rw [h]⟩
theorem NettingSet.map_eq (x y : List NettingSet) : (x.map NettingSet.cells = y.map NettingSet.cells) = (x = y) := map_eq_of fun a b h => by rwa [NettingSet.cells_eq] at h
structure Key_ where
  date : Int
  set : ByteArray
  ccy : ByteArray
def Key_.cells (x : Key_) : List PV := [.int .i64 x.date, .str x.set, .str x.ccy]
theorem Key_.cells_eq (x y : Key_) : (Key_.cells x = Key_.cells y) = (x = y) := propext ⟨fun h => by
  cases x; cases y
  simp_all [Key_.cells], fun h => by rw [h]⟩
theorem Key_.map_eq (x y : List Key_) : (x.map Key_.cells = y.map Key_.cells) = (x = y) := map_eq_of fun a b h => by rwa [Key_.cells_eq] at h
structure Share_ where
  party : ByteArray
  flow : NettingFlow
def Share_.cells (x : Share_) : List PV := [.str x.party, .int .i64 x.flow.Date, .str x.flow.Set, .str x.flow.Ccy, .str x.flow.From, .str x.flow.To, .int .i64 x.flow.Amount]
structure Row_ where
  date : Int
  ccy : ByteArray
  party : ByteArray
def Row_.cells (x : Row_) : List PV := [.int .i64 x.date, .str x.ccy, .str x.party]
theorem Row_.cells_eq (x y : Row_) : (Row_.cells x = Row_.cells y) = (x = y) := propext ⟨fun h => by
  cases x; cases y
  simp_all [Row_.cells], fun h => by rw [h]⟩
theorem Row_.map_eq (x y : List Row_) : (x.map Row_.cells = y.map Row_.cells) = (x = y) := map_eq_of fun a b h => by rwa [Row_.cells_eq] at h
def Key_.eqb (x y : Key_) : Bool := decide (x.date = y.date) && seq x.set y.set && seq x.ccy y.ccy
theorem Key_.eqb_ok (x y : Key_) : eqV cfg.ty 62 (.agg (Key_.cells x)) (.agg (Key_.cells y)) = some (Key_.eqb x y) := by
  unfold Key_.eqb
  have e : eqV cfg.ty 62 (.agg (Key_.cells x)) (.agg (Key_.cells y)) = (match some (decide (x.date = y.date)) with | some true => (match some (decide (x.set.data.toList = y.set.data.toList)) with | some true => (match some (decide (x.ccy.data.toList = y.ccy.data.toList)) with | some true => (some true) | some false => some false | none => none) | some false => some false | none => none) | some false => some false | none => none) := by kernel_rfl
  rw [e]
  try simp only [seq]
  cases decide (x.date = y.date) <;> cases decide (x.set.data.toList = y.set.data.toList) <;> cases decide (x.ccy.data.toList = y.ccy.data.toList) <;> rfl
def Row_.eqb (x y : Row_) : Bool := decide (x.date = y.date) && seq x.ccy y.ccy && seq x.party y.party
def NettingFlow.eqb (x y : NettingFlow) : Bool := decide (x.Date = y.Date) && seq x.Set y.Set && seq x.Ccy y.Ccy && seq x.From y.From && seq x.To y.To && decide (x.Amount = y.Amount)
theorem NettingFlow.eqb_ok (x y : NettingFlow) : eqV cfg.ty 32 (.agg (NettingFlow.cells x)) (.agg (NettingFlow.cells y)) = some (NettingFlow.eqb x y) := by
  unfold NettingFlow.eqb
  have e : eqV cfg.ty 32 (.agg (NettingFlow.cells x)) (.agg (NettingFlow.cells y)) = (match some (decide (x.Date = y.Date)) with | some true => (match some (decide (x.Set.data.toList = y.Set.data.toList)) with | some true => (match some (decide (x.Ccy.data.toList = y.Ccy.data.toList)) with | some true => (match some (decide (x.From.data.toList = y.From.data.toList)) with | some true => (match some (decide (x.To.data.toList = y.To.data.toList)) with | some true => (match some (decide (x.Amount = y.Amount)) with | some true => (some true) | some false => some false | none => none) | some false => some false | none => none) | some false => some false | none => none) | some false => some false | none => none) | some false => some false | none => none) | some false => some false | none => none) := by kernel_rfl
  rw [e]
  try simp only [seq]
  cases decide (x.Date = y.Date) <;> cases decide (x.Set.data.toList = y.Set.data.toList) <;> cases decide (x.Ccy.data.toList = y.Ccy.data.toList) <;> cases decide (x.From.data.toList = y.From.data.toList) <;> cases decide (x.To.data.toList = y.To.data.toList) <;> cases decide (x.Amount = y.Amount) <;> rfl
def NettingSet.eqb (x y : NettingSet) : Bool := seq x.Name y.Name && seq x.First y.First && seq x.Second y.Second
theorem NettingSet.eqb_ok (x y : NettingSet) : eqV cfg.ty 46 (.agg (NettingSet.cells x)) (.agg (NettingSet.cells y)) = some (NettingSet.eqb x y) := by
  unfold NettingSet.eqb
  have e : eqV cfg.ty 46 (.agg (NettingSet.cells x)) (.agg (NettingSet.cells y)) = (match some (decide (x.Name.data.toList = y.Name.data.toList)) with | some true => (match some (decide (x.First.data.toList = y.First.data.toList)) with | some true => (match some (decide (x.Second.data.toList = y.Second.data.toList)) with | some true => (some true) | some false => some false | none => none) | some false => some false | none => none) | some false => some false | none => none) := by kernel_rfl
  rw [e]
  try simp only [seq]
  cases decide (x.Name.data.toList = y.Name.data.toList) <;> cases decide (x.First.data.toList = y.First.data.toList) <;> cases decide (x.Second.data.toList = y.Second.data.toList) <;> rfl
theorem Key_.eqb_eq {x y : Key_} (h : Key_.eqb x y = true) : x = y := by
  cases x; cases y
  simp only [Key_.eqb, Bool.and_eq_true, decide_eq_true_eq, beq_iff_eq] at h
  simp only [Key_.mk.injEq]
  refine ⟨?_, ?_, ?_⟩ <;> first | exact seq_eq' (by simp_all) | simp_all
theorem key_62 : KeyOK cfg 62 (pAgg Key_.cells) Key_.eqb := ⟨fun a b => Key_.eqb_ok a b, fun _ => by kernel_rfl, fun a b h => Key_.eqb_eq h, fun a => by simp [pAgg, Key_.cells, eqC, eqCL, eqC1, kindEq]⟩
def str_x : ByteArray := ⟨#[]⟩
def ti32 : TI := ⟨.struct [(3, 0), (9, 1), (9, 2), (9, 3), (9, 4), (3, 5)], 6, 80, [.int .i64 0, .str ByteArray.empty, .str ByteArray.empty, .str ByteArray.empty, .str ByteArray.empty, .int .i64 0]⟩
def ti46 : TI := ⟨.struct [(9, 0), (9, 1), (9, 2)], 3, 48, [.str ByteArray.empty, .str ByteArray.empty, .str ByteArray.empty]⟩
def ti3 : TI := ⟨.int .i64, 1, 8, [.int .i64 0]⟩
def ti9 : TI := ⟨.str, 1, 16, [.str ByteArray.empty]⟩
def ti23 : TI := ⟨.sl 32, 1, 24, [.sl .nil 0 []]⟩
def ti22 : TI := ⟨.sl 46, 1, 24, [.sl .nil 0 []]⟩
def NettingFlow.ok (x : NettingFlow) : Prop := (okInt .i64) x.Date ∧ (fun s : ByteArray => s.size ≤ maxLen) x.Set ∧ (fun s : ByteArray => s.size ≤ maxLen) x.Ccy ∧ (fun s : ByteArray => s.size ≤ maxLen) x.From ∧ (fun s : ByteArray => s.size ≤ maxLen) x.To ∧ (okInt .i64) x.Amount ∧ True
def NettingSet.ok (x : NettingSet) : Prop := (fun s : ByteArray => s.size ≤ maxLen) x.Name ∧ (fun s : ByteArray => s.size ≤ maxLen) x.First ∧ (fun s : ByteArray => s.size ≤ maxLen) x.Second ∧ True
def Key_.ok (x : Key_) : Prop := (okInt .i64) x.date ∧ (fun s : ByteArray => s.size ≤ maxLen) x.set ∧ (fun s : ByteArray => s.size ≤ maxLen) x.ccy ∧ True
def Share_.ok (x : Share_) : Prop := (fun s : ByteArray => s.size ≤ maxLen) x.party ∧ NettingFlow.ok x.flow ∧ True
def Row_.ok (x : Row_) : Prop := (okInt .i64) x.date ∧ (fun s : ByteArray => s.size ≤ maxLen) x.ccy ∧ (fun s : ByteArray => s.size ≤ maxLen) x.party ∧ True
theorem of_3 {d : Nat} {ps : List PV} (h : WT cfg.ty (d + 1) 3 ps) : ∃ x : Int, ps = (cInt .i64) x ∧ (okInt .i64) x := by
  obtain ⟨n, rfl, k⟩ := wt_int (ti := ti3) (by kernel_rfl) rfl h
  exact ⟨n, rfl, k⟩
theorem of_9 {d : Nat} {ps : List PV} (h : WT cfg.ty (d + 1) 9 ps) : ∃ x : ByteArray, ps = cStr x ∧ (fun s : ByteArray => s.size ≤ maxLen) x := by
  obtain ⟨n, rfl, k⟩ := wt_str (ti := ti9) (by kernel_rfl) rfl h
  exact ⟨n, rfl, k⟩
theorem of_32 {d : Nat} {ps : List PV} (h : WT cfg.ty (d + 2) 32 ps) : ∃ x : NettingFlow, ps = NettingFlow.cells x ∧ NettingFlow.ok x := by
  have g := wt_struct (ti := ti32) (by kernel_rfl) rfl h
  clear h
  obtain ⟨_, _, _, rfl, _, _, h0, g0⟩ := g
  obtain ⟨x0, rfl, k0⟩ := of_3 h0
  obtain ⟨_, _, _, rfl, _, _, h1, g1⟩ := g0
  obtain ⟨x1, rfl, k1⟩ := of_9 h1
  obtain ⟨_, _, _, rfl, _, _, h2, g2⟩ := g1
  obtain ⟨x2, rfl, k2⟩ := of_9 h2
  obtain ⟨_, _, _, rfl, _, _, h3, g3⟩ := g2
  obtain ⟨x3, rfl, k3⟩ := of_9 h3
  obtain ⟨_, _, _, rfl, _, _, h4, g4⟩ := g3
  obtain ⟨x4, rfl, k4⟩ := of_9 h4
  obtain ⟨_, _, _, rfl, _, _, h5, g5⟩ := g4
  obtain ⟨x5, rfl, k5⟩ := of_3 h5
  have e : _ = [] := g5
  subst e
  exact ⟨⟨x0, x1, x2, x3, x4, x5⟩, rfl, k0, k1, k2, k3, k4, k5, trivial⟩
theorem of_23 {d : Nat} {ps : List PV} (h : WT cfg.ty (d + 3) 23 ps) : ∃ x : List NettingFlow, ps = (cLst 6 NettingFlow.cells) x ∧ (fun l : List NettingFlow => l.length ≤ maxLen ∧ ∀ x ∈ l, NettingFlow.ok x) x := by
  obtain ⟨te, es, e1, rfl, hl, hh⟩ := wt_sl (ti := ti23) (by kernel_rfl) rfl h
  obtain rfl : te = ti32 := some_inj (e1.symm.trans (by kernel_rfl : cfg.ty 32 = some ti32))
  obtain ⟨xs, rfl, hx⟩ := list_of (c := NettingFlow.cells) (ok := NettingFlow.ok) (fun ps h => of_32 h) es (fun c hc => (hh c hc).2)
  exact ⟨xs, rfl, by simpa using hl, hx⟩
theorem arg_23 {p : PV} (h : WV cfg.ty 3 23 p) : ∃ x : List NettingFlow, p = (.sl .any 6 (x.map NettingFlow.cells)) ∧ (fun l : List NettingFlow => l.length ≤ maxLen ∧ ∀ x ∈ l, NettingFlow.ok x) x := by
  obtain ⟨_, g⟩ := wv_one (ti := ti23) (by kernel_rfl) rfl h
  obtain ⟨x, e, k⟩ := of_23 (d := 0) g
  exact ⟨x, (List.cons.inj e).1, k⟩
theorem arg_9 {p : PV} (h : WV cfg.ty 1 9 p) : ∃ x : ByteArray, p = (.str x) ∧ (fun s : ByteArray => s.size ≤ maxLen) x := by
  obtain ⟨_, g⟩ := wv_one (ti := ti9) (by kernel_rfl) rfl h
  obtain ⟨x, e, k⟩ := of_9 (d := 0) g
  exact ⟨x, (List.cons.inj e).1, k⟩
theorem arg_3 {p : PV} (h : WV cfg.ty 1 3 p) : ∃ x : Int, p = (.int .i64 x) ∧ (okInt .i64) x := by
  obtain ⟨_, g⟩ := wv_one (ti := ti3) (by kernel_rfl) rfl h
  obtain ⟨x, e, k⟩ := of_3 (d := 0) g
  exact ⟨x, (List.cons.inj e).1, k⟩
theorem of_46 {d : Nat} {ps : List PV} (h : WT cfg.ty (d + 2) 46 ps) : ∃ x : NettingSet, ps = NettingSet.cells x ∧ NettingSet.ok x := by
  have g := wt_struct (ti := ti46) (by kernel_rfl) rfl h
  clear h
  obtain ⟨_, _, _, rfl, _, _, h0, g0⟩ := g
  obtain ⟨x0, rfl, k0⟩ := of_9 h0
  obtain ⟨_, _, _, rfl, _, _, h1, g1⟩ := g0
  obtain ⟨x1, rfl, k1⟩ := of_9 h1
  obtain ⟨_, _, _, rfl, _, _, h2, g2⟩ := g1
  obtain ⟨x2, rfl, k2⟩ := of_9 h2
  have e : _ = [] := g2
  subst e
  exact ⟨⟨x0, x1, x2⟩, rfl, k0, k1, k2, trivial⟩
theorem of_22 {d : Nat} {ps : List PV} (h : WT cfg.ty (d + 3) 22 ps) : ∃ x : List NettingSet, ps = (cLst 3 NettingSet.cells) x ∧ (fun l : List NettingSet => l.length ≤ maxLen ∧ ∀ x ∈ l, NettingSet.ok x) x := by
  obtain ⟨te, es, e1, rfl, hl, hh⟩ := wt_sl (ti := ti22) (by kernel_rfl) rfl h
  obtain rfl : te = ti46 := some_inj (e1.symm.trans (by kernel_rfl : cfg.ty 46 = some ti46))
  obtain ⟨xs, rfl, hx⟩ := list_of (c := NettingSet.cells) (ok := NettingSet.ok) (fun ps h => of_46 h) es (fun c hc => (hh c hc).2)
  exact ⟨xs, rfl, by simpa using hl, hx⟩
theorem arg_22 {p : PV} (h : WV cfg.ty 3 22 p) : ∃ x : List NettingSet, p = (.sl .any 3 (x.map NettingSet.cells)) ∧ (fun l : List NettingSet => l.length ≤ maxLen ∧ ∀ x ∈ l, NettingSet.ok x) x := by
  obtain ⟨_, g⟩ := wv_one (ti := ti22) (by kernel_rfl) rfl h
  obtain ⟨x, e, k⟩ := of_22 (d := 0) g
  exact ⟨x, (List.cons.inj e).1, k⟩
end Go.Proofs.Ytkcafackfihmiaa
namespace Go.Proofs.Ytkcafackfihmiaa
set_option linter.unusedVariables false
set_option linter.unusedSimpArgs false
set_option maxRecDepth 100000
open Go.RowKit
def f11 : Option Bool := some true
theorem f11_ok {r : Bool} (h : f11 = some r) : CallS Try.prog false 11 [] [] (jB r) [] := by
  obtain rfl := some_inj h
  exact CallS.eval cfg_ok (N := 500) (by kernel_rfl)

noncomputable def c12 : Code := Try.f12.body.getD .skip
inductive f12n0O where
  | ret (v5 : Bool)
def f12n0E (a1 : List NettingSet) (a2 : List NettingFlow) : f12n0O → Ex × Tr × Hp
  | .ret v5 => (.ret, mkS [(4, (jB v5))], [])
def f12n0S (a1 : List NettingSet) (a2 : List NettingFlow) : Tr × Hp := (initS [(jL 3 NettingSet.cells a1), (jL 6 NettingFlow.cells a2)] 0 .leaf, [])
noncomputable def f12n0 (a1 : List NettingSet) (a2 : List NettingFlow) : Option f12n0O :=
  bif (decide (80 < (a1.length : Int))) then
    some (.ret true)
  else
    some (.ret (decide (520 < (a2.length : Int))))
theorem f12n0_ok (a1 : List NettingSet) (a2 : List NettingFlow) {o : f12n0O} (h : (f12n0 a1 a2) = some o) : T Try.prog Try.f12.ntmps 0 c12 (f12n0S a1 a2) (fun r => r = f12n0E a1 a2 o) := by
  unfold f12n0 at h
  rcases cond_cases h with ⟨h4, h⟩ | ⟨h4, h⟩
  · obtain rfl := some_inj h
    exact rE cfg_ok [j3, (jT [4, 5, 6], [(7, .bool true)], [(1, .val (jI (a1.length : Int)))])] [] [] [] [4] (.ret, (f12n0E a1 a2 (.ret true)).2) (ap (len_cv (xs := a1) (c := NettingSet.cells)) (ap4 h4 an)) rfl
  · obtain rfl := some_inj h
    exact rE cfg_ok [j3, (jF [4, 5, 6], [(7, .bool false)], [(1, .val (jI (a1.length : Int))), (5, .val (jI (a2.length : Int)))])] [] [] [] [4] (.ret, (f12n0E a1 a2 (.ret (decide (520 < (a2.length : Int))))).2) (ap (len_cv (xs := a1) (c := NettingSet.cells)) (ap2 h4 (ap (len_cv (xs := a2) (c := NettingFlow.cells)) (ap2 h4 an)))) rfl
noncomputable def f12 (a1 : List NettingSet) (a2 : List NettingFlow) : Option Bool := (f12n0 a1 a2).bind fun o => match o with
  | .ret v5 => some v5
theorem f12_ok (a1 : List NettingSet) (a2 : List NettingFlow) {r : Bool} (h : (f12 a1 a2) = some r) : CallS Try.prog false 12 [(jL 3 NettingSet.cells a1), (jL 6 NettingFlow.cells a2)] [] (jB r) [] := by
  unfold f12 at h
  obtain ⟨o, ho, h⟩ := bind_cases h
  cases o with
  | ret v5 =>
    obtain rfl := some_inj h
    exact CallS.plain cfg_ok (f := Try.f12) (c := c12) (by kernel_rfl) (by kernel_rfl) (by kernel_rfl) (by kernel_rfl) ((f12n0_ok a1 a2 ho).mono fun r e => by subst e; exact ⟨.inl rfl, (jB v5), (jB v5), by kernel_rfl, by kernel_rfl, ((Wk.refl _) : Wk (jB v5) (jB v5))⟩)

noncomputable def c14 : Code := Try.f14.body.getD .skip
inductive f14r1n0O where
  | ret (v6 : List NettingFlow)
def f14r1n0E (a1 : List NettingFlow) : f14r1n0O → Ex × Tr × Hp
  | .ret v6 => (.ret, mkS [(2, (.own 0))], [jR 6 NettingFlow.cells v6])
def f14r1n0S (a1 : List NettingFlow) : Tr × Hp := (initS [(jL 6 NettingFlow.cells a1)] 0 .leaf, [])
noncomputable def f14r1n0 (a1 : List NettingFlow) : Option f14r1n0O :=
  bif (a1.isEmpty) then
    some (.ret [])
  else
    req (fit a1.length 80) <|
    some (.ret a1)
theorem f14r1n0_ok (a1 : List NettingFlow) {o : f14r1n0O} (h : (f14r1n0 a1) = some o) : T Try.prog Try.f14.ntmps 0 c14 (f14r1n0S a1) (fun r => r = f14r1n0E a1 o) := by
  unfold f14r1n0 at h
  rcases cond_cases h with ⟨h4, h⟩ | ⟨h4, h⟩
  · obtain rfl := some_inj h
    exact rE cfg_ok [j3, ([], [(2, .app false)], [])] [] [] [0] [2] (.ret, (f14r1n0E a1 (.ret [])).2) (ap (nil_map (c := NettingFlow.cells) h4) an) rfl
  · obtain ⟨h5, h⟩ := req_cases h
    obtain rfl := some_inj h
    exact rE cfg_ok [j3, ([], [(2, .app true)], [])] [] [] [1] [2] (.ret, (f14r1n0E a1 (.ret a1)).2) (ap (fit_map0z (te := ti32) (xs := a1) (c := NettingFlow.cells) h5 rfl) (ap (ne_map (c := NettingFlow.cells) h4) (ap (len_all (c := NettingFlow.cells) (xs := a1) (n := 6) (fun _ => rfl)) an))) rfl
noncomputable def f14r1 (a1 : List NettingFlow) : Option (List NettingFlow) := (f14r1n0 a1).bind fun o => match o with
  | .ret v6 => some v6
theorem f14r1_ok (a1 : List NettingFlow) {r : List NettingFlow} (h : (f14r1 a1) = some r) : CallS Try.prog true 14 [(jL 6 NettingFlow.cells a1)] [] (.own 0) [jR 6 NettingFlow.cells r] := by
  unfold f14r1 at h
  obtain ⟨o, ho, h⟩ := bind_cases h
  cases o with
  | ret v6 =>
    obtain rfl := some_inj h
    exact CallS.shared cfg_ok (f := Try.f14) (c := c14) (by kernel_rfl) (by kernel_rfl) (by kernel_rfl) ((f14r1n0_ok a1 ho).mono fun r e => by subst e; exact ⟨.inl rfl, by kernel_rfl, by kernel_rfl⟩)

noncomputable def c59 : Code := Try.f59.body.getD .skip
inductive f59n0O where
  | ret (v10 : Bool)
def f59n0E (a1 : Int) : f59n0O → Ex × Tr × Hp
  | .ret v10 => (.ret, mkS [(2, (jB v10))], [])
def f59n0S (a1 : Int) : Tr × Hp := (initS [(.pl (.int .u8 a1))] 0 .leaf, [])
noncomputable def f59n0 (a1 : Int) : Option f59n0O :=
  bif (decide (97 ≤ a1)) then
    bif (decide (a1 ≤ 122)) then
      some (.ret true)
    else
      bif (decide (65 ≤ a1)) then
        some (.ret (decide (a1 ≤ 90)))
      else
        some (.ret false)
  else
    bif (decide (65 ≤ a1)) then
      some (.ret (decide (a1 ≤ 90)))
    else
      some (.ret false)
theorem f59n0_ok (a1 : Int) {o : f59n0O} (h : (f59n0 a1) = some o) : T Try.prog Try.f59.ntmps 0 c59 (f59n0S a1) (fun r => r = f59n0E a1 o) := by
  unfold f59n0 at h
  rcases cond_cases h with ⟨h6, h⟩ | ⟨h6, h⟩
  · rcases cond_cases h with ⟨h7, h⟩ | ⟨h7, h⟩
    · obtain rfl := some_inj h
      exact rE cfg_ok [j3, (jT [3, 4, 7, 8, 9, 12], [(5, .bool true), (13, .bool true)], [])] [] [] [] [2] (.ret, (f59n0E a1 (.ret true)).2) (ap3 h6 (ap h7 (ap4 h7 an))) rfl
    · rcases cond_cases h with ⟨h8, h⟩ | ⟨h8, h⟩
      · obtain rfl := some_inj h
        exact rE cfg_ok [j3, (jF [7, 8, 9, 12] ++ jT [3, 4, 10, 11], [(5, .bool true), (12, .bool true), (13, .bool false)], [])] [] [] [] [2] (.ret, (f59n0E a1 (.ret (decide (a1 ≤ 90)))).2) (ap3 h6 (ap3 h7 (ap2 h8 (ap h7 (ap h8 (ap h7 an)))))) rfl
      · obtain rfl := some_inj h
        exact rE cfg_ok [j3, (jF [7, 8, 9, 10, 11, 12] ++ jT [3, 4], [(5, .bool true), (12, .bool false), (13, .bool false)], [])] [] [] [] [2] (.ret, (f59n0E a1 (.ret false)).2) (ap3 h6 (ap3 h7 (ap2 h8 (ap h7 (ap h8 (ap h7 an)))))) rfl
  · rcases cond_cases h with ⟨h9, h⟩ | ⟨h9, h⟩
    · obtain rfl := some_inj h
      exact rE cfg_ok [j3, (jF [3, 4] ++ jT [10, 11], [(5, .bool false), (12, .bool true)], [])] [] [] [] [2] (.ret, (f59n0E a1 (.ret (decide (a1 ≤ 90)))).2) (ap3 h6 (ap3 h9 an)) rfl
    · obtain rfl := some_inj h
      exact rE cfg_ok [j3, (jF [3, 4, 10, 11], [(5, .bool false), (12, .bool false)], [])] [] [] [] [2] (.ret, (f59n0E a1 (.ret false)).2) (ap3 h6 (ap3 h9 an)) rfl
noncomputable def f59 (a1 : Int) : Option Bool := (f59n0 a1).bind fun o => match o with
  | .ret v10 => some v10
theorem f59_ok (a1 : Int) {r : Bool} (h : (f59 a1) = some r) : CallS Try.prog false 59 [(.pl (.int .u8 a1))] [] (jB r) [] := by
  unfold f59 at h
  obtain ⟨o, ho, h⟩ := bind_cases h
  cases o with
  | ret v10 =>
    obtain rfl := some_inj h
    exact CallS.plain cfg_ok (f := Try.f59) (c := c59) (by kernel_rfl) (by kernel_rfl) (by kernel_rfl) (by kernel_rfl) ((f59n0_ok a1 ho).mono fun r e => by subst e; exact ⟨.inl rfl, (jB v10), (jB v10), by kernel_rfl, by kernel_rfl, ((Wk.refl _) : Wk (jB v10) (jB v10))⟩)

noncomputable def c36 : Code := Try.f36.body.getD .skip
inductive f36n3O where
  | norm (v148 : Bool)
def f36n3E (bb1 : ByteArray) (bc2 : UInt8) (bd3 : Int) : f36n3O → Ex × Tr × Hp
  | .norm v148 => (.norm, mkS [(0, (jS bb1)), (20, (jI (bb1.size : Int))), (21, (jI bd3)), (45, (jB v148))], [])
def f36n3S (bb1 : ByteArray) (bc2 : UInt8) (bd3 : Int) : Tr × Hp := (mkS [(0, (jS bb1)), (4, (.pl (.int .u8 (bc2.toNat : Int)))), (20, (jI (bb1.size : Int))), (21, (jI bd3))], [])
noncomputable def f36n3 (bb1 : ByteArray) (bc2 : UInt8) (bd3 : Int) : Option f36n3O :=
  (f59 (bc2.toNat : Int)).bind fun x141 =>
  bif x141 then
    some (.norm false)
  else
    bif (decide ((bc2.toNat : Int) < 48)) then
      bif (decide ((bc2.toNat : Int) = 95)) then
        some (.norm false)
      else
        some (.norm (!(decide ((bc2.toNat : Int) = 45))))
    else
      bif (decide (57 < (bc2.toNat : Int))) then
        bif (decide ((bc2.toNat : Int) = 95)) then
          some (.norm false)
        else
          some (.norm (!(decide ((bc2.toNat : Int) = 45))))
      else
        some (.norm false)
theorem f36n3_ok (bb1 : ByteArray) (bc2 : UInt8) (bd3 : Int) {o : f36n3O} (h : (f36n3 bb1 bc2 bd3) = some o) : T Try.prog Try.f36.ntmps 0 (cL (dropC 2 (cL (cL (dropC 2 (cL (cL (dropC 1 (cL (dropC 2 c36)))))))))) (f36n3S bb1 bc2 bd3) (fun r => r = f36n3E bb1 bc2 bd3 o) := by
  unfold f36n3 at h
  obtain ⟨x141, h142, h⟩ := bind_cases h
  rcases cond_cases h with ⟨h143, h⟩ | ⟨h143, h⟩
  · obtain rfl := some_inj h
    exact rE cfg_ok [(jF [4, 5, 6, 9], [jH 1 (jB x141), (10, .bool false)], [])] [] [] [] [0, 20, 21, 45] (.norm, (f36n3E bb1 bc2 bd3 (.norm false)).2) (ap (not_t h143) (ap4 (not_t h143) (ap (f59_ok (bc2.toNat : Int) h142) an))) rfl
  · rcases cond_cases h with ⟨h144, h⟩ | ⟨h144, h⟩
    · rcases cond_cases h with ⟨h145, h⟩ | ⟨h145, h⟩
      · obtain rfl := some_inj h
        exact rE cfg_ok [(jF [16, 17] ++ jT [4, 5, 6, 7, 8, 9], [jH 1 (jB x141), (9, .bool true), (10, .bool true), (18, .bool false)], [])] [] [] [] [0, 20, 21, 45] (.norm, (f36n3E bb1 bc2 bd3 (.norm false)).2) (ap3 (not_f h143) (ap2 h144 (ap (not_f h143) (ap h144 (ap (not_f h143) (ap3 (not_t h145) (ap (f59_ok (bc2.toNat : Int) h142) an))))))) rfl
      · obtain rfl := some_inj h
        exact rE cfg_ok [(jT [4, 5, 6, 7, 8, 9, 16, 17], [jH 1 (jB x141), (9, .bool true), (10, .bool true), (18, .bool true)], [])] [] [] [] [0, 20, 21, 45] (.norm, (f36n3E bb1 bc2 bd3 (.norm (!(decide ((bc2.toNat : Int) = 45))))).2) (ap3 (not_f h143) (ap2 h144 (ap (not_f h143) (ap h144 (ap (not_f h143) (ap3 (not_f h145) (ap (f59_ok (bc2.toNat : Int) h142) an))))))) rfl
    · rcases cond_cases h with ⟨h146, h⟩ | ⟨h146, h⟩
      · rcases cond_cases h with ⟨h147, h⟩ | ⟨h147, h⟩
        · obtain rfl := some_inj h
          exact rE cfg_ok [(jF [7, 8, 16, 17] ++ jT [4, 5, 6, 9, 12, 13], [jH 1 (jB x141), (9, .bool false), (10, .bool true), (14, .bool true), (18, .bool false)], [])] [] [] [] [0, 20, 21, 45] (.norm, (f36n3E bb1 bc2 bd3 (.norm false)).2) (ap3 (not_f h143) (ap2 h144 (ap (not_f h143) (ap h144 (ap (not_f h143) (ap3 h146 (ap3 (not_t h147) (ap (f59_ok (bc2.toNat : Int) h142) an)))))))) rfl
        · obtain rfl := some_inj h
          exact rE cfg_ok [(jF [7, 8] ++ jT [4, 5, 6, 9, 12, 13, 16, 17], [jH 1 (jB x141), (9, .bool false), (10, .bool true), (14, .bool true), (18, .bool true)], [])] [] [] [] [0, 20, 21, 45] (.norm, (f36n3E bb1 bc2 bd3 (.norm (!(decide ((bc2.toNat : Int) = 45))))).2) (ap3 (not_f h143) (ap2 h144 (ap (not_f h143) (ap h144 (ap (not_f h143) (ap3 h146 (ap3 (not_f h147) (ap (f59_ok (bc2.toNat : Int) h142) an)))))))) rfl
      · obtain rfl := some_inj h
        exact rE cfg_ok [(jF [7, 8, 12, 13] ++ jT [4, 5, 6, 9], [jH 1 (jB x141), (9, .bool false), (10, .bool true), (14, .bool false)], [])] [] [] [] [0, 20, 21, 45] (.norm, (f36n3E bb1 bc2 bd3 (.norm false)).2) (ap3 (not_f h143) (ap2 h144 (ap (not_f h143) (ap h144 (ap (not_f h143) (ap3 h146 (ap (f59_ok (bc2.toNat : Int) h142) an))))))) rfl
inductive f36n2O where
  | norm
  | ret
def f36n2E (bb1 : ByteArray) (bd2 : Int) : f36n2O → Ex × Tr × Hp
  | .norm => (.norm, mkS [(0, (jS bb1)), (20, (jI (bb1.size : Int))), (21, (jI bd2))], [])
  | .ret => (.ret, mkS [(2, (jB false))], [])
def f36n2S (bb1 : ByteArray) (bd2 : Int) : Tr × Hp := (mkS [(0, (jS bb1)), (20, (jI (bb1.size : Int))), (21, (jI bd2))], [])
noncomputable def f36n2 (bb1 : ByteArray) (bd2 : Int) : Option f36n2O :=
  (at? bb1.data.toList bd2).bind fun x125 =>
  (f36n3 bb1 x125 bd2).bind fun o149 => match o149 with
  | .norm v151 => bif v151 then
      some .ret
    else
      some .norm
theorem f36n2_ok (bb1 : ByteArray) (bd2 : Int) {o : f36n2O} (h : (f36n2 bb1 bd2) = some o) : T Try.prog Try.f36.ntmps 0 (cL (dropC 2 (cL (cL (dropC 1 (cL (dropC 2 c36))))))) (f36n2S bb1 bd2) (fun r => r = f36n2E bb1 bd2 o) := by
  unfold f36n2 at h
  refine T.block' (i := 1) (by kernel_rfl) ?_
  obtain ⟨x125, h126, h⟩ := bind_cases h
  refine rN cfg_ok 2 [j3, ([], [(2, .byte (Int.toNat bd2) x125)], [])] [] [] [] [0, 4, 20, 21] (f36n3S bb1 x125 bd2) (ap (at_some h126).1 (ap (at_some h126).2 an)) ?_
  obtain ⟨o149, h150, h⟩ := bind_cases h
  cases o149 with
  | norm v151 =>
    refine T.oneN (by kernel_rfl) (f36n3_ok bb1 x125 bd2 h150) (st2 := (f36n3E bb1 x125 bd2 (.norm v151)).2) rfl ?_
    rcases cond_cases h with ⟨h153, h⟩ | ⟨h153, h⟩
    · obtain rfl := some_inj h
      exact rE cfg_ok [j3] [some true] [] [] [2] (.ret, (f36n2E bb1 bd2 .ret).2) (ap h153 an) rfl
    · obtain rfl := some_inj h
      exact rE cfg_ok [] [some false] [] [] [0, 20, 21] (.norm, (f36n2E bb1 bd2 .norm).2) (ap h153 an) rfl
inductive f36n4O where
  | exit0
  | ret
def f36n4E (bb1 : ByteArray) : f36n4O → Ex × Tr × Hp
  | .exit0 => ((.exit 0), mkS [], [])
  | .ret => (.ret, mkS [(2, (jB false))], [])
def f36n4S (bb1 : ByteArray) (v109 : Int) : Tr × Hp := (mkS [(0, (jS bb1)), (20, (jI (bb1.size : Int))), (21, (jI v109))], [])
noncomputable def f36n4 : Nat → ByteArray → Int → Option f36n4O
  | 0, _, _ => none
  | f + 1, bb1, v109 =>
    bif (decide (v109 < (bb1.size : Int))) then
      (f36n2 bb1 v109).bind fun o154 => match o154 with
      | .norm => (f36n4 f bb1 (wr64 (v109 + 1)))
      | .ret => some .ret
    else
      some .exit0
theorem f36n4_ok : ∀ (f : Nat) (bb1 : ByteArray) (v109 : Int) {o : f36n4O}, (f36n4 f bb1 v109) = some o → TL Try.prog Try.f36.ntmps 0 f (cL (cL (dropC 1 (cL (dropC 2 c36))))) (f36n4S bb1 v109) (fun r => r = f36n4E bb1 o)
  | 0, _, _, o, h => by rw [f36n4] at h; cases h
  | f + 1, bb1, v109, o, h => by
    rw [f36n4] at h
    refine TL.body (K := fun s => ∃ v109 : Int, s = (f36n4S bb1 v109) ∧ (f36n4 f bb1 v109) = some o) ?_ (by rintro _ ⟨v109, rfl, hk⟩; exact f36n4_ok f _ _ hk)
    rcases cond_cases h with ⟨h111, h⟩ | ⟨h111, h⟩
    · refine rN cfg_ok 2 [j3] [some true] [] [] [0, 20, 21] (f36n2S bb1 v109) (ap h111 an) ?_
      obtain ⟨o154, h155, h⟩ := bind_cases h
      cases o154 with
      | norm =>
        refine T.oneN (by kernel_rfl) (f36n2_ok bb1 v109 h155) (st2 := (f36n2E bb1 v109 .norm).2) rfl ?_
        exact rE cfg_ok [j3] [] [] [] [0, 20, 21] (.norm, (f36n4S bb1 (wr64 (v109 + 1)))) an (LoopQ.norm ⟨(wr64 (v109 + 1)), rfl, h⟩)
      | ret =>
        obtain rfl := some_inj h
        exact T.oneX' (by kernel_rfl) (f36n2_ok bb1 v109 h155) (tds := []) (m := []) (keep := [2]) (st2 := (f36n4E bb1 .ret).2) (by kernel_rfl) an rfl (LoopQ.out rfl rfl)
    · obtain rfl := some_inj h
      exact rK cfg_ok 2 [j3] [some false] [] [] [] (.exit 0) ((f36n4E bb1 .exit0).2) (ap h111 an) (LoopQ.out rfl rfl)
inductive f36n1O where
  | norm
  | ret
def f36n1E (bb1 : ByteArray) : f36n1O → Ex × Tr × Hp
  | .norm => (.norm, mkS [], [])
  | .ret => (.ret, mkS [(2, (jB false))], [])
def f36n1S (bb1 : ByteArray) : Tr × Hp := (mkS [(0, (jS bb1))], [])
noncomputable def f36n1 (bb1 : ByteArray) : Option f36n1O :=
  (f36n4 FUEL bb1 0).bind fun o156 => match o156 with
  | .exit0 => some .norm
  | .ret => some .ret
theorem f36n1_ok (bb1 : ByteArray) {o : f36n1O} (h : (f36n1 bb1) = some o) : T Try.prog Try.f36.ntmps 0 (cL (dropC 2 c36)) (f36n1S bb1) (fun r => r = f36n1E bb1 o) := by
  unfold f36n1 at h
  refine rN cfg_ok 1 [j3] [] [] [] [0, 20, 21] (f36n4S bb1 0) an ?_
  obtain ⟨o156, h157, h⟩ := bind_cases h
  cases o156 with
  | exit0 =>
    obtain rfl := some_inj h
    exact T.last' (T.bl (i := 0) (by kernel_rfl) (by kernel_rfl) (f36n4_ok FUEL bb1 0 h157)) (tds := []) (m := []) (keep := []) (st2 := (f36n1E bb1 .norm).2) (by kernel_rfl) an rfl
  | ret =>
    obtain rfl := some_inj h
    exact T.last' (T.bl (i := 0) (by kernel_rfl) (by kernel_rfl) (f36n4_ok FUEL bb1 0 h157)) (tds := []) (m := []) (keep := [2]) (st2 := (f36n1E bb1 .ret).2) (by kernel_rfl) an rfl
inductive f36n0O where
  | ret (v160 : Bool)
def f36n0E (a1 : ByteArray) : f36n0O → Ex × Tr × Hp
  | .ret v160 => (.ret, mkS [(2, (jB v160))], [])
def f36n0S (a1 : ByteArray) : Tr × Hp := (initS [(jS a1)] 0 .leaf, [])
noncomputable def f36n0 (a1 : ByteArray) : Option f36n0O :=
  bif (decide ((a1.size : Int) < 1)) then
    some (.ret false)
  else
    bif (decide (40 < (a1.size : Int))) then
      some (.ret false)
    else
      (at? a1.data.toList 0).bind fun x11 =>
      (f59 (x11.toNat : Int)).bind fun x13 =>
      bif x13 then
        (f36n1 a1).bind fun o158 => match o158 with
        | .norm => some (.ret true)
        | .ret => some (.ret false)
      else
        some (.ret false)
theorem f36n0_ok (a1 : ByteArray) {o : f36n0O} (h : (f36n0 a1) = some o) : T Try.prog Try.f36.ntmps 0 c36 (f36n0S a1) (fun r => r = f36n0E a1 o) := by
  unfold f36n0 at h
  rcases cond_cases h with ⟨h9, h⟩ | ⟨h9, h⟩
  · obtain rfl := some_inj h
    exact rK cfg_ok 2 [j3, (jT [4, 5, 6], [(7, .bool true)], []), j3] [none] [] [] [2] .ret ((f36n0E a1 (.ret false)).2) (ap4 h9 an) rfl
  · rcases cond_cases h with ⟨h10, h⟩ | ⟨h10, h⟩
    · obtain rfl := some_inj h
      exact rK cfg_ok 2 [j3, (jF [4, 5, 6] ++ jT [9, 10, 11, 12], [(7, .bool false), (13, .bool true)], []), j3] [none] [] [] [2] .ret ((f36n0E a1 (.ret false)).2) (ap4 h9 (ap h10 (ap4 h10 an))) rfl
    · obtain ⟨x11, h12, h⟩ := bind_cases h
      obtain ⟨x13, h14, h⟩ := bind_cases h
      rcases cond_cases h with ⟨h15, h⟩ | ⟨h15, h⟩
      · refine rN cfg_ok 2 [j3, (jF [4, 5, 6, 9, 10, 11, 12], [(7, .bool false), (10, .byte (Int.toNat 0) x11), jH 11 (jB x13), (13, .bool false)], [])] [some false] [] [] [0] (f36n1S a1) (ap4 h9 (ap2 h10 (ap (at_some h12).1 (ap (at_some h12).2 (ap3 h10 (ap (f59_ok (x11.toNat : Int) h14) (ap (not_t h15) an))))))) ?_
        obtain ⟨o158, h159, h⟩ := bind_cases h
        cases o158 with
        | norm =>
          refine T.oneN (by kernel_rfl) (f36n1_ok a1 h159) (st2 := (f36n1E a1 .norm).2) rfl ?_
          obtain rfl := some_inj h
          exact rE cfg_ok [j3] [] [] [] [2] (.ret, (f36n0E a1 (.ret true)).2) an rfl
        | ret =>
          obtain rfl := some_inj h
          exact T.oneX' (by kernel_rfl) (f36n1_ok a1 h159) (tds := []) (m := []) (keep := [2]) (st2 := (f36n0E a1 (.ret false)).2) (by kernel_rfl) an rfl rfl
      · obtain rfl := some_inj h
        exact rK cfg_ok 2 [j3, (jF [4, 5, 6, 9, 10, 11, 12], [(7, .bool false), (10, .byte (Int.toNat 0) x11), jH 11 (jB x13), (13, .bool false)], []), j3] [some true] [] [] [2] .ret ((f36n0E a1 (.ret false)).2) (ap4 h9 (ap2 h10 (ap (at_some h12).1 (ap (at_some h12).2 (ap3 h10 (ap (f59_ok (x11.toNat : Int) h14) (ap (not_f h15) an))))))) rfl
noncomputable def f36 (a1 : ByteArray) : Option Bool := (f36n0 a1).bind fun o => match o with
  | .ret v160 => some v160
theorem f36_ok (a1 : ByteArray) {r : Bool} (h : (f36 a1) = some r) : CallS Try.prog false 36 [(jS a1)] [] (jB r) [] := by
  unfold f36 at h
  obtain ⟨o, ho, h⟩ := bind_cases h
  cases o with
  | ret v160 =>
    obtain rfl := some_inj h
    exact CallS.plain cfg_ok (f := Try.f36) (c := c36) (by kernel_rfl) (by kernel_rfl) (by kernel_rfl) (by kernel_rfl) ((f36n0_ok a1 ho).mono fun r e => by subst e; exact ⟨.inl rfl, (jB v160), (jB v160), by kernel_rfl, by kernel_rfl, ((Wk.refl _) : Wk (jB v160) (jB v160))⟩)

noncomputable def c57 : Code := Try.f57.body.getD .skip
inductive f57n1O where
  | norm (v68 : Bool)
def f57n1E (be1 : NettingFlow) : f57n1O → Ex × Tr × Hp
  | .norm v68 => (.norm, mkS [(1, (.bp 0 0)), (3, (jB v68))], [some (.box ((NettingFlow.cells be1).map .pl))])
def f57n1S (be1 : NettingFlow) : Tr × Hp := (mkS [(1, (.bp 0 0))], [some (.box ((NettingFlow.cells be1).map .pl))])
noncomputable def f57n1 (be1 : NettingFlow) : Option f57n1O :=
  bif (seq be1.Set str_x) then
    (f36 be1.Ccy).bind fun x47 =>
    bif x47 then
      (f36 be1.From).bind fun x50 =>
      bif x50 then
        (f36 be1.To).bind fun x53 =>
        bif x53 then
          some (.norm (!(seq be1.From be1.To)))
        else
          some (.norm false)
      else
        some (.norm false)
    else
      some (.norm false)
  else
    (f36 be1.Set).bind fun x56 =>
    bif x56 then
      (f36 be1.Ccy).bind fun x59 =>
      bif x59 then
        (f36 be1.From).bind fun x62 =>
        bif x62 then
          (f36 be1.To).bind fun x65 =>
          bif x65 then
            some (.norm (!(seq be1.From be1.To)))
          else
            some (.norm false)
        else
          some (.norm false)
      else
        some (.norm false)
    else
      some (.norm false)
theorem f57n1_ok (be1 : NettingFlow) {o : f57n1O} (h : (f57n1 be1) = some o) : T Try.prog Try.f57.ntmps 0 (cL (dropC 1 c57)) (f57n1S be1) (fun r => r = f57n1E be1 o) := by
  unfold f57n1 at h
  rcases cond_cases h with ⟨h46, h⟩ | ⟨h46, h⟩
  · obtain ⟨x47, h48, h⟩ := bind_cases h
    rcases cond_cases h with ⟨h49, h⟩ | ⟨h49, h⟩
    · obtain ⟨x50, h51, h⟩ := bind_cases h
      rcases cond_cases h with ⟨h52, h⟩ | ⟨h52, h⟩
      · obtain ⟨x53, h54, h⟩ := bind_cases h
        rcases cond_cases h with ⟨h55, h⟩ | ⟨h55, h⟩
        · obtain rfl := some_inj h
          exact rE cfg_ok [(jT [4, 5, 6, 14, 15, 16, 19, 20, 21, 24, 25, 26, 27, 28], [(7, .bool true), jH 11 (jB x47), jH 16 (jB x50), (17, .bool true), jH 21 (jB x53), (22, .bool true), (29, .bool true)], [])] [] [] [0] [1, 3] (.norm, (f57n1E be1 (.norm (!(seq be1.From be1.To)))).2) (ap4 h46 (ap4 h49 (ap4 h52 (ap2 h55 (ap4 h55 (ap (f36_ok be1.Ccy h48) (ap (f36_ok be1.From h51) (ap (f36_ok be1.To h54) an)))))))) rfl
        · obtain rfl := some_inj h
          exact rE cfg_ok [(jF [24, 25, 26, 27, 28] ++ jT [4, 5, 6, 14, 15, 16, 19, 20, 21], [(7, .bool true), jH 11 (jB x47), jH 16 (jB x50), (17, .bool true), jH 21 (jB x53), (22, .bool true), (29, .bool false)], [])] [] [] [0] [1, 3] (.norm, (f57n1E be1 (.norm false)).2) (ap4 h46 (ap4 h49 (ap4 h52 (ap2 h55 (ap4 h55 (ap (f36_ok be1.Ccy h48) (ap (f36_ok be1.From h51) (ap (f36_ok be1.To h54) an)))))))) rfl
      · obtain rfl := some_inj h
        exact rE cfg_ok [(jF [19, 20, 21] ++ jT [4, 5, 6, 14, 15, 16], [(7, .bool true), jH 11 (jB x47), jH 16 (jB x50), (17, .bool true), (22, .bool false)], [])] [] [] [0] [1, 3] (.norm, (f57n1E be1 (.norm false)).2) (ap4 h46 (ap4 h49 (ap4 h52 (ap (f36_ok be1.Ccy h48) (ap (f36_ok be1.From h51) an))))) rfl
    · obtain rfl := some_inj h
      exact rE cfg_ok [(jF [14, 15, 16] ++ jT [4, 5, 6], [(7, .bool true), jH 11 (jB x47), (17, .bool false)], [])] [] [] [0] [1, 3] (.norm, (f57n1E be1 (.norm false)).2) (ap4 h46 (ap4 h49 (ap (f36_ok be1.Ccy h48) an))) rfl
  · obtain ⟨x56, h57, h⟩ := bind_cases h
    rcases cond_cases h with ⟨h58, h⟩ | ⟨h58, h⟩
    · obtain ⟨x59, h60, h⟩ := bind_cases h
      rcases cond_cases h with ⟨h61, h⟩ | ⟨h61, h⟩
      · obtain ⟨x62, h63, h⟩ := bind_cases h
        rcases cond_cases h with ⟨h64, h⟩ | ⟨h64, h⟩
        · obtain ⟨x65, h66, h⟩ := bind_cases h
          rcases cond_cases h with ⟨h67, h⟩ | ⟨h67, h⟩
          · obtain rfl := some_inj h
            exact rE cfg_ok [(jF [4, 5, 6] ++ jT [9, 10, 11, 14, 15, 16, 19, 20, 21, 24, 25, 26, 27, 28], [jH 6 (jB x56), (7, .bool false), jH 11 (jB x59), (12, .bool true), jH 16 (jB x62), (17, .bool true), jH 21 (jB x65), (22, .bool true), (29, .bool true)], [])] [] [] [0] [1, 3] (.norm, (f57n1E be1 (.norm (!(seq be1.From be1.To)))).2) (ap4 h46 (ap4 h58 (ap4 h61 (ap4 h64 (ap2 h67 (ap4 h67 (ap (f36_ok be1.Set h57) (ap (f36_ok be1.Ccy h60) (ap (f36_ok be1.From h63) (ap (f36_ok be1.To h66) an)))))))))) rfl
          · obtain rfl := some_inj h
            exact rE cfg_ok [(jF [4, 5, 6, 24, 25, 26, 27, 28] ++ jT [9, 10, 11, 14, 15, 16, 19, 20, 21], [jH 6 (jB x56), (7, .bool false), jH 11 (jB x59), (12, .bool true), jH 16 (jB x62), (17, .bool true), jH 21 (jB x65), (22, .bool true), (29, .bool false)], [])] [] [] [0] [1, 3] (.norm, (f57n1E be1 (.norm false)).2) (ap4 h46 (ap4 h58 (ap4 h61 (ap4 h64 (ap2 h67 (ap4 h67 (ap (f36_ok be1.Set h57) (ap (f36_ok be1.Ccy h60) (ap (f36_ok be1.From h63) (ap (f36_ok be1.To h66) an)))))))))) rfl
        · obtain rfl := some_inj h
          exact rE cfg_ok [(jF [4, 5, 6, 19, 20, 21] ++ jT [9, 10, 11, 14, 15, 16], [jH 6 (jB x56), (7, .bool false), jH 11 (jB x59), (12, .bool true), jH 16 (jB x62), (17, .bool true), (22, .bool false)], [])] [] [] [0] [1, 3] (.norm, (f57n1E be1 (.norm false)).2) (ap4 h46 (ap4 h58 (ap4 h61 (ap4 h64 (ap (f36_ok be1.Set h57) (ap (f36_ok be1.Ccy h60) (ap (f36_ok be1.From h63) an))))))) rfl
      · obtain rfl := some_inj h
        exact rE cfg_ok [(jF [4, 5, 6, 14, 15, 16] ++ jT [9, 10, 11], [jH 6 (jB x56), (7, .bool false), jH 11 (jB x59), (12, .bool true), (17, .bool false)], [])] [] [] [0] [1, 3] (.norm, (f57n1E be1 (.norm false)).2) (ap4 h46 (ap4 h58 (ap4 h61 (ap (f36_ok be1.Set h57) (ap (f36_ok be1.Ccy h60) an))))) rfl
    · obtain rfl := some_inj h
      exact rE cfg_ok [(jF [4, 5, 6, 9, 10, 11], [jH 6 (jB x56), (7, .bool false), (12, .bool false)], [])] [] [] [0] [1, 3] (.norm, (f57n1E be1 (.norm false)).2) (ap4 h46 (ap4 h58 (ap (f36_ok be1.Set h57) an))) rfl
inductive f57n0O where
  | ret (v80 : Bool)
def f57n0E (a1 : NettingFlow) : f57n0O → Ex × Tr × Hp
  | .ret v80 => (.ret, mkS [(2, (jB v80))], [])
def f57n0S (a1 : NettingFlow) : Tr × Hp := (initS [(jA NettingFlow.cells a1)] 0 .leaf, [])
noncomputable def f57n0 (a1 : NettingFlow) : Option f57n0O :=
  (f57n1 a1).bind fun o69 => match o69 with
  | .norm v71 => bif v71 then
      bif (decide (0 ≤ a1.Date)) then
        bif (decide (a1.Date ≤ 99999)) then
          bif (decide (1 ≤ a1.Amount)) then
            some (.ret (decide (a1.Amount ≤ 1125899906842624)))
          else
            some (.ret false)
        else
          some (.ret false)
      else
        some (.ret false)
    else
      some (.ret false)
theorem f57n0_ok (a1 : NettingFlow) {o : f57n0O} (h : (f57n0 a1) = some o) : T Try.prog Try.f57.ntmps 0 c57 (f57n0S a1) (fun r => r = f57n0E a1 o) := by
  unfold f57n0 at h
  refine rN cfg_ok 1 [j3] [] [] [0] [1] (f57n1S a1) an ?_
  obtain ⟨o69, h70, h⟩ := bind_cases h
  cases o69 with
  | norm v71 =>
    refine T.oneN (by kernel_rfl) (f57n1_ok a1 h70) (st2 := (f57n1E a1 (.norm v71)).2) rfl ?_
    rcases cond_cases h with ⟨h76, h⟩ | ⟨h76, h⟩
    · rcases cond_cases h with ⟨h77, h⟩ | ⟨h77, h⟩
      · rcases cond_cases h with ⟨h78, h⟩ | ⟨h78, h⟩
        · rcases cond_cases h with ⟨h79, h⟩ | ⟨h79, h⟩
          · obtain rfl := some_inj h
            exact rE cfg_ok [(jT [2, 3, 4, 7, 8, 9, 12, 13, 14, 17, 18, 19], [(5, .bool true), (10, .bool true), (15, .bool true), (20, .bool true)], [])] [] [] [] [2] (.ret, (f57n0E a1 (.ret (decide (a1.Amount ≤ 1125899906842624)))).2) (ap4 h76 (ap4 h77 (ap4 h78 (ap4 h79 an)))) rfl
          · obtain rfl := some_inj h
            exact rE cfg_ok [(jF [17, 18, 19] ++ jT [2, 3, 4, 7, 8, 9, 12, 13, 14], [(5, .bool true), (10, .bool true), (15, .bool true), (20, .bool false)], [])] [] [] [] [2] (.ret, (f57n0E a1 (.ret false)).2) (ap4 h76 (ap4 h77 (ap4 h78 (ap4 h79 an)))) rfl
        · obtain rfl := some_inj h
          exact rE cfg_ok [(jF [12, 13, 14] ++ jT [2, 3, 4, 7, 8, 9], [(5, .bool true), (10, .bool true), (15, .bool false)], [])] [] [] [] [2] (.ret, (f57n0E a1 (.ret false)).2) (ap4 h76 (ap4 h77 (ap4 h78 an))) rfl
      · obtain rfl := some_inj h
        exact rE cfg_ok [(jF [7, 8, 9] ++ jT [2, 3, 4], [(5, .bool true), (10, .bool false)], [])] [] [] [] [2] (.ret, (f57n0E a1 (.ret false)).2) (ap4 h76 (ap4 h77 an)) rfl
    · obtain rfl := some_inj h
      exact rE cfg_ok [(jF [2, 3, 4], [(5, .bool false)], [])] [] [] [] [2] (.ret, (f57n0E a1 (.ret false)).2) (ap4 h76 an) rfl
noncomputable def f57 (a1 : NettingFlow) : Option Bool := (f57n0 a1).bind fun o => match o with
  | .ret v80 => some v80
theorem f57_ok (a1 : NettingFlow) {r : Bool} (h : (f57 a1) = some r) : CallS Try.prog false 57 [(jA NettingFlow.cells a1)] [] (jB r) [] := by
  unfold f57 at h
  obtain ⟨o, ho, h⟩ := bind_cases h
  cases o with
  | ret v80 =>
    obtain rfl := some_inj h
    exact CallS.plain cfg_ok (f := Try.f57) (c := c57) (by kernel_rfl) (by kernel_rfl) (by kernel_rfl) (by kernel_rfl) ((f57n0_ok a1 ho).mono fun r e => by subst e; exact ⟨.inl rfl, (jB v80), (jB v80), by kernel_rfl, by kernel_rfl, ((Wk.refl _) : Wk (jB v80) (jB v80))⟩)

noncomputable def c56 : Code := Try.f56.body.getD .skip
inductive f56n0O where
  | ret (v6 : Bool)
def f56n0E (a1 : NettingFlow) : f56n0O → Ex × Tr × Hp
  | .ret v6 => (.ret, mkS [(2, (jB v6))], [])
def f56n0S (a1 : NettingFlow) : Tr × Hp := (initS [(jA NettingFlow.cells a1)] 0 .leaf, [])
noncomputable def f56n0 (a1 : NettingFlow) : Option f56n0O :=
  (f57 a1).bind fun x4 =>
  some (.ret (!x4))
theorem f56n0_ok (a1 : NettingFlow) {o : f56n0O} (h : (f56n0 a1) = some o) : T Try.prog Try.f56.ntmps 0 c56 (f56n0S a1) (fun r => r = f56n0E a1 o) := by
  unfold f56n0 at h
  obtain ⟨x4, h5, h⟩ := bind_cases h
  obtain rfl := some_inj h
  exact rE cfg_ok [j3, ([], [jH 1 (jB x4)], [])] [] [] [] [2] (.ret, (f56n0E a1 (.ret (!x4))).2) (ap (f57_ok a1 h5) an) rfl
noncomputable def f56 (a1 : NettingFlow) : Option Bool := (f56n0 a1).bind fun o => match o with
  | .ret v6 => some v6
theorem f56_ok (a1 : NettingFlow) {r : Bool} (h : (f56 a1) = some r) : CallS Try.prog false 56 [(jA NettingFlow.cells a1)] [] (jB r) [] := by
  unfold f56 at h
  obtain ⟨o, ho, h⟩ := bind_cases h
  cases o with
  | ret v6 =>
    obtain rfl := some_inj h
    exact CallS.plain cfg_ok (f := Try.f56) (c := c56) (by kernel_rfl) (by kernel_rfl) (by kernel_rfl) (by kernel_rfl) ((f56n0_ok a1 ho).mono fun r e => by subst e; exact ⟨.inl rfl, (jB v6), (jB v6), by kernel_rfl, by kernel_rfl, ((Wk.refl _) : Wk (jB v6) (jB v6))⟩)

noncomputable def c70 : Code := Try.f70.body.getD .skip
inductive f70_56n2O where
  | exit0
  | ret (v40 : Int)
def f70_56n2E (ba1 : List NettingFlow) : f70_56n2O → Ex × Tr × Hp
  | .exit0 => ((.exit 0), mkS [], [])
  | .ret v40 => (.ret, mkS [(4, (jI v40))], [])
def f70_56n2S (ba1 : List NettingFlow) (v27 : Int) : Tr × Hp := (mkS [(0, (jL 6 NettingFlow.cells ba1)), (1, (.pl (.fn 56))), (7, (jI (ba1.length : Int))), (8, (jI v27))], [])
noncomputable def f70_56n2 : Nat → List NettingFlow → Int → Option f70_56n2O
  | 0, _, _ => none
  | f + 1, ba1, v27 =>
    bif (decide (v27 < (ba1.length : Int))) then
      (at? ba1 v27).bind fun x35 =>
      (f56 x35).bind fun x37 =>
      bif x37 then
        some (.ret v27)
      else
        (f70_56n2 f ba1 (wr64 (v27 + 1)))
    else
      some .exit0
theorem f70_56n2_ok : ∀ (f : Nat) (ba1 : List NettingFlow) (v27 : Int) {o : f70_56n2O}, (f70_56n2 f ba1 v27) = some o → TL Try.prog Try.f70.ntmps 0 f (cL (cL (dropC 1 (cL (dropC 1 c70))))) (f70_56n2S ba1 v27) (fun r => r = f70_56n2E ba1 o)
  | 0, _, _, o, h => by rw [f70_56n2] at h; cases h
  | f + 1, ba1, v27, o, h => by
    rw [f70_56n2] at h
    refine TL.body (K := fun s => ∃ v27 : Int, s = (f70_56n2S ba1 v27) ∧ (f70_56n2 f ba1 v27) = some o) ?_ (by rintro _ ⟨v27, rfl, hk⟩; exact f70_56n2_ok f _ _ hk)
    rcases cond_cases h with ⟨h29, h⟩ | ⟨h29, h⟩
    · obtain ⟨x35, h36, h⟩ := bind_cases h
      obtain ⟨x37, h38, h⟩ := bind_cases h
      rcases cond_cases h with ⟨h39, h⟩ | ⟨h39, h⟩
      · obtain rfl := some_inj h
        exact rK cfg_ok 3 [j3, j3, ([], [(3, .idx (Int.toNat v27) (NettingFlow.cells x35)), jH 5 (jB x37)], []), j3] [some true, some true] [] [] [4] .ret ((f70_56n2E ba1 (.ret v27)).2) (ap h29 (ap (at_some h36).1 (ap (at_map NettingFlow.cells (at_some h36).2) (ap (f56_ok x35 h38) (ap h39 an))))) (LoopQ.out rfl rfl)
      · exact rE cfg_ok [j3, j3, ([], [(3, .idx (Int.toNat v27) (NettingFlow.cells x35)), jH 5 (jB x37)], []), j3] [some true, some false] [] [] [0, 1, 7, 8] (.norm, (f70_56n2S ba1 (wr64 (v27 + 1)))) (ap h29 (ap (at_some h36).1 (ap (at_map NettingFlow.cells (at_some h36).2) (ap (f56_ok x35 h38) (ap h39 an))))) (LoopQ.norm ⟨(wr64 (v27 + 1)), rfl, h⟩)
    · obtain rfl := some_inj h
      exact rK cfg_ok 2 [j3] [some false] [] [] [] (.exit 0) ((f70_56n2E ba1 .exit0).2) (ap h29 an) (LoopQ.out rfl rfl)
noncomputable def f70_56n2L (ba1 : List NettingFlow) : List NettingFlow → Int → Option f70_56n2O
  | [], v27 =>
    some .exit0
  | x0 :: rest, v27 =>
    (f56 x0).bind fun x37 =>
    bif x37 then
      some (.ret v27)
    else
      (f70_56n2L ba1 rest (v27 + 1))
theorem f70_56n2L_eq (ba1 : List NettingFlow) : ∀ (rest : List NettingFlow) (f k : Nat), ba1.drop k = rest → ba1.length ≤ maxLen → rest.length < f → f70_56n2 f ba1 (k : Int) = f70_56n2L ba1 rest (k : Int)
  | _, 0, _, _, _, hf => absurd hf (Nat.not_lt_zero _)
  | [], f + 1, k, hd, hm, hf => by
    have hk : ¬ ((k : Int) < (ba1.length : Int)) := by have := drop_nil hd; omega
    rw [f70_56n2, f70_56n2L]
    simp only [decide_eq_false hk, cond_false]
  | x0 :: rest, f + 1, k, hd, hm, hf => by
    obtain ⟨hx, hlt, hd'⟩ := drop_cons hd
    have hk : (k : Int) < (ba1.length : Int) := by omega
    have hw : wr64 ((k : Int) + 1) = (k : Int) + 1 := wr64_of (by omega) (by unfold maxLen at hm; omega)
    have ih : f70_56n2 f ba1 ((k : Int) + 1) = f70_56n2L ba1 rest ((k : Int) + 1) := f70_56n2L_eq ba1 rest f (k + 1) hd' hm (by simpa using hf)
    rw [f70_56n2, f70_56n2L]
    simp only [decide_eq_true hk, cond_true, at_nat, hx, Option.bind_some, hw, ih]
theorem f70_56n2_run (ba1 : List NettingFlow) (hm : ba1.length ≤ maxLen) : f70_56n2 FUEL ba1 0 = f70_56n2L ba1 ba1 0 := f70_56n2L_eq ba1 ba1 FUEL 0 List.drop_zero hm (lt_FUEL hm)
inductive f70_56n1O where
  | norm
  | ret (v44 : Int)
def f70_56n1E (ba1 : List NettingFlow) : f70_56n1O → Ex × Tr × Hp
  | .norm => (.norm, mkS [], [])
  | .ret v44 => (.ret, mkS [(4, (jI v44))], [])
def f70_56n1S (ba1 : List NettingFlow) : Tr × Hp := (mkS [(0, (jL 6 NettingFlow.cells ba1)), (1, (.pl (.fn 56)))], [])
noncomputable def f70_56n1 (ba1 : List NettingFlow) : Option f70_56n1O :=
  (f70_56n2 FUEL ba1 0).bind fun o41 => match o41 with
  | .exit0 => some .norm
  | .ret v43 => some (.ret v43)
theorem f70_56n1_ok (ba1 : List NettingFlow) {o : f70_56n1O} (h : (f70_56n1 ba1) = some o) : T Try.prog Try.f70.ntmps 0 (cL (dropC 1 c70)) (f70_56n1S ba1) (fun r => r = f70_56n1E ba1 o) := by
  unfold f70_56n1 at h
  refine rN cfg_ok 1 [([], [], [(1, .val (jI (ba1.length : Int)))])] [] [] [] [0, 1, 7, 8] (f70_56n2S ba1 0) (ap (len_cv (xs := ba1) (c := NettingFlow.cells)) an) ?_
  obtain ⟨o41, h42, h⟩ := bind_cases h
  cases o41 with
  | exit0 =>
    obtain rfl := some_inj h
    exact T.last' (T.bl (i := 0) (by kernel_rfl) (by kernel_rfl) (f70_56n2_ok FUEL ba1 0 h42)) (tds := []) (m := []) (keep := []) (st2 := (f70_56n1E ba1 .norm).2) (by kernel_rfl) an rfl
  | ret v43 =>
    obtain rfl := some_inj h
    exact T.last' (T.bl (i := 0) (by kernel_rfl) (by kernel_rfl) (f70_56n2_ok FUEL ba1 0 h42)) (tds := []) (m := []) (keep := [4]) (st2 := (f70_56n1E ba1 (.ret v43)).2) (by kernel_rfl) an rfl
inductive f70_56n0O where
  | ret (v48 : Int)
def f70_56n0E (a1 : List NettingFlow) : f70_56n0O → Ex × Tr × Hp
  | .ret v48 => (.ret, mkS [(4, (jI v48))], [])
def f70_56n0S (a1 : List NettingFlow) : Tr × Hp := (initS [(jL 6 NettingFlow.cells a1), (.pl (.fn 56))] 0 .leaf, [])
noncomputable def f70_56n0 (a1 : List NettingFlow) : Option f70_56n0O :=
  (f70_56n1 a1).bind fun o45 => match o45 with
  | .norm => some (.ret (-1))
  | .ret v47 => some (.ret v47)
theorem f70_56n0_ok (a1 : List NettingFlow) {o : f70_56n0O} (h : (f70_56n0 a1) = some o) : T Try.prog Try.f70.ntmps 0 c70 (f70_56n0S a1) (fun r => r = f70_56n0E a1 o) := by
  unfold f70_56n0 at h
  refine rN cfg_ok 1 [j3] [] [] [] [0, 1] (f70_56n1S a1) an ?_
  obtain ⟨o45, h46, h⟩ := bind_cases h
  cases o45 with
  | norm =>
    refine T.oneN (by kernel_rfl) (f70_56n1_ok a1 h46) (st2 := (f70_56n1E a1 .norm).2) rfl ?_
    obtain rfl := some_inj h
    exact rE cfg_ok [j3] [] [] [] [4] (.ret, (f70_56n0E a1 (.ret (-1))).2) an rfl
  | ret v47 =>
    obtain rfl := some_inj h
    exact T.oneX' (by kernel_rfl) (f70_56n1_ok a1 h46) (tds := []) (m := []) (keep := [4]) (st2 := (f70_56n0E a1 (.ret v47)).2) (by kernel_rfl) an rfl rfl
noncomputable def f70_56 (a1 : List NettingFlow) : Option Int := (f70_56n0 a1).bind fun o => match o with
  | .ret v48 => some v48
theorem f70_56_ok (a1 : List NettingFlow) {r : Int} (h : (f70_56 a1) = some r) : CallS Try.prog false 70 [(jL 6 NettingFlow.cells a1), (.pl (.fn 56))] [] (jI r) [] := by
  unfold f70_56 at h
  obtain ⟨o, ho, h⟩ := bind_cases h
  cases o with
  | ret v48 =>
    obtain rfl := some_inj h
    exact CallS.plain cfg_ok (f := Try.f70) (c := c70) (by kernel_rfl) (by kernel_rfl) (by kernel_rfl) (by kernel_rfl) ((f70_56n0_ok a1 ho).mono fun r e => by subst e; exact ⟨.inl rfl, (jI v48), (jI v48), by kernel_rfl, by kernel_rfl, ((Wk.refl _) : Wk (jI v48) (jI v48))⟩)

noncomputable def c58 : Code := Try.f58.body.getD .skip
inductive f58_56n0O where
  | ret (v6 : Bool)
def f58_56n0E (a1 : List NettingFlow) : f58_56n0O → Ex × Tr × Hp
  | .ret v6 => (.ret, mkS [(4, (jB v6))], [])
def f58_56n0S (a1 : List NettingFlow) : Tr × Hp := (initS [(jL 6 NettingFlow.cells a1), (.pl (.fn 56))] 0 .leaf, [])
noncomputable def f58_56n0 (a1 : List NettingFlow) : Option f58_56n0O :=
  (f70_56 a1).bind fun x4 =>
  some (.ret (decide (0 ≤ x4)))
theorem f58_56n0_ok (a1 : List NettingFlow) {o : f58_56n0O} (h : (f58_56n0 a1) = some o) : T Try.prog Try.f58.ntmps 0 c58 (f58_56n0S a1) (fun r => r = f58_56n0E a1 o) := by
  unfold f58_56n0 at h
  obtain ⟨x4, h5, h⟩ := bind_cases h
  obtain rfl := some_inj h
  exact rE cfg_ok [j3, ([], [jH 2 (jI x4)], [])] [] [] [] [4] (.ret, (f58_56n0E a1 (.ret (decide (0 ≤ x4)))).2) (ap (f70_56_ok a1 h5) an) rfl
noncomputable def f58_56 (a1 : List NettingFlow) : Option Bool := (f58_56n0 a1).bind fun o => match o with
  | .ret v6 => some v6
theorem f58_56_ok (a1 : List NettingFlow) {r : Bool} (h : (f58_56 a1) = some r) : CallS Try.prog false 58 [(jL 6 NettingFlow.cells a1), (.pl (.fn 56))] [] (jB r) [] := by
  unfold f58_56 at h
  obtain ⟨o, ho, h⟩ := bind_cases h
  cases o with
  | ret v6 =>
    obtain rfl := some_inj h
    exact CallS.plain cfg_ok (f := Try.f58) (c := c58) (by kernel_rfl) (by kernel_rfl) (by kernel_rfl) (by kernel_rfl) ((f58_56n0_ok a1 ho).mono fun r e => by subst e; exact ⟨.inl rfl, (jB v6), (jB v6), by kernel_rfl, by kernel_rfl, ((Wk.refl _) : Wk (jB v6) (jB v6))⟩)

noncomputable def c35 : Code := Try.f35.body.getD .skip
inductive f35n0O where
  | ret (v10 : Int)
def f35n0E (a1 : List NettingFlow) : f35n0O → Ex × Tr × Hp
  | .ret v10 => (.ret, mkS [(2, (jI v10))], [])
def f35n0S (a1 : List NettingFlow) : Tr × Hp := (initS [(jL 6 NettingFlow.cells a1)] 0 .leaf, [])
noncomputable def f35n0 (a1 : List NettingFlow) : Option f35n0O :=
  bif (decide (500 < (a1.length : Int))) then
    some (.ret 8)
  else
    (f58_56 a1).bind fun x7 =>
    bif x7 then
      some (.ret 8)
    else
      some (.ret 0)
theorem f35n0_ok (a1 : List NettingFlow) {o : f35n0O} (h : (f35n0 a1) = some o) : T Try.prog Try.f35.ntmps 0 c35 (f35n0S a1) (fun r => r = f35n0E a1 o) := by
  unfold f35n0 at h
  rcases cond_cases h with ⟨h6, h⟩ | ⟨h6, h⟩
  · obtain rfl := some_inj h
    exact rK cfg_ok 3 [j3, j3, (jT [4, 5, 6], [(7, .bool true)], [(1, .val (jI (a1.length : Int)))]), j3] [none] [] [] [2] .ret ((f35n0E a1 (.ret 8)).2) (ap (len_cv (xs := a1) (c := NettingFlow.cells)) (ap4 h6 an)) rfl
  · obtain ⟨x7, h8, h⟩ := bind_cases h
    rcases cond_cases h with ⟨h9, h⟩ | ⟨h9, h⟩
    · obtain rfl := some_inj h
      exact rK cfg_ok 3 [j3, j3, (jF [4, 5, 6], [jH 6 (jB x7), (7, .bool false)], [(1, .val (jI (a1.length : Int)))]), j3] [some true] [] [] [2] .ret ((f35n0E a1 (.ret 8)).2) (ap (len_cv (xs := a1) (c := NettingFlow.cells)) (ap4 h6 (ap (f58_56_ok a1 h8) (ap h9 an)))) rfl
    · obtain rfl := some_inj h
      exact rE cfg_ok [j3, j3, (jF [4, 5, 6], [jH 6 (jB x7), (7, .bool false)], [(1, .val (jI (a1.length : Int)))]), j3] [some false] [] [] [2] (.ret, (f35n0E a1 (.ret 0)).2) (ap (len_cv (xs := a1) (c := NettingFlow.cells)) (ap4 h6 (ap (f58_56_ok a1 h8) (ap h9 an)))) rfl
noncomputable def f35 (a1 : List NettingFlow) : Option Int := (f35n0 a1).bind fun o => match o with
  | .ret v10 => some v10
theorem f35_ok (a1 : List NettingFlow) {r : Int} (h : (f35 a1) = some r) : CallS Try.prog false 35 [(jL 6 NettingFlow.cells a1)] [] (jI r) [] := by
  unfold f35 at h
  obtain ⟨o, ho, h⟩ := bind_cases h
  cases o with
  | ret v10 =>
    obtain rfl := some_inj h
    exact CallS.plain cfg_ok (f := Try.f35) (c := c35) (by kernel_rfl) (by kernel_rfl) (by kernel_rfl) (by kernel_rfl) ((f35n0_ok a1 ho).mono fun r e => by subst e; exact ⟨.inl rfl, (jI v10), (jI v10), by kernel_rfl, by kernel_rfl, ((Wk.refl _) : Wk (jI v10) (jI v10))⟩)

noncomputable def c37 : Code := Try.f37.body.getD .skip
inductive f37n0O where
  | ret (v7 : NettingFlow)
def f37n0E (a1 : Key_) (a2 : ByteArray) (a3 : ByteArray) (a4 : Int) : f37n0O → Ex × Tr × Hp
  | .ret v7 => (.ret, mkS [(8, (.bp 0 0)), (9, (.pl (.bool (!(decide (a4 = 0))))))], [some (.box ((NettingFlow.cells v7).map .pl))])
def f37n0S (a1 : Key_) (a2 : ByteArray) (a3 : ByteArray) (a4 : Int) : Tr × Hp := (initS [(jA Key_.cells a1), (jS a2), (jS a3), (jI a4)] 0 .leaf, [])
noncomputable def f37n0 (a1 : Key_) (a2 : ByteArray) (a3 : ByteArray) (a4 : Int) : Option f37n0O :=
  bif (decide (a4 < 0)) then
    some (.ret (NettingFlow.mk a1.date a1.set a1.ccy a3 a2 (wr64 (0 - a4))))
  else
    some (.ret (NettingFlow.mk a1.date a1.set a1.ccy a2 a3 a4))
theorem f37n0_ok (a1 : Key_) (a2 : ByteArray) (a3 : ByteArray) (a4 : Int) {o : f37n0O} (h : (f37n0 a1 a2 a3 a4) = some o) : T Try.prog Try.f37.ntmps 0 c37 (f37n0S a1 a2 a3 a4) (fun r => r = f37n0E a1 a2 a3 a4 o) := by
  unfold f37n0 at h
  rcases cond_cases h with ⟨h6, h⟩ | ⟨h6, h⟩
  · obtain rfl := some_inj h
    exact rE cfg_ok [j3, j3, j3, j3, j3] [some true] [] [1] [8, 9] (.ret, (f37n0E a1 a2 a3 a4 (.ret (NettingFlow.mk a1.date a1.set a1.ccy a3 a2 (wr64 (0 - a4))))).2) (ap h6 an) rfl
  · obtain rfl := some_inj h
    exact rE cfg_ok [j3, j3, j3, j3] [some false] [] [1] [8, 9] (.ret, (f37n0E a1 a2 a3 a4 (.ret (NettingFlow.mk a1.date a1.set a1.ccy a2 a3 a4))).2) (ap h6 an) rfl
noncomputable def f37 (a1 : Key_) (a2 : ByteArray) (a3 : ByteArray) (a4 : Int) : Option (NettingFlow × Bool) := (f37n0 a1 a2 a3 a4).bind fun o => match o with
  | .ret v7 => some (v7, (!(decide (a4 = 0))))
theorem f37_ok (a1 : Key_) (a2 : ByteArray) (a3 : ByteArray) (a4 : Int) {r : NettingFlow × Bool} (h : (f37 a1 a2 a3 a4) = some r) : CallS Try.prog false 37 [(jA Key_.cells a1), (jS a2), (jS a3), (jI a4)] [] (.tup [(jA NettingFlow.cells r.1), (jB r.2)]) [] := by
  unfold f37 at h
  obtain ⟨o, ho, h⟩ := bind_cases h
  cases o with
  | ret v7 =>
    obtain rfl := some_inj h
    exact CallS.plain cfg_ok (f := Try.f37) (c := c37) (by kernel_rfl) (by kernel_rfl) (by kernel_rfl) (by kernel_rfl) ((f37n0_ok a1 a2 a3 a4 ho).mono fun r e => by subst e; exact ⟨.inl rfl, (.tup [(jA NettingFlow.cells v7), (.pl (.bool (!(decide (a4 = 0)))))]), (.tup [(jA NettingFlow.cells v7), (.pl (.bool (!(decide (a4 = 0)))))]), by kernel_rfl, by kernel_rfl, ((Wk.refl _) : Wk (.tup [(jA NettingFlow.cells v7), (.pl (.bool (!(decide (a4 = 0)))))]) (.tup [(jA NettingFlow.cells v7), (.pl (.bool (!(decide (a4 = 0)))))]))⟩)

noncomputable def c62 : Code := Try.f62.body.getD .skip
inductive f62n0O where
  | ret
def f62n0E (a1 : Int) : f62n0O → Ex × Tr × Hp
  | .ret => (.ret, mkS [(2, (.pl (.bool (!(decide (a1 = a1))))))], [])
def f62n0S (a1 : Int) : Tr × Hp := (initS [(jI a1)] 0 .leaf, [])
noncomputable def f62n0 (a1 : Int) : Option f62n0O :=
  some .ret
theorem f62n0_ok (a1 : Int) {o : f62n0O} (h : (f62n0 a1) = some o) : T Try.prog Try.f62.ntmps 0 c62 (f62n0S a1) (fun r => r = f62n0E a1 o) := by
  unfold f62n0 at h
  obtain rfl := some_inj h
  exact rE cfg_ok [j3, j3] [] [] [] [2] (.ret, (f62n0E a1 .ret).2) an rfl
noncomputable def f62 (a1 : Int) : Option Bool := (f62n0 a1).bind fun o => match o with
  | .ret => some (!(decide (a1 = a1)))
theorem f62_ok (a1 : Int) {r : Bool} (h : (f62 a1) = some r) : CallS Try.prog false 62 [(jI a1)] [] (jB r) [] := by
  unfold f62 at h
  obtain ⟨o, ho, h⟩ := bind_cases h
  cases o with
  | ret =>
    obtain rfl := some_inj h
    exact CallS.plain cfg_ok (f := Try.f62) (c := c62) (by kernel_rfl) (by kernel_rfl) (by kernel_rfl) (by kernel_rfl) ((f62n0_ok a1 ho).mono fun r e => by subst e; exact ⟨.inl rfl, (.pl (.bool (!(decide (a1 = a1))))), (.pl (.bool (!(decide (a1 = a1))))), by kernel_rfl, by kernel_rfl, ((Wk.refl _) : Wk (.pl (.bool (!(decide (a1 = a1))))) (.pl (.bool (!(decide (a1 = a1))))))⟩)

noncomputable def c41 : Code := Try.f41.body.getD .skip
inductive f41n0O where
  | ret (v21 : Int)
def f41n0E (a1 : Int) (a2 : Int) : f41n0O → Ex × Tr × Hp
  | .ret v21 => (.ret, mkS [(4, (jI v21))], [])
def f41n0S (a1 : Int) (a2 : Int) : Tr × Hp := (initS [(jI a1), (jI a2)] 0 .leaf, [])
noncomputable def f41n0 (a1 : Int) (a2 : Int) : Option f41n0O :=
  (f62 a1).bind fun x5 =>
  (f62 a2).bind fun x9 =>
  bif x5 then
    bif x9 then
      some (.ret 0)
    else
      some (.ret (-1))
  else
    bif x9 then
      some (.ret 1)
    else
      bif (decide (a1 < a2)) then
        some (.ret (-1))
      else
        bif (decide (a2 < a1)) then
          some (.ret 1)
        else
          some (.ret 0)
theorem f41n0_ok (a1 : Int) (a2 : Int) {o : f41n0O} (h : (f41n0 a1 a2) = some o) : T Try.prog Try.f41.ntmps 0 c41 (f41n0S a1 a2) (fun r => r = f41n0E a1 a2 o) := by
  unfold f41n0 at h
  obtain ⟨x5, h6, h⟩ := bind_cases h
  obtain ⟨x9, h10, h⟩ := bind_cases h
  rcases cond_cases h with ⟨h13, h⟩ | ⟨h13, h⟩
  · rcases cond_cases h with ⟨h14, h⟩ | ⟨h14, h⟩
    · obtain rfl := some_inj h
      exact rK cfg_ok 4 [j3, ([], [jH 1 (jB x5)], []), ([], [jH 1 (jB x9)], []), j3, j3, j3] [some true, some true] [] [] [4] .ret ((f41n0E a1 a2 (.ret 0)).2) (ap (f62_ok a1 h6) (ap (f62_ok a2 h10) (ap h13 (ap h14 an)))) rfl
    · obtain rfl := some_inj h
      exact rK cfg_ok 4 [j3, ([], [jH 1 (jB x5)], []), ([], [jH 1 (jB x9)], []), j3, j3, j3] [some true, some false] [] [] [4] .ret ((f41n0E a1 a2 (.ret (-1))).2) (ap (f62_ok a1 h6) (ap (f62_ok a2 h10) (ap h13 (ap h14 an)))) rfl
  · rcases cond_cases h with ⟨h16, h⟩ | ⟨h16, h⟩
    · obtain rfl := some_inj h
      exact rK cfg_ok 5 [j3, ([], [jH 1 (jB x5)], []), ([], [jH 1 (jB x9)], []), j3, j3, j3] [some false, some true] [] [] [4] .ret ((f41n0E a1 a2 (.ret 1)).2) (ap (f62_ok a1 h6) (ap (f62_ok a2 h10) (ap h13 (ap h16 an)))) rfl
    · rcases cond_cases h with ⟨h18, h⟩ | ⟨h18, h⟩
      · obtain rfl := some_inj h
        exact rK cfg_ok 6 [j3, ([], [jH 1 (jB x5)], []), ([], [jH 1 (jB x9)], []), j3, j3, j3, j3] [some false, some false, some true] [] [] [4] .ret ((f41n0E a1 a2 (.ret (-1))).2) (ap (f62_ok a1 h6) (ap (f62_ok a2 h10) (ap h13 (ap h16 (ap h18 an))))) rfl
      · rcases cond_cases h with ⟨h20, h⟩ | ⟨h20, h⟩
        · obtain rfl := some_inj h
          exact rK cfg_ok 7 [j3, ([], [jH 1 (jB x5)], []), ([], [jH 1 (jB x9)], []), j3, j3, j3, j3, j3] [some false, some false, some false, some true] [] [] [4] .ret ((f41n0E a1 a2 (.ret 1)).2) (ap (f62_ok a1 h6) (ap (f62_ok a2 h10) (ap h13 (ap h16 (ap h18 (ap h20 an)))))) rfl
        · obtain rfl := some_inj h
          exact rE cfg_ok [j3, ([], [jH 1 (jB x5)], []), ([], [jH 1 (jB x9)], []), j3, j3, j3, j3, j3] [some false, some false, some false, some false] [] [] [4] (.ret, (f41n0E a1 a2 (.ret 0)).2) (ap (f62_ok a1 h6) (ap (f62_ok a2 h10) (ap h13 (ap h16 (ap h18 (ap h20 an)))))) rfl
noncomputable def f41 (a1 : Int) (a2 : Int) : Option Int := (f41n0 a1 a2).bind fun o => match o with
  | .ret v21 => some v21
theorem f41_ok (a1 : Int) (a2 : Int) {r : Int} (h : (f41 a1 a2) = some r) : CallS Try.prog false 41 [(jI a1), (jI a2)] [] (jI r) [] := by
  unfold f41 at h
  obtain ⟨o, ho, h⟩ := bind_cases h
  cases o with
  | ret v21 =>
    obtain rfl := some_inj h
    exact CallS.plain cfg_ok (f := Try.f41) (c := c41) (by kernel_rfl) (by kernel_rfl) (by kernel_rfl) (by kernel_rfl) ((f41n0_ok a1 a2 ho).mono fun r e => by subst e; exact ⟨.inl rfl, (jI v21), (jI v21), by kernel_rfl, by kernel_rfl, ((Wk.refl _) : Wk (jI v21) (jI v21))⟩)

noncomputable def c63 : Code := Try.f63.body.getD .skip
inductive f63n0O where
  | ret
def f63n0E (a1 : ByteArray) : f63n0O → Ex × Tr × Hp
  | .ret => (.ret, mkS [(2, (.pl (.bool (!(seq a1 a1)))))], [])
def f63n0S (a1 : ByteArray) : Tr × Hp := (initS [(jS a1)] 0 .leaf, [])
noncomputable def f63n0 (a1 : ByteArray) : Option f63n0O :=
  some .ret
theorem f63n0_ok (a1 : ByteArray) {o : f63n0O} (h : (f63n0 a1) = some o) : T Try.prog Try.f63.ntmps 0 c63 (f63n0S a1) (fun r => r = f63n0E a1 o) := by
  unfold f63n0 at h
  obtain rfl := some_inj h
  exact rE cfg_ok [j3, j3] [] [] [] [2] (.ret, (f63n0E a1 .ret).2) an rfl
noncomputable def f63 (a1 : ByteArray) : Option Bool := (f63n0 a1).bind fun o => match o with
  | .ret => some (!(seq a1 a1))
theorem f63_ok (a1 : ByteArray) {r : Bool} (h : (f63 a1) = some r) : CallS Try.prog false 63 [(jS a1)] [] (jB r) [] := by
  unfold f63 at h
  obtain ⟨o, ho, h⟩ := bind_cases h
  cases o with
  | ret =>
    obtain rfl := some_inj h
    exact CallS.plain cfg_ok (f := Try.f63) (c := c63) (by kernel_rfl) (by kernel_rfl) (by kernel_rfl) (by kernel_rfl) ((f63n0_ok a1 ho).mono fun r e => by subst e; exact ⟨.inl rfl, (.pl (.bool (!(seq a1 a1)))), (.pl (.bool (!(seq a1 a1)))), by kernel_rfl, by kernel_rfl, ((Wk.refl _) : Wk (.pl (.bool (!(seq a1 a1)))) (.pl (.bool (!(seq a1 a1)))))⟩)

noncomputable def c42 : Code := Try.f42.body.getD .skip
inductive f42n0O where
  | ret (v21 : Int)
def f42n0E (a1 : ByteArray) (a2 : ByteArray) : f42n0O → Ex × Tr × Hp
  | .ret v21 => (.ret, mkS [(4, (jI v21))], [])
def f42n0S (a1 : ByteArray) (a2 : ByteArray) : Tr × Hp := (initS [(jS a1), (jS a2)] 0 .leaf, [])
noncomputable def f42n0 (a1 : ByteArray) (a2 : ByteArray) : Option f42n0O :=
  (f63 a1).bind fun x5 =>
  (f63 a2).bind fun x9 =>
  bif x5 then
    bif x9 then
      some (.ret 0)
    else
      some (.ret (-1))
  else
    bif x9 then
      some (.ret 1)
    else
      bif (slt a1 a2) then
        some (.ret (-1))
      else
        bif (slt a1 a2 || seq a1 a2) then
          some (.ret 0)
        else
          some (.ret 1)
theorem f42n0_ok (a1 : ByteArray) (a2 : ByteArray) {o : f42n0O} (h : (f42n0 a1 a2) = some o) : T Try.prog Try.f42.ntmps 0 c42 (f42n0S a1 a2) (fun r => r = f42n0E a1 a2 o) := by
  unfold f42n0 at h
  obtain ⟨x5, h6, h⟩ := bind_cases h
  obtain ⟨x9, h10, h⟩ := bind_cases h
  rcases cond_cases h with ⟨h13, h⟩ | ⟨h13, h⟩
  · rcases cond_cases h with ⟨h14, h⟩ | ⟨h14, h⟩
    · obtain rfl := some_inj h
      exact rK cfg_ok 4 [j3, ([], [jH 1 (jB x5)], []), ([], [jH 1 (jB x9)], []), j3, j3, j3] [some true, some true] [] [] [4] .ret ((f42n0E a1 a2 (.ret 0)).2) (ap (f63_ok a1 h6) (ap (f63_ok a2 h10) (ap h13 (ap h14 an)))) rfl
    · obtain rfl := some_inj h
      exact rK cfg_ok 4 [j3, ([], [jH 1 (jB x5)], []), ([], [jH 1 (jB x9)], []), j3, j3, j3] [some true, some false] [] [] [4] .ret ((f42n0E a1 a2 (.ret (-1))).2) (ap (f63_ok a1 h6) (ap (f63_ok a2 h10) (ap h13 (ap h14 an)))) rfl
  · rcases cond_cases h with ⟨h16, h⟩ | ⟨h16, h⟩
    · obtain rfl := some_inj h
      exact rK cfg_ok 5 [j3, ([], [jH 1 (jB x5)], []), ([], [jH 1 (jB x9)], []), j3, j3, j3] [some false, some true] [] [] [4] .ret ((f42n0E a1 a2 (.ret 1)).2) (ap (f63_ok a1 h6) (ap (f63_ok a2 h10) (ap h13 (ap h16 an)))) rfl
    · rcases cond_cases h with ⟨h18, h⟩ | ⟨h18, h⟩
      · obtain rfl := some_inj h
        exact rK cfg_ok 6 [j3, ([], [jH 1 (jB x5)], []), ([], [jH 1 (jB x9)], []), j3, j3, j3, j3] [some false, some false, some true] [] [] [4] .ret ((f42n0E a1 a2 (.ret (-1))).2) (ap (f63_ok a1 h6) (ap (f63_ok a2 h10) (ap h13 (ap h16 (ap h18 an))))) rfl
      · rcases cond_cases h with ⟨h20, h⟩ | ⟨h20, h⟩
        · obtain rfl := some_inj h
          exact rE cfg_ok [j3, ([], [jH 1 (jB x5)], []), ([], [jH 1 (jB x9)], []), j3, j3, j3, j3, j3] [some false, some false, some false, some false] [] [] [4] (.ret, (f42n0E a1 a2 (.ret 0)).2) (ap (f63_ok a1 h6) (ap (f63_ok a2 h10) (ap h13 (ap h16 (ap h18 (ap (not_t h20) an)))))) rfl
        · obtain rfl := some_inj h
          exact rK cfg_ok 7 [j3, ([], [jH 1 (jB x5)], []), ([], [jH 1 (jB x9)], []), j3, j3, j3, j3, j3] [some false, some false, some false, some true] [] [] [4] .ret ((f42n0E a1 a2 (.ret 1)).2) (ap (f63_ok a1 h6) (ap (f63_ok a2 h10) (ap h13 (ap h16 (ap h18 (ap (not_f h20) an)))))) rfl
noncomputable def f42 (a1 : ByteArray) (a2 : ByteArray) : Option Int := (f42n0 a1 a2).bind fun o => match o with
  | .ret v21 => some v21
theorem f42_ok (a1 : ByteArray) (a2 : ByteArray) {r : Int} (h : (f42 a1 a2) = some r) : CallS Try.prog false 42 [(jS a1), (jS a2)] [] (jI r) [] := by
  unfold f42 at h
  obtain ⟨o, ho, h⟩ := bind_cases h
  cases o with
  | ret v21 =>
    obtain rfl := some_inj h
    exact CallS.plain cfg_ok (f := Try.f42) (c := c42) (by kernel_rfl) (by kernel_rfl) (by kernel_rfl) (by kernel_rfl) ((f42n0_ok a1 a2 ho).mono fun r e => by subst e; exact ⟨.inl rfl, (jI v21), (jI v21), by kernel_rfl, by kernel_rfl, ((Wk.refl _) : Wk (jI v21) (jI v21))⟩)

noncomputable def c40 : Code := Try.f40.body.getD .skip
inductive f40n2O where
  | exit0
  | ret (v28 : Int)
def f40n2E (bg1 : List Int) : f40n2O → Ex × Tr × Hp
  | .exit0 => ((.exit 0), mkS [(3, (jI 0))], [])
  | .ret v28 => (.ret, mkS [(2, (jI v28))], [])
def f40n2S (bg1 : List Int) (v19 : Int) : Tr × Hp := (mkS [(3, (jI 0)), (6, (.pl (.sl .any 1 (bg1.map (cInt .i64))))), (7, (jI (bg1.length : Int))), (8, (jI v19))], [])
noncomputable def f40n2 : Nat → List Int → Int → Option f40n2O
  | 0, _, _ => none
  | f + 1, bg1, v19 =>
    bif (decide (v19 < (bg1.length : Int))) then
      (at? bg1 v19).bind fun x25 =>
      bif (decide (x25 = 0)) then
        (f40n2 f bg1 (wr64 (v19 + 1)))
      else
        some (.ret x25)
    else
      some .exit0
theorem f40n2_ok : ∀ (f : Nat) (bg1 : List Int) (v19 : Int) {o : f40n2O}, (f40n2 f bg1 v19) = some o → TL Try.prog Try.f40.ntmps 0 f (cL (cL (dropC 1 (cL (dropC 2 c40))))) (f40n2S bg1 v19) (fun r => r = f40n2E bg1 o)
  | 0, _, _, o, h => by rw [f40n2] at h; cases h
  | f + 1, bg1, v19, o, h => by
    rw [f40n2] at h
    refine TL.body (K := fun s => ∃ v19 : Int, s = (f40n2S bg1 v19) ∧ (f40n2 f bg1 v19) = some o) ?_ (by rintro _ ⟨v19, rfl, hk⟩; exact f40n2_ok f _ _ hk)
    rcases cond_cases h with ⟨h21, h⟩ | ⟨h21, h⟩
    · obtain ⟨x25, h26, h⟩ := bind_cases h
      rcases cond_cases h with ⟨h27, h⟩ | ⟨h27, h⟩
      · exact rE cfg_ok [j3, ([], [(0, .idx (Int.toNat v19) ((cInt .i64) x25))], []), j3, j3] [some true, some false] [] [] [3, 6, 7, 8] (.norm, (f40n2S bg1 (wr64 (v19 + 1)))) (ap h21 (ap (at_some h26).1 (ap (at_map (cInt .i64) (at_some h26).2) (ap (not_t h27) an)))) (LoopQ.norm ⟨(wr64 (v19 + 1)), rfl, h⟩)
      · obtain rfl := some_inj h
        exact rK cfg_ok 3 [j3, ([], [(0, .idx (Int.toNat v19) ((cInt .i64) x25))], []), j3, j3] [some true, some true] [] [] [2] .ret ((f40n2E bg1 (.ret x25)).2) (ap h21 (ap (at_some h26).1 (ap (at_map (cInt .i64) (at_some h26).2) (ap (not_f h27) an)))) (LoopQ.out rfl rfl)
    · obtain rfl := some_inj h
      exact rK cfg_ok 2 [j3] [some false] [] [] [3] (.exit 0) ((f40n2E bg1 .exit0).2) (ap h21 an) (LoopQ.out rfl rfl)
noncomputable def f40n2L (bg1 : List Int) : List Int → Int → Option f40n2O
  | [], v19 =>
    some .exit0
  | x0 :: rest, v19 =>
    bif (decide (x0 = 0)) then
      (f40n2L bg1 rest (v19 + 1))
    else
      some (.ret x0)
theorem f40n2L_eq (bg1 : List Int) : ∀ (rest : List Int) (f k : Nat), bg1.drop k = rest → bg1.length ≤ maxLen → rest.length < f → f40n2 f bg1 (k : Int) = f40n2L bg1 rest (k : Int)
  | _, 0, _, _, _, hf => absurd hf (Nat.not_lt_zero _)
  | [], f + 1, k, hd, hm, hf => by
    have hk : ¬ ((k : Int) < (bg1.length : Int)) := by have := drop_nil hd; omega
    rw [f40n2, f40n2L]
    simp only [decide_eq_false hk, cond_false]
  | x0 :: rest, f + 1, k, hd, hm, hf => by
    obtain ⟨hx, hlt, hd'⟩ := drop_cons hd
    have hk : (k : Int) < (bg1.length : Int) := by omega
    have hw : wr64 ((k : Int) + 1) = (k : Int) + 1 := wr64_of (by omega) (by unfold maxLen at hm; omega)
    have ih : f40n2 f bg1 ((k : Int) + 1) = f40n2L bg1 rest ((k : Int) + 1) := f40n2L_eq bg1 rest f (k + 1) hd' hm (by simpa using hf)
    rw [f40n2, f40n2L]
    simp only [decide_eq_true hk, cond_true, at_nat, hx, Option.bind_some, hw, ih]
theorem f40n2_run (bg1 : List Int) (hm : bg1.length ≤ maxLen) : f40n2 FUEL bg1 0 = f40n2L bg1 bg1 0 := f40n2L_eq bg1 bg1 FUEL 0 List.drop_zero hm (lt_FUEL hm)
inductive f40n1O where
  | norm
  | ret (v32 : Int)
def f40n1E (bg1 : List Int) : f40n1O → Ex × Tr × Hp
  | .norm => (.norm, mkS [(3, (jI 0))], [])
  | .ret v32 => (.ret, mkS [(2, (jI v32))], [])
def f40n1S (bg1 : List Int) : Tr × Hp := (mkS [(0, (.pl (.sl .any 1 (bg1.map (cInt .i64))))), (3, (jI 0))], [])
noncomputable def f40n1 (bg1 : List Int) : Option f40n1O :=
  (f40n2 FUEL bg1 0).bind fun o29 => match o29 with
  | .exit0 => some .norm
  | .ret v31 => some (.ret v31)
theorem f40n1_ok (bg1 : List Int) {o : f40n1O} (h : (f40n1 bg1) = some o) : T Try.prog Try.f40.ntmps 0 (cL (dropC 2 c40)) (f40n1S bg1) (fun r => r = f40n1E bg1 o) := by
  unfold f40n1 at h
  refine rN cfg_ok 1 [([], [], [(1, .val (jI (bg1.length : Int)))])] [] [] [] [3, 6, 7, 8] (f40n2S bg1 0) (ap (len_cv (xs := bg1) (c := (cInt .i64))) an) ?_
  obtain ⟨o29, h30, h⟩ := bind_cases h
  cases o29 with
  | exit0 =>
    obtain rfl := some_inj h
    exact T.last' (T.bl (i := 0) (by kernel_rfl) (by kernel_rfl) (f40n2_ok FUEL bg1 0 h30)) (tds := []) (m := []) (keep := [3]) (st2 := (f40n1E bg1 .norm).2) (by kernel_rfl) an rfl
  | ret v31 =>
    obtain rfl := some_inj h
    exact T.last' (T.bl (i := 0) (by kernel_rfl) (by kernel_rfl) (f40n2_ok FUEL bg1 0 h30)) (tds := []) (m := []) (keep := [2]) (st2 := (f40n1E bg1 (.ret v31)).2) (by kernel_rfl) an rfl
inductive f40n0O where
  | ret (v36 : Int)
def f40n0E (a1 : List Int) : f40n0O → Ex × Tr × Hp
  | .ret v36 => (.ret, mkS [(2, (jI v36))], [])
def f40n0S (a1 : List Int) : Tr × Hp := (initS [(.pl (.sl .any 1 (a1.map (cInt .i64))))] 0 .leaf, [])
noncomputable def f40n0 (a1 : List Int) : Option f40n0O :=
  (f40n1 a1).bind fun o33 => match o33 with
  | .norm => some (.ret 0)
  | .ret v35 => some (.ret v35)
theorem f40n0_ok (a1 : List Int) {o : f40n0O} (h : (f40n0 a1) = some o) : T Try.prog Try.f40.ntmps 0 c40 (f40n0S a1) (fun r => r = f40n0E a1 o) := by
  unfold f40n0 at h
  refine rN cfg_ok 2 [j3, j3] [] [] [] [0, 3] (f40n1S a1) an ?_
  obtain ⟨o33, h34, h⟩ := bind_cases h
  cases o33 with
  | norm =>
    refine T.oneN (by kernel_rfl) (f40n1_ok a1 h34) (st2 := (f40n1E a1 .norm).2) rfl ?_
    obtain rfl := some_inj h
    exact rE cfg_ok [j3] [] [] [] [2] (.ret, (f40n0E a1 (.ret 0)).2) an rfl
  | ret v35 =>
    obtain rfl := some_inj h
    exact T.oneX' (by kernel_rfl) (f40n1_ok a1 h34) (tds := []) (m := []) (keep := [2]) (st2 := (f40n0E a1 (.ret v35)).2) (by kernel_rfl) an rfl rfl
noncomputable def f40 (a1 : List Int) : Option Int := (f40n0 a1).bind fun o => match o with
  | .ret v36 => some v36
theorem f40_ok (a1 : List Int) {r : Int} (h : (f40 a1) = some r) : CallS Try.prog false 40 [(.pl (.sl .any 1 (a1.map (cInt .i64))))] [] (jI r) [] := by
  unfold f40 at h
  obtain ⟨o, ho, h⟩ := bind_cases h
  cases o with
  | ret v36 =>
    obtain rfl := some_inj h
    exact CallS.plain cfg_ok (f := Try.f40) (c := c40) (by kernel_rfl) (by kernel_rfl) (by kernel_rfl) (by kernel_rfl) ((f40n0_ok a1 ho).mono fun r e => by subst e; exact ⟨.inl rfl, (jI v36), (jI v36), by kernel_rfl, by kernel_rfl, ((Wk.refl _) : Wk (jI v36) (jI v36))⟩)


instance : Inhabited Share_ := ⟨(Share_.mk str_x (NettingFlow.mk 0 str_x str_x str_x str_x 0))⟩


noncomputable def c49 : Code := Try.f49.body.getD .skip
inductive f49n3O where
  | norm (v302 : Bool)
def f49n3E (bb1 : ByteArray) (bd2 : Int) (bc3 : UInt8) : f49n3O → Ex × Tr × Hp
  | .norm v302 => (.norm, mkS [(0, (jS bb1)), (3, (jI bd2)), (4, (.pl (.int .u8 (bc3.toNat : Int)))), (5, (jB v302))], [])
def f49n3S (bb1 : ByteArray) (bd2 : Int) (bc3 : UInt8) : Tr × Hp := (mkS [(0, (jS bb1)), (3, (jI bd2)), (4, (.pl (.int .u8 (bc3.toNat : Int))))], [])
noncomputable def f49n3 (bb1 : ByteArray) (bd2 : Int) (bc3 : UInt8) : Option f49n3O :=
  bif (decide (97 ≤ (bc3.toNat : Int))) then
    bif (decide ((bc3.toNat : Int) ≤ 122)) then
      some (.norm true)
    else
      bif (decide (65 ≤ (bc3.toNat : Int))) then
        some (.norm (decide ((bc3.toNat : Int) ≤ 90)))
      else
        some (.norm false)
  else
    bif (decide (65 ≤ (bc3.toNat : Int))) then
      some (.norm (decide ((bc3.toNat : Int) ≤ 90)))
    else
      some (.norm false)
theorem f49n3_ok (bb1 : ByteArray) (bd2 : Int) (bc3 : UInt8) {o : f49n3O} (h : (f49n3 bb1 bd2 bc3) = some o) : T Try.prog Try.f49.ntmps 0 (cL (dropC 1 (cL (cL (dropC 1 (cL (cL (dropC 1 (cL (dropC 2 c49)))))))))) (f49n3S bb1 bd2 bc3) (fun r => r = f49n3E bb1 bd2 bc3 o) := by
  unfold f49n3 at h
  rcases cond_cases h with ⟨h298, h⟩ | ⟨h298, h⟩
  · rcases cond_cases h with ⟨h299, h⟩ | ⟨h299, h⟩
    · obtain rfl := some_inj h
      exact rE cfg_ok [(jT [3, 4, 7, 8, 9, 12], [(5, .bool true), (13, .bool true)], [])] [] [] [] [0, 3, 4, 5] (.norm, (f49n3E bb1 bd2 bc3 (.norm true)).2) (ap3 h298 (ap h299 (ap4 h299 an))) rfl
    · rcases cond_cases h with ⟨h300, h⟩ | ⟨h300, h⟩
      · obtain rfl := some_inj h
        exact rE cfg_ok [(jF [7, 8, 9, 12] ++ jT [3, 4, 10, 11], [(5, .bool true), (12, .bool true), (13, .bool false)], [])] [] [] [] [0, 3, 4, 5] (.norm, (f49n3E bb1 bd2 bc3 (.norm (decide ((bc3.toNat : Int) ≤ 90)))).2) (ap3 h298 (ap3 h299 (ap2 h300 (ap h299 (ap h300 (ap h299 an)))))) rfl
      · obtain rfl := some_inj h
        exact rE cfg_ok [(jF [7, 8, 9, 10, 11, 12] ++ jT [3, 4], [(5, .bool true), (12, .bool false), (13, .bool false)], [])] [] [] [] [0, 3, 4, 5] (.norm, (f49n3E bb1 bd2 bc3 (.norm false)).2) (ap3 h298 (ap3 h299 (ap2 h300 (ap h299 (ap h300 (ap h299 an)))))) rfl
  · rcases cond_cases h with ⟨h301, h⟩ | ⟨h301, h⟩
    · obtain rfl := some_inj h
      exact rE cfg_ok [(jF [3, 4] ++ jT [10, 11], [(5, .bool false), (12, .bool true)], [])] [] [] [] [0, 3, 4, 5] (.norm, (f49n3E bb1 bd2 bc3 (.norm (decide ((bc3.toNat : Int) ≤ 90)))).2) (ap3 h298 (ap3 h301 an)) rfl
    · obtain rfl := some_inj h
      exact rE cfg_ok [(jF [3, 4, 10, 11], [(5, .bool false), (12, .bool false)], [])] [] [] [] [0, 3, 4, 5] (.norm, (f49n3E bb1 bd2 bc3 (.norm false)).2) (ap3 h298 (ap3 h301 an)) rfl
inductive f49n4O where
  | norm (v318 : Bool)
def f49n4E (bb1 : ByteArray) (bd2 : Int) (bc3 : UInt8) (bi4 : Bool) : f49n4O → Ex × Tr × Hp
  | .norm v318 => (.norm, mkS [(0, (jS bb1)), (3, (jI bd2)), (5, (jB bi4)), (6, (jB v318))], [])
def f49n4S (bb1 : ByteArray) (bd2 : Int) (bc3 : UInt8) (bi4 : Bool) : Tr × Hp := (mkS [(0, (jS bb1)), (3, (jI bd2)), (4, (.pl (.int .u8 (bc3.toNat : Int)))), (5, (jB bi4))], [])
noncomputable def f49n4 (bb1 : ByteArray) (bd2 : Int) (bc3 : UInt8) (bi4 : Bool) : Option f49n4O :=
  bif (decide (48 ≤ (bc3.toNat : Int))) then
    bif (decide ((bc3.toNat : Int) ≤ 57)) then
      some (.norm true)
    else
      bif (decide ((bc3.toNat : Int) = 95)) then
        some (.norm true)
      else
        some (.norm (decide ((bc3.toNat : Int) = 45)))
  else
    bif (decide ((bc3.toNat : Int) = 95)) then
      some (.norm true)
    else
      some (.norm (decide ((bc3.toNat : Int) = 45)))
theorem f49n4_ok (bb1 : ByteArray) (bd2 : Int) (bc3 : UInt8) (bi4 : Bool) {o : f49n4O} (h : (f49n4 bb1 bd2 bc3 bi4) = some o) : T Try.prog Try.f49.ntmps 0 (cL (dropC 0 (dropC 1 (dropC 1 (cL (cL (dropC 1 (cL (cL (dropC 1 (cL (dropC 2 c49)))))))))))) (f49n4S bb1 bd2 bc3 bi4) (fun r => r = f49n4E bb1 bd2 bc3 bi4 o) := by
  unfold f49n4 at h
  rcases cond_cases h with ⟨h314, h⟩ | ⟨h314, h⟩
  · rcases cond_cases h with ⟨h315, h⟩ | ⟨h315, h⟩
    · obtain rfl := some_inj h
      exact rE cfg_ok [(jT [3, 4, 7, 8], [(5, .bool true), (9, .bool true)], [])] [] [] [] [0, 3, 5, 6] (.norm, (f49n4E bb1 bd2 bc3 bi4 (.norm true)).2) (ap3 h314 (ap3 h315 an)) rfl
    · rcases cond_cases h with ⟨h316, h⟩ | ⟨h316, h⟩
      · obtain rfl := some_inj h
        exact rE cfg_ok [(jF [7, 8] ++ jT [3, 4, 11, 12], [(5, .bool true), (9, .bool false), (13, .bool true)], [])] [] [] [] [0, 3, 5, 6] (.norm, (f49n4E bb1 bd2 bc3 bi4 (.norm true)).2) (ap3 h314 (ap3 h315 (ap3 h316 an))) rfl
      · obtain rfl := some_inj h
        exact rE cfg_ok [(jF [7, 8, 11, 12] ++ jT [3, 4], [(5, .bool true), (9, .bool false), (13, .bool false)], [])] [] [] [] [0, 3, 5, 6] (.norm, (f49n4E bb1 bd2 bc3 bi4 (.norm (decide ((bc3.toNat : Int) = 45)))).2) (ap3 h314 (ap3 h315 (ap3 h316 an))) rfl
  · rcases cond_cases h with ⟨h317, h⟩ | ⟨h317, h⟩
    · obtain rfl := some_inj h
      exact rE cfg_ok [(jF [3, 4] ++ jT [11, 12], [(5, .bool false), (13, .bool true)], [])] [] [] [] [0, 3, 5, 6] (.norm, (f49n4E bb1 bd2 bc3 bi4 (.norm true)).2) (ap3 h314 (ap3 h317 an)) rfl
    · obtain rfl := some_inj h
      exact rE cfg_ok [(jF [3, 4, 11, 12], [(5, .bool false), (13, .bool false)], [])] [] [] [] [0, 3, 5, 6] (.norm, (f49n4E bb1 bd2 bc3 bi4 (.norm (decide ((bc3.toNat : Int) = 45)))).2) (ap3 h314 (ap3 h317 an)) rfl
inductive f49n5O where
  | norm (v328 : Bool)
def f49n5E (bb1 : ByteArray) (bd2 : Int) (bi3 : Bool) (bi4 : Bool) : f49n5O → Ex × Tr × Hp
  | .norm v328 => (.norm, mkS [(0, (jS bb1)), (3, (jI bd2)), (61, (jB v328))], [])
def f49n5S (bb1 : ByteArray) (bd2 : Int) (bi3 : Bool) (bi4 : Bool) : Tr × Hp := (mkS [(0, (jS bb1)), (3, (jI bd2)), (5, (jB bi3)), (6, (jB bi4))], [])
noncomputable def f49n5 (bb1 : ByteArray) (bd2 : Int) (bi3 : Bool) (bi4 : Bool) : Option f49n5O :=
  bif bi3 then
    some (.norm false)
  else
    bif bi4 then
      some (.norm (decide (bd2 = 0)))
    else
      some (.norm true)
theorem f49n5_ok (bb1 : ByteArray) (bd2 : Int) (bi3 : Bool) (bi4 : Bool) {o : f49n5O} (h : (f49n5 bb1 bd2 bi3 bi4) = some o) : T Try.prog Try.f49.ntmps 0 (cL (dropC 0 (dropC 1 (dropC 0 (dropC 1 (dropC 1 (cL (cL (dropC 1 (cL (cL (dropC 1 (cL (dropC 2 c49)))))))))))))) (f49n5S bb1 bd2 bi3 bi4) (fun r => r = f49n5E bb1 bd2 bi3 bi4 o) := by
  unfold f49n5 at h
  rcases cond_cases h with ⟨h326, h⟩ | ⟨h326, h⟩
  · obtain rfl := some_inj h
    exact rE cfg_ok [(jF [3, 4, 5, 8], [(9, .bool false)], [])] [] [] [] [0, 3, 61] (.norm, (f49n5E bb1 bd2 bi3 bi4 (.norm false)).2) (ap (not_t h326) (ap4 (not_t h326) an)) rfl
  · rcases cond_cases h with ⟨h327, h⟩ | ⟨h327, h⟩
    · obtain rfl := some_inj h
      exact rE cfg_ok [(jF [6, 7] ++ jT [3, 4, 5, 8], [(8, .bool false), (9, .bool true)], [])] [] [] [] [0, 3, 61] (.norm, (f49n5E bb1 bd2 bi3 bi4 (.norm (decide (bd2 = 0)))).2) (ap3 (not_f h326) (ap2 (not_t h327) (ap (not_f h326) (ap (not_t h327) (ap (not_f h326) an))))) rfl
    · obtain rfl := some_inj h
      exact rE cfg_ok [(jT [3, 4, 5, 6, 7, 8], [(8, .bool true), (9, .bool true)], [])] [] [] [] [0, 3, 61] (.norm, (f49n5E bb1 bd2 bi3 bi4 (.norm true)).2) (ap3 (not_f h326) (ap2 (not_f h327) (ap (not_f h326) (ap (not_f h327) (ap (not_f h326) an))))) rfl
inductive f49n2O where
  | norm
  | ret
def f49n2E (bb1 : ByteArray) (bd2 : Int) : f49n2O → Ex × Tr × Hp
  | .norm => (.norm, mkS [(0, (jS bb1)), (3, (jI bd2))], [])
  | .ret => (.ret, mkS [(2, (jB false))], [])
def f49n2S (bb1 : ByteArray) (bd2 : Int) : Tr × Hp := (mkS [(0, (jS bb1)), (3, (jI bd2))], [])
noncomputable def f49n2 (bb1 : ByteArray) (bd2 : Int) : Option f49n2O :=
  (at? bb1.data.toList bd2).bind fun x288 =>
  (f49n3 bb1 bd2 x288).bind fun o303 => match o303 with
  | .norm v305 => (f49n4 bb1 bd2 x288 v305).bind fun o319 => match o319 with
    | .norm v321 => (f49n5 bb1 bd2 v305 v321).bind fun o329 => match o329 with
      | .norm v331 => bif v331 then
          some .ret
        else
          some .norm
theorem f49n2_ok (bb1 : ByteArray) (bd2 : Int) {o : f49n2O} (h : (f49n2 bb1 bd2) = some o) : T Try.prog Try.f49.ntmps 0 (cL (dropC 1 (cL (cL (dropC 1 (cL (dropC 2 c49))))))) (f49n2S bb1 bd2) (fun r => r = f49n2E bb1 bd2 o) := by
  unfold f49n2 at h
  refine T.block' (i := 1) (by kernel_rfl) ?_
  obtain ⟨x288, h289, h⟩ := bind_cases h
  refine rN cfg_ok 1 [([], [(2, .byte (Int.toNat bd2) x288)], [])] [] [] [] [0, 3, 4] (f49n3S bb1 bd2 x288) (ap (at_some h289).1 (ap (at_some h289).2 an)) ?_
  obtain ⟨o303, h304, h⟩ := bind_cases h
  cases o303 with
  | norm v305 =>
    refine T.oneN (by kernel_rfl) (f49n3_ok bb1 bd2 x288 h304) (st2 := (f49n3E bb1 bd2 x288 (.norm v305)).2) rfl ?_
    refine rN cfg_ok 0 [] [] [] [] [0, 3, 4, 5] (f49n4S bb1 bd2 x288 v305) an ?_
    obtain ⟨o319, h320, h⟩ := bind_cases h
    cases o319 with
    | norm v321 =>
      refine T.oneN (by kernel_rfl) (f49n4_ok bb1 bd2 x288 v305 h320) (st2 := (f49n4E bb1 bd2 x288 v305 (.norm v321)).2) rfl ?_
      refine rN cfg_ok 0 [] [] [] [] [0, 3, 5, 6] (f49n5S bb1 bd2 v305 v321) an ?_
      obtain ⟨o329, h330, h⟩ := bind_cases h
      cases o329 with
      | norm v331 =>
        refine T.oneN (by kernel_rfl) (f49n5_ok bb1 bd2 v305 v321 h330) (st2 := (f49n5E bb1 bd2 v305 v321 (.norm v331)).2) rfl ?_
        rcases cond_cases h with ⟨h333, h⟩ | ⟨h333, h⟩
        · obtain rfl := some_inj h
          exact rE cfg_ok [j3] [some true] [] [] [2] (.ret, (f49n2E bb1 bd2 .ret).2) (ap h333 an) rfl
        · obtain rfl := some_inj h
          exact rE cfg_ok [] [some false] [] [] [0, 3] (.norm, (f49n2E bb1 bd2 .norm).2) (ap h333 an) rfl
inductive f49n6O where
  | exit0
  | ret
def f49n6E (bb1 : ByteArray) : f49n6O → Ex × Tr × Hp
  | .exit0 => ((.exit 0), mkS [], [])
  | .ret => (.ret, mkS [(2, (jB false))], [])
def f49n6S (bb1 : ByteArray) (v219 : Int) : Tr × Hp := (mkS [(0, (jS bb1)), (3, (jI v219))], [])
noncomputable def f49n6 : Nat → ByteArray → Int → Option f49n6O
  | 0, _, _ => none
  | f + 1, bb1, v219 =>
    bif (decide (v219 < (bb1.size : Int))) then
      (f49n2 bb1 v219).bind fun o334 => match o334 with
      | .norm => (f49n6 f bb1 (wr64 (v219 + 1)))
      | .ret => some .ret
    else
      some .exit0
theorem f49n6_ok : ∀ (f : Nat) (bb1 : ByteArray) (v219 : Int) {o : f49n6O}, (f49n6 f bb1 v219) = some o → TL Try.prog Try.f49.ntmps 0 f (cL (cL (dropC 1 (cL (dropC 2 c49))))) (f49n6S bb1 v219) (fun r => r = f49n6E bb1 o)
  | 0, _, _, o, h => by rw [f49n6] at h; cases h
  | f + 1, bb1, v219, o, h => by
    rw [f49n6] at h
    refine TL.body (K := fun s => ∃ v219 : Int, s = (f49n6S bb1 v219) ∧ (f49n6 f bb1 v219) = some o) ?_ (by rintro _ ⟨v219, rfl, hk⟩; exact f49n6_ok f _ _ hk)
    rcases cond_cases h with ⟨h221, h⟩ | ⟨h221, h⟩
    · refine rN cfg_ok 1 [j3] [some true] [] [] [0, 3] (f49n2S bb1 v219) (ap h221 an) ?_
      obtain ⟨o334, h335, h⟩ := bind_cases h
      cases o334 with
      | norm =>
        refine T.oneN (by kernel_rfl) (f49n2_ok bb1 v219 h335) (st2 := (f49n2E bb1 v219 .norm).2) rfl ?_
        exact rE cfg_ok [j3] [] [] [] [0, 3] (.norm, (f49n6S bb1 (wr64 (v219 + 1)))) an (LoopQ.norm ⟨(wr64 (v219 + 1)), rfl, h⟩)
      | ret =>
        obtain rfl := some_inj h
        exact T.oneX' (by kernel_rfl) (f49n2_ok bb1 v219 h335) (tds := []) (m := []) (keep := [2]) (st2 := (f49n6E bb1 .ret).2) (by kernel_rfl) an rfl (LoopQ.out rfl rfl)
    · obtain rfl := some_inj h
      exact rK cfg_ok 1 [j3] [some false] [] [] [] (.exit 0) ((f49n6E bb1 .exit0).2) (ap h221 an) (LoopQ.out rfl rfl)
inductive f49n1O where
  | norm
  | ret
def f49n1E (bb1 : ByteArray) : f49n1O → Ex × Tr × Hp
  | .norm => (.norm, mkS [], [])
  | .ret => (.ret, mkS [(2, (jB false))], [])
def f49n1S (bb1 : ByteArray) : Tr × Hp := (mkS [(0, (jS bb1))], [])
noncomputable def f49n1 (bb1 : ByteArray) : Option f49n1O :=
  (f49n6 FUEL bb1 0).bind fun o336 => match o336 with
  | .exit0 => some .norm
  | .ret => some .ret
theorem f49n1_ok (bb1 : ByteArray) {o : f49n1O} (h : (f49n1 bb1) = some o) : T Try.prog Try.f49.ntmps 0 (cL (dropC 2 c49)) (f49n1S bb1) (fun r => r = f49n1E bb1 o) := by
  unfold f49n1 at h
  refine rN cfg_ok 1 [j3] [] [] [] [0, 3] (f49n6S bb1 0) an ?_
  obtain ⟨o336, h337, h⟩ := bind_cases h
  cases o336 with
  | exit0 =>
    obtain rfl := some_inj h
    exact T.last' (T.bl (i := 0) (by kernel_rfl) (by kernel_rfl) (f49n6_ok FUEL bb1 0 h337)) (tds := []) (m := []) (keep := []) (st2 := (f49n1E bb1 .norm).2) (by kernel_rfl) an rfl
  | ret =>
    obtain rfl := some_inj h
    exact T.last' (T.bl (i := 0) (by kernel_rfl) (by kernel_rfl) (f49n6_ok FUEL bb1 0 h337)) (tds := []) (m := []) (keep := [2]) (st2 := (f49n1E bb1 .ret).2) (by kernel_rfl) an rfl
inductive f49n0O where
  | ret (v340 : Bool)
def f49n0E (a1 : ByteArray) : f49n0O → Ex × Tr × Hp
  | .ret v340 => (.ret, mkS [(2, (jB v340))], [])
def f49n0S (a1 : ByteArray) : Tr × Hp := (initS [(jS a1)] 0 .leaf, [])
noncomputable def f49n0 (a1 : ByteArray) : Option f49n0O :=
  bif (decide ((a1.size : Int) < 1)) then
    some (.ret false)
  else
    bif (decide (40 < (a1.size : Int))) then
      some (.ret false)
    else
      (f49n1 a1).bind fun o338 => match o338 with
      | .norm => some (.ret true)
      | .ret => some (.ret false)
theorem f49n0_ok (a1 : ByteArray) {o : f49n0O} (h : (f49n0 a1) = some o) : T Try.prog Try.f49.ntmps 0 c49 (f49n0S a1) (fun r => r = f49n0E a1 o) := by
  unfold f49n0 at h
  rcases cond_cases h with ⟨h4, h⟩ | ⟨h4, h⟩
  · obtain rfl := some_inj h
    exact rK cfg_ok 2 [j3, (jT [4, 5, 6], [(7, .bool true)], []), j3] [none] [] [] [2] .ret ((f49n0E a1 (.ret false)).2) (ap4 h4 an) rfl
  · rcases cond_cases h with ⟨h5, h⟩ | ⟨h5, h⟩
    · obtain rfl := some_inj h
      exact rK cfg_ok 2 [j3, (jF [4, 5, 6], [(7, .bool false)], []), j3] [some true] [] [] [2] .ret ((f49n0E a1 (.ret false)).2) (ap4 h4 (ap h5 an)) rfl
    · refine rN cfg_ok 2 [j3, (jF [4, 5, 6], [(7, .bool false)], [])] [some false] [] [] [0] (f49n1S a1) (ap4 h4 (ap h5 an)) ?_
      obtain ⟨o338, h339, h⟩ := bind_cases h
      cases o338 with
      | norm =>
        refine T.oneN (by kernel_rfl) (f49n1_ok a1 h339) (st2 := (f49n1E a1 .norm).2) rfl ?_
        obtain rfl := some_inj h
        exact rE cfg_ok [j3] [] [] [] [2] (.ret, (f49n0E a1 (.ret true)).2) an rfl
      | ret =>
        obtain rfl := some_inj h
        exact T.oneX' (by kernel_rfl) (f49n1_ok a1 h339) (tds := []) (m := []) (keep := [2]) (st2 := (f49n0E a1 (.ret false)).2) (by kernel_rfl) an rfl rfl
noncomputable def f49 (a1 : ByteArray) : Option Bool := (f49n0 a1).bind fun o => match o with
  | .ret v340 => some v340
theorem f49_ok (a1 : ByteArray) {r : Bool} (h : (f49 a1) = some r) : CallS Try.prog false 49 [(jS a1)] [] (jB r) [] := by
  unfold f49 at h
  obtain ⟨o, ho, h⟩ := bind_cases h
  cases o with
  | ret v340 =>
    obtain rfl := some_inj h
    exact CallS.plain cfg_ok (f := Try.f49) (c := c49) (by kernel_rfl) (by kernel_rfl) (by kernel_rfl) (by kernel_rfl) ((f49n0_ok a1 ho).mono fun r e => by subst e; exact ⟨.inl rfl, (jB v340), (jB v340), by kernel_rfl, by kernel_rfl, ((Wk.refl _) : Wk (jB v340) (jB v340))⟩)
end Go.Proofs.Ytkcafackfihmiaa
namespace Go.Proofs.Ytkcafackfihmiaa
set_option linter.unusedVariables false
set_option linter.unusedSimpArgs false
set_option maxRecDepth 100000
open Go.RowKit
noncomputable def c67 : Code := Try.f67.body.getD .skip
inductive f67n2O where
  | norm (v92 : Bool)
def f67n2E (be1 : NettingFlow) : f67n2O → Ex × Tr × Hp
  | .norm v92 => (.norm, mkS [(1, (.bp 0 0)), (36, (jB v92))], [some (.box ((NettingFlow.cells be1).map .pl))])
def f67n2S (be1 : NettingFlow) : Tr × Hp := (mkS [(1, (.bp 0 0))], [some (.box ((NettingFlow.cells be1).map .pl))])
noncomputable def f67n2 (be1 : NettingFlow) : Option f67n2O :=
  bif (seq be1.Set str_x) then
    (f49 be1.Ccy).bind fun x71 =>
    bif x71 then
      (f49 be1.From).bind fun x74 =>
      bif x74 then
        (f49 be1.To).bind fun x77 =>
        bif x77 then
          some (.norm (seq be1.From be1.To))
        else
          some (.norm true)
      else
        some (.norm true)
    else
      some (.norm true)
  else
    (f49 be1.Set).bind fun x80 =>
    bif x80 then
      (f49 be1.Ccy).bind fun x83 =>
      bif x83 then
        (f49 be1.From).bind fun x86 =>
        bif x86 then
          (f49 be1.To).bind fun x89 =>
          bif x89 then
            some (.norm (seq be1.From be1.To))
          else
            some (.norm true)
        else
          some (.norm true)
      else
        some (.norm true)
    else
      some (.norm true)
theorem f67n2_ok (be1 : NettingFlow) {o : f67n2O} (h : (f67n2 be1) = some o) : T Try.prog Try.f67.ntmps 0 (cL (dropC 0 (cL (dropC 1 c67)))) (f67n2S be1) (fun r => r = f67n2E be1 o) := by
  unfold f67n2 at h
  rcases cond_cases h with ⟨h70, h⟩ | ⟨h70, h⟩
  · obtain ⟨x71, h72, h⟩ := bind_cases h
    rcases cond_cases h with ⟨h73, h⟩ | ⟨h73, h⟩
    · obtain ⟨x74, h75, h⟩ := bind_cases h
      rcases cond_cases h with ⟨h76, h⟩ | ⟨h76, h⟩
      · obtain ⟨x77, h78, h⟩ := bind_cases h
        rcases cond_cases h with ⟨h79, h⟩ | ⟨h79, h⟩
        · obtain rfl := some_inj h
          exact rE cfg_ok [(jF [4, 5, 6, 7, 16, 17, 18, 19, 22, 23, 24, 25, 28, 29, 30, 31, 32], [(8, .bool false), jH 12 (jB x71), jH 18 (jB x74), (20, .bool false), jH 24 (jB x77), (26, .bool false), (33, .bool false)], [])] [] [] [0] [1, 36] (.norm, (f67n2E be1 (.norm (seq be1.From be1.To))).2) (ap (not_t h70) (ap4 (not_t h70) (ap (not_t h73) (ap4 (not_t h73) (ap (not_t h76) (ap4 (not_t h76) (ap2 (not_t h79) (ap4 (not_t h79) (ap (f49_ok be1.Ccy h72) (ap (f49_ok be1.From h75) (ap (f49_ok be1.To h78) an))))))))))) rfl
        · obtain rfl := some_inj h
          exact rE cfg_ok [(jF [4, 5, 6, 7, 16, 17, 18, 19, 22, 23, 24, 25] ++ jT [28, 29, 30, 31, 32], [(8, .bool false), jH 12 (jB x71), jH 18 (jB x74), (20, .bool false), jH 24 (jB x77), (26, .bool false), (33, .bool true)], [])] [] [] [0] [1, 36] (.norm, (f67n2E be1 (.norm true)).2) (ap (not_t h70) (ap4 (not_t h70) (ap (not_t h73) (ap4 (not_t h73) (ap (not_t h76) (ap4 (not_t h76) (ap2 (not_f h79) (ap4 (not_f h79) (ap (f49_ok be1.Ccy h72) (ap (f49_ok be1.From h75) (ap (f49_ok be1.To h78) an))))))))))) rfl
      · obtain rfl := some_inj h
        exact rE cfg_ok [(jF [4, 5, 6, 7, 16, 17, 18, 19] ++ jT [22, 23, 24, 25], [(8, .bool false), jH 12 (jB x71), jH 18 (jB x74), (20, .bool false), (26, .bool true)], [])] [] [] [0] [1, 36] (.norm, (f67n2E be1 (.norm true)).2) (ap (not_t h70) (ap4 (not_t h70) (ap (not_t h73) (ap4 (not_t h73) (ap (not_f h76) (ap4 (not_f h76) (ap (f49_ok be1.Ccy h72) (ap (f49_ok be1.From h75) an)))))))) rfl
    · obtain rfl := some_inj h
      exact rE cfg_ok [(jF [4, 5, 6, 7] ++ jT [16, 17, 18, 19], [(8, .bool false), jH 12 (jB x71), (20, .bool true)], [])] [] [] [0] [1, 36] (.norm, (f67n2E be1 (.norm true)).2) (ap (not_t h70) (ap4 (not_t h70) (ap (not_f h73) (ap4 (not_f h73) (ap (f49_ok be1.Ccy h72) an))))) rfl
  · obtain ⟨x80, h81, h⟩ := bind_cases h
    rcases cond_cases h with ⟨h82, h⟩ | ⟨h82, h⟩
    · obtain ⟨x83, h84, h⟩ := bind_cases h
      rcases cond_cases h with ⟨h85, h⟩ | ⟨h85, h⟩
      · obtain ⟨x86, h87, h⟩ := bind_cases h
        rcases cond_cases h with ⟨h88, h⟩ | ⟨h88, h⟩
        · obtain ⟨x89, h90, h⟩ := bind_cases h
          rcases cond_cases h with ⟨h91, h⟩ | ⟨h91, h⟩
          · obtain rfl := some_inj h
            exact rE cfg_ok [(jF [10, 11, 12, 13, 16, 17, 18, 19, 22, 23, 24, 25, 28, 29, 30, 31, 32] ++ jT [4, 5, 6, 7], [jH 6 (jB x80), (8, .bool true), jH 12 (jB x83), (14, .bool false), jH 18 (jB x86), (20, .bool false), jH 24 (jB x89), (26, .bool false), (33, .bool false)], [])] [] [] [0] [1, 36] (.norm, (f67n2E be1 (.norm (seq be1.From be1.To))).2) (ap (not_f h70) (ap4 (not_f h70) (ap (not_t h82) (ap4 (not_t h82) (ap (not_t h85) (ap4 (not_t h85) (ap (not_t h88) (ap4 (not_t h88) (ap2 (not_t h91) (ap4 (not_t h91) (ap (f49_ok be1.Set h81) (ap (f49_ok be1.Ccy h84) (ap (f49_ok be1.From h87) (ap (f49_ok be1.To h90) an)))))))))))))) rfl
          · obtain rfl := some_inj h
            exact rE cfg_ok [(jF [10, 11, 12, 13, 16, 17, 18, 19, 22, 23, 24, 25] ++ jT [4, 5, 6, 7, 28, 29, 30, 31, 32], [jH 6 (jB x80), (8, .bool true), jH 12 (jB x83), (14, .bool false), jH 18 (jB x86), (20, .bool false), jH 24 (jB x89), (26, .bool false), (33, .bool true)], [])] [] [] [0] [1, 36] (.norm, (f67n2E be1 (.norm true)).2) (ap (not_f h70) (ap4 (not_f h70) (ap (not_t h82) (ap4 (not_t h82) (ap (not_t h85) (ap4 (not_t h85) (ap (not_t h88) (ap4 (not_t h88) (ap2 (not_f h91) (ap4 (not_f h91) (ap (f49_ok be1.Set h81) (ap (f49_ok be1.Ccy h84) (ap (f49_ok be1.From h87) (ap (f49_ok be1.To h90) an)))))))))))))) rfl
        · obtain rfl := some_inj h
          exact rE cfg_ok [(jF [10, 11, 12, 13, 16, 17, 18, 19] ++ jT [4, 5, 6, 7, 22, 23, 24, 25], [jH 6 (jB x80), (8, .bool true), jH 12 (jB x83), (14, .bool false), jH 18 (jB x86), (20, .bool false), (26, .bool true)], [])] [] [] [0] [1, 36] (.norm, (f67n2E be1 (.norm true)).2) (ap (not_f h70) (ap4 (not_f h70) (ap (not_t h82) (ap4 (not_t h82) (ap (not_t h85) (ap4 (not_t h85) (ap (not_f h88) (ap4 (not_f h88) (ap (f49_ok be1.Set h81) (ap (f49_ok be1.Ccy h84) (ap (f49_ok be1.From h87) an))))))))))) rfl
      · obtain rfl := some_inj h
        exact rE cfg_ok [(jF [10, 11, 12, 13] ++ jT [4, 5, 6, 7, 16, 17, 18, 19], [jH 6 (jB x80), (8, .bool true), jH 12 (jB x83), (14, .bool false), (20, .bool true)], [])] [] [] [0] [1, 36] (.norm, (f67n2E be1 (.norm true)).2) (ap (not_f h70) (ap4 (not_f h70) (ap (not_t h82) (ap4 (not_t h82) (ap (not_f h85) (ap4 (not_f h85) (ap (f49_ok be1.Set h81) (ap (f49_ok be1.Ccy h84) an)))))))) rfl
    · obtain rfl := some_inj h
      exact rE cfg_ok [(jT [4, 5, 6, 7, 10, 11, 12, 13], [jH 6 (jB x80), (8, .bool true), (14, .bool true)], [])] [] [] [0] [1, 36] (.norm, (f67n2E be1 (.norm true)).2) (ap (not_f h70) (ap4 (not_f h70) (ap (not_f h82) (ap4 (not_f h82) (ap (f49_ok be1.Set h81) an))))) rfl
inductive f67n1O where
  | norm
  | ret
def f67n1E (be1 : NettingFlow) : f67n1O → Ex × Tr × Hp
  | .norm => (.norm, mkS [(1, (.bp 0 0))], [some (.box ((NettingFlow.cells be1).map .pl))])
  | .ret => (.ret, mkS [(2, (jB false))], [])
def f67n1S (be1 : NettingFlow) : Tr × Hp := (mkS [(1, (.bp 0 0))], [some (.box ((NettingFlow.cells be1).map .pl))])
noncomputable def f67n1 (be1 : NettingFlow) : Option f67n1O :=
  (f67n2 be1).bind fun o93 => match o93 with
  | .norm v95 => bif v95 then
      some .ret
    else
      some .norm
theorem f67n1_ok (be1 : NettingFlow) {o : f67n1O} (h : (f67n1 be1) = some o) : T Try.prog Try.f67.ntmps 0 (cL (dropC 1 c67)) (f67n1S be1) (fun r => r = f67n1E be1 o) := by
  unfold f67n1 at h
  refine rN cfg_ok 0 [] [] [] [0] [1] (f67n2S be1) an ?_
  obtain ⟨o93, h94, h⟩ := bind_cases h
  cases o93 with
  | norm v95 =>
    refine T.oneN (by kernel_rfl) (f67n2_ok be1 h94) (st2 := (f67n2E be1 (.norm v95)).2) rfl ?_
    rcases cond_cases h with ⟨h97, h⟩ | ⟨h97, h⟩
    · obtain rfl := some_inj h
      exact rE cfg_ok [j3] [some true] [] [] [2] (.ret, (f67n1E be1 .ret).2) (ap h97 an) rfl
    · obtain rfl := some_inj h
      exact rE cfg_ok [] [some false] [] [0] [1] (.norm, (f67n1E be1 .norm).2) (ap h97 an) rfl
inductive f67n0O where
  | ret (v106 : Bool)
def f67n0E (a1 : NettingFlow) : f67n0O → Ex × Tr × Hp
  | .ret v106 => (.ret, mkS [(2, (jB v106))], [])
def f67n0S (a1 : NettingFlow) : Tr × Hp := (initS [(jA NettingFlow.cells a1)] 0 .leaf, [])
noncomputable def f67n0 (a1 : NettingFlow) : Option f67n0O :=
  (f67n1 a1).bind fun o98 => match o98 with
  | .norm => bif (decide (0 ≤ a1.Date)) then
      bif (decide (a1.Date ≤ 99999)) then
        bif (decide (1 ≤ a1.Amount)) then
          some (.ret (decide (a1.Amount ≤ 1125899906842624)))
        else
          some (.ret false)
      else
        some (.ret false)
    else
      some (.ret false)
  | .ret => some (.ret false)
theorem f67n0_ok (a1 : NettingFlow) {o : f67n0O} (h : (f67n0 a1) = some o) : T Try.prog Try.f67.ntmps 0 c67 (f67n0S a1) (fun r => r = f67n0E a1 o) := by
  unfold f67n0 at h
  refine rN cfg_ok 1 [j3] [] [] [0] [1] (f67n1S a1) an ?_
  obtain ⟨o98, h99, h⟩ := bind_cases h
  cases o98 with
  | norm =>
    refine T.oneN (by kernel_rfl) (f67n1_ok a1 h99) (st2 := (f67n1E a1 .norm).2) rfl ?_
    rcases cond_cases h with ⟨h103, h⟩ | ⟨h103, h⟩
    · rcases cond_cases h with ⟨h104, h⟩ | ⟨h104, h⟩
      · rcases cond_cases h with ⟨h105, h⟩ | ⟨h105, h⟩
        · obtain rfl := some_inj h
          exact rE cfg_ok [(jT [4, 5, 6, 9, 10, 11, 14, 15, 16], [(7, .bool true), (12, .bool true), (17, .bool true)], [])] [] [] [] [2] (.ret, (f67n0E a1 (.ret (decide (a1.Amount ≤ 1125899906842624)))).2) (ap4 h103 (ap4 h104 (ap4 h105 an))) rfl
        · obtain rfl := some_inj h
          exact rE cfg_ok [(jF [14, 15, 16] ++ jT [4, 5, 6, 9, 10, 11], [(7, .bool true), (12, .bool true), (17, .bool false)], [])] [] [] [] [2] (.ret, (f67n0E a1 (.ret false)).2) (ap4 h103 (ap4 h104 (ap4 h105 an))) rfl
      · obtain rfl := some_inj h
        exact rE cfg_ok [(jF [9, 10, 11] ++ jT [4, 5, 6], [(7, .bool true), (12, .bool false)], [])] [] [] [] [2] (.ret, (f67n0E a1 (.ret false)).2) (ap4 h103 (ap4 h104 an)) rfl
    · obtain rfl := some_inj h
      exact rE cfg_ok [(jF [4, 5, 6], [(7, .bool false)], [])] [] [] [] [2] (.ret, (f67n0E a1 (.ret false)).2) (ap4 h103 an) rfl
  | ret =>
    obtain rfl := some_inj h
    exact T.oneX' (by kernel_rfl) (f67n1_ok a1 h99) (tds := []) (m := []) (keep := [2]) (st2 := (f67n0E a1 (.ret false)).2) (by kernel_rfl) an rfl rfl
noncomputable def f67 (a1 : NettingFlow) : Option Bool := (f67n0 a1).bind fun o => match o with
  | .ret v106 => some v106
theorem f67_ok (a1 : NettingFlow) {r : Bool} (h : (f67 a1) = some r) : CallS Try.prog false 67 [(jA NettingFlow.cells a1)] [] (jB r) [] := by
  unfold f67 at h
  obtain ⟨o, ho, h⟩ := bind_cases h
  cases o with
  | ret v106 =>
    obtain rfl := some_inj h
    exact CallS.plain cfg_ok (f := Try.f67) (c := c67) (by kernel_rfl) (by kernel_rfl) (by kernel_rfl) (by kernel_rfl) ((f67n0_ok a1 ho).mono fun r e => by subst e; exact ⟨.inl rfl, (jB v106), (jB v106), by kernel_rfl, by kernel_rfl, ((Wk.refl _) : Wk (jB v106) (jB v106))⟩)

noncomputable def c48 : Code := Try.f48.body.getD .skip
inductive f48n2O where
  | exit0
  | ret
def f48n2E (ba1 : List NettingFlow) : f48n2O → Ex × Tr × Hp
  | .exit0 => ((.exit 0), mkS [(0, (jL 6 NettingFlow.cells ba1))], [])
  | .ret => (.ret, mkS [(2, (jB false))], [])
def f48n2S (ba1 : List NettingFlow) (v29 : Int) : Tr × Hp := (mkS [(0, (jL 6 NettingFlow.cells ba1)), (3, (jI v29))], [])
noncomputable def f48n2 : Nat → List NettingFlow → Int → Option f48n2O
  | 0, _, _ => none
  | f + 1, ba1, v29 =>
    bif (decide (v29 < (ba1.length : Int))) then
      bif (decide (v29 < 500)) then
        (at? ba1 v29).bind fun x39 =>
        (f67 x39).bind fun x41 =>
        bif x41 then
          (f48n2 f ba1 (wr64 (v29 + 1)))
        else
          some .ret
      else
        some .exit0
    else
      some .exit0
theorem f48n2_ok : ∀ (f : Nat) (ba1 : List NettingFlow) (v29 : Int) {o : f48n2O}, (f48n2 f ba1 v29) = some o → TL Try.prog Try.f48.ntmps 0 f (cL (cL (dropC 1 (cL (dropC 1 c48))))) (f48n2S ba1 v29) (fun r => r = f48n2E ba1 o)
  | 0, _, _, o, h => by rw [f48n2] at h; cases h
  | f + 1, ba1, v29, o, h => by
    rw [f48n2] at h
    refine TL.body (K := fun s => ∃ v29 : Int, s = (f48n2S ba1 v29) ∧ (f48n2 f ba1 v29) = some o) ?_ (by rintro _ ⟨v29, rfl, hk⟩; exact f48n2_ok f _ _ hk)
    rcases cond_cases h with ⟨h32, h⟩ | ⟨h32, h⟩
    · rcases cond_cases h with ⟨h33, h⟩ | ⟨h33, h⟩
      · obtain ⟨x39, h40, h⟩ := bind_cases h
        obtain ⟨x41, h42, h⟩ := bind_cases h
        rcases cond_cases h with ⟨h43, h⟩ | ⟨h43, h⟩
        · exact rE cfg_ok [([(5, true), (6, true)], [(7, .bool true)], [(2, .val (jI (ba1.length : Int)))]), ([], [(2, .idx (Int.toNat v29) (NettingFlow.cells x39)), jH 4 (jB x41)], []), j3] [some true, some false] [] [] [0, 3] (.norm, (f48n2S ba1 (wr64 (v29 + 1)))) (ap (len_cv (xs := ba1) (c := NettingFlow.cells)) (ap3 h32 (ap h33 (ap (at_some h40).1 (ap (at_map NettingFlow.cells (at_some h40).2) (ap (f67_ok x39 h42) (ap (not_t h43) an))))))) (LoopQ.norm ⟨(wr64 (v29 + 1)), rfl, h⟩)
        · obtain rfl := some_inj h
          exact rK cfg_ok 2 [([(5, true), (6, true)], [(7, .bool true)], [(2, .val (jI (ba1.length : Int)))]), ([], [(2, .idx (Int.toNat v29) (NettingFlow.cells x39)), jH 4 (jB x41)], []), j3] [some true, some true] [] [] [2] .ret ((f48n2E ba1 .ret).2) (ap (len_cv (xs := ba1) (c := NettingFlow.cells)) (ap3 h32 (ap h33 (ap (at_some h40).1 (ap (at_map NettingFlow.cells (at_some h40).2) (ap (f67_ok x39 h42) (ap (not_f h43) an))))))) (LoopQ.out rfl rfl)
      · obtain rfl := some_inj h
        exact rK cfg_ok 1 [([(5, true), (6, true)], [(7, .bool true)], [(2, .val (jI (ba1.length : Int)))])] [some false] [] [] [0] (.exit 0) ((f48n2E ba1 .exit0).2) (ap (len_cv (xs := ba1) (c := NettingFlow.cells)) (ap3 h32 (ap h33 an))) (LoopQ.out rfl rfl)
    · obtain rfl := some_inj h
      exact rK cfg_ok 1 [([(5, false), (6, false)], [(7, .bool false)], [(2, .val (jI (ba1.length : Int)))])] [none] [] [] [0] (.exit 0) ((f48n2E ba1 .exit0).2) (ap (len_cv (xs := ba1) (c := NettingFlow.cells)) (ap3 h32 an)) (LoopQ.out rfl rfl)
noncomputable def f48n2L (ba1 : List NettingFlow) : List NettingFlow → Int → Option f48n2O
  | [], v29 =>
    some .exit0
  | x0 :: rest, v29 =>
    bif (decide (v29 < 500)) then
      (f67 x0).bind fun x41 =>
      bif x41 then
        (f48n2L ba1 rest (v29 + 1))
      else
        some .ret
    else
      some .exit0
theorem f48n2L_eq (ba1 : List NettingFlow) : ∀ (rest : List NettingFlow) (f k : Nat), ba1.drop k = rest → ba1.length ≤ maxLen → rest.length < f → f48n2 f ba1 (k : Int) = f48n2L ba1 rest (k : Int)
  | _, 0, _, _, _, hf => absurd hf (Nat.not_lt_zero _)
  | [], f + 1, k, hd, hm, hf => by
    have hk : ¬ ((k : Int) < (ba1.length : Int)) := by have := drop_nil hd; omega
    rw [f48n2, f48n2L]
    simp only [decide_eq_false hk, cond_false]
  | x0 :: rest, f + 1, k, hd, hm, hf => by
    obtain ⟨hx, hlt, hd'⟩ := drop_cons hd
    have hk : (k : Int) < (ba1.length : Int) := by omega
    have hw : wr64 ((k : Int) + 1) = (k : Int) + 1 := wr64_of (by omega) (by unfold maxLen at hm; omega)
    have ih : f48n2 f ba1 ((k : Int) + 1) = f48n2L ba1 rest ((k : Int) + 1) := f48n2L_eq ba1 rest f (k + 1) hd' hm (by simpa using hf)
    rw [f48n2, f48n2L]
    simp only [decide_eq_true hk, cond_true, at_nat, hx, Option.bind_some, hw, ih]
theorem f48n2_run (ba1 : List NettingFlow) (hm : ba1.length ≤ maxLen) : f48n2 FUEL ba1 0 = f48n2L ba1 ba1 0 := f48n2L_eq ba1 ba1 FUEL 0 List.drop_zero hm (lt_FUEL hm)
inductive f48n1O where
  | norm
  | ret
def f48n1E (ba1 : List NettingFlow) : f48n1O → Ex × Tr × Hp
  | .norm => (.norm, mkS [(0, (jL 6 NettingFlow.cells ba1))], [])
  | .ret => (.ret, mkS [(2, (jB false))], [])
def f48n1S (ba1 : List NettingFlow) : Tr × Hp := (mkS [(0, (jL 6 NettingFlow.cells ba1))], [])
noncomputable def f48n1 (ba1 : List NettingFlow) : Option f48n1O :=
  (f48n2 FUEL ba1 0).bind fun o44 => match o44 with
  | .exit0 => some .norm
  | .ret => some .ret
theorem f48n1_ok (ba1 : List NettingFlow) {o : f48n1O} (h : (f48n1 ba1) = some o) : T Try.prog Try.f48.ntmps 0 (cL (dropC 1 c48)) (f48n1S ba1) (fun r => r = f48n1E ba1 o) := by
  unfold f48n1 at h
  refine rN cfg_ok 1 [j3] [] [] [] [0, 3] (f48n2S ba1 0) an ?_
  obtain ⟨o44, h45, h⟩ := bind_cases h
  cases o44 with
  | exit0 =>
    obtain rfl := some_inj h
    exact T.last' (T.bl (i := 0) (by kernel_rfl) (by kernel_rfl) (f48n2_ok FUEL ba1 0 h45)) (tds := []) (m := []) (keep := [0]) (st2 := (f48n1E ba1 .norm).2) (by kernel_rfl) an rfl
  | ret =>
    obtain rfl := some_inj h
    exact T.last' (T.bl (i := 0) (by kernel_rfl) (by kernel_rfl) (f48n2_ok FUEL ba1 0 h45)) (tds := []) (m := []) (keep := [2]) (st2 := (f48n1E ba1 .ret).2) (by kernel_rfl) an rfl
inductive f48n0O where
  | ret (v48 : Bool)
def f48n0E (a1 : List NettingFlow) : f48n0O → Ex × Tr × Hp
  | .ret v48 => (.ret, mkS [(2, (jB v48))], [])
def f48n0S (a1 : List NettingFlow) : Tr × Hp := (initS [(jL 6 NettingFlow.cells a1)] 0 .leaf, [])
noncomputable def f48n0 (a1 : List NettingFlow) : Option f48n0O :=
  (f48n1 a1).bind fun o46 => match o46 with
  | .norm => some (.ret (decide ((a1.length : Int) ≤ 500)))
  | .ret => some (.ret false)
theorem f48n0_ok (a1 : List NettingFlow) {o : f48n0O} (h : (f48n0 a1) = some o) : T Try.prog Try.f48.ntmps 0 c48 (f48n0S a1) (fun r => r = f48n0E a1 o) := by
  unfold f48n0 at h
  refine rN cfg_ok 1 [j3] [] [] [] [0] (f48n1S a1) an ?_
  obtain ⟨o46, h47, h⟩ := bind_cases h
  cases o46 with
  | norm =>
    refine T.oneN (by kernel_rfl) (f48n1_ok a1 h47) (st2 := (f48n1E a1 .norm).2) rfl ?_
    obtain rfl := some_inj h
    exact rE cfg_ok [([], [], [(1, .val (jI (a1.length : Int)))])] [] [] [] [2] (.ret, (f48n0E a1 (.ret (decide ((a1.length : Int) ≤ 500)))).2) (ap (len_cv (xs := a1) (c := NettingFlow.cells)) an) rfl
  | ret =>
    obtain rfl := some_inj h
    exact T.oneX' (by kernel_rfl) (f48n1_ok a1 h47) (tds := []) (m := []) (keep := [2]) (st2 := (f48n0E a1 (.ret false)).2) (by kernel_rfl) an rfl rfl
noncomputable def f48 (a1 : List NettingFlow) : Option Bool := (f48n0 a1).bind fun o => match o with
  | .ret v48 => some v48
theorem f48_ok (a1 : List NettingFlow) {r : Bool} (h : (f48 a1) = some r) : CallS Try.prog false 48 [(jL 6 NettingFlow.cells a1)] [] (jB r) [] := by
  unfold f48 at h
  obtain ⟨o, ho, h⟩ := bind_cases h
  cases o with
  | ret v48 =>
    obtain rfl := some_inj h
    exact CallS.plain cfg_ok (f := Try.f48) (c := c48) (by kernel_rfl) (by kernel_rfl) (by kernel_rfl) (by kernel_rfl) ((f48n0_ok a1 ho).mono fun r e => by subst e; exact ⟨.inl rfl, (jB v48), (jB v48), by kernel_rfl, by kernel_rfl, ((Wk.refl _) : Wk (jB v48) (jB v48))⟩)











noncomputable def c17 : Code := Try.f17.body.getD .skip
inductive f17n2O where
  | exit0
  | ret
def f17n2E (ba1 : List NettingFlow) (ba2 : List NettingFlow) : f17n2O → Ex × Tr × Hp
  | .exit0 => ((.exit 0), mkS [], [])
  | .ret => (.ret, mkS [(4, (jB false))], [])
def f17n2S (ba1 : List NettingFlow) (ba2 : List NettingFlow) (v30 : Int) : Tr × Hp := (mkS [(0, (jL 6 NettingFlow.cells ba1)), (1, (jL 6 NettingFlow.cells ba2)), (5, (jI v30))], [])
noncomputable def f17n2 : Nat → List NettingFlow → List NettingFlow → Int → Option f17n2O
  | 0, _, _, _ => none
  | f + 1, ba1, ba2, v30 =>
    bif (decide (v30 < (ba1.length : Int))) then
      (at? ba1 v30).bind fun x38 =>
      (at? ba2 v30).bind fun x40 =>
      bif (NettingFlow.eqb x38 x40) then
        (f17n2 f ba1 ba2 (wr64 (v30 + 1)))
      else
        some .ret
    else
      some .exit0
theorem f17n2_ok : ∀ (f : Nat) (ba1 : List NettingFlow) (ba2 : List NettingFlow) (v30 : Int) {o : f17n2O}, (f17n2 f ba1 ba2 v30) = some o → TL Try.prog Try.f17.ntmps 0 f (cL (cL (dropC 1 (cL (dropC 2 c17))))) (f17n2S ba1 ba2 v30) (fun r => r = f17n2E ba1 ba2 o)
  | 0, _, _, _, o, h => by rw [f17n2] at h; cases h
  | f + 1, ba1, ba2, v30, o, h => by
    rw [f17n2] at h
    refine TL.body (K := fun s => ∃ v30 : Int, s = (f17n2S ba1 ba2 v30) ∧ (f17n2 f ba1 ba2 v30) = some o) ?_ (by rintro _ ⟨v30, rfl, hk⟩; exact f17n2_ok f _ _ _ hk)
    rcases cond_cases h with ⟨h32, h⟩ | ⟨h32, h⟩
    · obtain ⟨x38, h39, h⟩ := bind_cases h
      obtain ⟨x40, h41, h⟩ := bind_cases h
      rcases cond_cases h with ⟨h42, h⟩ | ⟨h42, h⟩
      · exact rE cfg_ok [([], [], [(2, .val (jI (ba1.length : Int)))]), ([], [(2, .idx (Int.toNat v30) (NettingFlow.cells x38)), (6, .idx (Int.toNat v30) (NettingFlow.cells x40)), (8, .bool (NettingFlow.eqb x38 x40))], []), j3] [some true, some false] [] [] [0, 1, 5] (.norm, (f17n2S ba1 ba2 (wr64 (v30 + 1)))) (ap (len_cv (xs := ba1) (c := NettingFlow.cells)) (ap h32 (ap (at_some h39).1 (ap (at_map NettingFlow.cells (at_some h39).2) (ap (at_some h41).1 (ap (at_map NettingFlow.cells (at_some h41).2) (ap (NettingFlow.eqb_ok x38 x40) (ap (not_t h42) an)))))))) (LoopQ.norm ⟨(wr64 (v30 + 1)), rfl, h⟩)
      · obtain rfl := some_inj h
        exact rK cfg_ok 2 [([], [], [(2, .val (jI (ba1.length : Int)))]), ([], [(2, .idx (Int.toNat v30) (NettingFlow.cells x38)), (6, .idx (Int.toNat v30) (NettingFlow.cells x40)), (8, .bool (NettingFlow.eqb x38 x40))], []), j3] [some true, some true] [] [] [4] .ret ((f17n2E ba1 ba2 .ret).2) (ap (len_cv (xs := ba1) (c := NettingFlow.cells)) (ap h32 (ap (at_some h39).1 (ap (at_map NettingFlow.cells (at_some h39).2) (ap (at_some h41).1 (ap (at_map NettingFlow.cells (at_some h41).2) (ap (NettingFlow.eqb_ok x38 x40) (ap (not_f h42) an)))))))) (LoopQ.out rfl rfl)
    · obtain rfl := some_inj h
      exact rK cfg_ok 1 [([], [], [(2, .val (jI (ba1.length : Int)))])] [some false] [] [] [] (.exit 0) ((f17n2E ba1 ba2 .exit0).2) (ap (len_cv (xs := ba1) (c := NettingFlow.cells)) (ap h32 an)) (LoopQ.out rfl rfl)
noncomputable def f17n2L (ba1 : List NettingFlow) (ba2 : List NettingFlow) : List NettingFlow → Int → Option f17n2O
  | [], v30 =>
    some .exit0
  | x0 :: rest, v30 =>
    (at? ba2 v30).bind fun x40 =>
    bif (NettingFlow.eqb x0 x40) then
      (f17n2L ba1 ba2 rest (v30 + 1))
    else
      some .ret
theorem f17n2L_eq (ba1 : List NettingFlow) (ba2 : List NettingFlow) : ∀ (rest : List NettingFlow) (f k : Nat), ba1.drop k = rest → ba1.length ≤ maxLen → rest.length < f → f17n2 f ba1 ba2 (k : Int) = f17n2L ba1 ba2 rest (k : Int)
  | _, 0, _, _, _, hf => absurd hf (Nat.not_lt_zero _)
  | [], f + 1, k, hd, hm, hf => by
    have hk : ¬ ((k : Int) < (ba1.length : Int)) := by have := drop_nil hd; omega
    rw [f17n2, f17n2L]
    simp only [decide_eq_false hk, cond_false]
  | x0 :: rest, f + 1, k, hd, hm, hf => by
    obtain ⟨hx, hlt, hd'⟩ := drop_cons hd
    have hk : (k : Int) < (ba1.length : Int) := by omega
    have hw : wr64 ((k : Int) + 1) = (k : Int) + 1 := wr64_of (by omega) (by unfold maxLen at hm; omega)
    have ih : f17n2 f ba1 ba2 ((k : Int) + 1) = f17n2L ba1 ba2 rest ((k : Int) + 1) := f17n2L_eq ba1 ba2 rest f (k + 1) hd' hm (by simpa using hf)
    rw [f17n2, f17n2L]
    simp only [decide_eq_true hk, cond_true, at_nat, hx, Option.bind_some, hw, ih]
theorem f17n2_run (ba1 : List NettingFlow) (ba2 : List NettingFlow) (hm : ba1.length ≤ maxLen) : f17n2 FUEL ba1 ba2 0 = f17n2L ba1 ba2 ba1 0 := f17n2L_eq ba1 ba2 ba1 FUEL 0 List.drop_zero hm (lt_FUEL hm)
inductive f17n1O where
  | norm
  | ret
def f17n1E (ba1 : List NettingFlow) (ba2 : List NettingFlow) : f17n1O → Ex × Tr × Hp
  | .norm => (.norm, mkS [], [])
  | .ret => (.ret, mkS [(4, (jB false))], [])
def f17n1S (ba1 : List NettingFlow) (ba2 : List NettingFlow) : Tr × Hp := (mkS [(0, (jL 6 NettingFlow.cells ba1)), (1, (jL 6 NettingFlow.cells ba2))], [])
noncomputable def f17n1 (ba1 : List NettingFlow) (ba2 : List NettingFlow) : Option f17n1O :=
  (f17n2 FUEL ba1 ba2 0).bind fun o43 => match o43 with
  | .exit0 => some .norm
  | .ret => some .ret
theorem f17n1_ok (ba1 : List NettingFlow) (ba2 : List NettingFlow) {o : f17n1O} (h : (f17n1 ba1 ba2) = some o) : T Try.prog Try.f17.ntmps 0 (cL (dropC 2 c17)) (f17n1S ba1 ba2) (fun r => r = f17n1E ba1 ba2 o) := by
  unfold f17n1 at h
  refine rN cfg_ok 1 [j3] [] [] [] [0, 1, 5] (f17n2S ba1 ba2 0) an ?_
  obtain ⟨o43, h44, h⟩ := bind_cases h
  cases o43 with
  | exit0 =>
    obtain rfl := some_inj h
    exact T.last' (T.bl (i := 0) (by kernel_rfl) (by kernel_rfl) (f17n2_ok FUEL ba1 ba2 0 h44)) (tds := []) (m := []) (keep := []) (st2 := (f17n1E ba1 ba2 .norm).2) (by kernel_rfl) an rfl
  | ret =>
    obtain rfl := some_inj h
    exact T.last' (T.bl (i := 0) (by kernel_rfl) (by kernel_rfl) (f17n2_ok FUEL ba1 ba2 0 h44)) (tds := []) (m := []) (keep := [4]) (st2 := (f17n1E ba1 ba2 .ret).2) (by kernel_rfl) an rfl
inductive f17n0O where
  | ret (v47 : Bool)
def f17n0E (a1 : List NettingFlow) (a2 : List NettingFlow) : f17n0O → Ex × Tr × Hp
  | .ret v47 => (.ret, mkS [(4, (jB v47))], [])
def f17n0S (a1 : List NettingFlow) (a2 : List NettingFlow) : Tr × Hp := (initS [(jL 6 NettingFlow.cells a1), (jL 6 NettingFlow.cells a2)] 0 .leaf, [])
noncomputable def f17n0 (a1 : List NettingFlow) (a2 : List NettingFlow) : Option f17n0O :=
  bif (decide ((a1.length : Int) = (a2.length : Int))) then
    (f17n1 a1 a2).bind fun o45 => match o45 with
    | .norm => some (.ret true)
    | .ret => some (.ret false)
  else
    some (.ret false)
theorem f17n0_ok (a1 : List NettingFlow) (a2 : List NettingFlow) {o : f17n0O} (h : (f17n0 a1 a2) = some o) : T Try.prog Try.f17.ntmps 0 c17 (f17n0S a1 a2) (fun r => r = f17n0E a1 a2 o) := by
  unfold f17n0 at h
  rcases cond_cases h with ⟨h4, h⟩ | ⟨h4, h⟩
  · refine rN cfg_ok 2 [j3, ([], [], [(1, .val (jI (a1.length : Int))), (3, .val (jI (a2.length : Int)))])] [some false] [] [] [0, 1] (f17n1S a1 a2) (ap (len_cv (xs := a1) (c := NettingFlow.cells)) (ap (len_cv (xs := a2) (c := NettingFlow.cells)) (ap (not_t h4) an))) ?_
    obtain ⟨o45, h46, h⟩ := bind_cases h
    cases o45 with
    | norm =>
      refine T.oneN (by kernel_rfl) (f17n1_ok a1 a2 h46) (st2 := (f17n1E a1 a2 .norm).2) rfl ?_
      obtain rfl := some_inj h
      exact rE cfg_ok [j3] [] [] [] [4] (.ret, (f17n0E a1 a2 (.ret true)).2) an rfl
    | ret =>
      obtain rfl := some_inj h
      exact T.oneX' (by kernel_rfl) (f17n1_ok a1 a2 h46) (tds := []) (m := []) (keep := [4]) (st2 := (f17n0E a1 a2 (.ret false)).2) (by kernel_rfl) an rfl rfl
  · obtain rfl := some_inj h
    exact rK cfg_ok 2 [j3, ([], [], [(1, .val (jI (a1.length : Int))), (3, .val (jI (a2.length : Int)))]), j3] [some true] [] [] [4] .ret ((f17n0E a1 a2 (.ret false)).2) (ap (len_cv (xs := a1) (c := NettingFlow.cells)) (ap (len_cv (xs := a2) (c := NettingFlow.cells)) (ap (not_f h4) an))) rfl
noncomputable def f17 (a1 : List NettingFlow) (a2 : List NettingFlow) : Option Bool := (f17n0 a1 a2).bind fun o => match o with
  | .ret v47 => some v47
theorem f17_ok (a1 : List NettingFlow) (a2 : List NettingFlow) {r : Bool} (h : (f17 a1 a2) = some r) : CallS Try.prog false 17 [(jL 6 NettingFlow.cells a1), (jL 6 NettingFlow.cells a2)] [] (jB r) [] := by
  unfold f17 at h
  obtain ⟨o, ho, h⟩ := bind_cases h
  cases o with
  | ret v47 =>
    obtain rfl := some_inj h
    exact CallS.plain cfg_ok (f := Try.f17) (c := c17) (by kernel_rfl) (by kernel_rfl) (by kernel_rfl) (by kernel_rfl) ((f17n0_ok a1 a2 ho).mono fun r e => by subst e; exact ⟨.inl rfl, (jB v47), (jB v47), by kernel_rfl, by kernel_rfl, ((Wk.refl _) : Wk (jB v47) (jB v47))⟩)
end Go.Proofs.Ytkcafackfihmiaa
namespace Go.Proofs.Ytkcafackfihmiaa
set_option linter.unusedVariables false
set_option linter.unusedSimpArgs false
set_option maxRecDepth 100000
open Go.RowKit
noncomputable def c25 : Code := Try.f25.body.getD .skip
inductive f25r1n1O where
  | exit0 (v24 : List NettingFlow)
def f25r1n1E : f25r1n1O → Ex × Tr × Hp
  | .exit0 v24 => ((.exit 0), mkS [], [jR 6 NettingFlow.cells v24])
def f25r1n1S (v16 : Int) (v17 : List NettingFlow) : Tr × Hp := (mkS [(0, (.own 0)), (2, (jI v16))], [jR 6 NettingFlow.cells v17])
noncomputable def f25r1n1 : Nat → Int → List NettingFlow → Option f25r1n1O
  | 0, _, _ => none
  | f + 1, v16, v17 =>
    bif (decide (v16 < (v17.length : Int))) then
      (at? v17 v16).bind fun x22 =>
      (f25r1n1 f (wr64 (v16 + 1)) (v17.set (Int.toNat v16) (NettingFlow.mk x22.Date x22.Set x22.Ccy x22.From x22.To (-77))))
    else
      some (.exit0 v17)
theorem f25r1n1_ok : ∀ (f : Nat) (v16 : Int) (v17 : List NettingFlow) {o : f25r1n1O}, (f25r1n1 f v16 v17) = some o → TL Try.prog Try.f25.ntmps 1 f (cL (cL (dropC 1 c25))) (f25r1n1S v16 v17) (fun r => r = f25r1n1E o)
  | 0, _, _, o, h => by rw [f25r1n1] at h; cases h
  | f + 1, v16, v17, o, h => by
    rw [f25r1n1] at h
    refine TL.body (K := fun s => ∃ v16 : Int, ∃ v17 : List NettingFlow, s = (f25r1n1S v16 v17) ∧ (f25r1n1 f v16 v17) = some o) ?_ (by rintro _ ⟨v16, v17, rfl, hk⟩; exact f25r1n1_ok f _ _ hk)
    rcases cond_cases h with ⟨h19, h⟩ | ⟨h19, h⟩
    · obtain ⟨x22, h23, h⟩ := bind_cases h
      exact rE cfg_ok [([], [], [(2, .val (jI (v17.length : Int)))]), ([], [(2, .at_ (Int.toNat v16)), (4, .idx 0 (NettingFlow.cells x22))], [(4, .row 0 ((v17.set (Int.toNat v16) (NettingFlow.mk x22.Date x22.Set x22.Ccy x22.From x22.To (-77))).map NettingFlow.cells))]), j3] [some true] [] [] [0, 2] (.norm, (f25r1n1S (wr64 (v16 + 1)) (v17.set (Int.toNat v16) (NettingFlow.mk x22.Date x22.Set x22.Ccy x22.From x22.To (-77))))) (ap (len_cv (xs := v17) (c := NettingFlow.cells)) (ap h19 (ap (at_some h23).1 (ap (lt_map NettingFlow.cells (at_some h23).2) (ap (at_map NettingFlow.cells (at_some h23).2) (ap (set_cv (xs := v17) (c := NettingFlow.cells) (k := (Int.toNat v16)) (x := (NettingFlow.mk x22.Date x22.Set x22.Ccy x22.From x22.To (-77)))) an)))))) (LoopQ.norm ⟨(wr64 (v16 + 1)), (v17.set (Int.toNat v16) (NettingFlow.mk x22.Date x22.Set x22.Ccy x22.From x22.To (-77))), rfl, h⟩)
    · obtain rfl := some_inj h
      exact rK cfg_ok 1 [([], [], [(2, .val (jI (v17.length : Int)))])] [some false] [] [] [] (.exit 0) ((f25r1n1E (.exit0 v17)).2) (ap (len_cv (xs := v17) (c := NettingFlow.cells)) (ap h19 an)) (LoopQ.out rfl rfl)
inductive f25r1n0O where
  | norm (v28 : List NettingFlow)
def f25r1n0E (a1 : List NettingFlow) : f25r1n0O → Ex × Tr × Hp
  | .norm v28 => (.norm, mkS [], [jR 6 NettingFlow.cells v28])
def f25r1n0S (a1 : List NettingFlow) : Tr × Hp := (initS [(.own 0)] 0 .leaf, [jR 6 NettingFlow.cells a1])
noncomputable def f25r1n0 (a1 : List NettingFlow) : Option f25r1n0O :=
  (f25r1n1 FUEL 0 a1).bind fun o25 => match o25 with
  | .exit0 v27 => some (.norm v27)
theorem f25r1n0_ok (a1 : List NettingFlow) {o : f25r1n0O} (h : (f25r1n0 a1) = some o) : T Try.prog Try.f25.ntmps 1 c25 (f25r1n0S a1) (fun r => r = f25r1n0E a1 o) := by
  unfold f25r1n0 at h
  refine rN cfg_ok 1 [j3] [] [] [] [0, 2] (f25r1n1S 0 a1) an ?_
  obtain ⟨o25, h26, h⟩ := bind_cases h
  cases o25 with
  | exit0 v27 =>
    obtain rfl := some_inj h
    exact T.last' (T.bl (i := 0) (by kernel_rfl) (by kernel_rfl) (f25r1n1_ok FUEL 0 a1 h26)) (tds := []) (m := []) (keep := []) (st2 := (f25r1n0E a1 (.norm v27)).2) (by kernel_rfl) an rfl
noncomputable def f25r1 (a1 : List NettingFlow) : Option (List NettingFlow) := (f25r1n0 a1).bind fun o => match o with
  | .norm v28 => some v28
theorem f25r1_ok (a1 : List NettingFlow) {r : List NettingFlow} (h : (f25r1 a1) = some r) : CallS Try.prog true 25 [(.own 0)] [jR 6 NettingFlow.cells a1] (.tup []) [jR 6 NettingFlow.cells r] := by
  unfold f25r1 at h
  obtain ⟨o, ho, h⟩ := bind_cases h
  cases o with
  | norm v28 =>
    obtain rfl := some_inj h
    exact CallS.shared cfg_ok (f := Try.f25) (c := c25) (by kernel_rfl) (by kernel_rfl) (by kernel_rfl) ((f25r1n0_ok a1 ho).mono fun r e => by subst e; exact ⟨.inr rfl, by kernel_rfl, by kernel_rfl⟩)


noncomputable def c23 : Code := Try.f23.body.getD .skip
inductive f23n3O where
  | norm (v154 : Bool)
def f23n3E (bo1 : List NettingSet) (bd2 : Int) (bp3 : NettingSet) : f23n3O → Ex × Tr × Hp
  | .norm v154 => (.norm, mkS [(0, (jL 3 NettingSet.cells bo1)), (3, (jI bd2)), (4, (.bp 0 0)), (5, (jB v154)), (9, (jL 3 NettingSet.cells bo1)), (10, (jI (bo1.length : Int))), (11, (jI bd2))], [some (.box ((NettingSet.cells bp3).map .pl))])
def f23n3S (bo1 : List NettingSet) (bd2 : Int) (bp3 : NettingSet) : Tr × Hp := (mkS [(0, (jL 3 NettingSet.cells bo1)), (3, (jI bd2)), (4, (.bp 0 0)), (9, (jL 3 NettingSet.cells bo1)), (10, (jI (bo1.length : Int))), (11, (jI bd2))], [some (.box ((NettingSet.cells bp3).map .pl))])
noncomputable def f23n3 (bo1 : List NettingSet) (bd2 : Int) (bp3 : NettingSet) : Option f23n3O :=
  (f36 bp3.Name).bind fun x145 =>
  bif x145 then
    (f36 bp3.First).bind fun x148 =>
    bif x148 then
      (f36 bp3.Second).bind fun x151 =>
      bif x151 then
        some (.norm (slt bp3.First bp3.Second))
      else
        some (.norm false)
    else
      some (.norm false)
  else
    some (.norm false)
theorem f23n3_ok (bo1 : List NettingSet) (bd2 : Int) (bp3 : NettingSet) {o : f23n3O} (h : (f23n3 bo1 bd2 bp3) = some o) : T Try.prog Try.f23.ntmps 0 (cL (dropC 1 (cL (cL (dropC 2 (cL (cL (dropC 1 (cL (dropC 2 c23)))))))))) (f23n3S bo1 bd2 bp3) (fun r => r = f23n3E bo1 bd2 bp3 o) := by
  unfold f23n3 at h
  obtain ⟨x145, h146, h⟩ := bind_cases h
  rcases cond_cases h with ⟨h147, h⟩ | ⟨h147, h⟩
  · obtain ⟨x148, h149, h⟩ := bind_cases h
    rcases cond_cases h with ⟨h150, h⟩ | ⟨h150, h⟩
    · obtain ⟨x151, h152, h⟩ := bind_cases h
      rcases cond_cases h with ⟨h153, h⟩ | ⟨h153, h⟩
      · obtain rfl := some_inj h
        exact rE cfg_ok [(jT [4, 5, 6, 9, 10, 11, 14, 15, 16, 17, 18], [jH 2 (jB x145), jH 6 (jB x148), (7, .bool true), jH 11 (jB x151), (12, .bool true), (19, .bool true)], [])] [] [] [0] [0, 3, 4, 5, 9, 10, 11] (.norm, (f23n3E bo1 bd2 bp3 (.norm (slt bp3.First bp3.Second))).2) (ap4 h147 (ap4 h150 (ap2 h153 (ap4 h153 (ap (f36_ok bp3.Name h146) (ap (f36_ok bp3.First h149) (ap (f36_ok bp3.Second h152) an))))))) rfl
      · obtain rfl := some_inj h
        exact rE cfg_ok [(jF [14, 15, 16, 17, 18] ++ jT [4, 5, 6, 9, 10, 11], [jH 2 (jB x145), jH 6 (jB x148), (7, .bool true), jH 11 (jB x151), (12, .bool true), (19, .bool false)], [])] [] [] [0] [0, 3, 4, 5, 9, 10, 11] (.norm, (f23n3E bo1 bd2 bp3 (.norm false)).2) (ap4 h147 (ap4 h150 (ap2 h153 (ap4 h153 (ap (f36_ok bp3.Name h146) (ap (f36_ok bp3.First h149) (ap (f36_ok bp3.Second h152) an))))))) rfl
    · obtain rfl := some_inj h
      exact rE cfg_ok [(jF [9, 10, 11] ++ jT [4, 5, 6], [jH 2 (jB x145), jH 6 (jB x148), (7, .bool true), (12, .bool false)], [])] [] [] [0] [0, 3, 4, 5, 9, 10, 11] (.norm, (f23n3E bo1 bd2 bp3 (.norm false)).2) (ap4 h147 (ap4 h150 (ap (f36_ok bp3.Name h146) (ap (f36_ok bp3.First h149) an)))) rfl
  · obtain rfl := some_inj h
    exact rE cfg_ok [(jF [4, 5, 6], [jH 2 (jB x145), (7, .bool false)], [])] [] [] [0] [0, 3, 4, 5, 9, 10, 11] (.norm, (f23n3E bo1 bd2 bp3 (.norm false)).2) (ap4 h147 (ap (f36_ok bp3.Name h146) an)) rfl
inductive f23n4O where
  | norm (v170 : Bool)
def f23n4E (bo1 : List NettingSet) (bd2 : Int) (bi3 : Bool) (bp4 : NettingSet) : f23n4O → Ex × Tr × Hp
  | .norm v170 => (.norm, mkS [(0, (jL 3 NettingSet.cells bo1)), (9, (jL 3 NettingSet.cells bo1)), (10, (jI (bo1.length : Int))), (11, (jI bd2)), (52, (jB v170))], [])
def f23n4S (bo1 : List NettingSet) (bd2 : Int) (bi3 : Bool) (bp4 : NettingSet) : Tr × Hp := (mkS [(0, (jL 3 NettingSet.cells bo1)), (3, (jI bd2)), (4, (.bp 0 0)), (5, (jB bi3)), (9, (jL 3 NettingSet.cells bo1)), (10, (jI (bo1.length : Int))), (11, (jI bd2))], [some (.box ((NettingSet.cells bp4).map .pl))])
noncomputable def f23n4 (bo1 : List NettingSet) (bd2 : Int) (bi3 : Bool) (bp4 : NettingSet) : Option f23n4O :=
  bif bi3 then
    bif (decide (0 < bd2)) then
      (at? bo1 (wr64 (bd2 - 1))).bind fun x168 =>
      some (.norm (!(slt x168.Name bp4.Name)))
    else
      some (.norm false)
  else
    some (.norm true)
theorem f23n4_ok (bo1 : List NettingSet) (bd2 : Int) (bi3 : Bool) (bp4 : NettingSet) {o : f23n4O} (h : (f23n4 bo1 bd2 bi3 bp4) = some o) : T Try.prog Try.f23.ntmps 0 (cL (dropC 0 (dropC 1 (dropC 1 (cL (cL (dropC 2 (cL (cL (dropC 1 (cL (dropC 2 c23)))))))))))) (f23n4S bo1 bd2 bi3 bp4) (fun r => r = f23n4E bo1 bd2 bi3 bp4 o) := by
  unfold f23n4 at h
  rcases cond_cases h with ⟨h166, h⟩ | ⟨h166, h⟩
  · rcases cond_cases h with ⟨h167, h⟩ | ⟨h167, h⟩
    · obtain ⟨x168, h169, h⟩ := bind_cases h
      obtain rfl := some_inj h
      exact rE cfg_ok [(jF [3, 4, 5, 15] ++ jT [6, 7, 8, 9, 10, 11, 12, 13, 14], [(9, .idx (Int.toNat (wr64 (bd2 - 1))) (NettingSet.cells x168)), (15, .bool true), (16, .bool false)], [])] [] [] [] [0, 9, 10, 11, 52] (.norm, (f23n4E bo1 bd2 bi3 bp4 (.norm (!(slt x168.Name bp4.Name)))).2) (ap3 (not_t h166) (ap4 h167 (ap (at_some h169).1 (ap (at_map NettingSet.cells (at_some h169).2) (ap h167 (ap4 h167 (ap (not_t h166) (ap h167 (ap (not_t h166) an))))))))) rfl
    · obtain rfl := some_inj h
      exact rE cfg_ok [(jF [3, 4, 5, 6, 7, 8, 9, 10, 11, 12, 13, 14, 15], [(15, .bool false), (16, .bool false)], [])] [] [] [] [0, 9, 10, 11, 52] (.norm, (f23n4E bo1 bd2 bi3 bp4 (.norm false)).2) (ap3 (not_t h166) (ap h167 (ap4 h167 (ap4 h167 (ap (not_t h166) (ap h167 (ap (not_t h166) an))))))) rfl
  · obtain rfl := some_inj h
    exact rE cfg_ok [(jT [3, 4, 5, 15], [(16, .bool true)], [])] [] [] [] [0, 9, 10, 11, 52] (.norm, (f23n4E bo1 bd2 bi3 bp4 (.norm true)).2) (ap (not_f h166) (ap4 (not_f h166) an)) rfl
inductive f23n2O where
  | norm
  | ret
def f23n2E (bo1 : List NettingSet) (bd2 : Int) : f23n2O → Ex × Tr × Hp
  | .norm => (.norm, mkS [(0, (jL 3 NettingSet.cells bo1)), (9, (jL 3 NettingSet.cells bo1)), (10, (jI (bo1.length : Int))), (11, (jI bd2))], [])
  | .ret => (.ret, mkS [(2, (jI 8))], [])
def f23n2S (bo1 : List NettingSet) (bd2 : Int) : Tr × Hp := (mkS [(0, (jL 3 NettingSet.cells bo1)), (9, (jL 3 NettingSet.cells bo1)), (10, (jI (bo1.length : Int))), (11, (jI bd2))], [])
noncomputable def f23n2 (bo1 : List NettingSet) (bd2 : Int) : Option f23n2O :=
  (at? bo1 bd2).bind fun x125 =>
  (f23n3 bo1 bd2 x125).bind fun o155 => match o155 with
  | .norm v157 => (f23n4 bo1 bd2 v157 x125).bind fun o171 => match o171 with
    | .norm v173 => bif v173 then
        some .ret
      else
        some .norm
theorem f23n2_ok (bo1 : List NettingSet) (bd2 : Int) {o : f23n2O} (h : (f23n2 bo1 bd2) = some o) : T Try.prog Try.f23.ntmps 0 (cL (dropC 2 (cL (cL (dropC 1 (cL (dropC 2 c23))))))) (f23n2S bo1 bd2) (fun r => r = f23n2E bo1 bd2 o) := by
  unfold f23n2 at h
  refine T.block' (i := 1) (by kernel_rfl) ?_
  obtain ⟨x125, h126, h⟩ := bind_cases h
  refine rN cfg_ok 1 [([], [(1, .idx (Int.toNat bd2) (NettingSet.cells x125))], [])] [] [] [0] [0, 3, 4, 9, 10, 11] (f23n3S bo1 bd2 x125) (ap (at_some h126).1 (ap (at_map NettingSet.cells (at_some h126).2) an)) ?_
  obtain ⟨o155, h156, h⟩ := bind_cases h
  cases o155 with
  | norm v157 =>
    refine T.oneN (by kernel_rfl) (f23n3_ok bo1 bd2 x125 h156) (st2 := (f23n3E bo1 bd2 x125 (.norm v157)).2) rfl ?_
    refine rN cfg_ok 0 [] [] [] [0] [0, 3, 4, 5, 9, 10, 11] (f23n4S bo1 bd2 v157 x125) an ?_
    obtain ⟨o171, h172, h⟩ := bind_cases h
    cases o171 with
    | norm v173 =>
      refine T.oneN (by kernel_rfl) (f23n4_ok bo1 bd2 v157 x125 h172) (st2 := (f23n4E bo1 bd2 v157 x125 (.norm v173)).2) rfl ?_
      rcases cond_cases h with ⟨h175, h⟩ | ⟨h175, h⟩
      · obtain rfl := some_inj h
        exact rE cfg_ok [j3] [some true] [] [] [2] (.ret, (f23n2E bo1 bd2 .ret).2) (ap h175 an) rfl
      · obtain rfl := some_inj h
        exact rE cfg_ok [] [some false] [] [] [0, 9, 10, 11] (.norm, (f23n2E bo1 bd2 .norm).2) (ap h175 an) rfl
inductive f23n5O where
  | exit0
  | ret
def f23n5E (bo1 : List NettingSet) : f23n5O → Ex × Tr × Hp
  | .exit0 => ((.exit 0), mkS [], [])
  | .ret => (.ret, mkS [(2, (jI 8))], [])
def f23n5S (bo1 : List NettingSet) (v104 : Int) : Tr × Hp := (mkS [(0, (jL 3 NettingSet.cells bo1)), (9, (jL 3 NettingSet.cells bo1)), (10, (jI (bo1.length : Int))), (11, (jI v104))], [])
noncomputable def f23n5 : Nat → List NettingSet → Int → Option f23n5O
  | 0, _, _ => none
  | f + 1, bo1, v104 =>
    bif (decide (v104 < (bo1.length : Int))) then
      (f23n2 bo1 v104).bind fun o176 => match o176 with
      | .norm => (f23n5 f bo1 (wr64 (v104 + 1)))
      | .ret => some .ret
    else
      some .exit0
theorem f23n5_ok : ∀ (f : Nat) (bo1 : List NettingSet) (v104 : Int) {o : f23n5O}, (f23n5 f bo1 v104) = some o → TL Try.prog Try.f23.ntmps 0 f (cL (cL (dropC 1 (cL (dropC 2 c23))))) (f23n5S bo1 v104) (fun r => r = f23n5E bo1 o)
  | 0, _, _, o, h => by rw [f23n5] at h; cases h
  | f + 1, bo1, v104, o, h => by
    rw [f23n5] at h
    refine TL.body (K := fun s => ∃ v104 : Int, s = (f23n5S bo1 v104) ∧ (f23n5 f bo1 v104) = some o) ?_ (by rintro _ ⟨v104, rfl, hk⟩; exact f23n5_ok f _ _ hk)
    rcases cond_cases h with ⟨h106, h⟩ | ⟨h106, h⟩
    · refine rN cfg_ok 2 [j3] [some true] [] [] [0, 9, 10, 11] (f23n2S bo1 v104) (ap h106 an) ?_
      obtain ⟨o176, h177, h⟩ := bind_cases h
      cases o176 with
      | norm =>
        refine T.oneN (by kernel_rfl) (f23n2_ok bo1 v104 h177) (st2 := (f23n2E bo1 v104 .norm).2) rfl ?_
        exact rE cfg_ok [j3] [] [] [] [0, 9, 10, 11] (.norm, (f23n5S bo1 (wr64 (v104 + 1)))) an (LoopQ.norm ⟨(wr64 (v104 + 1)), rfl, h⟩)
      | ret =>
        obtain rfl := some_inj h
        exact T.oneX' (by kernel_rfl) (f23n2_ok bo1 v104 h177) (tds := []) (m := []) (keep := [2]) (st2 := (f23n5E bo1 .ret).2) (by kernel_rfl) an rfl (LoopQ.out rfl rfl)
    · obtain rfl := some_inj h
      exact rK cfg_ok 2 [j3] [some false] [] [] [] (.exit 0) ((f23n5E bo1 .exit0).2) (ap h106 an) (LoopQ.out rfl rfl)
inductive f23n1O where
  | norm
  | ret
def f23n1E (bo1 : List NettingSet) : f23n1O → Ex × Tr × Hp
  | .norm => (.norm, mkS [], [])
  | .ret => (.ret, mkS [(2, (jI 8))], [])
def f23n1S (bo1 : List NettingSet) : Tr × Hp := (mkS [(0, (jL 3 NettingSet.cells bo1))], [])
noncomputable def f23n1 (bo1 : List NettingSet) : Option f23n1O :=
  (f23n5 FUEL bo1 0).bind fun o178 => match o178 with
  | .exit0 => some .norm
  | .ret => some .ret
theorem f23n1_ok (bo1 : List NettingSet) {o : f23n1O} (h : (f23n1 bo1) = some o) : T Try.prog Try.f23.ntmps 0 (cL (dropC 2 c23)) (f23n1S bo1) (fun r => r = f23n1E bo1 o) := by
  unfold f23n1 at h
  refine rN cfg_ok 1 [([], [], [(1, .val (jI (bo1.length : Int)))])] [] [] [] [0, 9, 10, 11] (f23n5S bo1 0) (ap (len_cv (xs := bo1) (c := NettingSet.cells)) an) ?_
  obtain ⟨o178, h179, h⟩ := bind_cases h
  cases o178 with
  | exit0 =>
    obtain rfl := some_inj h
    exact T.last' (T.bl (i := 0) (by kernel_rfl) (by kernel_rfl) (f23n5_ok FUEL bo1 0 h179)) (tds := []) (m := []) (keep := []) (st2 := (f23n1E bo1 .norm).2) (by kernel_rfl) an rfl
  | ret =>
    obtain rfl := some_inj h
    exact T.last' (T.bl (i := 0) (by kernel_rfl) (by kernel_rfl) (f23n5_ok FUEL bo1 0 h179)) (tds := []) (m := []) (keep := [2]) (st2 := (f23n1E bo1 .ret).2) (by kernel_rfl) an rfl
inductive f23n0O where
  | ret (v182 : Int)
def f23n0E (a1 : List NettingSet) : f23n0O → Ex × Tr × Hp
  | .ret v182 => (.ret, mkS [(2, (jI v182))], [])
def f23n0S (a1 : List NettingSet) : Tr × Hp := (initS [(jL 3 NettingSet.cells a1)] 0 .leaf, [])
noncomputable def f23n0 (a1 : List NettingSet) : Option f23n0O :=
  bif (decide (64 < (a1.length : Int))) then
    some (.ret 8)
  else
    (f23n1 a1).bind fun o180 => match o180 with
    | .norm => some (.ret 0)
    | .ret => some (.ret 8)
theorem f23n0_ok (a1 : List NettingSet) {o : f23n0O} (h : (f23n0 a1) = some o) : T Try.prog Try.f23.ntmps 0 c23 (f23n0S a1) (fun r => r = f23n0E a1 o) := by
  unfold f23n0 at h
  rcases cond_cases h with ⟨h3, h⟩ | ⟨h3, h⟩
  · obtain rfl := some_inj h
    exact rK cfg_ok 2 [j3, ([], [], [(1, .val (jI (a1.length : Int)))]), j3] [some true] [] [] [2] .ret ((f23n0E a1 (.ret 8)).2) (ap (len_cv (xs := a1) (c := NettingSet.cells)) (ap h3 an)) rfl
  · refine rN cfg_ok 2 [j3, ([], [], [(1, .val (jI (a1.length : Int)))])] [some false] [] [] [0] (f23n1S a1) (ap (len_cv (xs := a1) (c := NettingSet.cells)) (ap h3 an)) ?_
    obtain ⟨o180, h181, h⟩ := bind_cases h
    cases o180 with
    | norm =>
      refine T.oneN (by kernel_rfl) (f23n1_ok a1 h181) (st2 := (f23n1E a1 .norm).2) rfl ?_
      obtain rfl := some_inj h
      exact rE cfg_ok [j3] [] [] [] [2] (.ret, (f23n0E a1 (.ret 0)).2) an rfl
    | ret =>
      obtain rfl := some_inj h
      exact T.oneX' (by kernel_rfl) (f23n1_ok a1 h181) (tds := []) (m := []) (keep := [2]) (st2 := (f23n0E a1 (.ret 8)).2) (by kernel_rfl) an rfl rfl
noncomputable def f23 (a1 : List NettingSet) : Option Int := (f23n0 a1).bind fun o => match o with
  | .ret v182 => some v182
theorem f23_ok (a1 : List NettingSet) {r : Int} (h : (f23 a1) = some r) : CallS Try.prog false 23 [(jL 3 NettingSet.cells a1)] [] (jI r) [] := by
  unfold f23 at h
  obtain ⟨o, ho, h⟩ := bind_cases h
  cases o with
  | ret v182 =>
    obtain rfl := some_inj h
    exact CallS.plain cfg_ok (f := Try.f23) (c := c23) (by kernel_rfl) (by kernel_rfl) (by kernel_rfl) (by kernel_rfl) ((f23n0_ok a1 ho).mono fun r e => by subst e; exact ⟨.inl rfl, (jI v182), (jI v182), by kernel_rfl, by kernel_rfl, ((Wk.refl _) : Wk (jI v182) (jI v182))⟩)

noncomputable def c66 : Code := Try.f66.body.getD .skip
inductive f66n0O where
  | ret (v7 : Int)
def f66n0E (a1 : NettingSet) (a2 : ByteArray) : f66n0O → Ex × Tr × Hp
  | .ret v7 => (.ret, mkS [(4, (jI v7))], [])
def f66n0S (a1 : NettingSet) (a2 : ByteArray) : Tr × Hp := (initS [(jA NettingSet.cells a1), (jS a2)] 0 .leaf, [])
noncomputable def f66n0 (a1 : NettingSet) (a2 : ByteArray) : Option f66n0O :=
  (f42 a1.Name a2).bind fun x5 =>
  some (.ret x5)
theorem f66n0_ok (a1 : NettingSet) (a2 : ByteArray) {o : f66n0O} (h : (f66n0 a1 a2) = some o) : T Try.prog Try.f66.ntmps 0 c66 (f66n0S a1 a2) (fun r => r = f66n0E a1 a2 o) := by
  unfold f66n0 at h
  obtain ⟨x5, h6, h⟩ := bind_cases h
  obtain rfl := some_inj h
  exact rE cfg_ok [j3, ([], [jH 3 (jI x5)], [])] [] [] [] [4] (.ret, (f66n0E a1 a2 (.ret x5)).2) (ap (f42_ok a1.Name a2 h6) an) rfl
noncomputable def f66 (a1 : NettingSet) (a2 : ByteArray) : Option Int := (f66n0 a1 a2).bind fun o => match o with
  | .ret v7 => some v7
theorem f66_ok (a1 : NettingSet) (a2 : ByteArray) {r : Int} (h : (f66 a1 a2) = some r) : CallS Try.prog false 66 [(jA NettingSet.cells a1), (jS a2)] [] (jI r) [] := by
  unfold f66 at h
  obtain ⟨o, ho, h⟩ := bind_cases h
  cases o with
  | ret v7 =>
    obtain rfl := some_inj h
    exact CallS.plain cfg_ok (f := Try.f66) (c := c66) (by kernel_rfl) (by kernel_rfl) (by kernel_rfl) (by kernel_rfl) ((f66n0_ok a1 a2 ho).mono fun r e => by subst e; exact ⟨.inl rfl, (jI v7), (jI v7), by kernel_rfl, by kernel_rfl, ((Wk.refl _) : Wk (jI v7) (jI v7))⟩)

noncomputable def c65 : Code := Try.f65.body.getD .skip
inductive f65_66n1O where
  | exit0 (v43 : Int)
def f65_66n1E (a1 : List NettingSet) (a2 : ByteArray) : f65_66n1O → Ex × Tr × Hp
  | .exit0 v43 => ((.exit 0), mkS [(0, (jL 3 NettingSet.cells a1)), (1, (jS a2)), (2, (.pl (.fn 66))), (8, (jI (a1.length : Int))), (9, (jI v43))], [])
def f65_66n1S (a1 : List NettingSet) (a2 : ByteArray) (v29 : Int) (v30 : Int) : Tr × Hp := (mkS [(0, (jL 3 NettingSet.cells a1)), (1, (jS a2)), (2, (.pl (.fn 66))), (8, (jI (a1.length : Int))), (9, (jI v29)), (10, (jI v30))], [])
noncomputable def f65_66n1 : Nat → List NettingSet → ByteArray → Int → Int → Option f65_66n1O
  | 0, _, _, _, _ => none
  | f + 1, a1, a2, v29, v30 =>
    bif (decide (v29 < v30)) then
      (at? a1 (wr64 (shrK .u64 (wru64 (wr64 (v29 + v30))) 1))).bind fun x38 =>
      (f66 x38 a2).bind fun x40 =>
      bif (decide (x40 < 0)) then
        (f65_66n1 f a1 a2 (wr64 ((wr64 (shrK .u64 (wru64 (wr64 (v29 + v30))) 1)) + 1)) v30)
      else
        (f65_66n1 f a1 a2 v29 (wr64 (shrK .u64 (wru64 (wr64 (v29 + v30))) 1)))
    else
      some (.exit0 v29)
theorem f65_66n1_ok : ∀ (f : Nat) (a1 : List NettingSet) (a2 : ByteArray) (v29 : Int) (v30 : Int) {o : f65_66n1O}, (f65_66n1 f a1 a2 v29 v30) = some o → TL Try.prog Try.f65.ntmps 0 f (cL (cL (cL (dropC 3 c65)))) (f65_66n1S a1 a2 v29 v30) (fun r => r = f65_66n1E a1 a2 o)
  | 0, _, _, _, _, o, h => by rw [f65_66n1] at h; cases h
  | f + 1, a1, a2, v29, v30, o, h => by
    rw [f65_66n1] at h
    refine TL.body (K := fun s => ∃ v29 : Int, ∃ v30 : Int, s = (f65_66n1S a1 a2 v29 v30) ∧ (f65_66n1 f a1 a2 v29 v30) = some o) ?_ (by rintro _ ⟨v29, v30, rfl, hk⟩; exact f65_66n1_ok f _ _ _ _ hk)
    rcases cond_cases h with ⟨h32, h⟩ | ⟨h32, h⟩
    · obtain ⟨x38, h39, h⟩ := bind_cases h
      obtain ⟨x40, h41, h⟩ := bind_cases h
      rcases cond_cases h with ⟨h42, h⟩ | ⟨h42, h⟩
      · exact rE cfg_ok [j3, j3, ([], [(3, .idx (Int.toNat (wr64 (shrK .u64 (wru64 (wr64 (v29 + v30))) 1))) (NettingSet.cells x38)), jH 6 (jI x40)], []), j3] [some true, some true] [] [] [0, 1, 2, 8, 9, 10] (.norm, (f65_66n1S a1 a2 (wr64 ((wr64 (shrK .u64 (wru64 (wr64 (v29 + v30))) 1)) + 1)) v30)) (ap h32 (ap (at_some h39).1 (ap (at_map NettingSet.cells (at_some h39).2) (ap (f66_ok x38 a2 h41) (ap h42 an))))) (LoopQ.norm ⟨(wr64 ((wr64 (shrK .u64 (wru64 (wr64 (v29 + v30))) 1)) + 1)), v30, rfl, h⟩)
      · exact rE cfg_ok [j3, j3, ([], [(3, .idx (Int.toNat (wr64 (shrK .u64 (wru64 (wr64 (v29 + v30))) 1))) (NettingSet.cells x38)), jH 6 (jI x40)], []), j3] [some true, some false] [] [] [0, 1, 2, 8, 9, 10] (.norm, (f65_66n1S a1 a2 v29 (wr64 (shrK .u64 (wru64 (wr64 (v29 + v30))) 1)))) (ap h32 (ap (at_some h39).1 (ap (at_map NettingSet.cells (at_some h39).2) (ap (f66_ok x38 a2 h41) (ap h42 an))))) (LoopQ.norm ⟨v29, (wr64 (shrK .u64 (wru64 (wr64 (v29 + v30))) 1)), rfl, h⟩)
    · obtain rfl := some_inj h
      exact rK cfg_ok 1 [j3] [some false] [] [] [0, 1, 2, 8, 9] (.exit 0) ((f65_66n1E a1 a2 (.exit0 v29)).2) (ap h32 an) (LoopQ.out rfl rfl)
inductive f65_66n0O where
  | ret (v57 : Int) (v58 : Bool)
def f65_66n0E (a1 : List NettingSet) (a2 : ByteArray) : f65_66n0O → Ex × Tr × Hp
  | .ret v57 v58 => (.ret, mkS [(6, (jI v57)), (7, (jB v58))], [])
def f65_66n0S (a1 : List NettingSet) (a2 : ByteArray) : Tr × Hp := (initS [(jL 3 NettingSet.cells a1), (jS a2), (.pl (.fn 66))] 0 .leaf, [])
noncomputable def f65_66n0 (a1 : List NettingSet) (a2 : ByteArray) : Option f65_66n0O :=
  (f65_66n1 FUEL a1 a2 0 (a1.length : Int)).bind fun o44 => match o44 with
  | .exit0 v46 => bif (decide (v46 < (a1.length : Int))) then
      (at? a1 v46).bind fun x53 =>
      (f66 x53 a2).bind fun x55 =>
      some (.ret v46 (decide (x55 = 0)))
    else
      some (.ret v46 false)
theorem f65_66n0_ok (a1 : List NettingSet) (a2 : ByteArray) {o : f65_66n0O} (h : (f65_66n0 a1 a2) = some o) : T Try.prog Try.f65.ntmps 0 c65 (f65_66n0S a1 a2) (fun r => r = f65_66n0E a1 a2 o) := by
  unfold f65_66n0 at h
  refine rN cfg_ok 3 [j3, ([], [], [(1, .val (jI (a1.length : Int)))]), j3] [] [] [] [0, 1, 2, 8, 9, 10] (f65_66n1S a1 a2 0 (a1.length : Int)) (ap (len_cv (xs := a1) (c := NettingSet.cells)) an) ?_
  obtain ⟨o44, h45, h⟩ := bind_cases h
  cases o44 with
  | exit0 v46 =>
    refine T.oneN (by kernel_rfl) (T.bl (i := 0) (by kernel_rfl) (by kernel_rfl) (f65_66n1_ok FUEL a1 a2 0 (a1.length : Int) h45)) (st2 := (f65_66n1E a1 a2 (.exit0 v46)).2) rfl ?_
    rcases cond_cases h with ⟨h52, h⟩ | ⟨h52, h⟩
    · obtain ⟨x53, h54, h⟩ := bind_cases h
      obtain ⟨x55, h56, h⟩ := bind_cases h
      obtain rfl := some_inj h
      exact rE cfg_ok [(jT [5, 6, 7, 8, 9, 10, 11, 12], [(8, .idx (Int.toNat v46) (NettingSet.cells x53)), jH 11 (jI x55), (13, .bool true)], [])] [] [] [] [6, 7] (.ret, (f65_66n0E a1 a2 (.ret v46 (decide (x55 = 0)))).2) (ap4 h52 (ap (at_some h54).1 (ap (at_map NettingSet.cells (at_some h54).2) (ap h52 (ap4 h52 (ap (f66_ok x53 a2 h56) an)))))) rfl
    · obtain rfl := some_inj h
      exact rE cfg_ok [(jF [5, 6, 7, 8, 9, 10, 11, 12], [(13, .bool false)], [])] [] [] [] [6, 7] (.ret, (f65_66n0E a1 a2 (.ret v46 false)).2) (ap h52 (ap4 h52 (ap4 h52 an))) rfl
noncomputable def f65_66 (a1 : List NettingSet) (a2 : ByteArray) : Option (Int × Bool) := (f65_66n0 a1 a2).bind fun o => match o with
  | .ret v57 v58 => some (v57, v58)
theorem f65_66_ok (a1 : List NettingSet) (a2 : ByteArray) {r : Int × Bool} (h : (f65_66 a1 a2) = some r) : CallS Try.prog false 65 [(jL 3 NettingSet.cells a1), (jS a2), (.pl (.fn 66))] [] (.tup [(jI r.1), (jB r.2)]) [] := by
  unfold f65_66 at h
  obtain ⟨o, ho, h⟩ := bind_cases h
  cases o with
  | ret v57 v58 =>
    obtain rfl := some_inj h
    exact CallS.plain cfg_ok (f := Try.f65) (c := c65) (by kernel_rfl) (by kernel_rfl) (by kernel_rfl) (by kernel_rfl) ((f65_66n0_ok a1 a2 ho).mono fun r e => by subst e; exact ⟨.inl rfl, (.tup [(jI v57), (jB v58)]), (.tup [(jI v57), (jB v58)]), by kernel_rfl, by kernel_rfl, ((Wk.refl _) : Wk (.tup [(jI v57), (jB v58)]) (.tup [(jI v57), (jB v58)]))⟩)

noncomputable def c46 : Code := Try.f46.body.getD .skip
inductive f46n0O where
  | ret (v13 : Bool) (v14 : NettingSet)
def f46n0E (a1 : List NettingSet) (a2 : ByteArray) : f46n0O → Ex × Tr × Hp
  | .ret v13 v14 => (.ret, mkS [(4, (.bp 0 0)), (5, (jB v13))], [some (.box ((NettingSet.cells v14).map .pl))])
def f46n0S (a1 : List NettingSet) (a2 : ByteArray) : Tr × Hp := (initS [(jL 3 NettingSet.cells a1), (jS a2)] 0 .leaf, [])
noncomputable def f46n0 (a1 : List NettingSet) (a2 : ByteArray) : Option f46n0O :=
  (f65_66 a1 a2).bind fun x5 =>
  bif x5.2 then
    (at? a1 x5.1).bind fun x11 =>
    some (.ret true x11)
  else
    some (.ret false (NettingSet.mk str_x str_x str_x))
theorem f46n0_ok (a1 : List NettingSet) (a2 : ByteArray) {o : f46n0O} (h : (f46n0 a1 a2) = some o) : T Try.prog Try.f46.ntmps 0 c46 (f46n0S a1 a2) (fun r => r = f46n0E a1 a2 o) := by
  unfold f46n0 at h
  obtain ⟨x5, h6, h⟩ := bind_cases h
  rcases cond_cases h with ⟨h8, h⟩ | ⟨h8, h⟩
  · obtain ⟨x11, h12, h⟩ := bind_cases h
    obtain rfl := some_inj h
    exact rE cfg_ok [j3, ([], [jH 2 (.tup [(jI x5.1), (jB x5.2)])], []), j3, ([], [(2, .idx (Int.toNat x5.1) (NettingSet.cells x11))], [])] [some false] [] [0] [4, 5] (.ret, (f46n0E a1 a2 (.ret true x11)).2) (ap (f65_66_ok a1 a2 h6) (ap (not_t h8) (ap (at_some h12).1 (ap (at_map NettingSet.cells (at_some h12).2) an)))) rfl
  · obtain rfl := some_inj h
    exact rK cfg_ok 3 [j3, ([], [jH 2 (.tup [(jI x5.1), (jB x5.2)])], []), j3, j3] [some true] [] [0] [4, 5] .ret ((f46n0E a1 a2 (.ret false (NettingSet.mk str_x str_x str_x))).2) (ap (f65_66_ok a1 a2 h6) (ap (not_f h8) an)) rfl
noncomputable def f46 (a1 : List NettingSet) (a2 : ByteArray) : Option (NettingSet × Bool) := (f46n0 a1 a2).bind fun o => match o with
  | .ret v13 v14 => some (v14, v13)
theorem f46_ok (a1 : List NettingSet) (a2 : ByteArray) {r : NettingSet × Bool} (h : (f46 a1 a2) = some r) : CallS Try.prog false 46 [(jL 3 NettingSet.cells a1), (jS a2)] [] (.tup [(jA NettingSet.cells r.1), (jB r.2)]) [] := by
  unfold f46 at h
  obtain ⟨o, ho, h⟩ := bind_cases h
  cases o with
  | ret v13 v14 =>
    obtain rfl := some_inj h
    exact CallS.plain cfg_ok (f := Try.f46) (c := c46) (by kernel_rfl) (by kernel_rfl) (by kernel_rfl) (by kernel_rfl) ((f46n0_ok a1 a2 ho).mono fun r e => by subst e; exact ⟨.inl rfl, (.tup [(jA NettingSet.cells v14), (jB v13)]), (.tup [(jA NettingSet.cells v14), (jB v13)]), by kernel_rfl, by kernel_rfl, ((Wk.refl _) : Wk (.tup [(jA NettingSet.cells v14), (jB v13)]) (.tup [(jA NettingSet.cells v14), (jB v13)]))⟩)

noncomputable def c21 : Code := Try.f21.body.getD .skip
inductive f21n2O where
  | exit0
  | ret
def f21n2E (bo1 : List NettingSet) (ba2 : List NettingFlow) : f21n2O → Ex × Tr × Hp
  | .exit0 => ((.exit 0), mkS [], [])
  | .ret => (.ret, mkS [(4, (jI 8))], [])
def f21n2S (bo1 : List NettingSet) (ba2 : List NettingFlow) (v52 : Int) : Tr × Hp := (mkS [(0, (jL 3 NettingSet.cells bo1)), (17, (jL 6 NettingFlow.cells ba2)), (18, (jI (ba2.length : Int))), (19, (jI v52))], [])
noncomputable def f21n2 : Nat → List NettingSet → List NettingFlow → Int → Option f21n2O
  | 0, _, _, _ => none
  | f + 1, bo1, ba2, v52 =>
    bif (decide (v52 < (ba2.length : Int))) then
      (at? ba2 v52).bind fun x63 =>
      bif (seq x63.Set str_x) then
        (f21n2 f bo1 ba2 (wr64 (v52 + 1)))
      else
        (f46 bo1 x63.Set).bind fun x66 =>
        bif x66.2 then
          bif (NettingSet.eqb x66.1 (NettingSet.mk x63.Set x63.From x63.To)) then
            (f21n2 f bo1 ba2 (wr64 (v52 + 1)))
          else
            bif (NettingSet.eqb x66.1 (NettingSet.mk x63.Set x63.To x63.From)) then
              (f21n2 f bo1 ba2 (wr64 (v52 + 1)))
            else
              some .ret
        else
          some .ret
    else
      some .exit0
theorem f21n2_ok : ∀ (f : Nat) (bo1 : List NettingSet) (ba2 : List NettingFlow) (v52 : Int) {o : f21n2O}, (f21n2 f bo1 ba2 v52) = some o → TL Try.prog Try.f21.ntmps 0 f (cL (cL (dropC 1 (cL (dropC 2 c21))))) (f21n2S bo1 ba2 v52) (fun r => r = f21n2E bo1 ba2 o)
  | 0, _, _, _, o, h => by rw [f21n2] at h; cases h
  | f + 1, bo1, ba2, v52, o, h => by
    rw [f21n2] at h
    refine TL.body (K := fun s => ∃ v52 : Int, s = (f21n2S bo1 ba2 v52) ∧ (f21n2 f bo1 ba2 v52) = some o) ?_ (by rintro _ ⟨v52, rfl, hk⟩; exact f21n2_ok f _ _ _ hk)
    rcases cond_cases h with ⟨h54, h⟩ | ⟨h54, h⟩
    · obtain ⟨x63, h64, h⟩ := bind_cases h
      rcases cond_cases h with ⟨h65, h⟩ | ⟨h65, h⟩
      · exact rE cfg_ok [j3, ([], [(0, .idx (Int.toNat v52) (NettingFlow.cells x63))], []), j3, j3] [some true, some true] [] [] [0, 17, 18, 19] (.norm, (f21n2S bo1 ba2 (wr64 (v52 + 1)))) (ap h54 (ap (at_some h64).1 (ap (at_map NettingFlow.cells (at_some h64).2) (ap h65 an)))) (LoopQ.norm ⟨(wr64 (v52 + 1)), rfl, h⟩)
      · obtain ⟨x66, h67, h⟩ := bind_cases h
        rcases cond_cases h with ⟨h68, h⟩ | ⟨h68, h⟩
        · rcases cond_cases h with ⟨h69, h⟩ | ⟨h69, h⟩
          · exact rE cfg_ok [j3, ([], [(0, .idx (Int.toNat v52) (NettingFlow.cells x63))], []), j3, ([], [jH 3 (.tup [(jA NettingSet.cells x66.1), (jB x66.2)])], []), (jF [3, 4, 5, 6, 7, 8, 9, 10, 11, 12, 13, 14, 15, 16, 17, 18, 19, 20, 21, 22], [(11, .bool (NettingSet.eqb x66.1 (NettingSet.mk x63.Set x63.From x63.To))), (22, .bool false), (23, .bool false)], []), j3] [some true, some false, none] [] [] [0, 17, 18, 19] (.norm, (f21n2S bo1 ba2 (wr64 (v52 + 1)))) (ap h54 (ap (at_some h64).1 (ap (at_map NettingFlow.cells (at_some h64).2) (ap h65 (ap (f46_ok bo1 x63.Set h67) (ap (not_t h68) (ap4 (not_t h68) (ap4 (not_t h68) (ap (NettingSet.eqb_ok x66.1 (NettingSet.mk x63.Set x63.From x63.To)) (ap (not_t h68) (ap (not_t h69) (ap4 (not_t h69) (ap4 (not_t h69) (ap (not_t h68) (ap (not_t h69) (ap (not_t h68) an)))))))))))))))) (LoopQ.norm ⟨(wr64 (v52 + 1)), rfl, h⟩)
          · rcases cond_cases h with ⟨h70, h⟩ | ⟨h70, h⟩
            · exact rE cfg_ok [j3, ([], [(0, .idx (Int.toNat v52) (NettingFlow.cells x63))], []), j3, ([], [jH 3 (.tup [(jA NettingSet.cells x66.1), (jB x66.2)])], []), (jF [3, 4, 5, 6, 7, 8, 9, 10, 11, 12, 22] ++ jT [13, 14, 15, 16, 17, 18, 19, 20, 21], [(11, .bool (NettingSet.eqb x66.1 (NettingSet.mk x63.Set x63.From x63.To))), (21, .bool (NettingSet.eqb x66.1 (NettingSet.mk x63.Set x63.To x63.From))), (22, .bool true), (23, .bool false)], []), j3] [some true, some false, some false] [] [] [0, 17, 18, 19] (.norm, (f21n2S bo1 ba2 (wr64 (v52 + 1)))) (ap h54 (ap (at_some h64).1 (ap (at_map NettingFlow.cells (at_some h64).2) (ap h65 (ap (f46_ok bo1 x63.Set h67) (ap (not_t h68) (ap4 (not_t h68) (ap4 (not_t h68) (ap (NettingSet.eqb_ok x66.1 (NettingSet.mk x63.Set x63.From x63.To)) (ap (not_t h68) (ap (not_f h69) (ap4 (not_f h69) (ap4 (not_f h69) (ap (NettingSet.eqb_ok x66.1 (NettingSet.mk x63.Set x63.To x63.From)) (ap (not_t h68) (ap (not_f h69) (ap (not_t h68) (ap (not_t h70) an)))))))))))))))))) (LoopQ.norm ⟨(wr64 (v52 + 1)), rfl, h⟩)
            · obtain rfl := some_inj h
              exact rK cfg_ok 3 [j3, ([], [(0, .idx (Int.toNat v52) (NettingFlow.cells x63))], []), j3, ([], [jH 3 (.tup [(jA NettingSet.cells x66.1), (jB x66.2)])], []), (jF [3, 4, 5, 6, 7, 8, 9, 10, 11, 12, 22] ++ jT [13, 14, 15, 16, 17, 18, 19, 20, 21], [(11, .bool (NettingSet.eqb x66.1 (NettingSet.mk x63.Set x63.From x63.To))), (21, .bool (NettingSet.eqb x66.1 (NettingSet.mk x63.Set x63.To x63.From))), (22, .bool true), (23, .bool false)], []), j3] [some true, some false, some true] [] [] [4] .ret ((f21n2E bo1 ba2 .ret).2) (ap h54 (ap (at_some h64).1 (ap (at_map NettingFlow.cells (at_some h64).2) (ap h65 (ap (f46_ok bo1 x63.Set h67) (ap (not_t h68) (ap4 (not_t h68) (ap4 (not_t h68) (ap (NettingSet.eqb_ok x66.1 (NettingSet.mk x63.Set x63.From x63.To)) (ap (not_t h68) (ap (not_f h69) (ap4 (not_f h69) (ap4 (not_f h69) (ap (NettingSet.eqb_ok x66.1 (NettingSet.mk x63.Set x63.To x63.From)) (ap (not_t h68) (ap (not_f h69) (ap (not_t h68) (ap (not_f h70) an)))))))))))))))))) (LoopQ.out rfl rfl)
        · obtain rfl := some_inj h
          exact rK cfg_ok 3 [j3, ([], [(0, .idx (Int.toNat v52) (NettingFlow.cells x63))], []), j3, ([], [jH 3 (.tup [(jA NettingSet.cells x66.1), (jB x66.2)])], []), (jT [3, 4, 5, 6, 7, 8, 9, 10, 11, 12, 22], [(23, .bool true)], []), j3] [some true, some false, none] [] [] [4] .ret ((f21n2E bo1 ba2 .ret).2) (ap h54 (ap (at_some h64).1 (ap (at_map NettingFlow.cells (at_some h64).2) (ap h65 (ap (f46_ok bo1 x63.Set h67) (ap4 (not_f h68) (ap4 (not_f h68) (ap4 (not_f h68) an)))))))) (LoopQ.out rfl rfl)
    · obtain rfl := some_inj h
      exact rK cfg_ok 2 [j3] [some false] [] [] [] (.exit 0) ((f21n2E bo1 ba2 .exit0).2) (ap h54 an) (LoopQ.out rfl rfl)
noncomputable def f21n2L (bo1 : List NettingSet) (ba2 : List NettingFlow) : List NettingFlow → Int → Option f21n2O
  | [], v52 =>
    some .exit0
  | x0 :: rest, v52 =>
    bif (seq x0.Set str_x) then
      (f21n2L bo1 ba2 rest (v52 + 1))
    else
      (f46 bo1 x0.Set).bind fun x66 =>
      bif x66.2 then
        bif (NettingSet.eqb x66.1 (NettingSet.mk x0.Set x0.From x0.To)) then
          (f21n2L bo1 ba2 rest (v52 + 1))
        else
          bif (NettingSet.eqb x66.1 (NettingSet.mk x0.Set x0.To x0.From)) then
            (f21n2L bo1 ba2 rest (v52 + 1))
          else
            some .ret
      else
        some .ret
theorem f21n2L_eq (bo1 : List NettingSet) (ba2 : List NettingFlow) : ∀ (rest : List NettingFlow) (f k : Nat), ba2.drop k = rest → ba2.length ≤ maxLen → rest.length < f → f21n2 f bo1 ba2 (k : Int) = f21n2L bo1 ba2 rest (k : Int)
  | _, 0, _, _, _, hf => absurd hf (Nat.not_lt_zero _)
  | [], f + 1, k, hd, hm, hf => by
    have hk : ¬ ((k : Int) < (ba2.length : Int)) := by have := drop_nil hd; omega
    rw [f21n2, f21n2L]
    simp only [decide_eq_false hk, cond_false]
  | x0 :: rest, f + 1, k, hd, hm, hf => by
    obtain ⟨hx, hlt, hd'⟩ := drop_cons hd
    have hk : (k : Int) < (ba2.length : Int) := by omega
    have hw : wr64 ((k : Int) + 1) = (k : Int) + 1 := wr64_of (by omega) (by unfold maxLen at hm; omega)
    have ih : f21n2 f bo1 ba2 ((k : Int) + 1) = f21n2L bo1 ba2 rest ((k : Int) + 1) := f21n2L_eq bo1 ba2 rest f (k + 1) hd' hm (by simpa using hf)
    rw [f21n2, f21n2L]
    simp only [decide_eq_true hk, cond_true, at_nat, hx, Option.bind_some, hw, ih]
theorem f21n2_run (bo1 : List NettingSet) (ba2 : List NettingFlow) (hm : ba2.length ≤ maxLen) : f21n2 FUEL bo1 ba2 0 = f21n2L bo1 ba2 ba2 0 := f21n2L_eq bo1 ba2 ba2 FUEL 0 List.drop_zero hm (lt_FUEL hm)
inductive f21n1O where
  | norm
  | ret
def f21n1E (bo1 : List NettingSet) (ba2 : List NettingFlow) : f21n1O → Ex × Tr × Hp
  | .norm => (.norm, mkS [], [])
  | .ret => (.ret, mkS [(4, (jI 8))], [])
def f21n1S (bo1 : List NettingSet) (ba2 : List NettingFlow) : Tr × Hp := (mkS [(0, (jL 3 NettingSet.cells bo1)), (1, (jL 6 NettingFlow.cells ba2))], [])
noncomputable def f21n1 (bo1 : List NettingSet) (ba2 : List NettingFlow) : Option f21n1O :=
  (f21n2 FUEL bo1 ba2 0).bind fun o71 => match o71 with
  | .exit0 => some .norm
  | .ret => some .ret
theorem f21n1_ok (bo1 : List NettingSet) (ba2 : List NettingFlow) {o : f21n1O} (h : (f21n1 bo1 ba2) = some o) : T Try.prog Try.f21.ntmps 0 (cL (dropC 2 c21)) (f21n1S bo1 ba2) (fun r => r = f21n1E bo1 ba2 o) := by
  unfold f21n1 at h
  refine rN cfg_ok 1 [([], [], [(1, .val (jI (ba2.length : Int)))])] [] [] [] [0, 17, 18, 19] (f21n2S bo1 ba2 0) (ap (len_cv (xs := ba2) (c := NettingFlow.cells)) an) ?_
  obtain ⟨o71, h72, h⟩ := bind_cases h
  cases o71 with
  | exit0 =>
    obtain rfl := some_inj h
    exact T.last' (T.bl (i := 0) (by kernel_rfl) (by kernel_rfl) (f21n2_ok FUEL bo1 ba2 0 h72)) (tds := []) (m := []) (keep := []) (st2 := (f21n1E bo1 ba2 .norm).2) (by kernel_rfl) an rfl
  | ret =>
    obtain rfl := some_inj h
    exact T.last' (T.bl (i := 0) (by kernel_rfl) (by kernel_rfl) (f21n2_ok FUEL bo1 ba2 0 h72)) (tds := []) (m := []) (keep := [4]) (st2 := (f21n1E bo1 ba2 .ret).2) (by kernel_rfl) an rfl
inductive f21n0O where
  | ret (v75 : Int)
def f21n0E (a1 : List NettingSet) (a2 : List NettingFlow) : f21n0O → Ex × Tr × Hp
  | .ret v75 => (.ret, mkS [(4, (jI v75))], [])
def f21n0S (a1 : List NettingSet) (a2 : List NettingFlow) : Tr × Hp := (initS [(jL 3 NettingSet.cells a1), (jL 6 NettingFlow.cells a2)] 0 .leaf, [])
noncomputable def f21n0 (a1 : List NettingSet) (a2 : List NettingFlow) : Option f21n0O :=
  (f23 a1).bind fun x9 =>
  bif (decide (x9 = 0)) then
    (f35 a2).bind fun x12 =>
    bif (decide (x12 = 0)) then
      (f21n1 a1 a2).bind fun o73 => match o73 with
      | .norm => some (.ret 0)
      | .ret => some (.ret 8)
    else
      some (.ret 8)
  else
    some (.ret 8)
theorem f21n0_ok (a1 : List NettingSet) (a2 : List NettingFlow) {o : f21n0O} (h : (f21n0 a1 a2) = some o) : T Try.prog Try.f21.ntmps 0 c21 (f21n0S a1 a2) (fun r => r = f21n0E a1 a2 o) := by
  unfold f21n0 at h
  obtain ⟨x9, h10, h⟩ := bind_cases h
  rcases cond_cases h with ⟨h11, h⟩ | ⟨h11, h⟩
  · obtain ⟨x12, h13, h⟩ := bind_cases h
    rcases cond_cases h with ⟨h14, h⟩ | ⟨h14, h⟩
    · refine rN cfg_ok 2 [j3, (jF [4, 5, 6], [jH 1 (jI x9), jH 5 (jI x12), (7, .bool false)], [])] [some false] [] [] [0, 1] (f21n1S a1 a2) (ap4 (not_t h11) (ap (f23_ok a1 h10) (ap (f35_ok a2 h13) (ap (not_t h14) an)))) ?_
      obtain ⟨o73, h74, h⟩ := bind_cases h
      cases o73 with
      | norm =>
        refine T.oneN (by kernel_rfl) (f21n1_ok a1 a2 h74) (st2 := (f21n1E a1 a2 .norm).2) rfl ?_
        obtain rfl := some_inj h
        exact rE cfg_ok [j3] [] [] [] [4] (.ret, (f21n0E a1 a2 (.ret 0)).2) an rfl
      | ret =>
        obtain rfl := some_inj h
        exact T.oneX' (by kernel_rfl) (f21n1_ok a1 a2 h74) (tds := []) (m := []) (keep := [4]) (st2 := (f21n0E a1 a2 (.ret 8)).2) (by kernel_rfl) an rfl rfl
    · obtain rfl := some_inj h
      exact rK cfg_ok 2 [j3, (jF [4, 5, 6], [jH 1 (jI x9), jH 5 (jI x12), (7, .bool false)], []), j3] [some true] [] [] [4] .ret ((f21n0E a1 a2 (.ret 8)).2) (ap4 (not_t h11) (ap (f23_ok a1 h10) (ap (f35_ok a2 h13) (ap (not_f h14) an)))) rfl
  · obtain rfl := some_inj h
    exact rK cfg_ok 2 [j3, (jT [4, 5, 6], [jH 1 (jI x9), (7, .bool true)], []), j3] [none] [] [] [4] .ret ((f21n0E a1 a2 (.ret 8)).2) (ap4 (not_f h11) (ap (f23_ok a1 h10) an)) rfl
noncomputable def f21 (a1 : List NettingSet) (a2 : List NettingFlow) : Option Int := (f21n0 a1 a2).bind fun o => match o with
  | .ret v75 => some v75
theorem f21_ok (a1 : List NettingSet) (a2 : List NettingFlow) {r : Int} (h : (f21 a1 a2) = some r) : CallS Try.prog false 21 [(jL 3 NettingSet.cells a1), (jL 6 NettingFlow.cells a2)] [] (jI r) [] := by
  unfold f21 at h
  obtain ⟨o, ho, h⟩ := bind_cases h
  cases o with
  | ret v75 =>
    obtain rfl := some_inj h
    exact CallS.plain cfg_ok (f := Try.f21) (c := c21) (by kernel_rfl) (by kernel_rfl) (by kernel_rfl) (by kernel_rfl) ((f21n0_ok a1 a2 ho).mono fun r e => by subst e; exact ⟨.inl rfl, (jI v75), (jI v75), by kernel_rfl, by kernel_rfl, ((Wk.refl _) : Wk (jI v75) (jI v75))⟩)

noncomputable def c33 : Code := Try.f33.body.getD .skip
inductive f33n0O where
  | ret
def f33n0E (a1 : NettingFlow) : f33n0O → Ex × Tr × Hp
  | .ret => (.ret, mkS [(2, (.bp 0 0)), (3, (.pl (.bool (!(seq a1.Set str_x)))))], [some (.box ((Key_.cells (Key_.mk a1.Date a1.Set a1.Ccy)).map .pl))])
def f33n0S (a1 : NettingFlow) : Tr × Hp := (initS [(jA NettingFlow.cells a1)] 0 .leaf, [])
noncomputable def f33n0 (a1 : NettingFlow) : Option f33n0O :=
  some .ret
theorem f33n0_ok (a1 : NettingFlow) {o : f33n0O} (h : (f33n0 a1) = some o) : T Try.prog Try.f33.ntmps 0 c33 (f33n0S a1) (fun r => r = f33n0E a1 o) := by
  unfold f33n0 at h
  obtain rfl := some_inj h
  exact rE cfg_ok [j3, j3] [] [] [1] [2, 3] (.ret, (f33n0E a1 .ret).2) an rfl
noncomputable def f33 (a1 : NettingFlow) : Option (Key_ × Bool) := (f33n0 a1).bind fun o => match o with
  | .ret => some ((Key_.mk a1.Date a1.Set a1.Ccy), (!(seq a1.Set str_x)))
theorem f33_ok (a1 : NettingFlow) {r : Key_ × Bool} (h : (f33 a1) = some r) : CallS Try.prog false 33 [(jA NettingFlow.cells a1)] [] (.tup [(jA Key_.cells r.1), (jB r.2)]) [] := by
  unfold f33 at h
  obtain ⟨o, ho, h⟩ := bind_cases h
  cases o with
  | ret =>
    obtain rfl := some_inj h
    exact CallS.plain cfg_ok (f := Try.f33) (c := c33) (by kernel_rfl) (by kernel_rfl) (by kernel_rfl) (by kernel_rfl) ((f33n0_ok a1 ho).mono fun r e => by subst e; exact ⟨.inl rfl, (.tup [(.pl (.agg (Key_.cells (Key_.mk a1.Date a1.Set a1.Ccy)))), (.pl (.bool (!(seq a1.Set str_x))))]), (.tup [(.pl (.agg (Key_.cells (Key_.mk a1.Date a1.Set a1.Ccy)))), (.pl (.bool (!(seq a1.Set str_x))))]), by kernel_rfl, by kernel_rfl, ((Wk.refl _) : Wk (.tup [(.pl (.agg (Key_.cells (Key_.mk a1.Date a1.Set a1.Ccy)))), (.pl (.bool (!(seq a1.Set str_x))))]) (.tup [(.pl (.agg (Key_.cells (Key_.mk a1.Date a1.Set a1.Ccy)))), (.pl (.bool (!(seq a1.Set str_x))))]))⟩)

noncomputable def c55 : Code := Try.f55.body.getD .skip
inductive f55n0O where
  | ret (v19 : Int)
def f55n0E (a1 : NettingFlow) (a2 : NettingFlow) : f55n0O → Ex × Tr × Hp
  | .ret v19 => (.ret, mkS [(4, (jI v19))], [])
def f55n0S (a1 : NettingFlow) (a2 : NettingFlow) : Tr × Hp := (initS [(jA NettingFlow.cells a1), (jA NettingFlow.cells a2)] 0 .leaf, [])
noncomputable def f55n0 (a1 : NettingFlow) (a2 : NettingFlow) : Option f55n0O :=
  (f41 a1.Date a2.Date).bind fun x11 =>
  (f42 a1.Set a2.Set).bind fun x13 =>
  (f42 a1.Ccy a2.Ccy).bind fun x15 =>
  (f40 [x11, x13, x15]).bind fun x17 =>
  some (.ret x17)
theorem f55n0_ok (a1 : NettingFlow) (a2 : NettingFlow) {o : f55n0O} (h : (f55n0 a1 a2) = some o) : T Try.prog Try.f55.ntmps 0 c55 (f55n0S a1 a2) (fun r => r = f55n0E a1 a2 o) := by
  unfold f55n0 at h
  obtain ⟨x11, h12, h⟩ := bind_cases h
  obtain ⟨x13, h14, h⟩ := bind_cases h
  obtain ⟨x15, h16, h⟩ := bind_cases h
  obtain ⟨x17, h18, h⟩ := bind_cases h
  obtain rfl := some_inj h
  exact rE cfg_ok [j3, ([], [jH 4 (jI x11), jH 9 (jI x13), jH 14 (jI x15), jH 16 (jI x17)], [])] [] [] [] [4] (.ret, (f55n0E a1 a2 (.ret x17)).2) (ap (same_val (e := ⟨false, 42, [(jS a1.Set), (jS a2.Set)], [], (jI x13), []⟩) (f := ⟨false, 42, [(jS a1.Ccy), (jS a2.Ccy)], [], (jI x15), []⟩) (fun k => by simp only [jL, jS, jI, jB, jA, NettingFlow.cells_eq, NettingFlow.map_eq, NettingSet.cells_eq, NettingSet.map_eq, Key_.cells_eq, Key_.map_eq, Row_.cells_eq, Row_.map_eq, List.cons.injEq, AV.pl.injEq, PV.str.injEq, PV.int.injEq, PV.bool.injEq, PV.agg.injEq, PV.sl.injEq, and_true, true_and] at k; have e0 : x13 = x15 := Option.some.inj (by rw [← h14, ← h16]; simp only [k]); exact ⟨by rw [e0], rfl⟩)) (ap (f41_ok a1.Date a2.Date h12) (ap (f42_ok a1.Set a2.Set h14) (ap (f42_ok a1.Ccy a2.Ccy h16) (ap (f40_ok [x11, x13, x15] h18) an))))) rfl
noncomputable def f55 (a1 : NettingFlow) (a2 : NettingFlow) : Option Int := (f55n0 a1 a2).bind fun o => match o with
  | .ret v19 => some v19
theorem f55_ok (a1 : NettingFlow) (a2 : NettingFlow) {r : Int} (h : (f55 a1 a2) = some r) : CallS Try.prog false 55 [(jA NettingFlow.cells a1), (jA NettingFlow.cells a2)] [] (jI r) [] := by
  unfold f55 at h
  obtain ⟨o, ho, h⟩ := bind_cases h
  cases o with
  | ret v19 =>
    obtain rfl := some_inj h
    exact CallS.plain cfg_ok (f := Try.f55) (c := c55) (by kernel_rfl) (by kernel_rfl) (by kernel_rfl) (by kernel_rfl) ((f55n0_ok a1 a2 ho).mono fun r e => by subst e; exact ⟨.inl rfl, (jI v19), (jI v19), by kernel_rfl, by kernel_rfl, ((Wk.refl _) : Wk (jI v19) (jI v19))⟩)

noncomputable def c81 : Code := Try.f81.body.getD .skip
inductive f81r1n2O where
  | exit2 (v222 : List NettingFlow)
def f81r1n2E (bd1 : Int) (bd2 : Int) (bd3 : Int) : f81r1n2O → Ex × Tr × Hp
  | .exit2 v222 => ((.exit 2), mkS [(0, (.own 0)), (1, (jI bd1)), (2, (jI bd2)), (3, (.pl (.fn 55))), (8, (jI bd3))], [jR 6 NettingFlow.cells v222])
def f81r1n2S (bd1 : Int) (bd2 : Int) (bd3 : Int) (v200 : Int) (v201 : List NettingFlow) : Tr × Hp := (mkS [(0, (.own 0)), (1, (jI bd1)), (2, (jI bd2)), (3, (.pl (.fn 55))), (8, (jI bd3)), (9, (jI v200))], [jR 6 NettingFlow.cells v201])
noncomputable def f81r1n2 : Nat → Int → Int → Int → Int → List NettingFlow → Option f81r1n2O
  | 0, _, _, _, _, _ => none
  | f + 1, bd1, bd2, bd3, v200, v201 =>
    bif (decide (bd1 < v200)) then
      (at? v201 v200).bind fun x211 =>
      (at? v201 (wr64 (v200 - 1))).bind fun x213 =>
      (f55 x211 x213).bind fun x215 =>
      bif (decide (x215 < 0)) then
        (at? (v201.set (Int.toNat v200) x213) (wr64 (v200 - 1))).bind fun x220 =>
        (f81r1n2 f bd1 bd2 bd3 (wr64 (v200 - 1)) ((v201.set (Int.toNat v200) x213).set (Int.toNat (wr64 (v200 - 1))) x211))
      else
        some (.exit2 v201)
    else
      some (.exit2 v201)
theorem f81r1n2_ok : ∀ (f : Nat) (bd1 : Int) (bd2 : Int) (bd3 : Int) (v200 : Int) (v201 : List NettingFlow) {o : f81r1n2O}, (f81r1n2 f bd1 bd2 bd3 v200 v201) = some o → TL Try.prog Try.f81.ntmps 1 f (cL (cL (dropC 1 (cL (cL (dropC 1 (cL (cL (dropC 1 c81))))))))) (f81r1n2S bd1 bd2 bd3 v200 v201) (fun r => r = f81r1n2E bd1 bd2 bd3 o)
  | 0, _, _, _, _, _, o, h => by rw [f81r1n2] at h; cases h
  | f + 1, bd1, bd2, bd3, v200, v201, o, h => by
    rw [f81r1n2] at h
    refine TL.body (K := fun s => ∃ v200 : Int, ∃ v201 : List NettingFlow, s = (f81r1n2S bd1 bd2 bd3 v200 v201) ∧ (f81r1n2 f bd1 bd2 bd3 v200 v201) = some o) ?_ (by rintro _ ⟨v200, v201, rfl, hk⟩; exact f81r1n2_ok f _ _ _ _ _ hk)
    rcases cond_cases h with ⟨h210, h⟩ | ⟨h210, h⟩
    · obtain ⟨x211, h212, h⟩ := bind_cases h
      obtain ⟨x213, h214, h⟩ := bind_cases h
      obtain ⟨x215, h216, h⟩ := bind_cases h
      rcases cond_cases h with ⟨h217, h⟩ | ⟨h217, h⟩
      · obtain ⟨x220, h221, h⟩ := bind_cases h
        exact rE cfg_ok [(jT [4, 5, 6, 7, 8, 9, 10, 11, 12, 13, 14, 15], [(7, .at_ (Int.toNat v200)), (8, .idx 0 (NettingFlow.cells x211)), (12, .at_ (Int.toNat (wr64 (v200 - 1)))), (13, .idx 0 (NettingFlow.cells x213)), jH 14 (jI x215), (16, .bool true)], []), ([], [(8, .at_ (Int.toNat (wr64 (v200 - 1)))), (9, .idx 0 (NettingFlow.cells x213)), (12, .at_ (Int.toNat v200)), (13, .idx 0 (NettingFlow.cells x211)), (14, .at_ (Int.toNat v200)), (15, .idx 0 (NettingFlow.cells x211)), (16, .at_ (Int.toNat (wr64 (v200 - 1)))), (17, .idx 0 (NettingFlow.cells x220))], [(15, .row 0 ((v201.set (Int.toNat v200) x213).map NettingFlow.cells)), (17, .row 0 (((v201.set (Int.toNat v200) x213).set (Int.toNat (wr64 (v200 - 1))) x211).map NettingFlow.cells))]), j3] [some true] [] [] [0, 1, 2, 3, 8, 9] (.norm, (f81r1n2S bd1 bd2 bd3 (wr64 (v200 - 1)) ((v201.set (Int.toNat v200) x213).set (Int.toNat (wr64 (v200 - 1))) x211))) (ap4 h210 (ap (at_some h212).1 (ap (lt_map NettingFlow.cells (at_some h212).2) (ap h210 (ap (at_map NettingFlow.cells (at_some h212).2) (ap4 h210 (ap (at_some h214).1 (ap (lt_map NettingFlow.cells (at_some h214).2) (ap h210 (ap (at_map NettingFlow.cells (at_some h214).2) (ap3 h210 (ap (f55_ok x211 x213 h216) (ap h217 (ap (at_some h214).1 (ap (lt_map NettingFlow.cells (at_some h214).2) (ap (at_map NettingFlow.cells (at_some h214).2) (ap (at_some h212).1 (ap (lt_map NettingFlow.cells (at_some h212).2) (ap (at_map NettingFlow.cells (at_some h212).2) (ap (at_some h212).1 (ap (lt_map NettingFlow.cells (at_some h212).2) (ap (at_map NettingFlow.cells (at_some h212).2) (ap (set_cv (xs := v201) (c := NettingFlow.cells) (k := (Int.toNat v200)) (x := x213)) (ap (at_some h221).1 (ap (lt_map NettingFlow.cells (at_some h221).2) (ap (at_map NettingFlow.cells (at_some h221).2) (ap (set_cv (xs := (v201.set (Int.toNat v200) x213)) (c := NettingFlow.cells) (k := (Int.toNat (wr64 (v200 - 1)))) (x := x211)) an))))))))))))))))))))))))))) (LoopQ.norm ⟨(wr64 (v200 - 1)), ((v201.set (Int.toNat v200) x213).set (Int.toNat (wr64 (v200 - 1))) x211), rfl, h⟩)
      · obtain rfl := some_inj h
        exact rK cfg_ok 1 [(jT [4, 5, 6, 7, 8, 9, 10, 11, 12, 13, 14, 15], [(7, .at_ (Int.toNat v200)), (8, .idx 0 (NettingFlow.cells x211)), (12, .at_ (Int.toNat (wr64 (v200 - 1)))), (13, .idx 0 (NettingFlow.cells x213)), jH 14 (jI x215), (16, .bool true)], [])] [some false] [] [] [0, 1, 2, 3, 8] (.exit 2) ((f81r1n2E bd1 bd2 bd3 (.exit2 v201)).2) (ap4 h210 (ap (at_some h212).1 (ap (lt_map NettingFlow.cells (at_some h212).2) (ap h210 (ap (at_map NettingFlow.cells (at_some h212).2) (ap4 h210 (ap (at_some h214).1 (ap (lt_map NettingFlow.cells (at_some h214).2) (ap h210 (ap (at_map NettingFlow.cells (at_some h214).2) (ap3 h210 (ap (f55_ok x211 x213 h216) (ap h217 an))))))))))))) (LoopQ.out rfl rfl)
    · obtain rfl := some_inj h
      exact rK cfg_ok 1 [(jF [4, 5, 6, 7, 8, 9, 10, 11, 12, 13, 14, 15], [(16, .bool false)], [])] [none] [] [] [0, 1, 2, 3, 8] (.exit 2) ((f81r1n2E bd1 bd2 bd3 (.exit2 v201)).2) (ap h210 (ap4 h210 (ap4 h210 (ap4 h210 an)))) (LoopQ.out rfl rfl)
inductive f81r1n1O where
  | norm (v226 : List NettingFlow)
def f81r1n1E (bd1 : Int) (bd2 : Int) (bd3 : Int) (ba4 : List NettingFlow) : f81r1n1O → Ex × Tr × Hp
  | .norm v226 => (.norm, mkS [(0, (.own 0)), (1, (jI bd1)), (2, (jI bd2)), (3, (.pl (.fn 55))), (8, (jI bd3))], [jR 6 NettingFlow.cells v226])
def f81r1n1S (bd1 : Int) (bd2 : Int) (bd3 : Int) (ba4 : List NettingFlow) : Tr × Hp := (mkS [(0, (.own 0)), (1, (jI bd1)), (2, (jI bd2)), (3, (.pl (.fn 55))), (8, (jI bd3))], [jR 6 NettingFlow.cells ba4])
noncomputable def f81r1n1 (bd1 : Int) (bd2 : Int) (bd3 : Int) (ba4 : List NettingFlow) : Option f81r1n1O :=
  (f81r1n2 FUEL bd1 bd2 bd3 bd3 ba4).bind fun o223 => match o223 with
  | .exit2 v225 => some (.norm v225)
theorem f81r1n1_ok (bd1 : Int) (bd2 : Int) (bd3 : Int) (ba4 : List NettingFlow) {o : f81r1n1O} (h : (f81r1n1 bd1 bd2 bd3 ba4) = some o) : T Try.prog Try.f81.ntmps 1 (cL (dropC 1 (cL (cL (dropC 1 c81))))) (f81r1n1S bd1 bd2 bd3 ba4) (fun r => r = f81r1n1E bd1 bd2 bd3 ba4 o) := by
  unfold f81r1n1 at h
  refine T.block' (i := 1) (by kernel_rfl) ?_
  refine rN cfg_ok 1 [j3] [] [] [] [0, 1, 2, 3, 8, 9] (f81r1n2S bd1 bd2 bd3 bd3 ba4) an ?_
  obtain ⟨o223, h224, h⟩ := bind_cases h
  cases o223 with
  | exit2 v225 =>
    obtain rfl := some_inj h
    exact T.last' (T.bl (i := 2) (by kernel_rfl) (by kernel_rfl) (f81r1n2_ok FUEL bd1 bd2 bd3 bd3 ba4 h224)) (tds := []) (m := []) (keep := [0, 1, 2, 3, 8]) (st2 := (f81r1n1E bd1 bd2 bd3 ba4 (.norm v225)).2) (by kernel_rfl) an rfl
inductive f81r1n3O where
  | exit0 (v230 : List NettingFlow)
def f81r1n3E (a1 : Int) (a2 : Int) : f81r1n3O → Ex × Tr × Hp
  | .exit0 v230 => ((.exit 0), mkS [], [jR 6 NettingFlow.cells v230])
def f81r1n3S (a1 : Int) (a2 : Int) (v154 : Int) (v155 : List NettingFlow) : Tr × Hp := (mkS [(0, (.own 0)), (1, (jI a1)), (2, (jI a2)), (3, (.pl (.fn 55))), (8, (jI v154))], [jR 6 NettingFlow.cells v155])
noncomputable def f81r1n3 : Nat → Int → Int → Int → List NettingFlow → Option f81r1n3O
  | 0, _, _, _, _ => none
  | f + 1, a1, a2, v154, v155 =>
    bif (decide (v154 < a2)) then
      (f81r1n1 a1 a2 v154 v155).bind fun o227 => match o227 with
      | .norm v229 => (f81r1n3 f a1 a2 (wr64 (v154 + 1)) v229)
    else
      some (.exit0 v155)
theorem f81r1n3_ok : ∀ (f : Nat) (a1 : Int) (a2 : Int) (v154 : Int) (v155 : List NettingFlow) {o : f81r1n3O}, (f81r1n3 f a1 a2 v154 v155) = some o → TL Try.prog Try.f81.ntmps 1 f (cL (cL (dropC 1 c81))) (f81r1n3S a1 a2 v154 v155) (fun r => r = f81r1n3E a1 a2 o)
  | 0, _, _, _, _, o, h => by rw [f81r1n3] at h; cases h
  | f + 1, a1, a2, v154, v155, o, h => by
    rw [f81r1n3] at h
    refine TL.body (K := fun s => ∃ v154 : Int, ∃ v155 : List NettingFlow, s = (f81r1n3S a1 a2 v154 v155) ∧ (f81r1n3 f a1 a2 v154 v155) = some o) ?_ (by rintro _ ⟨v154, v155, rfl, hk⟩; exact f81r1n3_ok f _ _ _ _ hk)
    rcases cond_cases h with ⟨h157, h⟩ | ⟨h157, h⟩
    · refine rN cfg_ok 1 [j3] [some true] [] [] [0, 1, 2, 3, 8] (f81r1n1S a1 a2 v154 v155) (ap h157 an) ?_
      obtain ⟨o227, h228, h⟩ := bind_cases h
      cases o227 with
      | norm v229 =>
        refine T.oneN (by kernel_rfl) (f81r1n1_ok a1 a2 v154 v155 h228) (st2 := (f81r1n1E a1 a2 v154 v155 (.norm v229)).2) rfl ?_
        exact rE cfg_ok [j3] [] [] [] [0, 1, 2, 3, 8] (.norm, (f81r1n3S a1 a2 (wr64 (v154 + 1)) v229)) an (LoopQ.norm ⟨(wr64 (v154 + 1)), v229, rfl, h⟩)
    · obtain rfl := some_inj h
      exact rK cfg_ok 1 [j3] [some false] [] [] [] (.exit 0) ((f81r1n3E a1 a2 (.exit0 v155)).2) (ap h157 an) (LoopQ.out rfl rfl)
inductive f81r1n0O where
  | norm (v234 : List NettingFlow)
def f81r1n0E (a1 : Int) (a2 : Int) (a3 : List NettingFlow) : f81r1n0O → Ex × Tr × Hp
  | .norm v234 => (.norm, mkS [], [jR 6 NettingFlow.cells v234])
def f81r1n0S (a1 : Int) (a2 : Int) (a3 : List NettingFlow) : Tr × Hp := (initS [(.own 0), (jI a1), (jI a2), (.pl (.fn 55))] 0 .leaf, [jR 6 NettingFlow.cells a3])
noncomputable def f81r1n0 (a1 : Int) (a2 : Int) (a3 : List NettingFlow) : Option f81r1n0O :=
  (f81r1n3 FUEL a1 a2 (wr64 (a1 + 1)) a3).bind fun o231 => match o231 with
  | .exit0 v233 => some (.norm v233)
theorem f81r1n0_ok (a1 : Int) (a2 : Int) (a3 : List NettingFlow) {o : f81r1n0O} (h : (f81r1n0 a1 a2 a3) = some o) : T Try.prog Try.f81.ntmps 1 c81 (f81r1n0S a1 a2 a3) (fun r => r = f81r1n0E a1 a2 a3 o) := by
  unfold f81r1n0 at h
  refine rN cfg_ok 1 [j3] [] [] [] [0, 1, 2, 3, 8] (f81r1n3S a1 a2 (wr64 (a1 + 1)) a3) an ?_
  obtain ⟨o231, h232, h⟩ := bind_cases h
  cases o231 with
  | exit0 v233 =>
    obtain rfl := some_inj h
    exact T.last' (T.bl (i := 0) (by kernel_rfl) (by kernel_rfl) (f81r1n3_ok FUEL a1 a2 (wr64 (a1 + 1)) a3 h232)) (tds := []) (m := []) (keep := []) (st2 := (f81r1n0E a1 a2 a3 (.norm v233)).2) (by kernel_rfl) an rfl
noncomputable def f81r1 (a1 : Int) (a2 : Int) (a3 : List NettingFlow) : Option (List NettingFlow) := (f81r1n0 a1 a2 a3).bind fun o => match o with
  | .norm v234 => some v234
theorem f81r1_ok (a1 : Int) (a2 : Int) (a3 : List NettingFlow) {r : List NettingFlow} (h : (f81r1 a1 a2 a3) = some r) : CallS Try.prog true 81 [(.own 0), (jI a1), (jI a2), (.pl (.fn 55))] [jR 6 NettingFlow.cells a3] (.tup []) [jR 6 NettingFlow.cells r] := by
  unfold f81r1 at h
  obtain ⟨o, ho, h⟩ := bind_cases h
  cases o with
  | norm v234 =>
    obtain rfl := some_inj h
    exact CallS.shared cfg_ok (f := Try.f81) (c := c81) (by kernel_rfl) (by kernel_rfl) (by kernel_rfl) ((f81r1n0_ok a1 a2 a3 ho).mono fun r e => by subst e; exact ⟨.inr rfl, by kernel_rfl, by kernel_rfl⟩)

noncomputable def c90 : Code := Try.f90.body.getD .skip
inductive f90r1n1O where
  | exit0 (v51 : List NettingFlow)
def f90r1n1E (a1 : Int) (a2 : Int) (a3 : Int) : f90r1n1O → Ex × Tr × Hp
  | .exit0 v51 => ((.exit 0), mkS [], [jR 6 NettingFlow.cells v51])
def f90r1n1S (a1 : Int) (a2 : Int) (a3 : Int) (v35 : Int) (v36 : List NettingFlow) : Tr × Hp := (mkS [(0, (.own 0)), (1, (jI a1)), (2, (jI a2)), (3, (jI a3)), (10, (jI v35))], [jR 6 NettingFlow.cells v36])
noncomputable def f90r1n1 : Nat → Int → Int → Int → Int → List NettingFlow → Option f90r1n1O
  | 0, _, _, _, _, _ => none
  | f + 1, a1, a2, a3, v35, v36 =>
    bif (decide (v35 < a3)) then
      (at? v36 (wr64 (a2 + v35))).bind fun x45 =>
      (at? v36 (wr64 (a1 + v35))).bind fun x47 =>
      (at? (v36.set (Int.toNat (wr64 (a1 + v35))) x45) (wr64 (a2 + v35))).bind fun x49 =>
      (f90r1n1 f a1 a2 a3 (wr64 (v35 + 1)) ((v36.set (Int.toNat (wr64 (a1 + v35))) x45).set (Int.toNat (wr64 (a2 + v35))) x47))
    else
      some (.exit0 v36)
theorem f90r1n1_ok : ∀ (f : Nat) (a1 : Int) (a2 : Int) (a3 : Int) (v35 : Int) (v36 : List NettingFlow) {o : f90r1n1O}, (f90r1n1 f a1 a2 a3 v35 v36) = some o → TL Try.prog Try.f90.ntmps 1 f (cL (cL (dropC 1 c90))) (f90r1n1S a1 a2 a3 v35 v36) (fun r => r = f90r1n1E a1 a2 a3 o)
  | 0, _, _, _, _, _, o, h => by rw [f90r1n1] at h; cases h
  | f + 1, a1, a2, a3, v35, v36, o, h => by
    rw [f90r1n1] at h
    refine TL.body (K := fun s => ∃ v35 : Int, ∃ v36 : List NettingFlow, s = (f90r1n1S a1 a2 a3 v35 v36) ∧ (f90r1n1 f a1 a2 a3 v35 v36) = some o) ?_ (by rintro _ ⟨v35, v36, rfl, hk⟩; exact f90r1n1_ok f _ _ _ _ _ hk)
    rcases cond_cases h with ⟨h38, h⟩ | ⟨h38, h⟩
    · obtain ⟨x45, h46, h⟩ := bind_cases h
      obtain ⟨x47, h48, h⟩ := bind_cases h
      obtain ⟨x49, h50, h⟩ := bind_cases h
      exact rE cfg_ok [j3, ([], [(12, .at_ (Int.toNat (wr64 (a2 + v35)))), (13, .idx 0 (NettingFlow.cells x45)), (18, .at_ (Int.toNat (wr64 (a1 + v35)))), (19, .idx 0 (NettingFlow.cells x47)), (20, .at_ (Int.toNat (wr64 (a1 + v35)))), (21, .idx 0 (NettingFlow.cells x47)), (22, .at_ (Int.toNat (wr64 (a2 + v35)))), (23, .idx 0 (NettingFlow.cells x49))], [(21, .row 0 ((v36.set (Int.toNat (wr64 (a1 + v35))) x45).map NettingFlow.cells)), (23, .row 0 (((v36.set (Int.toNat (wr64 (a1 + v35))) x45).set (Int.toNat (wr64 (a2 + v35))) x47).map NettingFlow.cells))]), j3] [some true] [] [] [0, 1, 2, 3, 10] (.norm, (f90r1n1S a1 a2 a3 (wr64 (v35 + 1)) ((v36.set (Int.toNat (wr64 (a1 + v35))) x45).set (Int.toNat (wr64 (a2 + v35))) x47))) (ap h38 (ap (at_some h46).1 (ap (lt_map NettingFlow.cells (at_some h46).2) (ap (at_map NettingFlow.cells (at_some h46).2) (ap (at_some h48).1 (ap (lt_map NettingFlow.cells (at_some h48).2) (ap (at_map NettingFlow.cells (at_some h48).2) (ap (at_some h48).1 (ap (lt_map NettingFlow.cells (at_some h48).2) (ap (at_map NettingFlow.cells (at_some h48).2) (ap (set_cv (xs := v36) (c := NettingFlow.cells) (k := (Int.toNat (wr64 (a1 + v35)))) (x := x45)) (ap (at_some h50).1 (ap (lt_map NettingFlow.cells (at_some h50).2) (ap (at_map NettingFlow.cells (at_some h50).2) (ap (set_cv (xs := (v36.set (Int.toNat (wr64 (a1 + v35))) x45)) (c := NettingFlow.cells) (k := (Int.toNat (wr64 (a2 + v35)))) (x := x47)) an))))))))))))))) (LoopQ.norm ⟨(wr64 (v35 + 1)), ((v36.set (Int.toNat (wr64 (a1 + v35))) x45).set (Int.toNat (wr64 (a2 + v35))) x47), rfl, h⟩)
    · obtain rfl := some_inj h
      exact rK cfg_ok 1 [j3] [some false] [] [] [] (.exit 0) ((f90r1n1E a1 a2 a3 (.exit0 v36)).2) (ap h38 an) (LoopQ.out rfl rfl)
inductive f90r1n0O where
  | norm (v55 : List NettingFlow)
def f90r1n0E (a1 : Int) (a2 : Int) (a3 : Int) (a4 : List NettingFlow) : f90r1n0O → Ex × Tr × Hp
  | .norm v55 => (.norm, mkS [], [jR 6 NettingFlow.cells v55])
def f90r1n0S (a1 : Int) (a2 : Int) (a3 : Int) (a4 : List NettingFlow) : Tr × Hp := (initS [(.own 0), (jI a1), (jI a2), (jI a3), (.pl (.fn 55))] 0 .leaf, [jR 6 NettingFlow.cells a4])
noncomputable def f90r1n0 (a1 : Int) (a2 : Int) (a3 : Int) (a4 : List NettingFlow) : Option f90r1n0O :=
  (f90r1n1 FUEL a1 a2 a3 0 a4).bind fun o52 => match o52 with
  | .exit0 v54 => some (.norm v54)
theorem f90r1n0_ok (a1 : Int) (a2 : Int) (a3 : Int) (a4 : List NettingFlow) {o : f90r1n0O} (h : (f90r1n0 a1 a2 a3 a4) = some o) : T Try.prog Try.f90.ntmps 1 c90 (f90r1n0S a1 a2 a3 a4) (fun r => r = f90r1n0E a1 a2 a3 a4 o) := by
  unfold f90r1n0 at h
  refine rN cfg_ok 1 [j3] [] [] [] [0, 1, 2, 3, 10] (f90r1n1S a1 a2 a3 0 a4) an ?_
  obtain ⟨o52, h53, h⟩ := bind_cases h
  cases o52 with
  | exit0 v54 =>
    obtain rfl := some_inj h
    exact T.last' (T.bl (i := 0) (by kernel_rfl) (by kernel_rfl) (f90r1n1_ok FUEL a1 a2 a3 0 a4 h53)) (tds := []) (m := []) (keep := []) (st2 := (f90r1n0E a1 a2 a3 a4 (.norm v54)).2) (by kernel_rfl) an rfl
noncomputable def f90r1 (a1 : Int) (a2 : Int) (a3 : Int) (a4 : List NettingFlow) : Option (List NettingFlow) := (f90r1n0 a1 a2 a3 a4).bind fun o => match o with
  | .norm v55 => some v55
theorem f90r1_ok (a1 : Int) (a2 : Int) (a3 : Int) (a4 : List NettingFlow) {r : List NettingFlow} (h : (f90r1 a1 a2 a3 a4) = some r) : CallS Try.prog true 90 [(.own 0), (jI a1), (jI a2), (jI a3), (.pl (.fn 55))] [jR 6 NettingFlow.cells a4] (.tup []) [jR 6 NettingFlow.cells r] := by
  unfold f90r1 at h
  obtain ⟨o, ho, h⟩ := bind_cases h
  cases o with
  | norm v55 =>
    obtain rfl := some_inj h
    exact CallS.shared cfg_ok (f := Try.f90) (c := c90) (by kernel_rfl) (by kernel_rfl) (by kernel_rfl) ((f90r1n0_ok a1 a2 a3 a4 ho).mono fun r e => by subst e; exact ⟨.inr rfl, by kernel_rfl, by kernel_rfl⟩)

noncomputable def c88 : Code := Try.f88.body.getD .skip
inductive f88r1n1O where
  | exit0 (v47 : Int) (v48 : List NettingFlow)
def f88r1n1E (a2 : Int) : f88r1n1O → Ex × Tr × Hp
  | .exit0 v47 v48 => ((.exit 0), mkS [(0, (.own 0)), (2, (jI a2)), (4, (.pl (.fn 55))), (10, (jI v47))], [jR 6 NettingFlow.cells v48])
def f88r1n1S (a2 : Int) (v32 : Int) (v33 : Int) (v34 : List NettingFlow) : Tr × Hp := (mkS [(0, (.own 0)), (2, (jI a2)), (4, (.pl (.fn 55))), (10, (jI v32)), (11, (jI v33))], [jR 6 NettingFlow.cells v34])
noncomputable def f88r1n1 : Nat → Int → Int → Int → List NettingFlow → Option f88r1n1O
  | 0, _, _, _, _ => none
  | f + 1, a2, v32, v33, v34 =>
    bif (decide (v32 = v33)) then
      some (.exit0 v32 v34)
    else
      bif (decide (v33 < v32)) then
        (f90r1 (wr64 (a2 - v32)) a2 v33 v34).bind fun x43 =>
        (f88r1n1 f a2 (wr64 (v32 - v33)) v33 x43)
      else
        (f90r1 (wr64 (a2 - v32)) (wr64 ((wr64 (a2 + v33)) - v32)) v32 v34).bind fun x45 =>
        (f88r1n1 f a2 v32 (wr64 (v33 - v32)) x45)
theorem f88r1n1_ok : ∀ (f : Nat) (a2 : Int) (v32 : Int) (v33 : Int) (v34 : List NettingFlow) {o : f88r1n1O}, (f88r1n1 f a2 v32 v33 v34) = some o → TL Try.prog Try.f88.ntmps 1 f (cL (cL (cL (dropC 2 c88)))) (f88r1n1S a2 v32 v33 v34) (fun r => r = f88r1n1E a2 o)
  | 0, _, _, _, _, o, h => by rw [f88r1n1] at h; cases h
  | f + 1, a2, v32, v33, v34, o, h => by
    rw [f88r1n1] at h
    refine TL.body (K := fun s => ∃ v32 : Int, ∃ v33 : Int, ∃ v34 : List NettingFlow, s = (f88r1n1S a2 v32 v33 v34) ∧ (f88r1n1 f a2 v32 v33 v34) = some o) ?_ (by rintro _ ⟨v32, v33, v34, rfl, hk⟩; exact f88r1n1_ok f _ _ _ _ hk)
    rcases cond_cases h with ⟨h36, h⟩ | ⟨h36, h⟩
    · obtain rfl := some_inj h
      exact rK cfg_ok 1 [j3] [some false] [] [] [0, 2, 4, 10] (.exit 0) ((f88r1n1E a2 (.exit0 v32 v34)).2) (ap (not_t h36) an) (LoopQ.out rfl rfl)
    · rcases cond_cases h with ⟨h42, h⟩ | ⟨h42, h⟩
      · obtain ⟨x43, h44, h⟩ := bind_cases h
        exact rE cfg_ok [j3, j3, ([], [(7, .call (.tup []) [jR 6 NettingFlow.cells x43])], []), j3] [some true, some true] [] [] [0, 2, 4, 10, 11] (.norm, (f88r1n1S a2 (wr64 (v32 - v33)) v33 x43)) (ap (not_f h36) (ap h42 (ap (f90r1_ok (wr64 (a2 - v32)) a2 v33 v34 h44) an))) (LoopQ.norm ⟨(wr64 (v32 - v33)), v33, x43, rfl, h⟩)
      · obtain ⟨x45, h46, h⟩ := bind_cases h
        exact rE cfg_ok [j3, j3, ([], [(11, .call (.tup []) [jR 6 NettingFlow.cells x45])], []), j3] [some true, some false] [] [] [0, 2, 4, 10, 11] (.norm, (f88r1n1S a2 v32 (wr64 (v33 - v32)) x45)) (ap (not_f h36) (ap h42 (ap (f90r1_ok (wr64 (a2 - v32)) (wr64 ((wr64 (a2 + v33)) - v32)) v32 v34 h46) an))) (LoopQ.norm ⟨v32, (wr64 (v33 - v32)), x45, rfl, h⟩)
inductive f88r1n0O where
  | norm (v57 : List NettingFlow)
def f88r1n0E (a1 : Int) (a2 : Int) (a3 : Int) (a4 : List NettingFlow) : f88r1n0O → Ex × Tr × Hp
  | .norm v57 => (.norm, mkS [], [jR 6 NettingFlow.cells v57])
def f88r1n0S (a1 : Int) (a2 : Int) (a3 : Int) (a4 : List NettingFlow) : Tr × Hp := (initS [(.own 0), (jI a1), (jI a2), (jI a3), (.pl (.fn 55))] 0 .leaf, [jR 6 NettingFlow.cells a4])
noncomputable def f88r1n0 (a1 : Int) (a2 : Int) (a3 : Int) (a4 : List NettingFlow) : Option f88r1n0O :=
  (f88r1n1 FUEL a2 (wr64 (a2 - a1)) (wr64 (a3 - a2)) a4).bind fun o49 => match o49 with
  | .exit0 v51 v52 => (f90r1 (wr64 (a2 - v51)) a2 v51 v52).bind fun x55 =>
    some (.norm x55)
theorem f88r1n0_ok (a1 : Int) (a2 : Int) (a3 : Int) (a4 : List NettingFlow) {o : f88r1n0O} (h : (f88r1n0 a1 a2 a3 a4) = some o) : T Try.prog Try.f88.ntmps 1 c88 (f88r1n0S a1 a2 a3 a4) (fun r => r = f88r1n0E a1 a2 a3 a4 o) := by
  unfold f88r1n0 at h
  refine rN cfg_ok 2 [j3, j3] [] [] [] [0, 2, 4, 10, 11] (f88r1n1S a2 (wr64 (a2 - a1)) (wr64 (a3 - a2)) a4) an ?_
  obtain ⟨o49, h50, h⟩ := bind_cases h
  cases o49 with
  | exit0 v51 v52 =>
    refine T.oneN (by kernel_rfl) (T.bl (i := 0) (by kernel_rfl) (by kernel_rfl) (f88r1n1_ok FUEL a2 (wr64 (a2 - a1)) (wr64 (a3 - a2)) a4 h50)) (st2 := (f88r1n1E a2 (.exit0 v51 v52)).2) rfl ?_
    obtain ⟨x55, h56, h⟩ := bind_cases h
    obtain rfl := some_inj h
    exact rE cfg_ok [([], [(7, .call (.tup []) [jR 6 NettingFlow.cells x55])], [])] [] [] [] [] (.norm, (f88r1n0E a1 a2 a3 a4 (.norm x55)).2) (ap (f90r1_ok (wr64 (a2 - v51)) a2 v51 v52 h56) an) rfl
noncomputable def f88r1 (a1 : Int) (a2 : Int) (a3 : Int) (a4 : List NettingFlow) : Option (List NettingFlow) := (f88r1n0 a1 a2 a3 a4).bind fun o => match o with
  | .norm v57 => some v57
theorem f88r1_ok (a1 : Int) (a2 : Int) (a3 : Int) (a4 : List NettingFlow) {r : List NettingFlow} (h : (f88r1 a1 a2 a3 a4) = some r) : CallS Try.prog true 88 [(.own 0), (jI a1), (jI a2), (jI a3), (.pl (.fn 55))] [jR 6 NettingFlow.cells a4] (.tup []) [jR 6 NettingFlow.cells r] := by
  unfold f88r1 at h
  obtain ⟨o, ho, h⟩ := bind_cases h
  cases o with
  | norm v57 =>
    obtain rfl := some_inj h
    exact CallS.shared cfg_ok (f := Try.f88) (c := c88) (by kernel_rfl) (by kernel_rfl) (by kernel_rfl) ((f88r1n0_ok a1 a2 a3 a4 ho).mono fun r e => by subst e; exact ⟨.inr rfl, by kernel_rfl, by kernel_rfl⟩)

noncomputable def c82 : Code := Try.f82.body.getD .skip
inductive f82r1n3O where
  | exit0 (v58 : Int)
def f82r1n3E (bd1 : Int) (ba4 : List NettingFlow) : f82r1n3O → Ex × Tr × Hp
  | .exit0 v58 => ((.exit 0), mkS [(0, (.own 0)), (1, (jI bd1)), (10, (jI v58))], [jR 6 NettingFlow.cells ba4])
def f82r1n3S (bd1 : Int) (ba4 : List NettingFlow) (v40 : Int) (v41 : Int) : Tr × Hp := (mkS [(0, (.own 0)), (1, (jI bd1)), (4, (.pl (.fn 55))), (10, (jI v40)), (11, (jI v41))], [jR 6 NettingFlow.cells ba4])
noncomputable def f82r1n3 (self : (Int → Int → Int → List NettingFlow → Option (List NettingFlow))) : Nat → Int → List NettingFlow → Int → Int → Option f82r1n3O
  | 0, _, _, _, _ => none
  | f + 1, bd1, ba4, v40, v41 =>
    bif (decide (v40 < v41)) then
      (at? ba4 (wr64 (shrK .u64 (wru64 (wr64 (v40 + v41))) 1))).bind fun x51 =>
      (at? ba4 bd1).bind fun x53 =>
      (f55 x51 x53).bind fun x55 =>
      bif (decide (x55 < 0)) then
        (f82r1n3 self f bd1 ba4 (wr64 ((wr64 (shrK .u64 (wru64 (wr64 (v40 + v41))) 1)) + 1)) v41)
      else
        (f82r1n3 self f bd1 ba4 v40 (wr64 (shrK .u64 (wru64 (wr64 (v40 + v41))) 1)))
    else
      some (.exit0 v40)
theorem f82r1n3_ok {self : (Int → Int → Int → List NettingFlow → Option (List NettingFlow))} (self_ok : (∀ (a1 : Int) (a2 : Int) (a3 : Int) (a4 : List NettingFlow) {r : List NettingFlow}, self a1 a2 a3 a4 = some r → CallS Try.prog true 82 [(.own 0), (jI a1), (jI a2), (jI a3), (.pl (.fn 55))] [jR 6 NettingFlow.cells a4] (.tup []) [jR 6 NettingFlow.cells r])) : ∀ (f : Nat) (bd1 : Int) (ba4 : List NettingFlow) (v40 : Int) (v41 : Int) {o : f82r1n3O}, (f82r1n3 self f bd1 ba4 v40 v41) = some o → TL Try.prog Try.f82.ntmps 1 f (cL (cL (cL (dropC 2 (cL (dropC 1 (cL (dropC 0 c82)))))))) (f82r1n3S bd1 ba4 v40 v41) (fun r => r = f82r1n3E bd1 ba4 o)
  | 0, _, _, _, _, o, h => by rw [f82r1n3] at h; cases h
  | f + 1, bd1, ba4, v40, v41, o, h => by
    rw [f82r1n3] at h
    refine TL.body (K := fun s => ∃ v40 : Int, ∃ v41 : Int, s = (f82r1n3S bd1 ba4 v40 v41) ∧ (f82r1n3 self f bd1 ba4 v40 v41) = some o) ?_ (by rintro _ ⟨v40, v41, rfl, hk⟩; exact f82r1n3_ok self_ok f _ _ _ _ hk)
    rcases cond_cases h with ⟨h43, h⟩ | ⟨h43, h⟩
    · obtain ⟨x51, h52, h⟩ := bind_cases h
      obtain ⟨x53, h54, h⟩ := bind_cases h
      obtain ⟨x55, h56, h⟩ := bind_cases h
      rcases cond_cases h with ⟨h57, h⟩ | ⟨h57, h⟩
      · exact rE cfg_ok [j3, j3, ([], [(3, .at_ (Int.toNat (wr64 (shrK .u64 (wru64 (wr64 (v40 + v41))) 1)))), (4, .idx 0 (NettingFlow.cells x51)), (7, .at_ (Int.toNat bd1)), (8, .idx 0 (NettingFlow.cells x53)), jH 9 (jI x55)], []), j3] [some true, some true] [] [] [0, 1, 4, 10, 11] (.norm, (f82r1n3S bd1 ba4 (wr64 ((wr64 (shrK .u64 (wru64 (wr64 (v40 + v41))) 1)) + 1)) v41)) (ap h43 (ap (at_some h52).1 (ap (lt_map NettingFlow.cells (at_some h52).2) (ap (at_map NettingFlow.cells (at_some h52).2) (ap (at_some h54).1 (ap (lt_map NettingFlow.cells (at_some h54).2) (ap (at_map NettingFlow.cells (at_some h54).2) (ap (f55_ok x51 x53 h56) (ap h57 an))))))))) (LoopQ.norm ⟨(wr64 ((wr64 (shrK .u64 (wru64 (wr64 (v40 + v41))) 1)) + 1)), v41, rfl, h⟩)
      · exact rE cfg_ok [j3, j3, ([], [(3, .at_ (Int.toNat (wr64 (shrK .u64 (wru64 (wr64 (v40 + v41))) 1)))), (4, .idx 0 (NettingFlow.cells x51)), (7, .at_ (Int.toNat bd1)), (8, .idx 0 (NettingFlow.cells x53)), jH 9 (jI x55)], []), j3] [some true, some false] [] [] [0, 1, 4, 10, 11] (.norm, (f82r1n3S bd1 ba4 v40 (wr64 (shrK .u64 (wru64 (wr64 (v40 + v41))) 1)))) (ap h43 (ap (at_some h52).1 (ap (lt_map NettingFlow.cells (at_some h52).2) (ap (at_map NettingFlow.cells (at_some h52).2) (ap (at_some h54).1 (ap (lt_map NettingFlow.cells (at_some h54).2) (ap (at_map NettingFlow.cells (at_some h54).2) (ap (f55_ok x51 x53 h56) (ap h57 an))))))))) (LoopQ.norm ⟨v40, (wr64 (shrK .u64 (wru64 (wr64 (v40 + v41))) 1)), rfl, h⟩)
    · obtain rfl := some_inj h
      exact rK cfg_ok 1 [j3] [some false] [] [] [0, 1, 10] (.exit 0) ((f82r1n3E bd1 ba4 (.exit0 v40)).2) (ap h43 an) (LoopQ.out rfl rfl)
inductive f82r1n5O where
  | exit2 (v108 : List NettingFlow)
def f82r1n5E (bd2 : Int) : f82r1n5O → Ex × Tr × Hp
  | .exit2 v108 => ((.exit 2), mkS [], [jR 6 NettingFlow.cells v108])
def f82r1n5S (bd2 : Int) (v92 : Int) (v93 : List NettingFlow) : Tr × Hp := (mkS [(0, (.own 0)), (10, (jI bd2)), (13, (jI v92))], [jR 6 NettingFlow.cells v93])
noncomputable def f82r1n5 (self : (Int → Int → Int → List NettingFlow → Option (List NettingFlow))) : Nat → Int → Int → List NettingFlow → Option f82r1n5O
  | 0, _, _, _ => none
  | f + 1, bd2, v92, v93 =>
    bif (decide (v92 < (wr64 (bd2 - 1)))) then
      (at? v93 (wr64 (v92 + 1))).bind fun x102 =>
      (at? v93 v92).bind fun x104 =>
      (at? (v93.set (Int.toNat v92) x102) (wr64 (v92 + 1))).bind fun x106 =>
      (f82r1n5 self f bd2 (wr64 (v92 + 1)) ((v93.set (Int.toNat v92) x102).set (Int.toNat (wr64 (v92 + 1))) x104))
    else
      some (.exit2 v93)
theorem f82r1n5_ok {self : (Int → Int → Int → List NettingFlow → Option (List NettingFlow))} (self_ok : (∀ (a1 : Int) (a2 : Int) (a3 : Int) (a4 : List NettingFlow) {r : List NettingFlow}, self a1 a2 a3 a4 = some r → CallS Try.prog true 82 [(.own 0), (jI a1), (jI a2), (jI a3), (.pl (.fn 55))] [jR 6 NettingFlow.cells a4] (.tup []) [jR 6 NettingFlow.cells r])) : ∀ (f : Nat) (bd2 : Int) (v92 : Int) (v93 : List NettingFlow) {o : f82r1n5O}, (f82r1n5 self f bd2 v92 v93) = some o → TL Try.prog Try.f82.ntmps 1 f (cL (cL (dropC 1 (cL (dropC 0 (dropC 1 (dropC 2 (cL (dropC 1 (cL (dropC 0 c82))))))))))) (f82r1n5S bd2 v92 v93) (fun r => r = f82r1n5E bd2 o)
  | 0, _, _, _, o, h => by rw [f82r1n5] at h; cases h
  | f + 1, bd2, v92, v93, o, h => by
    rw [f82r1n5] at h
    refine TL.body (K := fun s => ∃ v92 : Int, ∃ v93 : List NettingFlow, s = (f82r1n5S bd2 v92 v93) ∧ (f82r1n5 self f bd2 v92 v93) = some o) ?_ (by rintro _ ⟨v92, v93, rfl, hk⟩; exact f82r1n5_ok self_ok f _ _ _ hk)
    rcases cond_cases h with ⟨h95, h⟩ | ⟨h95, h⟩
    · obtain ⟨x102, h103, h⟩ := bind_cases h
      obtain ⟨x104, h105, h⟩ := bind_cases h
      obtain ⟨x106, h107, h⟩ := bind_cases h
      exact rE cfg_ok [j3, ([], [(8, .at_ (Int.toNat (wr64 (v92 + 1)))), (9, .idx 0 (NettingFlow.cells x102)), (12, .at_ (Int.toNat v92)), (13, .idx 0 (NettingFlow.cells x104)), (14, .at_ (Int.toNat v92)), (15, .idx 0 (NettingFlow.cells x104)), (16, .at_ (Int.toNat (wr64 (v92 + 1)))), (17, .idx 0 (NettingFlow.cells x106))], [(15, .row 0 ((v93.set (Int.toNat v92) x102).map NettingFlow.cells)), (17, .row 0 (((v93.set (Int.toNat v92) x102).set (Int.toNat (wr64 (v92 + 1))) x104).map NettingFlow.cells))]), j3] [some true] [] [] [0, 10, 13] (.norm, (f82r1n5S bd2 (wr64 (v92 + 1)) ((v93.set (Int.toNat v92) x102).set (Int.toNat (wr64 (v92 + 1))) x104))) (ap h95 (ap (at_some h103).1 (ap (lt_map NettingFlow.cells (at_some h103).2) (ap (at_map NettingFlow.cells (at_some h103).2) (ap (at_some h105).1 (ap (lt_map NettingFlow.cells (at_some h105).2) (ap (at_map NettingFlow.cells (at_some h105).2) (ap (at_some h105).1 (ap (lt_map NettingFlow.cells (at_some h105).2) (ap (at_map NettingFlow.cells (at_some h105).2) (ap (set_cv (xs := v93) (c := NettingFlow.cells) (k := (Int.toNat v92)) (x := x102)) (ap (at_some h107).1 (ap (lt_map NettingFlow.cells (at_some h107).2) (ap (at_map NettingFlow.cells (at_some h107).2) (ap (set_cv (xs := (v93.set (Int.toNat v92) x102)) (c := NettingFlow.cells) (k := (Int.toNat (wr64 (v92 + 1)))) (x := x104)) an))))))))))))))) (LoopQ.norm ⟨(wr64 (v92 + 1)), ((v93.set (Int.toNat v92) x102).set (Int.toNat (wr64 (v92 + 1))) x104), rfl, h⟩)
    · obtain rfl := some_inj h
      exact rK cfg_ok 1 [j3] [some false] [] [] [] (.exit 2) ((f82r1n5E bd2 (.exit2 v93)).2) (ap h95 an) (LoopQ.out rfl rfl)
inductive f82r1n4O where
  | norm (v112 : List NettingFlow)
def f82r1n4E (bd1 : Int) (bd2 : Int) (ba3 : List NettingFlow) : f82r1n4O → Ex × Tr × Hp
  | .norm v112 => (.norm, mkS [], [jR 6 NettingFlow.cells v112])
def f82r1n4S (bd1 : Int) (bd2 : Int) (ba3 : List NettingFlow) : Tr × Hp := (mkS [(0, (.own 0)), (1, (jI bd1)), (10, (jI bd2))], [jR 6 NettingFlow.cells ba3])
noncomputable def f82r1n4 (self : (Int → Int → Int → List NettingFlow → Option (List NettingFlow))) (bd1 : Int) (bd2 : Int) (ba3 : List NettingFlow) : Option f82r1n4O :=
  (f82r1n5 self FUEL bd2 bd1 ba3).bind fun o109 => match o109 with
  | .exit2 v111 => some (.norm v111)
theorem f82r1n4_ok {self : (Int → Int → Int → List NettingFlow → Option (List NettingFlow))} (self_ok : (∀ (a1 : Int) (a2 : Int) (a3 : Int) (a4 : List NettingFlow) {r : List NettingFlow}, self a1 a2 a3 a4 = some r → CallS Try.prog true 82 [(.own 0), (jI a1), (jI a2), (jI a3), (.pl (.fn 55))] [jR 6 NettingFlow.cells a4] (.tup []) [jR 6 NettingFlow.cells r])) (bd1 : Int) (bd2 : Int) (ba3 : List NettingFlow) {o : f82r1n4O} (h : (f82r1n4 self bd1 bd2 ba3) = some o) : T Try.prog Try.f82.ntmps 1 (cL (dropC 0 (dropC 1 (dropC 2 (cL (dropC 1 (cL (dropC 0 c82)))))))) (f82r1n4S bd1 bd2 ba3) (fun r => r = f82r1n4E bd1 bd2 ba3 o) := by
  unfold f82r1n4 at h
  refine rN cfg_ok 1 [j3] [] [] [] [0, 10, 13] (f82r1n5S bd2 bd1 ba3) an ?_
  obtain ⟨o109, h110, h⟩ := bind_cases h
  cases o109 with
  | exit2 v111 =>
    obtain rfl := some_inj h
    exact T.last' (T.bl (i := 2) (by kernel_rfl) (by kernel_rfl) (f82r1n5_ok self_ok FUEL bd2 bd1 ba3 h110)) (tds := []) (m := []) (keep := []) (st2 := (f82r1n4E bd1 bd2 ba3 (.norm v111)).2) (by kernel_rfl) an rfl
inductive f82r1n2O where
  | norm
  | ret (v116 : List NettingFlow)
def f82r1n2E (bd1 : Int) (bd2 : Int) (bd3 : Int) (ba4 : List NettingFlow) : f82r1n2O → Ex × Tr × Hp
  | .norm => (.norm, mkS [(0, (.own 0)), (1, (jI bd1)), (2, (jI bd2)), (3, (jI bd3)), (4, (.pl (.fn 55)))], [jR 6 NettingFlow.cells ba4])
  | .ret v116 => (.ret, mkS [], [jR 6 NettingFlow.cells v116])
def f82r1n2S (bd1 : Int) (bd2 : Int) (bd3 : Int) (ba4 : List NettingFlow) : Tr × Hp := (mkS [(0, (.own 0)), (1, (jI bd1)), (2, (jI bd2)), (3, (jI bd3)), (4, (.pl (.fn 55))), (28, (.pl (.bool (decide ((wr64 (bd2 - bd1)) = 1)))))], [jR 6 NettingFlow.cells ba4])
noncomputable def f82r1n2 (self : (Int → Int → Int → List NettingFlow → Option (List NettingFlow))) (bd1 : Int) (bd2 : Int) (bd3 : Int) (ba4 : List NettingFlow) : Option f82r1n2O :=
  bif (decide ((wr64 (bd2 - bd1)) = 1)) then
    (f82r1n3 self FUEL bd1 ba4 bd2 bd3).bind fun o59 => match o59 with
    | .exit0 v61 => (f82r1n4 self bd1 v61 ba4).bind fun o113 => match o113 with
      | .norm v115 => some (.ret v115)
  else
    some .norm
theorem f82r1n2_ok {self : (Int → Int → Int → List NettingFlow → Option (List NettingFlow))} (self_ok : (∀ (a1 : Int) (a2 : Int) (a3 : Int) (a4 : List NettingFlow) {r : List NettingFlow}, self a1 a2 a3 a4 = some r → CallS Try.prog true 82 [(.own 0), (jI a1), (jI a2), (jI a3), (.pl (.fn 55))] [jR 6 NettingFlow.cells a4] (.tup []) [jR 6 NettingFlow.cells r])) (bd1 : Int) (bd2 : Int) (bd3 : Int) (ba4 : List NettingFlow) {o : f82r1n2O} (h : (f82r1n2 self bd1 bd2 bd3 ba4) = some o) : T Try.prog Try.f82.ntmps 1 (dropC 1 (cL (dropC 0 c82))) (f82r1n2S bd1 bd2 bd3 ba4) (fun r => r = f82r1n2E bd1 bd2 bd3 ba4 o) := by
  unfold f82r1n2 at h
  rcases cond_cases h with ⟨h5, h⟩ | ⟨h5, h⟩
  · refine T.condT (o := .tmp 28) (b := (decide ((wr64 (bd2 - bd1)) = 1))) (by kernel_rfl) (by kernel_rfl) h5 ?_
    refine rN cfg_ok 2 [j3, j3] [] [] [] [0, 1, 4, 10, 11] (f82r1n3S bd1 ba4 bd2 bd3) an ?_
    obtain ⟨o59, h60, h⟩ := bind_cases h
    cases o59 with
    | exit0 v61 =>
      refine T.oneN (by kernel_rfl) (T.bl (i := 0) (by kernel_rfl) (by kernel_rfl) (f82r1n3_ok self_ok FUEL bd1 ba4 bd2 bd3 h60)) (st2 := (f82r1n3E bd1 ba4 (.exit0 v61)).2) rfl ?_
      refine rN cfg_ok 0 [] [] [] [] [0, 1, 10] (f82r1n4S bd1 v61 ba4) an ?_
      obtain ⟨o113, h114, h⟩ := bind_cases h
      cases o113 with
      | norm v115 =>
        refine T.oneN (by kernel_rfl) (f82r1n4_ok self_ok bd1 v61 ba4 h114) (st2 := (f82r1n4E bd1 v61 ba4 (.norm v115)).2) rfl ?_
        obtain rfl := some_inj h
        exact rE cfg_ok [] [] [] [] [] (.ret, (f82r1n2E bd1 bd2 bd3 ba4 (.ret v115)).2) an rfl
  · refine T.condF (o := .tmp 28) (b := (decide ((wr64 (bd2 - bd1)) = 1))) (by kernel_rfl) (by kernel_rfl) h5 ?_
    obtain rfl := some_inj h
    exact rE cfg_ok [] [] [] [] [0, 1, 2, 3, 4] (.norm, (f82r1n2E bd1 bd2 bd3 ba4 .norm).2) an rfl
inductive f82r1n1O where
  | norm
  | ret (v120 : List NettingFlow)
def f82r1n1E (bd1 : Int) (bd2 : Int) (bd3 : Int) (ba4 : List NettingFlow) : f82r1n1O → Ex × Tr × Hp
  | .norm => (.norm, mkS [(0, (.own 0)), (1, (jI bd1)), (2, (jI bd2)), (3, (jI bd3)), (4, (.pl (.fn 55)))], [jR 6 NettingFlow.cells ba4])
  | .ret v120 => (.ret, mkS [], [jR 6 NettingFlow.cells v120])
def f82r1n1S (bd1 : Int) (bd2 : Int) (bd3 : Int) (ba4 : List NettingFlow) : Tr × Hp := (mkS [(0, (.own 0)), (1, (jI bd1)), (2, (jI bd2)), (3, (jI bd3)), (4, (.pl (.fn 55)))], [jR 6 NettingFlow.cells ba4])
noncomputable def f82r1n1 (self : (Int → Int → Int → List NettingFlow → Option (List NettingFlow))) (bd1 : Int) (bd2 : Int) (bd3 : Int) (ba4 : List NettingFlow) : Option f82r1n1O :=
  (f82r1n2 self bd1 bd2 bd3 ba4).bind fun o117 => match o117 with
  | .norm => some .norm
  | .ret v119 => some (.ret v119)
theorem f82r1n1_ok {self : (Int → Int → Int → List NettingFlow → Option (List NettingFlow))} (self_ok : (∀ (a1 : Int) (a2 : Int) (a3 : Int) (a4 : List NettingFlow) {r : List NettingFlow}, self a1 a2 a3 a4 = some r → CallS Try.prog true 82 [(.own 0), (jI a1), (jI a2), (jI a3), (.pl (.fn 55))] [jR 6 NettingFlow.cells a4] (.tup []) [jR 6 NettingFlow.cells r])) (bd1 : Int) (bd2 : Int) (bd3 : Int) (ba4 : List NettingFlow) {o : f82r1n1O} (h : (f82r1n1 self bd1 bd2 bd3 ba4) = some o) : T Try.prog Try.f82.ntmps 1 (cL (dropC 0 c82)) (f82r1n1S bd1 bd2 bd3 ba4) (fun r => r = f82r1n1E bd1 bd2 bd3 ba4 o) := by
  unfold f82r1n1 at h
  refine rN cfg_ok 1 [j3] [] [] [] [0, 1, 2, 3, 4, 28] (f82r1n2S bd1 bd2 bd3 ba4) an ?_
  obtain ⟨o117, h118, h⟩ := bind_cases h
  cases o117 with
  | norm =>
    obtain rfl := some_inj h
    exact T.last' (f82r1n2_ok self_ok bd1 bd2 bd3 ba4 h118) (tds := []) (m := []) (keep := [0, 1, 2, 3, 4]) (st2 := (f82r1n1E bd1 bd2 bd3 ba4 .norm).2) (by kernel_rfl) an rfl
  | ret v119 =>
    obtain rfl := some_inj h
    exact T.last' (f82r1n2_ok self_ok bd1 bd2 bd3 ba4 h118) (tds := []) (m := []) (keep := []) (st2 := (f82r1n1E bd1 bd2 bd3 ba4 (.ret v119)).2) (by kernel_rfl) an rfl
inductive f82r1n8O where
  | exit4 (v176 : Int)
def f82r1n8E (bd2 : Int) (ba4 : List NettingFlow) : f82r1n8O → Ex × Tr × Hp
  | .exit4 v176 => ((.exit 4), mkS [(0, (.own 0)), (2, (jI bd2)), (14, (jI v176))], [jR 6 NettingFlow.cells ba4])
def f82r1n8S (bd2 : Int) (ba4 : List NettingFlow) (v158 : Int) (v159 : Int) : Tr × Hp := (mkS [(0, (.own 0)), (2, (jI bd2)), (4, (.pl (.fn 55))), (14, (jI v158)), (15, (jI v159))], [jR 6 NettingFlow.cells ba4])
noncomputable def f82r1n8 (self : (Int → Int → Int → List NettingFlow → Option (List NettingFlow))) : Nat → Int → List NettingFlow → Int → Int → Option f82r1n8O
  | 0, _, _, _, _ => none
  | f + 1, bd2, ba4, v158, v159 =>
    bif (decide (v158 < v159)) then
      (at? ba4 bd2).bind fun x169 =>
      (at? ba4 (wr64 (shrK .u64 (wru64 (wr64 (v158 + v159))) 1))).bind fun x171 =>
      (f55 x169 x171).bind fun x173 =>
      bif (decide (x173 < 0)) then
        (f82r1n8 self f bd2 ba4 v158 (wr64 (shrK .u64 (wru64 (wr64 (v158 + v159))) 1)))
      else
        (f82r1n8 self f bd2 ba4 (wr64 ((wr64 (shrK .u64 (wru64 (wr64 (v158 + v159))) 1)) + 1)) v159)
    else
      some (.exit4 v158)
theorem f82r1n8_ok {self : (Int → Int → Int → List NettingFlow → Option (List NettingFlow))} (self_ok : (∀ (a1 : Int) (a2 : Int) (a3 : Int) (a4 : List NettingFlow) {r : List NettingFlow}, self a1 a2 a3 a4 = some r → CallS Try.prog true 82 [(.own 0), (jI a1), (jI a2), (jI a3), (.pl (.fn 55))] [jR 6 NettingFlow.cells a4] (.tup []) [jR 6 NettingFlow.cells r])) : ∀ (f : Nat) (bd2 : Int) (ba4 : List NettingFlow) (v158 : Int) (v159 : Int) {o : f82r1n8O}, (f82r1n8 self f bd2 ba4 v158 v159) = some o → TL Try.prog Try.f82.ntmps 1 f (cL (cL (cL (dropC 2 (cL (dropC 1 (cL (dropC 0 (dropC 1 (dropC 0 c82)))))))))) (f82r1n8S bd2 ba4 v158 v159) (fun r => r = f82r1n8E bd2 ba4 o)
  | 0, _, _, _, _, o, h => by rw [f82r1n8] at h; cases h
  | f + 1, bd2, ba4, v158, v159, o, h => by
    rw [f82r1n8] at h
    refine TL.body (K := fun s => ∃ v158 : Int, ∃ v159 : Int, s = (f82r1n8S bd2 ba4 v158 v159) ∧ (f82r1n8 self f bd2 ba4 v158 v159) = some o) ?_ (by rintro _ ⟨v158, v159, rfl, hk⟩; exact f82r1n8_ok self_ok f _ _ _ _ hk)
    rcases cond_cases h with ⟨h161, h⟩ | ⟨h161, h⟩
    · obtain ⟨x169, h170, h⟩ := bind_cases h
      obtain ⟨x171, h172, h⟩ := bind_cases h
      obtain ⟨x173, h174, h⟩ := bind_cases h
      rcases cond_cases h with ⟨h175, h⟩ | ⟨h175, h⟩
      · exact rE cfg_ok [j3, j3, ([], [(3, .at_ (Int.toNat bd2)), (4, .idx 0 (NettingFlow.cells x169)), (7, .at_ (Int.toNat (wr64 (shrK .u64 (wru64 (wr64 (v158 + v159))) 1)))), (8, .idx 0 (NettingFlow.cells x171)), jH 9 (jI x173)], []), j3] [some true, some false] [] [] [0, 2, 4, 14, 15] (.norm, (f82r1n8S bd2 ba4 v158 (wr64 (shrK .u64 (wru64 (wr64 (v158 + v159))) 1)))) (ap h161 (ap (at_some h170).1 (ap (lt_map NettingFlow.cells (at_some h170).2) (ap (at_map NettingFlow.cells (at_some h170).2) (ap (at_some h172).1 (ap (lt_map NettingFlow.cells (at_some h172).2) (ap (at_map NettingFlow.cells (at_some h172).2) (ap (f55_ok x169 x171 h174) (ap (not_t h175) an))))))))) (LoopQ.norm ⟨v158, (wr64 (shrK .u64 (wru64 (wr64 (v158 + v159))) 1)), rfl, h⟩)
      · exact rE cfg_ok [j3, j3, ([], [(3, .at_ (Int.toNat bd2)), (4, .idx 0 (NettingFlow.cells x169)), (7, .at_ (Int.toNat (wr64 (shrK .u64 (wru64 (wr64 (v158 + v159))) 1)))), (8, .idx 0 (NettingFlow.cells x171)), jH 9 (jI x173)], []), j3] [some true, some true] [] [] [0, 2, 4, 14, 15] (.norm, (f82r1n8S bd2 ba4 (wr64 ((wr64 (shrK .u64 (wru64 (wr64 (v158 + v159))) 1)) + 1)) v159)) (ap h161 (ap (at_some h170).1 (ap (lt_map NettingFlow.cells (at_some h170).2) (ap (at_map NettingFlow.cells (at_some h170).2) (ap (at_some h172).1 (ap (lt_map NettingFlow.cells (at_some h172).2) (ap (at_map NettingFlow.cells (at_some h172).2) (ap (f55_ok x169 x171 h174) (ap (not_f h175) an))))))))) (LoopQ.norm ⟨(wr64 ((wr64 (shrK .u64 (wru64 (wr64 (v158 + v159))) 1)) + 1)), v159, rfl, h⟩)
    · obtain rfl := some_inj h
      exact rK cfg_ok 1 [j3] [some false] [] [] [0, 2, 14] (.exit 4) ((f82r1n8E bd2 ba4 (.exit4 v158)).2) (ap h161 an) (LoopQ.out rfl rfl)
inductive f82r1n10O where
  | exit6 (v226 : List NettingFlow)
def f82r1n10E (bd2 : Int) : f82r1n10O → Ex × Tr × Hp
  | .exit6 v226 => ((.exit 6), mkS [], [jR 6 NettingFlow.cells v226])
def f82r1n10S (bd2 : Int) (v210 : Int) (v211 : List NettingFlow) : Tr × Hp := (mkS [(0, (.own 0)), (14, (jI bd2)), (17, (jI v210))], [jR 6 NettingFlow.cells v211])
noncomputable def f82r1n10 (self : (Int → Int → Int → List NettingFlow → Option (List NettingFlow))) : Nat → Int → Int → List NettingFlow → Option f82r1n10O
  | 0, _, _, _ => none
  | f + 1, bd2, v210, v211 =>
    bif (decide (bd2 < v210)) then
      (at? v211 (wr64 (v210 - 1))).bind fun x220 =>
      (at? v211 v210).bind fun x222 =>
      (at? (v211.set (Int.toNat v210) x220) (wr64 (v210 - 1))).bind fun x224 =>
      (f82r1n10 self f bd2 (wr64 (v210 - 1)) ((v211.set (Int.toNat v210) x220).set (Int.toNat (wr64 (v210 - 1))) x222))
    else
      some (.exit6 v211)
theorem f82r1n10_ok {self : (Int → Int → Int → List NettingFlow → Option (List NettingFlow))} (self_ok : (∀ (a1 : Int) (a2 : Int) (a3 : Int) (a4 : List NettingFlow) {r : List NettingFlow}, self a1 a2 a3 a4 = some r → CallS Try.prog true 82 [(.own 0), (jI a1), (jI a2), (jI a3), (.pl (.fn 55))] [jR 6 NettingFlow.cells a4] (.tup []) [jR 6 NettingFlow.cells r])) : ∀ (f : Nat) (bd2 : Int) (v210 : Int) (v211 : List NettingFlow) {o : f82r1n10O}, (f82r1n10 self f bd2 v210 v211) = some o → TL Try.prog Try.f82.ntmps 1 f (cL (cL (dropC 1 (cL (dropC 0 (dropC 1 (dropC 2 (cL (dropC 1 (cL (dropC 0 (dropC 1 (dropC 0 c82))))))))))))) (f82r1n10S bd2 v210 v211) (fun r => r = f82r1n10E bd2 o)
  | 0, _, _, _, o, h => by rw [f82r1n10] at h; cases h
  | f + 1, bd2, v210, v211, o, h => by
    rw [f82r1n10] at h
    refine TL.body (K := fun s => ∃ v210 : Int, ∃ v211 : List NettingFlow, s = (f82r1n10S bd2 v210 v211) ∧ (f82r1n10 self f bd2 v210 v211) = some o) ?_ (by rintro _ ⟨v210, v211, rfl, hk⟩; exact f82r1n10_ok self_ok f _ _ _ hk)
    rcases cond_cases h with ⟨h213, h⟩ | ⟨h213, h⟩
    · obtain ⟨x220, h221, h⟩ := bind_cases h
      obtain ⟨x222, h223, h⟩ := bind_cases h
      obtain ⟨x224, h225, h⟩ := bind_cases h
      exact rE cfg_ok [j3, ([], [(8, .at_ (Int.toNat (wr64 (v210 - 1)))), (9, .idx 0 (NettingFlow.cells x220)), (12, .at_ (Int.toNat v210)), (13, .idx 0 (NettingFlow.cells x222)), (14, .at_ (Int.toNat v210)), (15, .idx 0 (NettingFlow.cells x222)), (16, .at_ (Int.toNat (wr64 (v210 - 1)))), (17, .idx 0 (NettingFlow.cells x224))], [(15, .row 0 ((v211.set (Int.toNat v210) x220).map NettingFlow.cells)), (17, .row 0 (((v211.set (Int.toNat v210) x220).set (Int.toNat (wr64 (v210 - 1))) x222).map NettingFlow.cells))]), j3] [some true] [] [] [0, 14, 17] (.norm, (f82r1n10S bd2 (wr64 (v210 - 1)) ((v211.set (Int.toNat v210) x220).set (Int.toNat (wr64 (v210 - 1))) x222))) (ap h213 (ap (at_some h221).1 (ap (lt_map NettingFlow.cells (at_some h221).2) (ap (at_map NettingFlow.cells (at_some h221).2) (ap (at_some h223).1 (ap (lt_map NettingFlow.cells (at_some h223).2) (ap (at_map NettingFlow.cells (at_some h223).2) (ap (at_some h223).1 (ap (lt_map NettingFlow.cells (at_some h223).2) (ap (at_map NettingFlow.cells (at_some h223).2) (ap (set_cv (xs := v211) (c := NettingFlow.cells) (k := (Int.toNat v210)) (x := x220)) (ap (at_some h225).1 (ap (lt_map NettingFlow.cells (at_some h225).2) (ap (at_map NettingFlow.cells (at_some h225).2) (ap (set_cv (xs := (v211.set (Int.toNat v210) x220)) (c := NettingFlow.cells) (k := (Int.toNat (wr64 (v210 - 1)))) (x := x222)) an))))))))))))))) (LoopQ.norm ⟨(wr64 (v210 - 1)), ((v211.set (Int.toNat v210) x220).set (Int.toNat (wr64 (v210 - 1))) x222), rfl, h⟩)
    · obtain rfl := some_inj h
      exact rK cfg_ok 1 [j3] [some false] [] [] [] (.exit 6) ((f82r1n10E bd2 (.exit6 v211)).2) (ap h213 an) (LoopQ.out rfl rfl)
inductive f82r1n9O where
  | norm (v230 : List NettingFlow)
def f82r1n9E (bd1 : Int) (bd2 : Int) (ba3 : List NettingFlow) : f82r1n9O → Ex × Tr × Hp
  | .norm v230 => (.norm, mkS [], [jR 6 NettingFlow.cells v230])
def f82r1n9S (bd1 : Int) (bd2 : Int) (ba3 : List NettingFlow) : Tr × Hp := (mkS [(0, (.own 0)), (2, (jI bd1)), (14, (jI bd2))], [jR 6 NettingFlow.cells ba3])
noncomputable def f82r1n9 (self : (Int → Int → Int → List NettingFlow → Option (List NettingFlow))) (bd1 : Int) (bd2 : Int) (ba3 : List NettingFlow) : Option f82r1n9O :=
  (f82r1n10 self FUEL bd2 bd1 ba3).bind fun o227 => match o227 with
  | .exit6 v229 => some (.norm v229)
theorem f82r1n9_ok {self : (Int → Int → Int → List NettingFlow → Option (List NettingFlow))} (self_ok : (∀ (a1 : Int) (a2 : Int) (a3 : Int) (a4 : List NettingFlow) {r : List NettingFlow}, self a1 a2 a3 a4 = some r → CallS Try.prog true 82 [(.own 0), (jI a1), (jI a2), (jI a3), (.pl (.fn 55))] [jR 6 NettingFlow.cells a4] (.tup []) [jR 6 NettingFlow.cells r])) (bd1 : Int) (bd2 : Int) (ba3 : List NettingFlow) {o : f82r1n9O} (h : (f82r1n9 self bd1 bd2 ba3) = some o) : T Try.prog Try.f82.ntmps 1 (cL (dropC 0 (dropC 1 (dropC 2 (cL (dropC 1 (cL (dropC 0 (dropC 1 (dropC 0 c82)))))))))) (f82r1n9S bd1 bd2 ba3) (fun r => r = f82r1n9E bd1 bd2 ba3 o) := by
  unfold f82r1n9 at h
  refine rN cfg_ok 1 [j3] [] [] [] [0, 14, 17] (f82r1n10S bd2 bd1 ba3) an ?_
  obtain ⟨o227, h228, h⟩ := bind_cases h
  cases o227 with
  | exit6 v229 =>
    obtain rfl := some_inj h
    exact T.last' (T.bl (i := 6) (by kernel_rfl) (by kernel_rfl) (f82r1n10_ok self_ok FUEL bd2 bd1 ba3 h228)) (tds := []) (m := []) (keep := []) (st2 := (f82r1n9E bd1 bd2 ba3 (.norm v229)).2) (by kernel_rfl) an rfl
inductive f82r1n7O where
  | norm
  | ret (v234 : List NettingFlow)
def f82r1n7E (bd1 : Int) (bd2 : Int) (bd3 : Int) (ba4 : List NettingFlow) : f82r1n7O → Ex × Tr × Hp
  | .norm => (.norm, mkS [(0, (.own 0)), (1, (jI bd1)), (2, (jI bd2)), (3, (jI bd3)), (4, (.pl (.fn 55)))], [jR 6 NettingFlow.cells ba4])
  | .ret v234 => (.ret, mkS [], [jR 6 NettingFlow.cells v234])
def f82r1n7S (bd1 : Int) (bd2 : Int) (bd3 : Int) (ba4 : List NettingFlow) : Tr × Hp := (mkS [(0, (.own 0)), (1, (jI bd1)), (2, (jI bd2)), (3, (jI bd3)), (4, (.pl (.fn 55))), (80, (.pl (.bool (decide ((wr64 (bd3 - bd2)) = 1)))))], [jR 6 NettingFlow.cells ba4])
noncomputable def f82r1n7 (self : (Int → Int → Int → List NettingFlow → Option (List NettingFlow))) (bd1 : Int) (bd2 : Int) (bd3 : Int) (ba4 : List NettingFlow) : Option f82r1n7O :=
  bif (decide ((wr64 (bd3 - bd2)) = 1)) then
    (f82r1n8 self FUEL bd2 ba4 bd1 bd2).bind fun o177 => match o177 with
    | .exit4 v179 => (f82r1n9 self bd2 v179 ba4).bind fun o231 => match o231 with
      | .norm v233 => some (.ret v233)
  else
    some .norm
theorem f82r1n7_ok {self : (Int → Int → Int → List NettingFlow → Option (List NettingFlow))} (self_ok : (∀ (a1 : Int) (a2 : Int) (a3 : Int) (a4 : List NettingFlow) {r : List NettingFlow}, self a1 a2 a3 a4 = some r → CallS Try.prog true 82 [(.own 0), (jI a1), (jI a2), (jI a3), (.pl (.fn 55))] [jR 6 NettingFlow.cells a4] (.tup []) [jR 6 NettingFlow.cells r])) (bd1 : Int) (bd2 : Int) (bd3 : Int) (ba4 : List NettingFlow) {o : f82r1n7O} (h : (f82r1n7 self bd1 bd2 bd3 ba4) = some o) : T Try.prog Try.f82.ntmps 1 (dropC 1 (cL (dropC 0 (dropC 1 (dropC 0 c82))))) (f82r1n7S bd1 bd2 bd3 ba4) (fun r => r = f82r1n7E bd1 bd2 bd3 ba4 o) := by
  unfold f82r1n7 at h
  rcases cond_cases h with ⟨h123, h⟩ | ⟨h123, h⟩
  · refine T.condT (o := .tmp 80) (b := (decide ((wr64 (bd3 - bd2)) = 1))) (by kernel_rfl) (by kernel_rfl) h123 ?_
    refine rN cfg_ok 2 [j3, j3] [] [] [] [0, 2, 4, 14, 15] (f82r1n8S bd2 ba4 bd1 bd2) an ?_
    obtain ⟨o177, h178, h⟩ := bind_cases h
    cases o177 with
    | exit4 v179 =>
      refine T.oneN (by kernel_rfl) (T.bl (i := 4) (by kernel_rfl) (by kernel_rfl) (f82r1n8_ok self_ok FUEL bd2 ba4 bd1 bd2 h178)) (st2 := (f82r1n8E bd2 ba4 (.exit4 v179)).2) rfl ?_
      refine rN cfg_ok 0 [] [] [] [] [0, 2, 14] (f82r1n9S bd2 v179 ba4) an ?_
      obtain ⟨o231, h232, h⟩ := bind_cases h
      cases o231 with
      | norm v233 =>
        refine T.oneN (by kernel_rfl) (f82r1n9_ok self_ok bd2 v179 ba4 h232) (st2 := (f82r1n9E bd2 v179 ba4 (.norm v233)).2) rfl ?_
        obtain rfl := some_inj h
        exact rE cfg_ok [] [] [] [] [] (.ret, (f82r1n7E bd1 bd2 bd3 ba4 (.ret v233)).2) an rfl
  · refine T.condF (o := .tmp 80) (b := (decide ((wr64 (bd3 - bd2)) = 1))) (by kernel_rfl) (by kernel_rfl) h123 ?_
    obtain rfl := some_inj h
    exact rE cfg_ok [] [] [] [] [0, 1, 2, 3, 4] (.norm, (f82r1n7E bd1 bd2 bd3 ba4 .norm).2) an rfl
inductive f82r1n6O where
  | norm
  | ret (v238 : List NettingFlow)
def f82r1n6E (bd1 : Int) (bd2 : Int) (bd3 : Int) (ba4 : List NettingFlow) : f82r1n6O → Ex × Tr × Hp
  | .norm => (.norm, mkS [(0, (.own 0)), (1, (jI bd1)), (2, (jI bd2)), (3, (jI bd3)), (4, (.pl (.fn 55)))], [jR 6 NettingFlow.cells ba4])
  | .ret v238 => (.ret, mkS [], [jR 6 NettingFlow.cells v238])
def f82r1n6S (bd1 : Int) (bd2 : Int) (bd3 : Int) (ba4 : List NettingFlow) : Tr × Hp := (mkS [(0, (.own 0)), (1, (jI bd1)), (2, (jI bd2)), (3, (jI bd3)), (4, (.pl (.fn 55)))], [jR 6 NettingFlow.cells ba4])
noncomputable def f82r1n6 (self : (Int → Int → Int → List NettingFlow → Option (List NettingFlow))) (bd1 : Int) (bd2 : Int) (bd3 : Int) (ba4 : List NettingFlow) : Option f82r1n6O :=
  (f82r1n7 self bd1 bd2 bd3 ba4).bind fun o235 => match o235 with
  | .norm => some .norm
  | .ret v237 => some (.ret v237)
theorem f82r1n6_ok {self : (Int → Int → Int → List NettingFlow → Option (List NettingFlow))} (self_ok : (∀ (a1 : Int) (a2 : Int) (a3 : Int) (a4 : List NettingFlow) {r : List NettingFlow}, self a1 a2 a3 a4 = some r → CallS Try.prog true 82 [(.own 0), (jI a1), (jI a2), (jI a3), (.pl (.fn 55))] [jR 6 NettingFlow.cells a4] (.tup []) [jR 6 NettingFlow.cells r])) (bd1 : Int) (bd2 : Int) (bd3 : Int) (ba4 : List NettingFlow) {o : f82r1n6O} (h : (f82r1n6 self bd1 bd2 bd3 ba4) = some o) : T Try.prog Try.f82.ntmps 1 (cL (dropC 0 (dropC 1 (dropC 0 c82)))) (f82r1n6S bd1 bd2 bd3 ba4) (fun r => r = f82r1n6E bd1 bd2 bd3 ba4 o) := by
  unfold f82r1n6 at h
  refine rN cfg_ok 1 [j3] [] [] [] [0, 1, 2, 3, 4, 80] (f82r1n7S bd1 bd2 bd3 ba4) an ?_
  obtain ⟨o235, h236, h⟩ := bind_cases h
  cases o235 with
  | norm =>
    obtain rfl := some_inj h
    exact T.last' (f82r1n7_ok self_ok bd1 bd2 bd3 ba4 h236) (tds := []) (m := []) (keep := [0, 1, 2, 3, 4]) (st2 := (f82r1n6E bd1 bd2 bd3 ba4 .norm).2) (by kernel_rfl) an rfl
  | ret v237 =>
    obtain rfl := some_inj h
    exact T.last' (f82r1n7_ok self_ok bd1 bd2 bd3 ba4 h236) (tds := []) (m := []) (keep := []) (st2 := (f82r1n6E bd1 bd2 bd3 ba4 (.ret v237)).2) (by kernel_rfl) an rfl
inductive f82r1n11O where
  | norm (v244 : Int) (v245 : Int)
def f82r1n11E (bd1 : Int) (bd2 : Int) (bd3 : Int) (ba4 : List NettingFlow) : f82r1n11O → Ex × Tr × Hp
  | .norm v244 v245 => (.norm, mkS [(0, (.own 0)), (1, (jI bd1)), (2, (jI bd2)), (3, (jI bd3)), (4, (.pl (.fn 55))), (18, (.pl (.int .i64 (wr64 (shrK .u64 (wru64 (wr64 (bd1 + bd3))) 1))))), (19, (.pl (.int .i64 (wr64 ((wr64 (shrK .u64 (wru64 (wr64 (bd1 + bd3))) 1)) + bd2))))), (20, (jI v244)), (21, (jI v245))], [jR 6 NettingFlow.cells ba4])
def f82r1n11S (bd1 : Int) (bd2 : Int) (bd3 : Int) (ba4 : List NettingFlow) : Tr × Hp := (mkS [(0, (.own 0)), (1, (jI bd1)), (2, (jI bd2)), (3, (jI bd3)), (4, (.pl (.fn 55))), (18, (.pl (.int .i64 (wr64 (shrK .u64 (wru64 (wr64 (bd1 + bd3))) 1))))), (19, (.pl (.int .i64 (wr64 ((wr64 (shrK .u64 (wru64 (wr64 (bd1 + bd3))) 1)) + bd2)))))], [jR 6 NettingFlow.cells ba4])
noncomputable def f82r1n11 (self : (Int → Int → Int → List NettingFlow → Option (List NettingFlow))) (bd1 : Int) (bd2 : Int) (bd3 : Int) (ba4 : List NettingFlow) : Option f82r1n11O :=
  bif (decide ((wr64 (shrK .u64 (wru64 (wr64 (bd1 + bd3))) 1)) < bd2)) then
    some (.norm (wr64 ((wr64 ((wr64 (shrK .u64 (wru64 (wr64 (bd1 + bd3))) 1)) + bd2)) - bd3)) (wr64 (shrK .u64 (wru64 (wr64 (bd1 + bd3))) 1)))
  else
    some (.norm bd1 bd2)
theorem f82r1n11_ok {self : (Int → Int → Int → List NettingFlow → Option (List NettingFlow))} (self_ok : (∀ (a1 : Int) (a2 : Int) (a3 : Int) (a4 : List NettingFlow) {r : List NettingFlow}, self a1 a2 a3 a4 = some r → CallS Try.prog true 82 [(.own 0), (jI a1), (jI a2), (jI a3), (.pl (.fn 55))] [jR 6 NettingFlow.cells a4] (.tup []) [jR 6 NettingFlow.cells r])) (bd1 : Int) (bd2 : Int) (bd3 : Int) (ba4 : List NettingFlow) {o : f82r1n11O} (h : (f82r1n11 self bd1 bd2 bd3 ba4) = some o) : T Try.prog Try.f82.ntmps 1 (cL (dropC 3 (dropC 1 (dropC 0 (dropC 1 (dropC 0 c82)))))) (f82r1n11S bd1 bd2 bd3 ba4) (fun r => r = f82r1n11E bd1 bd2 bd3 ba4 o) := by
  unfold f82r1n11 at h
  rcases cond_cases h with ⟨h243, h⟩ | ⟨h243, h⟩
  · obtain rfl := some_inj h
    exact rE cfg_ok [j3, j3, j3] [some true] [] [] [0, 1, 2, 3, 4, 18, 19, 20, 21] (.norm, (f82r1n11E bd1 bd2 bd3 ba4 (.norm (wr64 ((wr64 ((wr64 (shrK .u64 (wru64 (wr64 (bd1 + bd3))) 1)) + bd2)) - bd3)) (wr64 (shrK .u64 (wru64 (wr64 (bd1 + bd3))) 1)))).2) (ap h243 an) rfl
  · obtain rfl := some_inj h
    exact rE cfg_ok [j3, j3, j3] [some false] [] [] [0, 1, 2, 3, 4, 18, 19, 20, 21] (.norm, (f82r1n11E bd1 bd2 bd3 ba4 (.norm bd1 bd2)).2) (ap h243 an) rfl
inductive f82r1n12O where
  | exit8 (v302 : Int)
def f82r1n12E (a1 : Int) (a2 : Int) (a3 : Int) (a4 : List NettingFlow) : f82r1n12O → Ex × Tr × Hp
  | .exit8 v302 => ((.exit 8), mkS [(0, (.own 0)), (1, (jI a1)), (2, (jI a2)), (3, (jI a3)), (4, (.pl (.fn 55))), (18, (.pl (.int .i64 (wr64 (shrK .u64 (wru64 (wr64 (a1 + a3))) 1))))), (19, (.pl (.int .i64 (wr64 ((wr64 (shrK .u64 (wru64 (wr64 (a1 + a3))) 1)) + a2))))), (20, (jI v302))], [jR 6 NettingFlow.cells a4])
def f82r1n12S (a1 : Int) (a2 : Int) (a3 : Int) (a4 : List NettingFlow) (v284 : Int) (v285 : Int) : Tr × Hp := (mkS [(0, (.own 0)), (1, (jI a1)), (2, (jI a2)), (3, (jI a3)), (4, (.pl (.fn 55))), (18, (.pl (.int .i64 (wr64 (shrK .u64 (wru64 (wr64 (a1 + a3))) 1))))), (19, (.pl (.int .i64 (wr64 ((wr64 (shrK .u64 (wru64 (wr64 (a1 + a3))) 1)) + a2))))), (20, (jI v284)), (21, (jI v285)), (22, (.pl (.int .i64 (wr64 ((wr64 ((wr64 (shrK .u64 (wru64 (wr64 (a1 + a3))) 1)) + a2)) - 1)))))], [jR 6 NettingFlow.cells a4])
noncomputable def f82r1n12 (self : (Int → Int → Int → List NettingFlow → Option (List NettingFlow))) : Nat → Int → Int → Int → List NettingFlow → Int → Int → Option f82r1n12O
  | 0, _, _, _, _, _, _ => none
  | f + 1, a1, a2, a3, a4, v284, v285 =>
    bif (decide (v284 < v285)) then
      (at? a4 (wr64 ((wr64 ((wr64 ((wr64 (shrK .u64 (wru64 (wr64 (a1 + a3))) 1)) + a2)) - 1)) - (wr64 (shrK .u64 (wru64 (wr64 (v284 + v285))) 1))))).bind fun x295 =>
      (at? a4 (wr64 (shrK .u64 (wru64 (wr64 (v284 + v285))) 1))).bind fun x297 =>
      (f55 x295 x297).bind fun x299 =>
      bif (decide (x299 < 0)) then
        (f82r1n12 self f a1 a2 a3 a4 v284 (wr64 (shrK .u64 (wru64 (wr64 (v284 + v285))) 1)))
      else
        (f82r1n12 self f a1 a2 a3 a4 (wr64 ((wr64 (shrK .u64 (wru64 (wr64 (v284 + v285))) 1)) + 1)) v285)
    else
      some (.exit8 v284)
theorem f82r1n12_ok {self : (Int → Int → Int → List NettingFlow → Option (List NettingFlow))} (self_ok : (∀ (a1 : Int) (a2 : Int) (a3 : Int) (a4 : List NettingFlow) {r : List NettingFlow}, self a1 a2 a3 a4 = some r → CallS Try.prog true 82 [(.own 0), (jI a1), (jI a2), (jI a3), (.pl (.fn 55))] [jR 6 NettingFlow.cells a4] (.tup []) [jR 6 NettingFlow.cells r])) : ∀ (f : Nat) (a1 : Int) (a2 : Int) (a3 : Int) (a4 : List NettingFlow) (v284 : Int) (v285 : Int) {o : f82r1n12O}, (f82r1n12 self f a1 a2 a3 a4 v284 v285) = some o → TL Try.prog Try.f82.ntmps 1 f (cL (cL (cL (dropC 1 (dropC 1 (dropC 3 (dropC 1 (dropC 0 (dropC 1 (dropC 0 c82)))))))))) (f82r1n12S a1 a2 a3 a4 v284 v285) (fun r => r = f82r1n12E a1 a2 a3 a4 o)
  | 0, _, _, _, _, _, _, o, h => by rw [f82r1n12] at h; cases h
  | f + 1, a1, a2, a3, a4, v284, v285, o, h => by
    rw [f82r1n12] at h
    refine TL.body (K := fun s => ∃ v284 : Int, ∃ v285 : Int, s = (f82r1n12S a1 a2 a3 a4 v284 v285) ∧ (f82r1n12 self f a1 a2 a3 a4 v284 v285) = some o) ?_ (by rintro _ ⟨v284, v285, rfl, hk⟩; exact f82r1n12_ok self_ok f _ _ _ _ _ _ hk)
    rcases cond_cases h with ⟨h287, h⟩ | ⟨h287, h⟩
    · obtain ⟨x295, h296, h⟩ := bind_cases h
      obtain ⟨x297, h298, h⟩ := bind_cases h
      obtain ⟨x299, h300, h⟩ := bind_cases h
      rcases cond_cases h with ⟨h301, h⟩ | ⟨h301, h⟩
      · exact rE cfg_ok [j3, j3, ([], [(5, .at_ (Int.toNat (wr64 ((wr64 ((wr64 ((wr64 (shrK .u64 (wru64 (wr64 (a1 + a3))) 1)) + a2)) - 1)) - (wr64 (shrK .u64 (wru64 (wr64 (v284 + v285))) 1)))))), (6, .idx 0 (NettingFlow.cells x295)), (9, .at_ (Int.toNat (wr64 (shrK .u64 (wru64 (wr64 (v284 + v285))) 1)))), (10, .idx 0 (NettingFlow.cells x297)), jH 11 (jI x299)], []), j3] [some true, some false] [] [] [0, 1, 2, 3, 4, 18, 19, 20, 21, 22] (.norm, (f82r1n12S a1 a2 a3 a4 v284 (wr64 (shrK .u64 (wru64 (wr64 (v284 + v285))) 1)))) (ap h287 (ap (at_some h296).1 (ap (lt_map NettingFlow.cells (at_some h296).2) (ap (at_map NettingFlow.cells (at_some h296).2) (ap (at_some h298).1 (ap (lt_map NettingFlow.cells (at_some h298).2) (ap (at_map NettingFlow.cells (at_some h298).2) (ap (f55_ok x295 x297 h300) (ap (not_t h301) an))))))))) (LoopQ.norm ⟨v284, (wr64 (shrK .u64 (wru64 (wr64 (v284 + v285))) 1)), rfl, h⟩)
      · exact rE cfg_ok [j3, j3, ([], [(5, .at_ (Int.toNat (wr64 ((wr64 ((wr64 ((wr64 (shrK .u64 (wru64 (wr64 (a1 + a3))) 1)) + a2)) - 1)) - (wr64 (shrK .u64 (wru64 (wr64 (v284 + v285))) 1)))))), (6, .idx 0 (NettingFlow.cells x295)), (9, .at_ (Int.toNat (wr64 (shrK .u64 (wru64 (wr64 (v284 + v285))) 1)))), (10, .idx 0 (NettingFlow.cells x297)), jH 11 (jI x299)], []), j3] [some true, some true] [] [] [0, 1, 2, 3, 4, 18, 19, 20, 21, 22] (.norm, (f82r1n12S a1 a2 a3 a4 (wr64 ((wr64 (shrK .u64 (wru64 (wr64 (v284 + v285))) 1)) + 1)) v285)) (ap h287 (ap (at_some h296).1 (ap (lt_map NettingFlow.cells (at_some h296).2) (ap (at_map NettingFlow.cells (at_some h296).2) (ap (at_some h298).1 (ap (lt_map NettingFlow.cells (at_some h298).2) (ap (at_map NettingFlow.cells (at_some h298).2) (ap (f55_ok x295 x297 h300) (ap (not_f h301) an))))))))) (LoopQ.norm ⟨(wr64 ((wr64 (shrK .u64 (wru64 (wr64 (v284 + v285))) 1)) + 1)), v285, rfl, h⟩)
    · obtain rfl := some_inj h
      exact rK cfg_ok 1 [j3] [some false] [] [] [0, 1, 2, 3, 4, 18, 19, 20] (.exit 8) ((f82r1n12E a1 a2 a3 a4 (.exit8 v284)).2) (ap h287 an) (LoopQ.out rfl rfl)
inductive f82r1n14O where
  | norm (v313 : Bool)
def f82r1n14E (bd1 : Int) (bd2 : Int) (bd3 : Int) (bd4 : Int) (ba5 : List NettingFlow) : f82r1n14O → Ex × Tr × Hp
  | .norm v313 => (.norm, mkS [(0, (.own 0)), (1, (jI bd1)), (2, (jI bd2)), (3, (jI bd3)), (4, (.pl (.fn 55))), (18, (.pl (.int .i64 (wr64 (shrK .u64 (wru64 (wr64 (bd1 + bd3))) 1))))), (20, (jI bd4)), (24, (.pl (.int .i64 (wr64 ((wr64 ((wr64 (shrK .u64 (wru64 (wr64 (bd1 + bd3))) 1)) + bd2)) - bd4))))), (185, (jB v313))], [jR 6 NettingFlow.cells ba5])
def f82r1n14S (bd1 : Int) (bd2 : Int) (bd3 : Int) (bd4 : Int) (ba5 : List NettingFlow) : Tr × Hp := (mkS [(0, (.own 0)), (1, (jI bd1)), (2, (jI bd2)), (3, (jI bd3)), (4, (.pl (.fn 55))), (18, (.pl (.int .i64 (wr64 (shrK .u64 (wru64 (wr64 (bd1 + bd3))) 1))))), (20, (jI bd4)), (24, (.pl (.int .i64 (wr64 ((wr64 ((wr64 (shrK .u64 (wru64 (wr64 (bd1 + bd3))) 1)) + bd2)) - bd4)))))], [jR 6 NettingFlow.cells ba5])
noncomputable def f82r1n14 (self : (Int → Int → Int → List NettingFlow → Option (List NettingFlow))) (bd1 : Int) (bd2 : Int) (bd3 : Int) (bd4 : Int) (ba5 : List NettingFlow) : Option f82r1n14O :=
  bif (decide (bd4 < bd2)) then
    some (.norm (decide (bd2 < (wr64 ((wr64 ((wr64 (shrK .u64 (wru64 (wr64 (bd1 + bd3))) 1)) + bd2)) - bd4)))))
  else
    some (.norm false)
theorem f82r1n14_ok {self : (Int → Int → Int → List NettingFlow → Option (List NettingFlow))} (self_ok : (∀ (a1 : Int) (a2 : Int) (a3 : Int) (a4 : List NettingFlow) {r : List NettingFlow}, self a1 a2 a3 a4 = some r → CallS Try.prog true 82 [(.own 0), (jI a1), (jI a2), (jI a3), (.pl (.fn 55))] [jR 6 NettingFlow.cells a4] (.tup []) [jR 6 NettingFlow.cells r])) (bd1 : Int) (bd2 : Int) (bd3 : Int) (bd4 : Int) (ba5 : List NettingFlow) {o : f82r1n14O} (h : (f82r1n14 self bd1 bd2 bd3 bd4 ba5) = some o) : T Try.prog Try.f82.ntmps 1 (cL (dropC 0 (cL (dropC 1 (dropC 1 (dropC 1 (dropC 1 (dropC 3 (dropC 1 (dropC 0 (dropC 1 (dropC 0 c82)))))))))))) (f82r1n14S bd1 bd2 bd3 bd4 ba5) (fun r => r = f82r1n14E bd1 bd2 bd3 bd4 ba5 o) := by
  unfold f82r1n14 at h
  rcases cond_cases h with ⟨h312, h⟩ | ⟨h312, h⟩
  · obtain rfl := some_inj h
    exact rE cfg_ok [(jT [4, 5, 6], [(7, .bool true)], [])] [] [] [] [0, 1, 2, 3, 4, 18, 20, 24, 185] (.norm, (f82r1n14E bd1 bd2 bd3 bd4 ba5 (.norm (decide (bd2 < (wr64 ((wr64 ((wr64 (shrK .u64 (wru64 (wr64 (bd1 + bd3))) 1)) + bd2)) - bd4)))))).2) (ap4 h312 an) rfl
  · obtain rfl := some_inj h
    exact rE cfg_ok [(jF [4, 5, 6], [(7, .bool false)], [])] [] [] [] [0, 1, 2, 3, 4, 18, 20, 24, 185] (.norm, (f82r1n14E bd1 bd2 bd3 bd4 ba5 (.norm false)).2) (ap4 h312 an) rfl
inductive f82r1n13O where
  | norm (v323 : List NettingFlow)
def f82r1n13E (bd1 : Int) (bd2 : Int) (bd3 : Int) (bd4 : Int) (ba5 : List NettingFlow) : f82r1n13O → Ex × Tr × Hp
  | .norm v323 => (.norm, mkS [(0, (.own 0)), (1, (jI bd1)), (3, (jI bd3)), (4, (.pl (.fn 55))), (18, (.pl (.int .i64 (wr64 (shrK .u64 (wru64 (wr64 (bd1 + bd3))) 1))))), (20, (jI bd4)), (24, (.pl (.int .i64 (wr64 ((wr64 ((wr64 (shrK .u64 (wru64 (wr64 (bd1 + bd3))) 1)) + bd2)) - bd4)))))], [jR 6 NettingFlow.cells v323])
def f82r1n13S (bd1 : Int) (bd2 : Int) (bd3 : Int) (bd4 : Int) (ba5 : List NettingFlow) : Tr × Hp := (mkS [(0, (.own 0)), (1, (jI bd1)), (2, (jI bd2)), (3, (jI bd3)), (4, (.pl (.fn 55))), (18, (.pl (.int .i64 (wr64 (shrK .u64 (wru64 (wr64 (bd1 + bd3))) 1))))), (20, (jI bd4)), (24, (.pl (.int .i64 (wr64 ((wr64 ((wr64 (shrK .u64 (wru64 (wr64 (bd1 + bd3))) 1)) + bd2)) - bd4)))))], [jR 6 NettingFlow.cells ba5])
noncomputable def f82r1n13 (self : (Int → Int → Int → List NettingFlow → Option (List NettingFlow))) (bd1 : Int) (bd2 : Int) (bd3 : Int) (bd4 : Int) (ba5 : List NettingFlow) : Option f82r1n13O :=
  (f82r1n14 self bd1 bd2 bd3 bd4 ba5).bind fun o314 => match o314 with
  | .norm v316 => bif v316 then
      (f88r1 bd4 bd2 (wr64 ((wr64 ((wr64 (shrK .u64 (wru64 (wr64 (bd1 + bd3))) 1)) + bd2)) - bd4)) ba5).bind fun x321 =>
      some (.norm x321)
    else
      some (.norm ba5)
theorem f82r1n13_ok {self : (Int → Int → Int → List NettingFlow → Option (List NettingFlow))} (self_ok : (∀ (a1 : Int) (a2 : Int) (a3 : Int) (a4 : List NettingFlow) {r : List NettingFlow}, self a1 a2 a3 a4 = some r → CallS Try.prog true 82 [(.own 0), (jI a1), (jI a2), (jI a3), (.pl (.fn 55))] [jR 6 NettingFlow.cells a4] (.tup []) [jR 6 NettingFlow.cells r])) (bd1 : Int) (bd2 : Int) (bd3 : Int) (bd4 : Int) (ba5 : List NettingFlow) {o : f82r1n13O} (h : (f82r1n13 self bd1 bd2 bd3 bd4 ba5) = some o) : T Try.prog Try.f82.ntmps 1 (cL (dropC 1 (dropC 1 (dropC 1 (dropC 1 (dropC 3 (dropC 1 (dropC 0 (dropC 1 (dropC 0 c82)))))))))) (f82r1n13S bd1 bd2 bd3 bd4 ba5) (fun r => r = f82r1n13E bd1 bd2 bd3 bd4 ba5 o) := by
  unfold f82r1n13 at h
  refine rN cfg_ok 0 [] [] [] [] [0, 1, 2, 3, 4, 18, 20, 24] (f82r1n14S bd1 bd2 bd3 bd4 ba5) an ?_
  obtain ⟨o314, h315, h⟩ := bind_cases h
  cases o314 with
  | norm v316 =>
    refine T.oneN (by kernel_rfl) (f82r1n14_ok self_ok bd1 bd2 bd3 bd4 ba5 h315) (st2 := (f82r1n14E bd1 bd2 bd3 bd4 ba5 (.norm v316)).2) rfl ?_
    rcases cond_cases h with ⟨h320, h⟩ | ⟨h320, h⟩
    · obtain ⟨x321, h322, h⟩ := bind_cases h
      obtain rfl := some_inj h
      exact rE cfg_ok [([], [(5, .call (.tup []) [jR 6 NettingFlow.cells x321])], [])] [some true] [] [] [0, 1, 3, 4, 18, 20, 24] (.norm, (f82r1n13E bd1 bd2 bd3 bd4 ba5 (.norm x321)).2) (ap h320 (ap (f88r1_ok bd4 bd2 (wr64 ((wr64 ((wr64 (shrK .u64 (wru64 (wr64 (bd1 + bd3))) 1)) + bd2)) - bd4)) ba5 h322) an)) rfl
    · obtain rfl := some_inj h
      exact rE cfg_ok [] [some false] [] [] [0, 1, 3, 4, 18, 20, 24] (.norm, (f82r1n13E bd1 bd2 bd3 bd4 ba5 (.norm ba5)).2) (ap h320 an) rfl
inductive f82r1n16O where
  | norm (v334 : Bool)
def f82r1n16E (bd1 : Int) (bd2 : Int) (bd3 : Int) (bd4 : Int) (ba5 : List NettingFlow) : f82r1n16O → Ex × Tr × Hp
  | .norm v334 => (.norm, mkS [(0, (.own 0)), (1, (jI bd1)), (3, (jI bd2)), (4, (.pl (.fn 55))), (18, (.pl (.int .i64 (wr64 (shrK .u64 (wru64 (wr64 (bd1 + bd2))) 1))))), (20, (jI bd3)), (24, (.pl (.int .i64 (wr64 ((wr64 ((wr64 (shrK .u64 (wru64 (wr64 (bd1 + bd2))) 1)) + bd4)) - bd3))))), (199, (jB v334))], [jR 6 NettingFlow.cells ba5])
def f82r1n16S (bd1 : Int) (bd2 : Int) (bd3 : Int) (bd4 : Int) (ba5 : List NettingFlow) : Tr × Hp := (mkS [(0, (.own 0)), (1, (jI bd1)), (3, (jI bd2)), (4, (.pl (.fn 55))), (18, (.pl (.int .i64 (wr64 (shrK .u64 (wru64 (wr64 (bd1 + bd2))) 1))))), (20, (jI bd3)), (24, (.pl (.int .i64 (wr64 ((wr64 ((wr64 (shrK .u64 (wru64 (wr64 (bd1 + bd2))) 1)) + bd4)) - bd3)))))], [jR 6 NettingFlow.cells ba5])
noncomputable def f82r1n16 (self : (Int → Int → Int → List NettingFlow → Option (List NettingFlow))) (bd1 : Int) (bd2 : Int) (bd3 : Int) (bd4 : Int) (ba5 : List NettingFlow) : Option f82r1n16O :=
  bif (decide (bd1 < bd3)) then
    some (.norm (decide (bd3 < (wr64 (shrK .u64 (wru64 (wr64 (bd1 + bd2))) 1)))))
  else
    some (.norm false)
theorem f82r1n16_ok {self : (Int → Int → Int → List NettingFlow → Option (List NettingFlow))} (self_ok : (∀ (a1 : Int) (a2 : Int) (a3 : Int) (a4 : List NettingFlow) {r : List NettingFlow}, self a1 a2 a3 a4 = some r → CallS Try.prog true 82 [(.own 0), (jI a1), (jI a2), (jI a3), (.pl (.fn 55))] [jR 6 NettingFlow.cells a4] (.tup []) [jR 6 NettingFlow.cells r])) (bd1 : Int) (bd2 : Int) (bd3 : Int) (bd4 : Int) (ba5 : List NettingFlow) {o : f82r1n16O} (h : (f82r1n16 self bd1 bd2 bd3 bd4 ba5) = some o) : T Try.prog Try.f82.ntmps 1 (cL (dropC 0 (cL (dropC 0 (dropC 1 (dropC 1 (dropC 1 (dropC 1 (dropC 1 (dropC 3 (dropC 1 (dropC 0 (dropC 1 (dropC 0 c82)))))))))))))) (f82r1n16S bd1 bd2 bd3 bd4 ba5) (fun r => r = f82r1n16E bd1 bd2 bd3 bd4 ba5 o) := by
  unfold f82r1n16 at h
  rcases cond_cases h with ⟨h333, h⟩ | ⟨h333, h⟩
  · obtain rfl := some_inj h
    exact rE cfg_ok [(jT [4, 5, 6], [(7, .bool true)], [])] [] [] [] [0, 1, 3, 4, 18, 20, 24, 199] (.norm, (f82r1n16E bd1 bd2 bd3 bd4 ba5 (.norm (decide (bd3 < (wr64 (shrK .u64 (wru64 (wr64 (bd1 + bd2))) 1)))))).2) (ap4 h333 an) rfl
  · obtain rfl := some_inj h
    exact rE cfg_ok [(jF [4, 5, 6], [(7, .bool false)], [])] [] [] [] [0, 1, 3, 4, 18, 20, 24, 199] (.norm, (f82r1n16E bd1 bd2 bd3 bd4 ba5 (.norm false)).2) (ap4 h333 an) rfl
inductive f82r1n15O where
  | norm (v344 : List NettingFlow)
def f82r1n15E (bd1 : Int) (bd2 : Int) (bd3 : Int) (bd4 : Int) (ba5 : List NettingFlow) : f82r1n15O → Ex × Tr × Hp
  | .norm v344 => (.norm, mkS [(0, (.own 0)), (3, (jI bd2)), (4, (.pl (.fn 55))), (18, (.pl (.int .i64 (wr64 (shrK .u64 (wru64 (wr64 (bd1 + bd2))) 1))))), (24, (.pl (.int .i64 (wr64 ((wr64 ((wr64 (shrK .u64 (wru64 (wr64 (bd1 + bd2))) 1)) + bd4)) - bd3)))))], [jR 6 NettingFlow.cells v344])
def f82r1n15S (bd1 : Int) (bd2 : Int) (bd3 : Int) (bd4 : Int) (ba5 : List NettingFlow) : Tr × Hp := (mkS [(0, (.own 0)), (1, (jI bd1)), (3, (jI bd2)), (4, (.pl (.fn 55))), (18, (.pl (.int .i64 (wr64 (shrK .u64 (wru64 (wr64 (bd1 + bd2))) 1))))), (20, (jI bd3)), (24, (.pl (.int .i64 (wr64 ((wr64 ((wr64 (shrK .u64 (wru64 (wr64 (bd1 + bd2))) 1)) + bd4)) - bd3)))))], [jR 6 NettingFlow.cells ba5])
noncomputable def f82r1n15 (self : (Int → Int → Int → List NettingFlow → Option (List NettingFlow))) (bd1 : Int) (bd2 : Int) (bd3 : Int) (bd4 : Int) (ba5 : List NettingFlow) : Option f82r1n15O :=
  (f82r1n16 self bd1 bd2 bd3 bd4 ba5).bind fun o335 => match o335 with
  | .norm v337 => bif v337 then
      (self bd1 bd3 (wr64 (shrK .u64 (wru64 (wr64 (bd1 + bd2))) 1)) ba5).bind fun x342 =>
      some (.norm x342)
    else
      some (.norm ba5)
theorem f82r1n15_ok {self : (Int → Int → Int → List NettingFlow → Option (List NettingFlow))} (self_ok : (∀ (a1 : Int) (a2 : Int) (a3 : Int) (a4 : List NettingFlow) {r : List NettingFlow}, self a1 a2 a3 a4 = some r → CallS Try.prog true 82 [(.own 0), (jI a1), (jI a2), (jI a3), (.pl (.fn 55))] [jR 6 NettingFlow.cells a4] (.tup []) [jR 6 NettingFlow.cells r])) (bd1 : Int) (bd2 : Int) (bd3 : Int) (bd4 : Int) (ba5 : List NettingFlow) {o : f82r1n15O} (h : (f82r1n15 self bd1 bd2 bd3 bd4 ba5) = some o) : T Try.prog Try.f82.ntmps 1 (cL (dropC 0 (dropC 1 (dropC 1 (dropC 1 (dropC 1 (dropC 1 (dropC 3 (dropC 1 (dropC 0 (dropC 1 (dropC 0 c82)))))))))))) (f82r1n15S bd1 bd2 bd3 bd4 ba5) (fun r => r = f82r1n15E bd1 bd2 bd3 bd4 ba5 o) := by
  unfold f82r1n15 at h
  refine rN cfg_ok 0 [] [] [] [] [0, 1, 3, 4, 18, 20, 24] (f82r1n16S bd1 bd2 bd3 bd4 ba5) an ?_
  obtain ⟨o335, h336, h⟩ := bind_cases h
  cases o335 with
  | norm v337 =>
    refine T.oneN (by kernel_rfl) (f82r1n16_ok self_ok bd1 bd2 bd3 bd4 ba5 h336) (st2 := (f82r1n16E bd1 bd2 bd3 bd4 ba5 (.norm v337)).2) rfl ?_
    rcases cond_cases h with ⟨h341, h⟩ | ⟨h341, h⟩
    · obtain ⟨x342, h343, h⟩ := bind_cases h
      obtain rfl := some_inj h
      exact rE cfg_ok [([], [(5, .call (.tup []) [jR 6 NettingFlow.cells x342])], [])] [some true] [] [] [0, 3, 4, 18, 24] (.norm, (f82r1n15E bd1 bd2 bd3 bd4 ba5 (.norm x342)).2) (ap h341 (ap (self_ok bd1 bd3 (wr64 (shrK .u64 (wru64 (wr64 (bd1 + bd2))) 1)) ba5 h343) an)) rfl
    · obtain rfl := some_inj h
      exact rE cfg_ok [] [some false] [] [] [0, 3, 4, 18, 24] (.norm, (f82r1n15E bd1 bd2 bd3 bd4 ba5 (.norm ba5)).2) (ap h341 an) rfl
inductive f82r1n17O where
  | norm (v351 : Bool)
def f82r1n17E (bd1 : Int) (bd2 : Int) (bd3 : Int) (bd4 : Int) (ba5 : List NettingFlow) : f82r1n17O → Ex × Tr × Hp
  | .norm v351 => (.norm, mkS [(0, (.own 0)), (3, (jI bd1)), (4, (.pl (.fn 55))), (18, (.pl (.int .i64 (wr64 (shrK .u64 (wru64 (wr64 (bd2 + bd1))) 1))))), (24, (.pl (.int .i64 (wr64 ((wr64 ((wr64 (shrK .u64 (wru64 (wr64 (bd2 + bd1))) 1)) + bd3)) - bd4))))), (213, (jB v351))], [jR 6 NettingFlow.cells ba5])
def f82r1n17S (bd1 : Int) (bd2 : Int) (bd3 : Int) (bd4 : Int) (ba5 : List NettingFlow) : Tr × Hp := (mkS [(0, (.own 0)), (3, (jI bd1)), (4, (.pl (.fn 55))), (18, (.pl (.int .i64 (wr64 (shrK .u64 (wru64 (wr64 (bd2 + bd1))) 1))))), (24, (.pl (.int .i64 (wr64 ((wr64 ((wr64 (shrK .u64 (wru64 (wr64 (bd2 + bd1))) 1)) + bd3)) - bd4)))))], [jR 6 NettingFlow.cells ba5])
noncomputable def f82r1n17 (self : (Int → Int → Int → List NettingFlow → Option (List NettingFlow))) (bd1 : Int) (bd2 : Int) (bd3 : Int) (bd4 : Int) (ba5 : List NettingFlow) : Option f82r1n17O :=
  bif (decide ((wr64 (shrK .u64 (wru64 (wr64 (bd2 + bd1))) 1)) < (wr64 ((wr64 ((wr64 (shrK .u64 (wru64 (wr64 (bd2 + bd1))) 1)) + bd3)) - bd4)))) then
    some (.norm (decide ((wr64 ((wr64 ((wr64 (shrK .u64 (wru64 (wr64 (bd2 + bd1))) 1)) + bd3)) - bd4)) < bd1)))
  else
    some (.norm false)
theorem f82r1n17_ok {self : (Int → Int → Int → List NettingFlow → Option (List NettingFlow))} (self_ok : (∀ (a1 : Int) (a2 : Int) (a3 : Int) (a4 : List NettingFlow) {r : List NettingFlow}, self a1 a2 a3 a4 = some r → CallS Try.prog true 82 [(.own 0), (jI a1), (jI a2), (jI a3), (.pl (.fn 55))] [jR 6 NettingFlow.cells a4] (.tup []) [jR 6 NettingFlow.cells r])) (bd1 : Int) (bd2 : Int) (bd3 : Int) (bd4 : Int) (ba5 : List NettingFlow) {o : f82r1n17O} (h : (f82r1n17 self bd1 bd2 bd3 bd4 ba5) = some o) : T Try.prog Try.f82.ntmps 1 (cL (dropC 0 (dropC 1 (dropC 0 (dropC 1 (dropC 1 (dropC 1 (dropC 1 (dropC 1 (dropC 3 (dropC 1 (dropC 0 (dropC 1 (dropC 0 c82)))))))))))))) (f82r1n17S bd1 bd2 bd3 bd4 ba5) (fun r => r = f82r1n17E bd1 bd2 bd3 bd4 ba5 o) := by
  unfold f82r1n17 at h
  rcases cond_cases h with ⟨h350, h⟩ | ⟨h350, h⟩
  · obtain rfl := some_inj h
    exact rE cfg_ok [(jT [4, 5, 6], [(7, .bool true)], [])] [] [] [] [0, 3, 4, 18, 24, 213] (.norm, (f82r1n17E bd1 bd2 bd3 bd4 ba5 (.norm (decide ((wr64 ((wr64 ((wr64 (shrK .u64 (wru64 (wr64 (bd2 + bd1))) 1)) + bd3)) - bd4)) < bd1)))).2) (ap4 h350 an) rfl
  · obtain rfl := some_inj h
    exact rE cfg_ok [(jF [4, 5, 6], [(7, .bool false)], [])] [] [] [] [0, 3, 4, 18, 24, 213] (.norm, (f82r1n17E bd1 bd2 bd3 bd4 ba5 (.norm false)).2) (ap4 h350 an) rfl
inductive f82r1n0O where
  | norm (v363 : List NettingFlow)
  | ret (v364 : List NettingFlow)
def f82r1n0E (a1 : Int) (a2 : Int) (a3 : Int) (a4 : List NettingFlow) : f82r1n0O → Ex × Tr × Hp
  | .norm v363 => (.norm, mkS [], [jR 6 NettingFlow.cells v363])
  | .ret v364 => (.ret, mkS [], [jR 6 NettingFlow.cells v364])
def f82r1n0S (a1 : Int) (a2 : Int) (a3 : Int) (a4 : List NettingFlow) : Tr × Hp := (initS [(.own 0), (jI a1), (jI a2), (jI a3), (.pl (.fn 55))] 0 .leaf, [jR 6 NettingFlow.cells a4])
noncomputable def f82r1n0 (self : (Int → Int → Int → List NettingFlow → Option (List NettingFlow))) (a1 : Int) (a2 : Int) (a3 : Int) (a4 : List NettingFlow) : Option f82r1n0O :=
  (f82r1n1 self a1 a2 a3 a4).bind fun o121 => match o121 with
  | .norm => (f82r1n6 self a1 a2 a3 a4).bind fun o239 => match o239 with
    | .norm => (f82r1n11 self a1 a2 a3 a4).bind fun o246 => match o246 with
      | .norm v248 v249 => (f82r1n12 self FUEL a1 a2 a3 a4 v248 v249).bind fun o303 => match o303 with
        | .exit8 v305 => (f82r1n13 self a1 a2 a3 v305 a4).bind fun o324 => match o324 with
          | .norm v326 => (f82r1n15 self a1 a3 v305 a2 v326).bind fun o345 => match o345 with
            | .norm v347 => (f82r1n17 self a3 a1 a2 v305 v347).bind fun o352 => match o352 with
              | .norm v354 => bif v354 then
                  (self (wr64 (shrK .u64 (wru64 (wr64 (a1 + a3))) 1)) (wr64 ((wr64 ((wr64 (shrK .u64 (wru64 (wr64 (a1 + a3))) 1)) + a2)) - v305)) a3 v347).bind fun x359 =>
                  some (.norm x359)
                else
                  some (.norm v347)
    | .ret v361 => some (.ret v361)
  | .ret v362 => some (.ret v362)
theorem f82r1n0_ok {self : (Int → Int → Int → List NettingFlow → Option (List NettingFlow))} (self_ok : (∀ (a1 : Int) (a2 : Int) (a3 : Int) (a4 : List NettingFlow) {r : List NettingFlow}, self a1 a2 a3 a4 = some r → CallS Try.prog true 82 [(.own 0), (jI a1), (jI a2), (jI a3), (.pl (.fn 55))] [jR 6 NettingFlow.cells a4] (.tup []) [jR 6 NettingFlow.cells r])) (a1 : Int) (a2 : Int) (a3 : Int) (a4 : List NettingFlow) {o : f82r1n0O} (h : (f82r1n0 self a1 a2 a3 a4) = some o) : T Try.prog Try.f82.ntmps 1 c82 (f82r1n0S a1 a2 a3 a4) (fun r => r = f82r1n0E a1 a2 a3 a4 o) := by
  unfold f82r1n0 at h
  refine rN cfg_ok 0 [] [] [] [] [0, 1, 2, 3, 4] (f82r1n1S a1 a2 a3 a4) an ?_
  obtain ⟨o121, h122, h⟩ := bind_cases h
  cases o121 with
  | norm =>
    refine T.oneN (by kernel_rfl) (f82r1n1_ok self_ok a1 a2 a3 a4 h122) (st2 := (f82r1n1E a1 a2 a3 a4 .norm).2) rfl ?_
    refine rN cfg_ok 0 [] [] [] [] [0, 1, 2, 3, 4] (f82r1n6S a1 a2 a3 a4) an ?_
    obtain ⟨o239, h240, h⟩ := bind_cases h
    cases o239 with
    | norm =>
      refine T.oneN (by kernel_rfl) (f82r1n6_ok self_ok a1 a2 a3 a4 h240) (st2 := (f82r1n6E a1 a2 a3 a4 .norm).2) rfl ?_
      refine rN cfg_ok 3 [j3, j3, j3] [] [] [] [0, 1, 2, 3, 4, 18, 19] (f82r1n11S a1 a2 a3 a4) an ?_
      obtain ⟨o246, h247, h⟩ := bind_cases h
      cases o246 with
      | norm v248 v249 =>
        refine T.oneN (by kernel_rfl) (f82r1n11_ok self_ok a1 a2 a3 a4 h247) (st2 := (f82r1n11E a1 a2 a3 a4 (.norm v248 v249)).2) rfl ?_
        refine rN cfg_ok 1 [j3] [] [] [] [0, 1, 2, 3, 4, 18, 19, 20, 21, 22] (f82r1n12S a1 a2 a3 a4 v248 v249) an ?_
        obtain ⟨o303, h304, h⟩ := bind_cases h
        cases o303 with
        | exit8 v305 =>
          refine T.oneN (by kernel_rfl) (T.bl (i := 8) (by kernel_rfl) (by kernel_rfl) (f82r1n12_ok self_ok FUEL a1 a2 a3 a4 v248 v249 h304)) (st2 := (f82r1n12E a1 a2 a3 a4 (.exit8 v305)).2) rfl ?_
          refine rN cfg_ok 1 [j3] [] [] [] [0, 1, 2, 3, 4, 18, 20, 24] (f82r1n13S a1 a2 a3 v305 a4) an ?_
          obtain ⟨o324, h325, h⟩ := bind_cases h
          cases o324 with
          | norm v326 =>
            refine T.oneN (by kernel_rfl) (f82r1n13_ok self_ok a1 a2 a3 v305 a4 h325) (st2 := (f82r1n13E a1 a2 a3 v305 a4 (.norm v326)).2) rfl ?_
            refine rN cfg_ok 0 [] [] [] [] [0, 1, 3, 4, 18, 20, 24] (f82r1n15S a1 a3 v305 a2 v326) an ?_
            obtain ⟨o345, h346, h⟩ := bind_cases h
            cases o345 with
            | norm v347 =>
              refine T.oneN (by kernel_rfl) (f82r1n15_ok self_ok a1 a3 v305 a2 v326 h346) (st2 := (f82r1n15E a1 a3 v305 a2 v326 (.norm v347)).2) rfl ?_
              refine rN cfg_ok 0 [] [] [] [] [0, 3, 4, 18, 24] (f82r1n17S a3 a1 a2 v305 v347) an ?_
              obtain ⟨o352, h353, h⟩ := bind_cases h
              cases o352 with
              | norm v354 =>
                refine T.oneN (by kernel_rfl) (f82r1n17_ok self_ok a3 a1 a2 v305 v347 h353) (st2 := (f82r1n17E a3 a1 a2 v305 v347 (.norm v354)).2) rfl ?_
                rcases cond_cases h with ⟨h358, h⟩ | ⟨h358, h⟩
                · obtain ⟨x359, h360, h⟩ := bind_cases h
                  obtain rfl := some_inj h
                  exact rE cfg_ok [([], [(5, .call (.tup []) [jR 6 NettingFlow.cells x359])], [])] [some true] [] [] [] (.norm, (f82r1n0E a1 a2 a3 a4 (.norm x359)).2) (ap h358 (ap (self_ok (wr64 (shrK .u64 (wru64 (wr64 (a1 + a3))) 1)) (wr64 ((wr64 ((wr64 (shrK .u64 (wru64 (wr64 (a1 + a3))) 1)) + a2)) - v305)) a3 v347 h360) an)) rfl
                · obtain rfl := some_inj h
                  exact rE cfg_ok [] [some false] [] [] [] (.norm, (f82r1n0E a1 a2 a3 a4 (.norm v347)).2) (ap h358 an) rfl
    | ret v361 =>
      obtain rfl := some_inj h
      exact T.oneX' (by kernel_rfl) (f82r1n6_ok self_ok a1 a2 a3 a4 h240) (tds := []) (m := []) (keep := []) (st2 := (f82r1n0E a1 a2 a3 a4 (.ret v361)).2) (by kernel_rfl) an rfl rfl
  | ret v362 =>
    obtain rfl := some_inj h
    exact T.oneX' (by kernel_rfl) (f82r1n1_ok self_ok a1 a2 a3 a4 h122) (tds := []) (m := []) (keep := []) (st2 := (f82r1n0E a1 a2 a3 a4 (.ret v362)).2) (by kernel_rfl) an rfl rfl
noncomputable def f82r1F : Nat → Int → Int → Int → List NettingFlow → Option (List NettingFlow)
  | 0, _, _, _, _ => none
  | k + 1, a1, a2, a3, a4 => (f82r1n0 (f82r1F k) a1 a2 a3 a4).bind fun o => match o with
    | .norm v363 => some v363
    | .ret v364 => some v364
theorem f82r1F_ok : ∀ (k : Nat) (a1 : Int) (a2 : Int) (a3 : Int) (a4 : List NettingFlow) {r : List NettingFlow}, f82r1F k a1 a2 a3 a4 = some r → CallS Try.prog true 82 [(.own 0), (jI a1), (jI a2), (jI a3), (.pl (.fn 55))] [jR 6 NettingFlow.cells a4] (.tup []) [jR 6 NettingFlow.cells r]
  | 0, _, _, _, _, _, h => nomatch h
  | k + 1, a1, a2, a3, a4, r, h => by
    unfold f82r1F at h
    obtain ⟨o, ho, h⟩ := bind_cases h
    cases o with
    | norm v363 =>
      obtain rfl := some_inj h
      exact CallS.shared cfg_ok (f := Try.f82) (c := c82) (by kernel_rfl) (by kernel_rfl) (by kernel_rfl) ((f82r1n0_ok (fun _ _ _ _ {_} h => f82r1F_ok k _ _ _ _ h) a1 a2 a3 a4 ho).mono fun r e => by subst e; exact ⟨.inr rfl, by kernel_rfl, by kernel_rfl⟩)
    | ret v364 =>
      obtain rfl := some_inj h
      exact CallS.shared cfg_ok (f := Try.f82) (c := c82) (by kernel_rfl) (by kernel_rfl) (by kernel_rfl) ((f82r1n0_ok (fun _ _ _ _ {_} h => f82r1F_ok k _ _ _ _ h) a1 a2 a3 a4 ho).mono fun r e => by subst e; exact ⟨.inl rfl, by kernel_rfl, by kernel_rfl⟩)
noncomputable def f82r1 (a1 : Int) (a2 : Int) (a3 : Int) (a4 : List NettingFlow) : Option (List NettingFlow) := f82r1F 200 a1 a2 a3 a4
theorem f82r1_ok (a1 : Int) (a2 : Int) (a3 : Int) (a4 : List NettingFlow) {r : List NettingFlow} (h : (f82r1 a1 a2 a3 a4) = some r) : CallS Try.prog true 82 [(.own 0), (jI a1), (jI a2), (jI a3), (.pl (.fn 55))] [jR 6 NettingFlow.cells a4] (.tup []) [jR 6 NettingFlow.cells r] := f82r1F_ok 200 a1 a2 a3 a4 h
end Go.Proofs.Ytkcafackfihmiaa
