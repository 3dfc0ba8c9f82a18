/- Several texts in one. No condition. -/
import Derived.Test.YtkcafackfihmiaaProg
import Derived.Test.YtkcafackfihmiaaTU
import Derived.Test.YtkcafackfihmiaaTy
import Derived.Test.YtkcafackfihmiaaTV
namespace Go.Proofs.Ytkcafackfihmiaa
open Go.Shelf
def so_ren : Go.Shelf.Ren := ⟨fun | 6 => 38 | 14 => 60 | 15 => 61 | 20 => 71 | 21 => 72 | 22 => 73 | 23 => 74 | 24 => 75 | 25 => 76 | 26 => 77 | 27 => 78 | 28 => 79 | 29 => 80 | 46 => 83 | 47 => 84 | 48 => 85 | 49 => 86 | 50 => 87 | 57 => 89 | n => n, fun | 22 => 67 | 24 => 71 | 25 => 76 | 39 => 98 | 45 => 109 | 46 => 110 | 50 => 102 | 53 => 116 | 55 => 118 | 66 => 121 | 70 => 125 | 76 => 127 | 77 => 54 | n => n, fun n => n⟩
theorem so_lays : SlLaysF0.n6 Try.prog so_ren := {
  mixed := by kernel_rfl,
  f6 := ⟨Try.f38.name, by kernel_rfl, Try.func38.trans (congrArg some (by kernel_rfl))⟩,
  f14 := ⟨Try.f60.name, by kernel_rfl, Try.func60.trans (congrArg some (by kernel_rfl))⟩,
  f15 := Try.func61.trans (congrArg some (by kernel_rfl)),
  f20 := ⟨Try.f71.name, by kernel_rfl, Try.func71.trans (congrArg some (by kernel_rfl))⟩,
  f21 := ⟨Try.f72.name, by kernel_rfl, Try.func72.trans (congrArg some (by kernel_rfl))⟩,
  f22 := ⟨Try.f73.name, by kernel_rfl, Try.func73.trans (congrArg some (by kernel_rfl))⟩,
  f23 := ⟨Try.f74.name, by kernel_rfl, Try.func74.trans (congrArg some (by kernel_rfl))⟩,
  f24 := ⟨Try.f75.name, by kernel_rfl, Try.func75.trans (congrArg some (by kernel_rfl))⟩,
  f25 := ⟨Try.f76.name, by kernel_rfl, Try.func76.trans (congrArg some (by kernel_rfl))⟩,
  f26 := ⟨Try.f77.name, by kernel_rfl, Try.func77.trans (congrArg some (by kernel_rfl))⟩,
  f27 := ⟨Try.f78.name, by kernel_rfl, Try.func78.trans (congrArg some (by kernel_rfl))⟩,
  f28 := Try.func79.trans (congrArg some (by kernel_rfl)),
  f29 := Try.func80.trans (congrArg some (by kernel_rfl)),
  f46 := ⟨Try.f83.name, by kernel_rfl, Try.func83.trans (congrArg some (by kernel_rfl))⟩,
  f47 := Try.func84.trans (congrArg some (by kernel_rfl)),
  f48 := Try.func85.trans (congrArg some (by kernel_rfl)),
  f49 := ⟨Try.f86.name, by kernel_rfl, Try.func86.trans (congrArg some (by kernel_rfl))⟩,
  f50 := ⟨Try.f87.name, by kernel_rfl, Try.func87.trans (congrArg some (by kernel_rfl))⟩,
  f57 := ⟨Try.f89.name, by kernel_rfl, Try.func89.trans (congrArg some (by kernel_rfl))⟩,
  t0 := Try.underlying0,
  a0 := Try.isAgg0,
  z0 := Try.sizeOf0,
  v0 := Try.zeroValue0,
  t3 := Try.underlying3,
  a3 := Try.isAgg3,
  z3 := Try.sizeOf3,
  v3 := Try.zeroValue3,
  t4 := Try.underlying4,
  a4 := Try.isAgg4,
  z4 := Try.sizeOf4,
  v4 := Try.zeroValue4,
  t5 := Try.underlying5,
  a5 := Try.isAgg5,
  z5 := Try.sizeOf5,
  v5 := Try.zeroValue5,
  t9 := Try.underlying9,
  a9 := Try.isAgg9,
  z9 := Try.sizeOf9,
  v9 := Try.zeroValue9,
  t22 := Try.underlying67,
  a22 := Try.isAgg67,
  z22 := Try.sizeOf67,
  v22 := Try.zeroValue67,
  t25 := Try.underlying76,
  a25 := Try.isAgg76,
  z25 := Try.sizeOf76,
  v25 := Try.zeroValue76,
  t39 := Try.underlying98,
  a39 := Try.isAgg98,
  z39 := Try.sizeOf98,
  v39 := Try.zeroValue98,
  t45 := Try.underlying109,
  a45 := Try.isAgg109,
  z45 := Try.sizeOf109,
  v45 := Try.zeroValue109,
  t46 := Try.underlying110,
  a46 := Try.isAgg110,
  z46 := Try.sizeOf110,
  v46 := Try.zeroValue110,
  t50 := Try.underlying102,
  a50 := Try.isAgg102,
  z50 := Try.sizeOf102,
  v50 := Try.zeroValue102,
  t53 := Try.underlying116,
  a53 := Try.isAgg116,
  z53 := Try.sizeOf116,
  v53 := Try.zeroValue116,
  t55 := Try.underlying118,
  a55 := Try.isAgg118,
  z55 := Try.sizeOf118,
  v55 := Try.zeroValue118,
  t66 := Try.underlying121,
  a66 := Try.isAgg121,
  z66 := Try.sizeOf121,
  v66 := Try.zeroValue121,
  t70 := Try.underlying125,
  a70 := Try.isAgg125,
  z70 := Try.sizeOf125,
  v70 := Try.zeroValue125,
  t76 := Try.underlying127,
  a76 := Try.isAgg127,
  z76 := Try.sizeOf127,
  v76 := Try.zeroValue127,
  t77 := Try.underlying54,
  a77 := Try.isAgg54,
  z77 := Try.sizeOf54,
  v77 := Try.zeroValue54 }
theorem so_agg : ∀ w, (isAgg (so_ren.t 24)).run Try.prog w = .ok true w := Try.isAgg71
theorem so_size : ∀ w, (Go.sizeOf (so_ren.t 24)).run Try.prog w = .ok 7 w := Try.sizeOf71
end Go.Proofs.Ytkcafackfihmiaa
namespace Go.Proofs.Ytkcafackfihmiaa
set_option linter.unusedVariables false
set_option linter.unusedSimpArgs false
set_option maxRecDepth 100000
open Go.RowKit
structure NettingSet where
  Name : ByteArray
  First : ByteArray
  Second : ByteArray
def NettingSet.cells (x : NettingSet) : List PV := [.str x.Name, .str x.First, .str x.Second]
theorem NettingSet.cells_eq (x y : NettingSet) : (NettingSet.cells x = NettingSet.cells y) = (x = y) := propext ⟨fun h => by
  cases x; cases y
  simp_all [NettingSet.cells], fun h => by rw [h]⟩
theorem NettingSet.map_eq (x y : List NettingSet) : (x.map NettingSet.cells = y.map NettingSet.cells) = (x = y) := map_eq_of fun a b h => by rwa [NettingSet.cells_eq] at h
structure NettingFlow where
  Date : Int
  Set : ByteArray
  Ccy : ByteArray
  From : ByteArray
  To : ByteArray
  Amount : Int
def NettingFlow.cells (x : NettingFlow) : List PV := [.int .i64 x.Date, .str x.Set, .str x.Ccy, .str x.From, .str x.To, .int .i64 x.Amount]
theorem NettingFlow.cells_eq (x y : NettingFlow) : (NettingFlow.cells x = NettingFlow.cells y) = (x = y) := propext ⟨fun h => by
  cases x; cases y
  simp_all [NettingFlow.cells], fun h => by rw [h]⟩
theorem NettingFlow.map_eq (x y : List NettingFlow) : (x.map NettingFlow.cells = y.map NettingFlow.cells) = (x = y) := map_eq_of fun a b h => by rwa [NettingFlow.cells_eq] at h
structure Key_ where
  date : Int
  set : ByteArray
  ccy : ByteArray
def Key_.cells (x : Key_) : List PV := [.int .i64 x.date, .str x.set, .str x.ccy]
theorem Key_.cells_eq (x y : Key_) : (Key_.cells x = Key_.cells y) = (x = y) := propext ⟨fun h => by
  cases x; cases y
  simp_all [Key_.cells], fun h => by rw [h]⟩
theorem Key_.map_eq (x y : List Key_) : (x.map Key_.cells = y.map Key_.cells) = (x = y) := map_eq_of fun a b h => by rwa [Key_.cells_eq] at h
structure Share_ where
  party : ByteArray
  flow : NettingFlow
def Share_.cells (x : Share_) : List PV := [.str x.party, .int .i64 x.flow.Date, .str x.flow.Set, .str x.flow.Ccy, .str x.flow.From, .str x.flow.To, .int .i64 x.flow.Amount]
def NettingSet.eqb (x y : NettingSet) : Bool := seq x.Name y.Name && seq x.First y.First && seq x.Second y.Second
def Key_.eqb (x y : Key_) : Bool := decide (x.date = y.date) && seq x.set y.set && seq x.ccy y.ccy
theorem Key_.eqb_ok (x y : Key_) : eqV cfg.ty 62 (.agg (Key_.cells x)) (.agg (Key_.cells y)) = some (Key_.eqb x y) := by
  unfold Key_.eqb
  have e : eqV cfg.ty 62 (.agg (Key_.cells x)) (.agg (Key_.cells y)) = (match some (decide (x.date = y.date)) with | some true => (match some (decide (x.set.data.toList = y.set.data.toList)) with | some true => (match some (decide (x.ccy.data.toList = y.ccy.data.toList)) with | some true => (some true) | some false => some false | none => none) | some false => some false | none => none) | some false => some false | none => none) := by kernel_rfl
  rw [e]
  try simp only [seq]
  cases decide (x.date = y.date) <;> cases decide (x.set.data.toList = y.set.data.toList) <;> cases decide (x.ccy.data.toList = y.ccy.data.toList) <;> rfl
def NettingFlow.eqb (x y : NettingFlow) : Bool := decide (x.Date = y.Date) && seq x.Set y.Set && seq x.Ccy y.Ccy && seq x.From y.From && seq x.To y.To && decide (x.Amount = y.Amount)
theorem Key_.eqb_eq {x y : Key_} (h : Key_.eqb x y = true) : x = y := by
  cases x; cases y
  simp only [Key_.eqb, Bool.and_eq_true, decide_eq_true_eq, beq_iff_eq] at h
  simp only [Key_.mk.injEq]
  refine ⟨?_, ?_, ?_⟩ <;> first | exact seq_eq' (by simp_all) | simp_all
theorem key_62 : KeyOK cfg 62 (pAgg Key_.cells) Key_.eqb := ⟨fun a b => Key_.eqb_ok a b, fun _ => by kernel_rfl, fun a b h => Key_.eqb_eq h, fun a => by simp [pAgg, Key_.cells, eqC, eqCL, eqC1, kindEq]⟩
def str_x : ByteArray := ⟨#[]⟩
def ti32 : TI := ⟨.struct [(3, 0), (9, 1), (9, 2), (9, 3), (9, 4), (3, 5)], 6, 80, [.int .i64 0, .str ByteArray.empty, .str ByteArray.empty, .str ByteArray.empty, .str ByteArray.empty, .int .i64 0]⟩
def ti71 : TI := ⟨.struct [(9, 0), (32, 1)], 7, 96, [.str ByteArray.empty, .int .i64 0, .str ByteArray.empty, .str ByteArray.empty, .str ByteArray.empty, .str ByteArray.empty, .int .i64 0]⟩
def ti9 : TI := ⟨.str, 1, 16, [.str ByteArray.empty]⟩
def ti3 : TI := ⟨.int .i64, 1, 8, [.int .i64 0]⟩
def ti23 : TI := ⟨.sl 32, 1, 24, [.sl .nil 0 []]⟩
def NettingSet.ok (x : NettingSet) : Prop := (fun s : ByteArray => s.size ≤ maxLen) x.Name ∧ (fun s : ByteArray => s.size ≤ maxLen) x.First ∧ (fun s : ByteArray => s.size ≤ maxLen) x.Second ∧ True
def NettingFlow.ok (x : NettingFlow) : Prop := (okInt .i64) x.Date ∧ (fun s : ByteArray => s.size ≤ maxLen) x.Set ∧ (fun s : ByteArray => s.size ≤ maxLen) x.Ccy ∧ (fun s : ByteArray => s.size ≤ maxLen) x.From ∧ (fun s : ByteArray => s.size ≤ maxLen) x.To ∧ (okInt .i64) x.Amount ∧ True
def Key_.ok (x : Key_) : Prop := (okInt .i64) x.date ∧ (fun s : ByteArray => s.size ≤ maxLen) x.set ∧ (fun s : ByteArray => s.size ≤ maxLen) x.ccy ∧ True
def Share_.ok (x : Share_) : Prop := (fun s : ByteArray => s.size ≤ maxLen) x.party ∧ NettingFlow.ok x.flow ∧ True
theorem of_9 {d : Nat} {ps : List PV} (h : WT cfg.ty (d + 1) 9 ps) : ∃ x : ByteArray, ps = cStr x ∧ (fun s : ByteArray => s.size ≤ maxLen) x := by
  obtain ⟨n, rfl, k⟩ := wt_str (ti := ti9) (by kernel_rfl) rfl h
  exact ⟨n, rfl, k⟩
theorem of_3 {d : Nat} {ps : List PV} (h : WT cfg.ty (d + 1) 3 ps) : ∃ x : Int, ps = (cInt .i64) x ∧ (okInt .i64) x := by
  obtain ⟨n, rfl, k⟩ := wt_int (ti := ti3) (by kernel_rfl) rfl h
  exact ⟨n, rfl, k⟩
theorem of_32 {d : Nat} {ps : List PV} (h : WT cfg.ty (d + 2) 32 ps) : ∃ x : NettingFlow, ps = NettingFlow.cells x ∧ NettingFlow.ok x := by
  have g := wt_struct (ti := ti32) (by kernel_rfl) rfl h
  clear h
  obtain ⟨_, _, _, rfl, _, _, h0, g0⟩ := g
  obtain ⟨x0, rfl, k0⟩ := of_3 h0
  obtain ⟨_, _, _, rfl, _, _, h1, g1⟩ := g0
  obtain ⟨x1, rfl, k1⟩ := of_9 h1
  obtain ⟨_, _, _, rfl, _, _, h2, g2⟩ := g1
  obtain ⟨x2, rfl, k2⟩ := of_9 h2
  obtain ⟨_, _, _, rfl, _, _, h3, g3⟩ := g2
  obtain ⟨x3, rfl, k3⟩ := of_9 h3
  obtain ⟨_, _, _, rfl, _, _, h4, g4⟩ := g3
  obtain ⟨x4, rfl, k4⟩ := of_9 h4
  obtain ⟨_, _, _, rfl, _, _, h5, g5⟩ := g4
  obtain ⟨x5, rfl, k5⟩ := of_3 h5
  have e : _ = [] := g5
  subst e
  exact ⟨⟨x0, x1, x2, x3, x4, x5⟩, rfl, k0, k1, k2, k3, k4, k5, trivial⟩
theorem of_23 {d : Nat} {ps : List PV} (h : WT cfg.ty (d + 3) 23 ps) : ∃ x : List NettingFlow, ps = (cLst 6 NettingFlow.cells) x ∧ (fun l : List NettingFlow => l.length ≤ maxLen ∧ ∀ x ∈ l, NettingFlow.ok x) x := by
  obtain ⟨te, es, e1, rfl, hl, hh⟩ := wt_sl (ti := ti23) (by kernel_rfl) rfl h
  obtain rfl : te = ti32 := some_inj (e1.symm.trans (by kernel_rfl : cfg.ty 32 = some ti32))
  obtain ⟨xs, rfl, hx⟩ := list_of (c := NettingFlow.cells) (ok := NettingFlow.ok) (fun ps h => of_32 h) es (fun c hc => (hh c hc).2)
  exact ⟨xs, rfl, by simpa using hl, hx⟩
theorem arg_23 {p : PV} (h : WV cfg.ty 3 23 p) : ∃ x : List NettingFlow, p = (.sl .any 6 (x.map NettingFlow.cells)) ∧ (fun l : List NettingFlow => l.length ≤ maxLen ∧ ∀ x ∈ l, NettingFlow.ok x) x := by
  obtain ⟨_, g⟩ := wv_one (ti := ti23) (by kernel_rfl) rfl h
  obtain ⟨x, e, k⟩ := of_23 (d := 0) g
  exact ⟨x, (List.cons.inj e).1, k⟩
theorem arg_9 {p : PV} (h : WV cfg.ty 1 9 p) : ∃ x : ByteArray, p = (.str x) ∧ (fun s : ByteArray => s.size ≤ maxLen) x := by
  obtain ⟨_, g⟩ := wv_one (ti := ti9) (by kernel_rfl) rfl h
  obtain ⟨x, e, k⟩ := of_9 (d := 0) g
  exact ⟨x, (List.cons.inj e).1, k⟩
end Go.Proofs.Ytkcafackfihmiaa
namespace Go.Proofs.Ytkcafackfihmiaa
set_option linter.unusedVariables false
set_option linter.unusedSimpArgs false
set_option maxRecDepth 100000
open Go.RowKit
def f11 : Option Bool := some true
theorem f11_ok {r : Bool} (h : f11 = some r) : CallS Try.prog false 11 [] [] (jB r) [] := by
  obtain rfl := some_inj h
  exact CallS.eval cfg_ok (N := 500) (by kernel_rfl)

noncomputable def c12 : Code := Try.f12.body.getD .skip
inductive f12n0O where
  | ret (v5 : Bool)
def f12n0E (a1 : List NettingSet) (a2 : List NettingFlow) : f12n0O → Ex × Tr × Hp
  | .ret v5 => (.ret, mkS [(4, (jB v5))], [])
def f12n0S (a1 : List NettingSet) (a2 : List NettingFlow) : Tr × Hp := (initS [(jL 3 NettingSet.cells a1), (jL 6 NettingFlow.cells a2)] 0 .leaf, [])
noncomputable def f12n0 (a1 : List NettingSet) (a2 : List NettingFlow) : Option f12n0O :=
  bif (decide (80 < (a1.length : Int))) then
    some (.ret true)
  else
    some (.ret (decide (520 < (a2.length : Int))))
theorem f12n0_ok (a1 : List NettingSet) (a2 : List NettingFlow) {o : f12n0O} (h : (f12n0 a1 a2) = some o) : T Try.prog Try.f12.ntmps 0 c12 (f12n0S a1 a2) (fun r => r = f12n0E a1 a2 o) := by
  unfold f12n0 at h
  rcases cond_cases h with ⟨h4, h⟩ | ⟨h4, h⟩
  · obtain rfl := some_inj h
    exact rE cfg_ok [j3, (jT [4, 5, 6], [(7, .bool true)], [(1, .val (jI (a1.length : Int)))])] [] [] [] [4] (.ret, (f12n0E a1 a2 (.ret true)).2) (ap (len_cv (xs := a1) (c := NettingSet.cells)) (ap4 h4 an)) rfl
  · obtain rfl := some_inj h
    exact rE cfg_ok [j3, (jF [4, 5, 6], [(7, .bool false)], [(1, .val (jI (a1.length : Int))), (5, .val (jI (a2.length : Int)))])] [] [] [] [4] (.ret, (f12n0E a1 a2 (.ret (decide (520 < (a2.length : Int))))).2) (ap (len_cv (xs := a1) (c := NettingSet.cells)) (ap2 h4 (ap (len_cv (xs := a2) (c := NettingFlow.cells)) (ap2 h4 an)))) rfl
noncomputable def f12 (a1 : List NettingSet) (a2 : List NettingFlow) : Option Bool := (f12n0 a1 a2).bind fun o => match o with
  | .ret v5 => some v5
theorem f12_ok (a1 : List NettingSet) (a2 : List NettingFlow) {r : Bool} (h : (f12 a1 a2) = some r) : CallS Try.prog false 12 [(jL 3 NettingSet.cells a1), (jL 6 NettingFlow.cells a2)] [] (jB r) [] := by
  unfold f12 at h
  obtain ⟨o, ho, h⟩ := bind_cases h
  cases o with
  | ret v5 =>
    obtain rfl := some_inj h
    exact CallS.plain cfg_ok (f := Try.f12) (c := c12) (by kernel_rfl) (by kernel_rfl) (by kernel_rfl) (by kernel_rfl) ((f12n0_ok a1 a2 ho).mono fun r e => by subst e; exact ⟨.inl rfl, (jB v5), (jB v5), by kernel_rfl, by kernel_rfl, ((Wk.refl _) : Wk (jB v5) (jB v5))⟩)

noncomputable def c14 : Code := Try.f14.body.getD .skip
inductive f14r1n0O where
  | ret (v6 : List NettingFlow)
def f14r1n0E (a1 : List NettingFlow) : f14r1n0O → Ex × Tr × Hp
  | .ret v6 => (.ret, mkS [(2, (.own 0))], [jR 6 NettingFlow.cells v6])
def f14r1n0S (a1 : List NettingFlow) : Tr × Hp := (initS [(jL 6 NettingFlow.cells a1)] 0 .leaf, [])
noncomputable def f14r1n0 (a1 : List NettingFlow) : Option f14r1n0O :=
  bif (a1.isEmpty) then
    some (.ret [])
  else
    req (fit a1.length 80) <|
    some (.ret a1)
theorem f14r1n0_ok (a1 : List NettingFlow) {o : f14r1n0O} (h : (f14r1n0 a1) = some o) : T Try.prog Try.f14.ntmps 0 c14 (f14r1n0S a1) (fun r => r = f14r1n0E a1 o) := by
  unfold f14r1n0 at h
  rcases cond_cases h with ⟨h4, h⟩ | ⟨h4, h⟩
  · obtain rfl := some_inj h
    exact rE cfg_ok [j3, ([], [(2, .app false)], [])] [] [] [0] [2] (.ret, (f14r1n0E a1 (.ret [])).2) (ap (nil_map (c := NettingFlow.cells) h4) an) rfl
  · obtain ⟨h5, h⟩ := req_cases h
    obtain rfl := some_inj h
    exact rE cfg_ok [j3, ([], [(2, .app true)], [])] [] [] [1] [2] (.ret, (f14r1n0E a1 (.ret a1)).2) (ap (fit_map0z (te := ti32) (xs := a1) (c := NettingFlow.cells) h5 rfl) (ap (ne_map (c := NettingFlow.cells) h4) (ap (len_all (c := NettingFlow.cells) (xs := a1) (n := 6) (fun _ => rfl)) an))) rfl
noncomputable def f14r1 (a1 : List NettingFlow) : Option (List NettingFlow) := (f14r1n0 a1).bind fun o => match o with
  | .ret v6 => some v6
theorem f14r1_ok (a1 : List NettingFlow) {r : List NettingFlow} (h : (f14r1 a1) = some r) : CallS Try.prog true 14 [(jL 6 NettingFlow.cells a1)] [] (.own 0) [jR 6 NettingFlow.cells r] := by
  unfold f14r1 at h
  obtain ⟨o, ho, h⟩ := bind_cases h
  cases o with
  | ret v6 =>
    obtain rfl := some_inj h
    exact CallS.shared cfg_ok (f := Try.f14) (c := c14) (by kernel_rfl) (by kernel_rfl) (by kernel_rfl) ((f14r1n0_ok a1 ho).mono fun r e => by subst e; exact ⟨.inl rfl, by kernel_rfl, by kernel_rfl⟩)

noncomputable def c59 : Code := Try.f59.body.getD .skip
inductive f59n0O where
  | ret (v10 : Bool)
def f59n0E (a1 : Int) : f59n0O → Ex × Tr × Hp
  | .ret v10 => (.ret, mkS [(2, (jB v10))], [])
def f59n0S (a1 : Int) : Tr × Hp := (initS [(.pl (.int .u8 a1))] 0 .leaf, [])
noncomputable def f59n0 (a1 : Int) : Option f59n0O :=
  bif (decide (97 ≤ a1)) then
    bif (decide (a1 ≤ 122)) then
      some (.ret true)
    else
      bif (decide (65 ≤ a1)) then
        some (.ret (decide (a1 ≤ 90)))
      else
        some (.ret false)
  else
    bif (decide (65 ≤ a1)) then
      some (.ret (decide (a1 ≤ 90)))
    else
      some (.ret false)
theorem f59n0_ok (a1 : Int) {o : f59n0O} (h : (f59n0 a1) = some o) : T Try.prog Try.f59.ntmps 0 c59 (f59n0S a1) (fun r => r = f59n0E a1 o) := by
  unfold f59n0 at h
  rcases cond_cases h with ⟨h6, h⟩ | ⟨h6, h⟩
  · rcases cond_cases h with ⟨h7, h⟩ | ⟨h7, h⟩
    · obtain rfl := some_inj h
      exact rE cfg_ok [j3, (jT [3, 4, 7, 8, 9, 12], [(5, .bool true), (13, .bool true)], [])] [] [] [] [2] (.ret, (f59n0E a1 (.ret true)).2) (ap3 h6 (ap h7 (ap4 h7 an))) rfl
    · rcases cond_cases h with ⟨h8, h⟩ | ⟨h8, h⟩
      · obtain rfl := some_inj h
        exact rE cfg_ok [j3, (jF [7, 8, 9, 12] ++ jT [3, 4, 10, 11], [(5, .bool true), (12, .bool true), (13, .bool false)], [])] [] [] [] [2] (.ret, (f59n0E a1 (.ret (decide (a1 ≤ 90)))).2) (ap3 h6 (ap3 h7 (ap2 h8 (ap h7 (ap h8 (ap h7 an)))))) rfl
      · obtain rfl := some_inj h
        exact rE cfg_ok [j3, (jF [7, 8, 9, 10, 11, 12] ++ jT [3, 4], [(5, .bool true), (12, .bool false), (13, .bool false)], [])] [] [] [] [2] (.ret, (f59n0E a1 (.ret false)).2) (ap3 h6 (ap3 h7 (ap2 h8 (ap h7 (ap h8 (ap h7 an)))))) rfl
  · rcases cond_cases h with ⟨h9, h⟩ | ⟨h9, h⟩
    · obtain rfl := some_inj h
      exact rE cfg_ok [j3, (jF [3, 4] ++ jT [10, 11], [(5, .bool false), (12, .bool true)], [])] [] [] [] [2] (.ret, (f59n0E a1 (.ret (decide (a1 ≤ 90)))).2) (ap3 h6 (ap3 h9 an)) rfl
    · obtain rfl := some_inj h
      exact rE cfg_ok [j3, (jF [3, 4, 10, 11], [(5, .bool false), (12, .bool false)], [])] [] [] [] [2] (.ret, (f59n0E a1 (.ret false)).2) (ap3 h6 (ap3 h9 an)) rfl
noncomputable def f59 (a1 : Int) : Option Bool := (f59n0 a1).bind fun o => match o with
  | .ret v10 => some v10
theorem f59_ok (a1 : Int) {r : Bool} (h : (f59 a1) = some r) : CallS Try.prog false 59 [(.pl (.int .u8 a1))] [] (jB r) [] := by
  unfold f59 at h
  obtain ⟨o, ho, h⟩ := bind_cases h
  cases o with
  | ret v10 =>
    obtain rfl := some_inj h
    exact CallS.plain cfg_ok (f := Try.f59) (c := c59) (by kernel_rfl) (by kernel_rfl) (by kernel_rfl) (by kernel_rfl) ((f59n0_ok a1 ho).mono fun r e => by subst e; exact ⟨.inl rfl, (jB v10), (jB v10), by kernel_rfl, by kernel_rfl, ((Wk.refl _) : Wk (jB v10) (jB v10))⟩)

noncomputable def c36 : Code := Try.f36.body.getD .skip
inductive f36n3O where
  | norm (v148 : Bool)
def f36n3E (bb1 : ByteArray) (bc2 : UInt8) (bd3 : Int) : f36n3O → Ex × Tr × Hp
  | .norm v148 => (.norm, mkS [(0, (jS bb1)), (20, (jI (bb1.size : Int))), (21, (jI bd3)), (45, (jB v148))], [])
def f36n3S (bb1 : ByteArray) (bc2 : UInt8) (bd3 : Int) : Tr × Hp := (mkS [(0, (jS bb1)), (4, (.pl (.int .u8 (bc2.toNat : Int)))), (20, (jI (bb1.size : Int))), (21, (jI bd3))], [])
noncomputable def f36n3 (bb1 : ByteArray) (bc2 : UInt8) (bd3 : Int) : Option f36n3O :=
  (f59 (bc2.toNat : Int)).bind fun x141 =>
  bif x141 then
    some (.norm false)
  else
    bif (decide ((bc2.toNat : Int) < 48)) then
      bif (decide ((bc2.toNat : Int) = 95)) then
        some (.norm false)
      else
        some (.norm (!(decide ((bc2.toNat : Int) = 45))))
    else
      bif (decide (57 < (bc2.toNat : Int))) then
        bif (decide ((bc2.toNat : Int) = 95)) then
          some (.norm false)
        else
          some (.norm (!(decide ((bc2.toNat : Int) = 45))))
      else
        some (.norm false)
theorem f36n3_ok (bb1 : ByteArray) (bc2 : UInt8) (bd3 : Int) {o : f36n3O} (h : (f36n3 bb1 bc2 bd3) = some o) : T Try.prog Try.f36.ntmps 0 (cL (dropC 2 (cL (cL (dropC 2 (cL (cL (dropC 1 (cL (dropC 2 c36)))))))))) (f36n3S bb1 bc2 bd3) (fun r => r = f36n3E bb1 bc2 bd3 o) := by
  unfold f36n3 at h
  obtain ⟨x141, h142, h⟩ := bind_cases h
  rcases cond_cases h with ⟨h143, h⟩ | ⟨h143, h⟩
  · obtain rfl := some_inj h
    exact rE cfg_ok [(jF [4, 5, 6, 9], [jH 1 (jB x141), (10, .bool false)], [])] [] [] [] [0, 20, 21, 45] (.norm, (f36n3E bb1 bc2 bd3 (.norm false)).2) (ap (not_t h143) (ap4 (not_t h143) (ap (f59_ok (bc2.toNat : Int) h142) an))) rfl
  · rcases cond_cases h with ⟨h144, h⟩ | ⟨h144, h⟩
    · rcases cond_cases h with ⟨h145, h⟩ | ⟨h145, h⟩
      · obtain rfl := some_inj h
        exact rE cfg_ok [(jF [16, 17] ++ jT [4, 5, 6, 7, 8, 9], [jH 1 (jB x141), (9, .bool true), (10, .bool true), (18, .bool false)], [])] [] [] [] [0, 20, 21, 45] (.norm, (f36n3E bb1 bc2 bd3 (.norm false)).2) (ap3 (not_f h143) (ap2 h144 (ap (not_f h143) (ap h144 (ap (not_f h143) (ap3 (not_t h145) (ap (f59_ok (bc2.toNat : Int) h142) an))))))) rfl
      · obtain rfl := some_inj h
        exact rE cfg_ok [(jT [4, 5, 6, 7, 8, 9, 16, 17], [jH 1 (jB x141), (9, .bool true), (10, .bool true), (18, .bool true)], [])] [] [] [] [0, 20, 21, 45] (.norm, (f36n3E bb1 bc2 bd3 (.norm (!(decide ((bc2.toNat : Int) = 45))))).2) (ap3 (not_f h143) (ap2 h144 (ap (not_f h143) (ap h144 (ap (not_f h143) (ap3 (not_f h145) (ap (f59_ok (bc2.toNat : Int) h142) an))))))) rfl
    · rcases cond_cases h with ⟨h146, h⟩ | ⟨h146, h⟩
      · rcases cond_cases h with ⟨h147, h⟩ | ⟨h147, h⟩
        · obtain rfl := some_inj h
          exact rE cfg_ok [(jF [7, 8, 16, 17] ++ jT [4, 5, 6, 9, 12, 13], [jH 1 (jB x141), (9, .bool false), (10, .bool true), (14, .bool true), (18, .bool false)], [])] [] [] [] [0, 20, 21, 45] (.norm, (f36n3E bb1 bc2 bd3 (.norm false)).2) (ap3 (not_f h143) (ap2 h144 (ap (not_f h143) (ap h144 (ap (not_f h143) (ap3 h146 (ap3 (not_t h147) (ap (f59_ok (bc2.toNat : Int) h142) an)))))))) rfl
        · obtain rfl := some_inj h
          exact rE cfg_ok [(jF [7, 8] ++ jT [4, 5, 6, 9, 12, 13, 16, 17], [jH 1 (jB x141), (9, .bool false), (10, .bool true), (14, .bool true), (18, .bool true)], [])] [] [] [] [0, 20, 21, 45] (.norm, (f36n3E bb1 bc2 bd3 (.norm (!(decide ((bc2.toNat : Int) = 45))))).2) (ap3 (not_f h143) (ap2 h144 (ap (not_f h143) (ap h144 (ap (not_f h143) (ap3 h146 (ap3 (not_f h147) (ap (f59_ok (bc2.toNat : Int) h142) an)))))))) rfl
      · obtain rfl := some_inj h
        exact rE cfg_ok [(jF [7, 8, 12, 13] ++ jT [4, 5, 6, 9], [jH 1 (jB x141), (9, .bool false), (10, .bool true), (14, .bool false)], [])] [] [] [] [0, 20, 21, 45] (.norm, (f36n3E bb1 bc2 bd3 (.norm false)).2) (ap3 (not_f h143) (ap2 h144 (ap (not_f h143) (ap h144 (ap (not_f h143) (ap3 h146 (ap (f59_ok (bc2.toNat : Int) h142) an))))))) rfl
inductive f36n2O where
  | norm
  | ret
def f36n2E (bb1 : ByteArray) (bd2 : Int) : f36n2O → Ex × Tr × Hp
  | .norm => (.norm, mkS [(0, (jS bb1)), (20, (jI (bb1.size : Int))), (21, (jI bd2))], [])
  | .ret => (.ret, mkS [(2, (jB false))], [])
def f36n2S (bb1 : ByteArray) (bd2 : Int) : Tr × Hp := (mkS [(0, (jS bb1)), (20, (jI (bb1.size : Int))), (21, (jI bd2))], [])
noncomputable def f36n2 (bb1 : ByteArray) (bd2 : Int) : Option f36n2O :=
  (at? bb1.data.toList bd2).bind fun x125 =>
  (f36n3 bb1 x125 bd2).bind fun o149 => match o149 with
  | .norm v151 => bif v151 then
      some .ret
    else
      some .norm
theorem f36n2_ok (bb1 : ByteArray) (bd2 : Int) {o : f36n2O} (h : (f36n2 bb1 bd2) = some o) : T Try.prog Try.f36.ntmps 0 (cL (dropC 2 (cL (cL (dropC 1 (cL (dropC 2 c36))))))) (f36n2S bb1 bd2) (fun r => r = f36n2E bb1 bd2 o) := by
  unfold f36n2 at h
  refine T.block' (i := 1) (by kernel_rfl) ?_
  obtain ⟨x125, h126, h⟩ := bind_cases h
  refine rN cfg_ok 2 [j3, ([], [(2, .byte (Int.toNat bd2) x125)], [])] [] [] [] [0, 4, 20, 21] (f36n3S bb1 x125 bd2) (ap (at_some h126).1 (ap (at_some h126).2 an)) ?_
  obtain ⟨o149, h150, h⟩ := bind_cases h
  cases o149 with
  | norm v151 =>
    refine T.oneN (by kernel_rfl) (f36n3_ok bb1 x125 bd2 h150) (st2 := (f36n3E bb1 x125 bd2 (.norm v151)).2) rfl ?_
    rcases cond_cases h with ⟨h153, h⟩ | ⟨h153, h⟩
    · obtain rfl := some_inj h
      exact rE cfg_ok [j3] [some true] [] [] [2] (.ret, (f36n2E bb1 bd2 .ret).2) (ap h153 an) rfl
    · obtain rfl := some_inj h
      exact rE cfg_ok [] [some false] [] [] [0, 20, 21] (.norm, (f36n2E bb1 bd2 .norm).2) (ap h153 an) rfl
inductive f36n4O where
  | exit0
  | ret
def f36n4E (bb1 : ByteArray) : f36n4O → Ex × Tr × Hp
  | .exit0 => ((.exit 0), mkS [], [])
  | .ret => (.ret, mkS [(2, (jB false))], [])
def f36n4S (bb1 : ByteArray) (v109 : Int) : Tr × Hp := (mkS [(0, (jS bb1)), (20, (jI (bb1.size : Int))), (21, (jI v109))], [])
noncomputable def f36n4 : Nat → ByteArray → Int → Option f36n4O
  | 0, _, _ => none
  | f + 1, bb1, v109 =>
    bif (decide (v109 < (bb1.size : Int))) then
      (f36n2 bb1 v109).bind fun o154 => match o154 with
      | .norm => (f36n4 f bb1 (wr64 (v109 + 1)))
      | .ret => some .ret
    else
      some .exit0
theorem f36n4_ok : ∀ (f : Nat) (bb1 : ByteArray) (v109 : Int) {o : f36n4O}, (f36n4 f bb1 v109) = some o → TL Try.prog Try.f36.ntmps 0 f (cL (cL (dropC 1 (cL (dropC 2 c36))))) (f36n4S bb1 v109) (fun r => r = f36n4E bb1 o)
  | 0, _, _, o, h => by rw [f36n4] at h; cases h
  | f + 1, bb1, v109, o, h => by
    rw [f36n4] at h
    refine TL.body (K := fun s => ∃ v109 : Int, s = (f36n4S bb1 v109) ∧ (f36n4 f bb1 v109) = some o) ?_ (by rintro _ ⟨v109, rfl, hk⟩; exact f36n4_ok f _ _ hk)
    rcases cond_cases h with ⟨h111, h⟩ | ⟨h111, h⟩
    · refine rN cfg_ok 2 [j3] [some true] [] [] [0, 20, 21] (f36n2S bb1 v109) (ap h111 an) ?_
      obtain ⟨o154, h155, h⟩ := bind_cases h
      cases o154 with
      | norm =>
        refine T.oneN (by kernel_rfl) (f36n2_ok bb1 v109 h155) (st2 := (f36n2E bb1 v109 .norm).2) rfl ?_
        exact rE cfg_ok [j3] [] [] [] [0, 20, 21] (.norm, (f36n4S bb1 (wr64 (v109 + 1)))) an (LoopQ.norm ⟨(wr64 (v109 + 1)), rfl, h⟩)
      | ret =>
        obtain rfl := some_inj h
        exact T.oneX' (by kernel_rfl) (f36n2_ok bb1 v109 h155) (tds := []) (m := []) (keep := [2]) (st2 := (f36n4E bb1 .ret).2) (by kernel_rfl) an rfl (LoopQ.out rfl rfl)
    · obtain rfl := some_inj h
      exact rK cfg_ok 2 [j3] [some false] [] [] [] (.exit 0) ((f36n4E bb1 .exit0).2) (ap h111 an) (LoopQ.out rfl rfl)
inductive f36n1O where
  | norm
  | ret
def f36n1E (bb1 : ByteArray) : f36n1O → Ex × Tr × Hp
  | .norm => (.norm, mkS [], [])
  | .ret => (.ret, mkS [(2, (jB false))], [])
def f36n1S (bb1 : ByteArray) : Tr × Hp := (mkS [(0, (jS bb1))], [])
noncomputable def f36n1 (bb1 : ByteArray) : Option f36n1O :=
  (f36n4 FUEL bb1 0).bind fun o156 => match o156 with
  | .exit0 => some .norm
  | .ret => some .ret
theorem f36n1_ok (bb1 : ByteArray) {o : f36n1O} (h : (f36n1 bb1) = some o) : T Try.prog Try.f36.ntmps 0 (cL (dropC 2 c36)) (f36n1S bb1) (fun r => r = f36n1E bb1 o) := by
  unfold f36n1 at h
  refine rN cfg_ok 1 [j3] [] [] [] [0, 20, 21] (f36n4S bb1 0) an ?_
  obtain ⟨o156, h157, h⟩ := bind_cases h
  cases o156 with
  | exit0 =>
    obtain rfl := some_inj h
    exact T.last' (T.bl (i := 0) (by kernel_rfl) (by kernel_rfl) (f36n4_ok FUEL bb1 0 h157)) (tds := []) (m := []) (keep := []) (st2 := (f36n1E bb1 .norm).2) (by kernel_rfl) an rfl
  | ret =>
    obtain rfl := some_inj h
    exact T.last' (T.bl (i := 0) (by kernel_rfl) (by kernel_rfl) (f36n4_ok FUEL bb1 0 h157)) (tds := []) (m := []) (keep := [2]) (st2 := (f36n1E bb1 .ret).2) (by kernel_rfl) an rfl
inductive f36n0O where
  | ret (v160 : Bool)
def f36n0E (a1 : ByteArray) : f36n0O → Ex × Tr × Hp
  | .ret v160 => (.ret, mkS [(2, (jB v160))], [])
def f36n0S (a1 : ByteArray) : Tr × Hp := (initS [(jS a1)] 0 .leaf, [])
noncomputable def f36n0 (a1 : ByteArray) : Option f36n0O :=
  bif (decide ((a1.size : Int) < 1)) then
    some (.ret false)
  else
    bif (decide (40 < (a1.size : Int))) then
      some (.ret false)
    else
      (at? a1.data.toList 0).bind fun x11 =>
      (f59 (x11.toNat : Int)).bind fun x13 =>
      bif x13 then
        (f36n1 a1).bind fun o158 => match o158 with
        | .norm => some (.ret true)
        | .ret => some (.ret false)
      else
        some (.ret false)
theorem f36n0_ok (a1 : ByteArray) {o : f36n0O} (h : (f36n0 a1) = some o) : T Try.prog Try.f36.ntmps 0 c36 (f36n0S a1) (fun r => r = f36n0E a1 o) := by
  unfold f36n0 at h
  rcases cond_cases h with ⟨h9, h⟩ | ⟨h9, h⟩
  · obtain rfl := some_inj h
    exact rK cfg_ok 2 [j3, (jT [4, 5, 6], [(7, .bool true)], []), j3] [none] [] [] [2] .ret ((f36n0E a1 (.ret false)).2) (ap4 h9 an) rfl
  · rcases cond_cases h with ⟨h10, h⟩ | ⟨h10, h⟩
    · obtain rfl := some_inj h
      exact rK cfg_ok 2 [j3, (jF [4, 5, 6] ++ jT [9, 10, 11, 12], [(7, .bool false), (13, .bool true)], []), j3] [none] [] [] [2] .ret ((f36n0E a1 (.ret false)).2) (ap4 h9 (ap h10 (ap4 h10 an))) rfl
    · obtain ⟨x11, h12, h⟩ := bind_cases h
      obtain ⟨x13, h14, h⟩ := bind_cases h
      rcases cond_cases h with ⟨h15, h⟩ | ⟨h15, h⟩
      · refine rN cfg_ok 2 [j3, (jF [4, 5, 6, 9, 10, 11, 12], [(7, .bool false), (10, .byte (Int.toNat 0) x11), jH 11 (jB x13), (13, .bool false)], [])] [some false] [] [] [0] (f36n1S a1) (ap4 h9 (ap2 h10 (ap (at_some h12).1 (ap (at_some h12).2 (ap3 h10 (ap (f59_ok (x11.toNat : Int) h14) (ap (not_t h15) an))))))) ?_
        obtain ⟨o158, h159, h⟩ := bind_cases h
        cases o158 with
        | norm =>
          refine T.oneN (by kernel_rfl) (f36n1_ok a1 h159) (st2 := (f36n1E a1 .norm).2) rfl ?_
          obtain rfl := some_inj h
          exact rE cfg_ok [j3] [] [] [] [2] (.ret, (f36n0E a1 (.ret true)).2) an rfl
        | ret =>
          obtain rfl := some_inj h
          exact T.oneX' (by kernel_rfl) (f36n1_ok a1 h159) (tds := []) (m := []) (keep := [2]) (st2 := (f36n0E a1 (.ret false)).2) (by kernel_rfl) an rfl rfl
      · obtain rfl := some_inj h
        exact rK cfg_ok 2 [j3, (jF [4, 5, 6, 9, 10, 11, 12], [(7, .bool false), (10, .byte (Int.toNat 0) x11), jH 11 (jB x13), (13, .bool false)], []), j3] [some true] [] [] [2] .ret ((f36n0E a1 (.ret false)).2) (ap4 h9 (ap2 h10 (ap (at_some h12).1 (ap (at_some h12).2 (ap3 h10 (ap (f59_ok (x11.toNat : Int) h14) (ap (not_f h15) an))))))) rfl
noncomputable def f36 (a1 : ByteArray) : Option Bool := (f36n0 a1).bind fun o => match o with
  | .ret v160 => some v160
theorem f36_ok (a1 : ByteArray) {r : Bool} (h : (f36 a1) = some r) : CallS Try.prog false 36 [(jS a1)] [] (jB r) [] := by
  unfold f36 at h
  obtain ⟨o, ho, h⟩ := bind_cases h
  cases o with
  | ret v160 =>
    obtain rfl := some_inj h
    exact CallS.plain cfg_ok (f := Try.f36) (c := c36) (by kernel_rfl) (by kernel_rfl) (by kernel_rfl) (by kernel_rfl) ((f36n0_ok a1 ho).mono fun r e => by subst e; exact ⟨.inl rfl, (jB v160), (jB v160), by kernel_rfl, by kernel_rfl, ((Wk.refl _) : Wk (jB v160) (jB v160))⟩)


noncomputable def c57 : Code := Try.f57.body.getD .skip
inductive f57n1O where
  | norm (v68 : Bool)
def f57n1E (bh1 : NettingFlow) : f57n1O → Ex × Tr × Hp
  | .norm v68 => (.norm, mkS [(1, (.bp 0 0)), (3, (jB v68))], [some (.box ((NettingFlow.cells bh1).map .pl))])
def f57n1S (bh1 : NettingFlow) : Tr × Hp := (mkS [(1, (.bp 0 0))], [some (.box ((NettingFlow.cells bh1).map .pl))])
noncomputable def f57n1 (bh1 : NettingFlow) : Option f57n1O :=
  bif (seq bh1.Set str_x) then
    (f36 bh1.Ccy).bind fun x47 =>
    bif x47 then
      (f36 bh1.From).bind fun x50 =>
      bif x50 then
        (f36 bh1.To).bind fun x53 =>
        bif x53 then
          some (.norm (!(seq bh1.From bh1.To)))
        else
          some (.norm false)
      else
        some (.norm false)
    else
      some (.norm false)
  else
    (f36 bh1.Set).bind fun x56 =>
    bif x56 then
      (f36 bh1.Ccy).bind fun x59 =>
      bif x59 then
        (f36 bh1.From).bind fun x62 =>
        bif x62 then
          (f36 bh1.To).bind fun x65 =>
          bif x65 then
            some (.norm (!(seq bh1.From bh1.To)))
          else
            some (.norm false)
        else
          some (.norm false)
      else
        some (.norm false)
    else
      some (.norm false)
theorem f57n1_ok (bh1 : NettingFlow) {o : f57n1O} (h : (f57n1 bh1) = some o) : T Try.prog Try.f57.ntmps 0 (cL (dropC 1 c57)) (f57n1S bh1) (fun r => r = f57n1E bh1 o) := by
  unfold f57n1 at h
  rcases cond_cases h with ⟨h46, h⟩ | ⟨h46, h⟩
  · obtain ⟨x47, h48, h⟩ := bind_cases h
    rcases cond_cases h with ⟨h49, h⟩ | ⟨h49, h⟩
    · obtain ⟨x50, h51, h⟩ := bind_cases h
      rcases cond_cases h with ⟨h52, h⟩ | ⟨h52, h⟩
      · obtain ⟨x53, h54, h⟩ := bind_cases h
        rcases cond_cases h with ⟨h55, h⟩ | ⟨h55, h⟩
        · obtain rfl := some_inj h
          exact rE cfg_ok [(jT [4, 5, 6, 14, 15, 16, 19, 20, 21, 24, 25, 26, 27, 28], [(7, .bool true), jH 11 (jB x47), jH 16 (jB x50), (17, .bool true), jH 21 (jB x53), (22, .bool true), (29, .bool true)], [])] [] [] [0] [1, 3] (.norm, (f57n1E bh1 (.norm (!(seq bh1.From bh1.To)))).2) (ap4 h46 (ap4 h49 (ap4 h52 (ap2 h55 (ap4 h55 (ap (f36_ok bh1.Ccy h48) (ap (f36_ok bh1.From h51) (ap (f36_ok bh1.To h54) an)))))))) rfl
        · obtain rfl := some_inj h
          exact rE cfg_ok [(jF [24, 25, 26, 27, 28] ++ jT [4, 5, 6, 14, 15, 16, 19, 20, 21], [(7, .bool true), jH 11 (jB x47), jH 16 (jB x50), (17, .bool true), jH 21 (jB x53), (22, .bool true), (29, .bool false)], [])] [] [] [0] [1, 3] (.norm, (f57n1E bh1 (.norm false)).2) (ap4 h46 (ap4 h49 (ap4 h52 (ap2 h55 (ap4 h55 (ap (f36_ok bh1.Ccy h48) (ap (f36_ok bh1.From h51) (ap (f36_ok bh1.To h54) an)))))))) rfl
      · obtain rfl := some_inj h
        exact rE cfg_ok [(jF [19, 20, 21] ++ jT [4, 5, 6, 14, 15, 16], [(7, .bool true), jH 11 (jB x47), jH 16 (jB x50), (17, .bool true), (22, .bool false)], [])] [] [] [0] [1, 3] (.norm, (f57n1E bh1 (.norm false)).2) (ap4 h46 (ap4 h49 (ap4 h52 (ap (f36_ok bh1.Ccy h48) (ap (f36_ok bh1.From h51) an))))) rfl
    · obtain rfl := some_inj h
      exact rE cfg_ok [(jF [14, 15, 16] ++ jT [4, 5, 6], [(7, .bool true), jH 11 (jB x47), (17, .bool false)], [])] [] [] [0] [1, 3] (.norm, (f57n1E bh1 (.norm false)).2) (ap4 h46 (ap4 h49 (ap (f36_ok bh1.Ccy h48) an))) rfl
  · obtain ⟨x56, h57, h⟩ := bind_cases h
    rcases cond_cases h with ⟨h58, h⟩ | ⟨h58, h⟩
    · obtain ⟨x59, h60, h⟩ := bind_cases h
      rcases cond_cases h with ⟨h61, h⟩ | ⟨h61, h⟩
      · obtain ⟨x62, h63, h⟩ := bind_cases h
        rcases cond_cases h with ⟨h64, h⟩ | ⟨h64, h⟩
        · obtain ⟨x65, h66, h⟩ := bind_cases h
          rcases cond_cases h with ⟨h67, h⟩ | ⟨h67, h⟩
          · obtain rfl := some_inj h
            exact rE cfg_ok [(jF [4, 5, 6] ++ jT [9, 10, 11, 14, 15, 16, 19, 20, 21, 24, 25, 26, 27, 28], [jH 6 (jB x56), (7, .bool false), jH 11 (jB x59), (12, .bool true), jH 16 (jB x62), (17, .bool true), jH 21 (jB x65), (22, .bool true), (29, .bool true)], [])] [] [] [0] [1, 3] (.norm, (f57n1E bh1 (.norm (!(seq bh1.From bh1.To)))).2) (ap4 h46 (ap4 h58 (ap4 h61 (ap4 h64 (ap2 h67 (ap4 h67 (ap (f36_ok bh1.Set h57) (ap (f36_ok bh1.Ccy h60) (ap (f36_ok bh1.From h63) (ap (f36_ok bh1.To h66) an)))))))))) rfl
          · obtain rfl := some_inj h
            exact rE cfg_ok [(jF [4, 5, 6, 24, 25, 26, 27, 28] ++ jT [9, 10, 11, 14, 15, 16, 19, 20, 21], [jH 6 (jB x56), (7, .bool false), jH 11 (jB x59), (12, .bool true), jH 16 (jB x62), (17, .bool true), jH 21 (jB x65), (22, .bool true), (29, .bool false)], [])] [] [] [0] [1, 3] (.norm, (f57n1E bh1 (.norm false)).2) (ap4 h46 (ap4 h58 (ap4 h61 (ap4 h64 (ap2 h67 (ap4 h67 (ap (f36_ok bh1.Set h57) (ap (f36_ok bh1.Ccy h60) (ap (f36_ok bh1.From h63) (ap (f36_ok bh1.To h66) an)))))))))) rfl
        · obtain rfl := some_inj h
          exact rE cfg_ok [(jF [4, 5, 6, 19, 20, 21] ++ jT [9, 10, 11, 14, 15, 16], [jH 6 (jB x56), (7, .bool false), jH 11 (jB x59), (12, .bool true), jH 16 (jB x62), (17, .bool true), (22, .bool false)], [])] [] [] [0] [1, 3] (.norm, (f57n1E bh1 (.norm false)).2) (ap4 h46 (ap4 h58 (ap4 h61 (ap4 h64 (ap (f36_ok bh1.Set h57) (ap (f36_ok bh1.Ccy h60) (ap (f36_ok bh1.From h63) an))))))) rfl
      · obtain rfl := some_inj h
        exact rE cfg_ok [(jF [4, 5, 6, 14, 15, 16] ++ jT [9, 10, 11], [jH 6 (jB x56), (7, .bool false), jH 11 (jB x59), (12, .bool true), (17, .bool false)], [])] [] [] [0] [1, 3] (.norm, (f57n1E bh1 (.norm false)).2) (ap4 h46 (ap4 h58 (ap4 h61 (ap (f36_ok bh1.Set h57) (ap (f36_ok bh1.Ccy h60) an))))) rfl
    · obtain rfl := some_inj h
      exact rE cfg_ok [(jF [4, 5, 6, 9, 10, 11], [jH 6 (jB x56), (7, .bool false), (12, .bool false)], [])] [] [] [0] [1, 3] (.norm, (f57n1E bh1 (.norm false)).2) (ap4 h46 (ap4 h58 (ap (f36_ok bh1.Set h57) an))) rfl
inductive f57n0O where
  | ret (v80 : Bool)
def f57n0E (a1 : NettingFlow) : f57n0O → Ex × Tr × Hp
  | .ret v80 => (.ret, mkS [(2, (jB v80))], [])
def f57n0S (a1 : NettingFlow) : Tr × Hp := (initS [(jA NettingFlow.cells a1)] 0 .leaf, [])
noncomputable def f57n0 (a1 : NettingFlow) : Option f57n0O :=
  (f57n1 a1).bind fun o69 => match o69 with
  | .norm v71 => bif v71 then
      bif (decide (0 ≤ a1.Date)) then
        bif (decide (a1.Date ≤ 99999)) then
          bif (decide (1 ≤ a1.Amount)) then
            some (.ret (decide (a1.Amount ≤ 1125899906842624)))
          else
            some (.ret false)
        else
          some (.ret false)
      else
        some (.ret false)
    else
      some (.ret false)
theorem f57n0_ok (a1 : NettingFlow) {o : f57n0O} (h : (f57n0 a1) = some o) : T Try.prog Try.f57.ntmps 0 c57 (f57n0S a1) (fun r => r = f57n0E a1 o) := by
  unfold f57n0 at h
  refine rN cfg_ok 1 [j3] [] [] [0] [1] (f57n1S a1) an ?_
  obtain ⟨o69, h70, h⟩ := bind_cases h
  cases o69 with
  | norm v71 =>
    refine T.oneN (by kernel_rfl) (f57n1_ok a1 h70) (st2 := (f57n1E a1 (.norm v71)).2) rfl ?_
    rcases cond_cases h with ⟨h76, h⟩ | ⟨h76, h⟩
    · rcases cond_cases h with ⟨h77, h⟩ | ⟨h77, h⟩
      · rcases cond_cases h with ⟨h78, h⟩ | ⟨h78, h⟩
        · rcases cond_cases h with ⟨h79, h⟩ | ⟨h79, h⟩
          · obtain rfl := some_inj h
            exact rE cfg_ok [(jT [2, 3, 4, 7, 8, 9, 12, 13, 14, 17, 18, 19], [(5, .bool true), (10, .bool true), (15, .bool true), (20, .bool true)], [])] [] [] [] [2] (.ret, (f57n0E a1 (.ret (decide (a1.Amount ≤ 1125899906842624)))).2) (ap4 h76 (ap4 h77 (ap4 h78 (ap4 h79 an)))) rfl
          · obtain rfl := some_inj h
            exact rE cfg_ok [(jF [17, 18, 19] ++ jT [2, 3, 4, 7, 8, 9, 12, 13, 14], [(5, .bool true), (10, .bool true), (15, .bool true), (20, .bool false)], [])] [] [] [] [2] (.ret, (f57n0E a1 (.ret false)).2) (ap4 h76 (ap4 h77 (ap4 h78 (ap4 h79 an)))) rfl
        · obtain rfl := some_inj h
          exact rE cfg_ok [(jF [12, 13, 14] ++ jT [2, 3, 4, 7, 8, 9], [(5, .bool true), (10, .bool true), (15, .bool false)], [])] [] [] [] [2] (.ret, (f57n0E a1 (.ret false)).2) (ap4 h76 (ap4 h77 (ap4 h78 an))) rfl
      · obtain rfl := some_inj h
        exact rE cfg_ok [(jF [7, 8, 9] ++ jT [2, 3, 4], [(5, .bool true), (10, .bool false)], [])] [] [] [] [2] (.ret, (f57n0E a1 (.ret false)).2) (ap4 h76 (ap4 h77 an)) rfl
    · obtain rfl := some_inj h
      exact rE cfg_ok [(jF [2, 3, 4], [(5, .bool false)], [])] [] [] [] [2] (.ret, (f57n0E a1 (.ret false)).2) (ap4 h76 an) rfl
noncomputable def f57 (a1 : NettingFlow) : Option Bool := (f57n0 a1).bind fun o => match o with
  | .ret v80 => some v80
theorem f57_ok (a1 : NettingFlow) {r : Bool} (h : (f57 a1) = some r) : CallS Try.prog false 57 [(jA NettingFlow.cells a1)] [] (jB r) [] := by
  unfold f57 at h
  obtain ⟨o, ho, h⟩ := bind_cases h
  cases o with
  | ret v80 =>
    obtain rfl := some_inj h
    exact CallS.plain cfg_ok (f := Try.f57) (c := c57) (by kernel_rfl) (by kernel_rfl) (by kernel_rfl) (by kernel_rfl) ((f57n0_ok a1 ho).mono fun r e => by subst e; exact ⟨.inl rfl, (jB v80), (jB v80), by kernel_rfl, by kernel_rfl, ((Wk.refl _) : Wk (jB v80) (jB v80))⟩)

noncomputable def c56 : Code := Try.f56.body.getD .skip
inductive f56n0O where
  | ret (v6 : Bool)
def f56n0E (a1 : NettingFlow) : f56n0O → Ex × Tr × Hp
  | .ret v6 => (.ret, mkS [(2, (jB v6))], [])
def f56n0S (a1 : NettingFlow) : Tr × Hp := (initS [(jA NettingFlow.cells a1)] 0 .leaf, [])
noncomputable def f56n0 (a1 : NettingFlow) : Option f56n0O :=
  (f57 a1).bind fun x4 =>
  some (.ret (!x4))
theorem f56n0_ok (a1 : NettingFlow) {o : f56n0O} (h : (f56n0 a1) = some o) : T Try.prog Try.f56.ntmps 0 c56 (f56n0S a1) (fun r => r = f56n0E a1 o) := by
  unfold f56n0 at h
  obtain ⟨x4, h5, h⟩ := bind_cases h
  obtain rfl := some_inj h
  exact rE cfg_ok [j3, ([], [jH 1 (jB x4)], [])] [] [] [] [2] (.ret, (f56n0E a1 (.ret (!x4))).2) (ap (f57_ok a1 h5) an) rfl
noncomputable def f56 (a1 : NettingFlow) : Option Bool := (f56n0 a1).bind fun o => match o with
  | .ret v6 => some v6
theorem f56_ok (a1 : NettingFlow) {r : Bool} (h : (f56 a1) = some r) : CallS Try.prog false 56 [(jA NettingFlow.cells a1)] [] (jB r) [] := by
  unfold f56 at h
  obtain ⟨o, ho, h⟩ := bind_cases h
  cases o with
  | ret v6 =>
    obtain rfl := some_inj h
    exact CallS.plain cfg_ok (f := Try.f56) (c := c56) (by kernel_rfl) (by kernel_rfl) (by kernel_rfl) (by kernel_rfl) ((f56n0_ok a1 ho).mono fun r e => by subst e; exact ⟨.inl rfl, (jB v6), (jB v6), by kernel_rfl, by kernel_rfl, ((Wk.refl _) : Wk (jB v6) (jB v6))⟩)

noncomputable def c70 : Code := Try.f70.body.getD .skip
inductive f70_56n2O where
  | exit0
  | ret (v40 : Int)
def f70_56n2E (bg1 : List NettingFlow) : f70_56n2O → Ex × Tr × Hp
  | .exit0 => ((.exit 0), mkS [], [])
  | .ret v40 => (.ret, mkS [(4, (jI v40))], [])
def f70_56n2S (bg1 : List NettingFlow) (v27 : Int) : Tr × Hp := (mkS [(0, (jL 6 NettingFlow.cells bg1)), (1, (.pl (.fn 56))), (7, (jI (bg1.length : Int))), (8, (jI v27))], [])
noncomputable def f70_56n2 : Nat → List NettingFlow → Int → Option f70_56n2O
  | 0, _, _ => none
  | f + 1, bg1, v27 =>
    bif (decide (v27 < (bg1.length : Int))) then
      (at? bg1 v27).bind fun x35 =>
      (f56 x35).bind fun x37 =>
      bif x37 then
        some (.ret v27)
      else
        (f70_56n2 f bg1 (wr64 (v27 + 1)))
    else
      some .exit0
theorem f70_56n2_ok : ∀ (f : Nat) (bg1 : List NettingFlow) (v27 : Int) {o : f70_56n2O}, (f70_56n2 f bg1 v27) = some o → TL Try.prog Try.f70.ntmps 0 f (cL (cL (dropC 1 (cL (dropC 1 c70))))) (f70_56n2S bg1 v27) (fun r => r = f70_56n2E bg1 o)
  | 0, _, _, o, h => by rw [f70_56n2] at h; cases h
  | f + 1, bg1, v27, o, h => by
    rw [f70_56n2] at h
    refine TL.body (K := fun s => ∃ v27 : Int, s = (f70_56n2S bg1 v27) ∧ (f70_56n2 f bg1 v27) = some o) ?_ (by rintro _ ⟨v27, rfl, hk⟩; exact f70_56n2_ok f _ _ hk)
    rcases cond_cases h with ⟨h29, h⟩ | ⟨h29, h⟩
    · obtain ⟨x35, h36, h⟩ := bind_cases h
      obtain ⟨x37, h38, h⟩ := bind_cases h
      rcases cond_cases h with ⟨h39, h⟩ | ⟨h39, h⟩
      · obtain rfl := some_inj h
        exact rK cfg_ok 3 [j3, j3, ([], [(3, .idx (Int.toNat v27) (NettingFlow.cells x35)), jH 5 (jB x37)], []), j3] [some true, some true] [] [] [4] .ret ((f70_56n2E bg1 (.ret v27)).2) (ap h29 (ap (at_some h36).1 (ap (at_map NettingFlow.cells (at_some h36).2) (ap (f56_ok x35 h38) (ap h39 an))))) (LoopQ.out rfl rfl)
      · exact rE cfg_ok [j3, j3, ([], [(3, .idx (Int.toNat v27) (NettingFlow.cells x35)), jH 5 (jB x37)], []), j3] [some true, some false] [] [] [0, 1, 7, 8] (.norm, (f70_56n2S bg1 (wr64 (v27 + 1)))) (ap h29 (ap (at_some h36).1 (ap (at_map NettingFlow.cells (at_some h36).2) (ap (f56_ok x35 h38) (ap h39 an))))) (LoopQ.norm ⟨(wr64 (v27 + 1)), rfl, h⟩)
    · obtain rfl := some_inj h
      exact rK cfg_ok 2 [j3] [some false] [] [] [] (.exit 0) ((f70_56n2E bg1 .exit0).2) (ap h29 an) (LoopQ.out rfl rfl)
noncomputable def f70_56n2L (bg1 : List NettingFlow) : List NettingFlow → Int → Option f70_56n2O
  | [], v27 =>
    some .exit0
  | x0 :: rest, v27 =>
    (f56 x0).bind fun x37 =>
    bif x37 then
      some (.ret v27)
    else
      (f70_56n2L bg1 rest (v27 + 1))
theorem f70_56n2L_eq (bg1 : List NettingFlow) : ∀ (rest : List NettingFlow) (f k : Nat), bg1.drop k = rest → bg1.length ≤ maxLen → rest.length < f → f70_56n2 f bg1 (k : Int) = f70_56n2L bg1 rest (k : Int)
  | _, 0, _, _, _, hf => absurd hf (Nat.not_lt_zero _)
  | [], f + 1, k, hd, hm, hf => by
    have hk : ¬ ((k : Int) < (bg1.length : Int)) := by have := drop_nil hd; omega
    rw [f70_56n2, f70_56n2L]
    simp only [decide_eq_false hk, cond_false]
  | x0 :: rest, f + 1, k, hd, hm, hf => by
    obtain ⟨hx, hlt, hd'⟩ := drop_cons hd
    have hk : (k : Int) < (bg1.length : Int) := by omega
    have hw : wr64 ((k : Int) + 1) = (k : Int) + 1 := wr64_of (by omega) (by unfold maxLen at hm; omega)
    have ih : f70_56n2 f bg1 ((k : Int) + 1) = f70_56n2L bg1 rest ((k : Int) + 1) := f70_56n2L_eq bg1 rest f (k + 1) hd' hm (by simpa using hf)
    rw [f70_56n2, f70_56n2L]
    simp only [decide_eq_true hk, cond_true, at_nat, hx, Option.bind_some, hw, ih]
theorem f70_56n2_run (bg1 : List NettingFlow) (hm : bg1.length ≤ maxLen) : f70_56n2 FUEL bg1 0 = f70_56n2L bg1 bg1 0 := f70_56n2L_eq bg1 bg1 FUEL 0 List.drop_zero hm (lt_FUEL hm)
inductive f70_56n1O where
  | norm
  | ret (v44 : Int)
def f70_56n1E (bg1 : List NettingFlow) : f70_56n1O → Ex × Tr × Hp
  | .norm => (.norm, mkS [], [])
  | .ret v44 => (.ret, mkS [(4, (jI v44))], [])
def f70_56n1S (bg1 : List NettingFlow) : Tr × Hp := (mkS [(0, (jL 6 NettingFlow.cells bg1)), (1, (.pl (.fn 56)))], [])
noncomputable def f70_56n1 (bg1 : List NettingFlow) : Option f70_56n1O :=
  (f70_56n2 FUEL bg1 0).bind fun o41 => match o41 with
  | .exit0 => some .norm
  | .ret v43 => some (.ret v43)
theorem f70_56n1_ok (bg1 : List NettingFlow) {o : f70_56n1O} (h : (f70_56n1 bg1) = some o) : T Try.prog Try.f70.ntmps 0 (cL (dropC 1 c70)) (f70_56n1S bg1) (fun r => r = f70_56n1E bg1 o) := by
  unfold f70_56n1 at h
  refine rN cfg_ok 1 [([], [], [(1, .val (jI (bg1.length : Int)))])] [] [] [] [0, 1, 7, 8] (f70_56n2S bg1 0) (ap (len_cv (xs := bg1) (c := NettingFlow.cells)) an) ?_
  obtain ⟨o41, h42, h⟩ := bind_cases h
  cases o41 with
  | exit0 =>
    obtain rfl := some_inj h
    exact T.last' (T.bl (i := 0) (by kernel_rfl) (by kernel_rfl) (f70_56n2_ok FUEL bg1 0 h42)) (tds := []) (m := []) (keep := []) (st2 := (f70_56n1E bg1 .norm).2) (by kernel_rfl) an rfl
  | ret v43 =>
    obtain rfl := some_inj h
    exact T.last' (T.bl (i := 0) (by kernel_rfl) (by kernel_rfl) (f70_56n2_ok FUEL bg1 0 h42)) (tds := []) (m := []) (keep := [4]) (st2 := (f70_56n1E bg1 (.ret v43)).2) (by kernel_rfl) an rfl
inductive f70_56n0O where
  | ret (v48 : Int)
def f70_56n0E (a1 : List NettingFlow) : f70_56n0O → Ex × Tr × Hp
  | .ret v48 => (.ret, mkS [(4, (jI v48))], [])
def f70_56n0S (a1 : List NettingFlow) : Tr × Hp := (initS [(jL 6 NettingFlow.cells a1), (.pl (.fn 56))] 0 .leaf, [])
noncomputable def f70_56n0 (a1 : List NettingFlow) : Option f70_56n0O :=
  (f70_56n1 a1).bind fun o45 => match o45 with
  | .norm => some (.ret (-1))
  | .ret v47 => some (.ret v47)
theorem f70_56n0_ok (a1 : List NettingFlow) {o : f70_56n0O} (h : (f70_56n0 a1) = some o) : T Try.prog Try.f70.ntmps 0 c70 (f70_56n0S a1) (fun r => r = f70_56n0E a1 o) := by
  unfold f70_56n0 at h
  refine rN cfg_ok 1 [j3] [] [] [] [0, 1] (f70_56n1S a1) an ?_
  obtain ⟨o45, h46, h⟩ := bind_cases h
  cases o45 with
  | norm =>
    refine T.oneN (by kernel_rfl) (f70_56n1_ok a1 h46) (st2 := (f70_56n1E a1 .norm).2) rfl ?_
    obtain rfl := some_inj h
    exact rE cfg_ok [j3] [] [] [] [4] (.ret, (f70_56n0E a1 (.ret (-1))).2) an rfl
  | ret v47 =>
    obtain rfl := some_inj h
    exact T.oneX' (by kernel_rfl) (f70_56n1_ok a1 h46) (tds := []) (m := []) (keep := [4]) (st2 := (f70_56n0E a1 (.ret v47)).2) (by kernel_rfl) an rfl rfl
noncomputable def f70_56 (a1 : List NettingFlow) : Option Int := (f70_56n0 a1).bind fun o => match o with
  | .ret v48 => some v48
theorem f70_56_ok (a1 : List NettingFlow) {r : Int} (h : (f70_56 a1) = some r) : CallS Try.prog false 70 [(jL 6 NettingFlow.cells a1), (.pl (.fn 56))] [] (jI r) [] := by
  unfold f70_56 at h
  obtain ⟨o, ho, h⟩ := bind_cases h
  cases o with
  | ret v48 =>
    obtain rfl := some_inj h
    exact CallS.plain cfg_ok (f := Try.f70) (c := c70) (by kernel_rfl) (by kernel_rfl) (by kernel_rfl) (by kernel_rfl) ((f70_56n0_ok a1 ho).mono fun r e => by subst e; exact ⟨.inl rfl, (jI v48), (jI v48), by kernel_rfl, by kernel_rfl, ((Wk.refl _) : Wk (jI v48) (jI v48))⟩)

noncomputable def c58 : Code := Try.f58.body.getD .skip
inductive f58_56n0O where
  | ret (v6 : Bool)
def f58_56n0E (a1 : List NettingFlow) : f58_56n0O → Ex × Tr × Hp
  | .ret v6 => (.ret, mkS [(4, (jB v6))], [])
def f58_56n0S (a1 : List NettingFlow) : Tr × Hp := (initS [(jL 6 NettingFlow.cells a1), (.pl (.fn 56))] 0 .leaf, [])
noncomputable def f58_56n0 (a1 : List NettingFlow) : Option f58_56n0O :=
  (f70_56 a1).bind fun x4 =>
  some (.ret (decide (0 ≤ x4)))
theorem f58_56n0_ok (a1 : List NettingFlow) {o : f58_56n0O} (h : (f58_56n0 a1) = some o) : T Try.prog Try.f58.ntmps 0 c58 (f58_56n0S a1) (fun r => r = f58_56n0E a1 o) := by
  unfold f58_56n0 at h
  obtain ⟨x4, h5, h⟩ := bind_cases h
  obtain rfl := some_inj h
  exact rE cfg_ok [j3, ([], [jH 2 (jI x4)], [])] [] [] [] [4] (.ret, (f58_56n0E a1 (.ret (decide (0 ≤ x4)))).2) (ap (f70_56_ok a1 h5) an) rfl
noncomputable def f58_56 (a1 : List NettingFlow) : Option Bool := (f58_56n0 a1).bind fun o => match o with
  | .ret v6 => some v6
theorem f58_56_ok (a1 : List NettingFlow) {r : Bool} (h : (f58_56 a1) = some r) : CallS Try.prog false 58 [(jL 6 NettingFlow.cells a1), (.pl (.fn 56))] [] (jB r) [] := by
  unfold f58_56 at h
  obtain ⟨o, ho, h⟩ := bind_cases h
  cases o with
  | ret v6 =>
    obtain rfl := some_inj h
    exact CallS.plain cfg_ok (f := Try.f58) (c := c58) (by kernel_rfl) (by kernel_rfl) (by kernel_rfl) (by kernel_rfl) ((f58_56n0_ok a1 ho).mono fun r e => by subst e; exact ⟨.inl rfl, (jB v6), (jB v6), by kernel_rfl, by kernel_rfl, ((Wk.refl _) : Wk (jB v6) (jB v6))⟩)

noncomputable def c35 : Code := Try.f35.body.getD .skip
inductive f35n0O where
  | ret (v10 : Int)
def f35n0E (a1 : List NettingFlow) : f35n0O → Ex × Tr × Hp
  | .ret v10 => (.ret, mkS [(2, (jI v10))], [])
def f35n0S (a1 : List NettingFlow) : Tr × Hp := (initS [(jL 6 NettingFlow.cells a1)] 0 .leaf, [])
noncomputable def f35n0 (a1 : List NettingFlow) : Option f35n0O :=
  bif (decide (500 < (a1.length : Int))) then
    some (.ret 8)
  else
    (f58_56 a1).bind fun x7 =>
    bif x7 then
      some (.ret 8)
    else
      some (.ret 0)
theorem f35n0_ok (a1 : List NettingFlow) {o : f35n0O} (h : (f35n0 a1) = some o) : T Try.prog Try.f35.ntmps 0 c35 (f35n0S a1) (fun r => r = f35n0E a1 o) := by
  unfold f35n0 at h
  rcases cond_cases h with ⟨h6, h⟩ | ⟨h6, h⟩
  · obtain rfl := some_inj h
    exact rK cfg_ok 3 [j3, j3, (jT [4, 5, 6], [(7, .bool true)], [(1, .val (jI (a1.length : Int)))]), j3] [none] [] [] [2] .ret ((f35n0E a1 (.ret 8)).2) (ap (len_cv (xs := a1) (c := NettingFlow.cells)) (ap4 h6 an)) rfl
  · obtain ⟨x7, h8, h⟩ := bind_cases h
    rcases cond_cases h with ⟨h9, h⟩ | ⟨h9, h⟩
    · obtain rfl := some_inj h
      exact rK cfg_ok 3 [j3, j3, (jF [4, 5, 6], [jH 6 (jB x7), (7, .bool false)], [(1, .val (jI (a1.length : Int)))]), j3] [some true] [] [] [2] .ret ((f35n0E a1 (.ret 8)).2) (ap (len_cv (xs := a1) (c := NettingFlow.cells)) (ap4 h6 (ap (f58_56_ok a1 h8) (ap h9 an)))) rfl
    · obtain rfl := some_inj h
      exact rE cfg_ok [j3, j3, (jF [4, 5, 6], [jH 6 (jB x7), (7, .bool false)], [(1, .val (jI (a1.length : Int)))]), j3] [some false] [] [] [2] (.ret, (f35n0E a1 (.ret 0)).2) (ap (len_cv (xs := a1) (c := NettingFlow.cells)) (ap4 h6 (ap (f58_56_ok a1 h8) (ap h9 an)))) rfl
noncomputable def f35 (a1 : List NettingFlow) : Option Int := (f35n0 a1).bind fun o => match o with
  | .ret v10 => some v10
theorem f35_ok (a1 : List NettingFlow) {r : Int} (h : (f35 a1) = some r) : CallS Try.prog false 35 [(jL 6 NettingFlow.cells a1)] [] (jI r) [] := by
  unfold f35 at h
  obtain ⟨o, ho, h⟩ := bind_cases h
  cases o with
  | ret v10 =>
    obtain rfl := some_inj h
    exact CallS.plain cfg_ok (f := Try.f35) (c := c35) (by kernel_rfl) (by kernel_rfl) (by kernel_rfl) (by kernel_rfl) ((f35n0_ok a1 ho).mono fun r e => by subst e; exact ⟨.inl rfl, (jI v10), (jI v10), by kernel_rfl, by kernel_rfl, ((Wk.refl _) : Wk (jI v10) (jI v10))⟩)

noncomputable def c63 : Code := Try.f63.body.getD .skip
inductive f63n0O where
  | ret
def f63n0E (a1 : ByteArray) : f63n0O → Ex × Tr × Hp
  | .ret => (.ret, mkS [(2, (.pl (.bool (!(seq a1 a1)))))], [])
def f63n0S (a1 : ByteArray) : Tr × Hp := (initS [(jS a1)] 0 .leaf, [])
noncomputable def f63n0 (a1 : ByteArray) : Option f63n0O :=
  some .ret
theorem f63n0_ok (a1 : ByteArray) {o : f63n0O} (h : (f63n0 a1) = some o) : T Try.prog Try.f63.ntmps 0 c63 (f63n0S a1) (fun r => r = f63n0E a1 o) := by
  unfold f63n0 at h
  obtain rfl := some_inj h
  exact rE cfg_ok [j3, j3] [] [] [] [2] (.ret, (f63n0E a1 .ret).2) an rfl
noncomputable def f63 (a1 : ByteArray) : Option Bool := (f63n0 a1).bind fun o => match o with
  | .ret => some (!(seq a1 a1))
theorem f63_ok (a1 : ByteArray) {r : Bool} (h : (f63 a1) = some r) : CallS Try.prog false 63 [(jS a1)] [] (jB r) [] := by
  unfold f63 at h
  obtain ⟨o, ho, h⟩ := bind_cases h
  cases o with
  | ret =>
    obtain rfl := some_inj h
    exact CallS.plain cfg_ok (f := Try.f63) (c := c63) (by kernel_rfl) (by kernel_rfl) (by kernel_rfl) (by kernel_rfl) ((f63n0_ok a1 ho).mono fun r e => by subst e; exact ⟨.inl rfl, (.pl (.bool (!(seq a1 a1)))), (.pl (.bool (!(seq a1 a1)))), by kernel_rfl, by kernel_rfl, ((Wk.refl _) : Wk (.pl (.bool (!(seq a1 a1)))) (.pl (.bool (!(seq a1 a1)))))⟩)

noncomputable def c42 : Code := Try.f42.body.getD .skip
inductive f42n0O where
  | ret (v21 : Int)
def f42n0E (a1 : ByteArray) (a2 : ByteArray) : f42n0O → Ex × Tr × Hp
  | .ret v21 => (.ret, mkS [(4, (jI v21))], [])
def f42n0S (a1 : ByteArray) (a2 : ByteArray) : Tr × Hp := (initS [(jS a1), (jS a2)] 0 .leaf, [])
noncomputable def f42n0 (a1 : ByteArray) (a2 : ByteArray) : Option f42n0O :=
  (f63 a1).bind fun x5 =>
  (f63 a2).bind fun x9 =>
  bif x5 then
    bif x9 then
      some (.ret 0)
    else
      some (.ret (-1))
  else
    bif x9 then
      some (.ret 1)
    else
      bif (slt a1 a2) then
        some (.ret (-1))
      else
        bif (slt a1 a2 || seq a1 a2) then
          some (.ret 0)
        else
          some (.ret 1)
theorem f42n0_ok (a1 : ByteArray) (a2 : ByteArray) {o : f42n0O} (h : (f42n0 a1 a2) = some o) : T Try.prog Try.f42.ntmps 0 c42 (f42n0S a1 a2) (fun r => r = f42n0E a1 a2 o) := by
  unfold f42n0 at h
  obtain ⟨x5, h6, h⟩ := bind_cases h
  obtain ⟨x9, h10, h⟩ := bind_cases h
  rcases cond_cases h with ⟨h13, h⟩ | ⟨h13, h⟩
  · rcases cond_cases h with ⟨h14, h⟩ | ⟨h14, h⟩
    · obtain rfl := some_inj h
      exact rK cfg_ok 4 [j3, ([], [jH 1 (jB x5)], []), ([], [jH 1 (jB x9)], []), j3, j3, j3] [some true, some true] [] [] [4] .ret ((f42n0E a1 a2 (.ret 0)).2) (ap (f63_ok a1 h6) (ap (f63_ok a2 h10) (ap h13 (ap h14 an)))) rfl
    · obtain rfl := some_inj h
      exact rK cfg_ok 4 [j3, ([], [jH 1 (jB x5)], []), ([], [jH 1 (jB x9)], []), j3, j3, j3] [some true, some false] [] [] [4] .ret ((f42n0E a1 a2 (.ret (-1))).2) (ap (f63_ok a1 h6) (ap (f63_ok a2 h10) (ap h13 (ap h14 an)))) rfl
  · rcases cond_cases h with ⟨h16, h⟩ | ⟨h16, h⟩
    · obtain rfl := some_inj h
      exact rK cfg_ok 5 [j3, ([], [jH 1 (jB x5)], []), ([], [jH 1 (jB x9)], []), j3, j3, j3] [some false, some true] [] [] [4] .ret ((f42n0E a1 a2 (.ret 1)).2) (ap (f63_ok a1 h6) (ap (f63_ok a2 h10) (ap h13 (ap h16 an)))) rfl
    · rcases cond_cases h with ⟨h18, h⟩ | ⟨h18, h⟩
      · obtain rfl := some_inj h
        exact rK cfg_ok 6 [j3, ([], [jH 1 (jB x5)], []), ([], [jH 1 (jB x9)], []), j3, j3, j3, j3] [some false, some false, some true] [] [] [4] .ret ((f42n0E a1 a2 (.ret (-1))).2) (ap (f63_ok a1 h6) (ap (f63_ok a2 h10) (ap h13 (ap h16 (ap h18 an))))) rfl
      · rcases cond_cases h with ⟨h20, h⟩ | ⟨h20, h⟩
        · obtain rfl := some_inj h
          exact rE cfg_ok [j3, ([], [jH 1 (jB x5)], []), ([], [jH 1 (jB x9)], []), j3, j3, j3, j3, j3] [some false, some false, some false, some false] [] [] [4] (.ret, (f42n0E a1 a2 (.ret 0)).2) (ap (f63_ok a1 h6) (ap (f63_ok a2 h10) (ap h13 (ap h16 (ap h18 (ap (not_t h20) an)))))) rfl
        · obtain rfl := some_inj h
          exact rK cfg_ok 7 [j3, ([], [jH 1 (jB x5)], []), ([], [jH 1 (jB x9)], []), j3, j3, j3, j3, j3] [some false, some false, some false, some true] [] [] [4] .ret ((f42n0E a1 a2 (.ret 1)).2) (ap (f63_ok a1 h6) (ap (f63_ok a2 h10) (ap h13 (ap h16 (ap h18 (ap (not_f h20) an)))))) rfl
noncomputable def f42 (a1 : ByteArray) (a2 : ByteArray) : Option Int := (f42n0 a1 a2).bind fun o => match o with
  | .ret v21 => some v21
theorem f42_ok (a1 : ByteArray) (a2 : ByteArray) {r : Int} (h : (f42 a1 a2) = some r) : CallS Try.prog false 42 [(jS a1), (jS a2)] [] (jI r) [] := by
  unfold f42 at h
  obtain ⟨o, ho, h⟩ := bind_cases h
  cases o with
  | ret v21 =>
    obtain rfl := some_inj h
    exact CallS.plain cfg_ok (f := Try.f42) (c := c42) (by kernel_rfl) (by kernel_rfl) (by kernel_rfl) (by kernel_rfl) ((f42n0_ok a1 a2 ho).mono fun r e => by subst e; exact ⟨.inl rfl, (jI v21), (jI v21), by kernel_rfl, by kernel_rfl, ((Wk.refl _) : Wk (jI v21) (jI v21))⟩)






noncomputable def c37 : Code := Try.f37.body.getD .skip
inductive f37n0O where
  | ret (v7 : NettingFlow)
def f37n0E (a1 : Key_) (a2 : ByteArray) (a3 : ByteArray) (a4 : Int) : f37n0O → Ex × Tr × Hp
  | .ret v7 => (.ret, mkS [(8, (.bp 0 0)), (9, (.pl (.bool (!(decide (a4 = 0))))))], [some (.box ((NettingFlow.cells v7).map .pl))])
def f37n0S (a1 : Key_) (a2 : ByteArray) (a3 : ByteArray) (a4 : Int) : Tr × Hp := (initS [(jA Key_.cells a1), (jS a2), (jS a3), (jI a4)] 0 .leaf, [])
noncomputable def f37n0 (a1 : Key_) (a2 : ByteArray) (a3 : ByteArray) (a4 : Int) : Option f37n0O :=
  bif (decide (a4 < 0)) then
    some (.ret (NettingFlow.mk a1.date a1.set a1.ccy a3 a2 (wr64 (0 - a4))))
  else
    some (.ret (NettingFlow.mk a1.date a1.set a1.ccy a2 a3 a4))
theorem f37n0_ok (a1 : Key_) (a2 : ByteArray) (a3 : ByteArray) (a4 : Int) {o : f37n0O} (h : (f37n0 a1 a2 a3 a4) = some o) : T Try.prog Try.f37.ntmps 0 c37 (f37n0S a1 a2 a3 a4) (fun r => r = f37n0E a1 a2 a3 a4 o) := by
  unfold f37n0 at h
  rcases cond_cases h with ⟨h6, h⟩ | ⟨h6, h⟩
  · obtain rfl := some_inj h
    exact rE cfg_ok [j3, j3, j3, j3, j3] [some true] [] [1] [8, 9] (.ret, (f37n0E a1 a2 a3 a4 (.ret (NettingFlow.mk a1.date a1.set a1.ccy a3 a2 (wr64 (0 - a4))))).2) (ap h6 an) rfl
  · obtain rfl := some_inj h
    exact rE cfg_ok [j3, j3, j3, j3] [some false] [] [1] [8, 9] (.ret, (f37n0E a1 a2 a3 a4 (.ret (NettingFlow.mk a1.date a1.set a1.ccy a2 a3 a4))).2) (ap h6 an) rfl
noncomputable def f37 (a1 : Key_) (a2 : ByteArray) (a3 : ByteArray) (a4 : Int) : Option (NettingFlow × Bool) := (f37n0 a1 a2 a3 a4).bind fun o => match o with
  | .ret v7 => some (v7, (!(decide (a4 = 0))))
theorem f37_ok (a1 : Key_) (a2 : ByteArray) (a3 : ByteArray) (a4 : Int) {r : NettingFlow × Bool} (h : (f37 a1 a2 a3 a4) = some r) : CallS Try.prog false 37 [(jA Key_.cells a1), (jS a2), (jS a3), (jI a4)] [] (.tup [(jA NettingFlow.cells r.1), (jB r.2)]) [] := by
  unfold f37 at h
  obtain ⟨o, ho, h⟩ := bind_cases h
  cases o with
  | ret v7 =>
    obtain rfl := some_inj h
    exact CallS.plain cfg_ok (f := Try.f37) (c := c37) (by kernel_rfl) (by kernel_rfl) (by kernel_rfl) (by kernel_rfl) ((f37n0_ok a1 a2 a3 a4 ho).mono fun r e => by subst e; exact ⟨.inl rfl, (.tup [(jA NettingFlow.cells v7), (.pl (.bool (!(decide (a4 = 0)))))]), (.tup [(jA NettingFlow.cells v7), (.pl (.bool (!(decide (a4 = 0)))))]), by kernel_rfl, by kernel_rfl, ((Wk.refl _) : Wk (.tup [(jA NettingFlow.cells v7), (.pl (.bool (!(decide (a4 = 0)))))]) (.tup [(jA NettingFlow.cells v7), (.pl (.bool (!(decide (a4 = 0)))))]))⟩)

noncomputable def c62 : Code := Try.f62.body.getD .skip
inductive f62n0O where
  | ret
def f62n0E (a1 : Int) : f62n0O → Ex × Tr × Hp
  | .ret => (.ret, mkS [(2, (.pl (.bool (!(decide (a1 = a1))))))], [])
def f62n0S (a1 : Int) : Tr × Hp := (initS [(jI a1)] 0 .leaf, [])
noncomputable def f62n0 (a1 : Int) : Option f62n0O :=
  some .ret
theorem f62n0_ok (a1 : Int) {o : f62n0O} (h : (f62n0 a1) = some o) : T Try.prog Try.f62.ntmps 0 c62 (f62n0S a1) (fun r => r = f62n0E a1 o) := by
  unfold f62n0 at h
  obtain rfl := some_inj h
  exact rE cfg_ok [j3, j3] [] [] [] [2] (.ret, (f62n0E a1 .ret).2) an rfl
noncomputable def f62 (a1 : Int) : Option Bool := (f62n0 a1).bind fun o => match o with
  | .ret => some (!(decide (a1 = a1)))
theorem f62_ok (a1 : Int) {r : Bool} (h : (f62 a1) = some r) : CallS Try.prog false 62 [(jI a1)] [] (jB r) [] := by
  unfold f62 at h
  obtain ⟨o, ho, h⟩ := bind_cases h
  cases o with
  | ret =>
    obtain rfl := some_inj h
    exact CallS.plain cfg_ok (f := Try.f62) (c := c62) (by kernel_rfl) (by kernel_rfl) (by kernel_rfl) (by kernel_rfl) ((f62n0_ok a1 ho).mono fun r e => by subst e; exact ⟨.inl rfl, (.pl (.bool (!(decide (a1 = a1))))), (.pl (.bool (!(decide (a1 = a1))))), by kernel_rfl, by kernel_rfl, ((Wk.refl _) : Wk (.pl (.bool (!(decide (a1 = a1))))) (.pl (.bool (!(decide (a1 = a1))))))⟩)

noncomputable def c41 : Code := Try.f41.body.getD .skip
inductive f41n0O where
  | ret (v21 : Int)
def f41n0E (a1 : Int) (a2 : Int) : f41n0O → Ex × Tr × Hp
  | .ret v21 => (.ret, mkS [(4, (jI v21))], [])
def f41n0S (a1 : Int) (a2 : Int) : Tr × Hp := (initS [(jI a1), (jI a2)] 0 .leaf, [])
noncomputable def f41n0 (a1 : Int) (a2 : Int) : Option f41n0O :=
  (f62 a1).bind fun x5 =>
  (f62 a2).bind fun x9 =>
  bif x5 then
    bif x9 then
      some (.ret 0)
    else
      some (.ret (-1))
  else
    bif x9 then
      some (.ret 1)
    else
      bif (decide (a1 < a2)) then
        some (.ret (-1))
      else
        bif (decide (a2 < a1)) then
          some (.ret 1)
        else
          some (.ret 0)
theorem f41n0_ok (a1 : Int) (a2 : Int) {o : f41n0O} (h : (f41n0 a1 a2) = some o) : T Try.prog Try.f41.ntmps 0 c41 (f41n0S a1 a2) (fun r => r = f41n0E a1 a2 o) := by
  unfold f41n0 at h
  obtain ⟨x5, h6, h⟩ := bind_cases h
  obtain ⟨x9, h10, h⟩ := bind_cases h
  rcases cond_cases h with ⟨h13, h⟩ | ⟨h13, h⟩
  · rcases cond_cases h with ⟨h14, h⟩ | ⟨h14, h⟩
    · obtain rfl := some_inj h
      exact rK cfg_ok 4 [j3, ([], [jH 1 (jB x5)], []), ([], [jH 1 (jB x9)], []), j3, j3, j3] [some true, some true] [] [] [4] .ret ((f41n0E a1 a2 (.ret 0)).2) (ap (f62_ok a1 h6) (ap (f62_ok a2 h10) (ap h13 (ap h14 an)))) rfl
    · obtain rfl := some_inj h
      exact rK cfg_ok 4 [j3, ([], [jH 1 (jB x5)], []), ([], [jH 1 (jB x9)], []), j3, j3, j3] [some true, some false] [] [] [4] .ret ((f41n0E a1 a2 (.ret (-1))).2) (ap (f62_ok a1 h6) (ap (f62_ok a2 h10) (ap h13 (ap h14 an)))) rfl
  · rcases cond_cases h with ⟨h16, h⟩ | ⟨h16, h⟩
    · obtain rfl := some_inj h
      exact rK cfg_ok 5 [j3, ([], [jH 1 (jB x5)], []), ([], [jH 1 (jB x9)], []), j3, j3, j3] [some false, some true] [] [] [4] .ret ((f41n0E a1 a2 (.ret 1)).2) (ap (f62_ok a1 h6) (ap (f62_ok a2 h10) (ap h13 (ap h16 an)))) rfl
    · rcases cond_cases h with ⟨h18, h⟩ | ⟨h18, h⟩
      · obtain rfl := some_inj h
        exact rK cfg_ok 6 [j3, ([], [jH 1 (jB x5)], []), ([], [jH 1 (jB x9)], []), j3, j3, j3, j3] [some false, some false, some true] [] [] [4] .ret ((f41n0E a1 a2 (.ret (-1))).2) (ap (f62_ok a1 h6) (ap (f62_ok a2 h10) (ap h13 (ap h16 (ap h18 an))))) rfl
      · rcases cond_cases h with ⟨h20, h⟩ | ⟨h20, h⟩
        · obtain rfl := some_inj h
          exact rK cfg_ok 7 [j3, ([], [jH 1 (jB x5)], []), ([], [jH 1 (jB x9)], []), j3, j3, j3, j3, j3] [some false, some false, some false, some true] [] [] [4] .ret ((f41n0E a1 a2 (.ret 1)).2) (ap (f62_ok a1 h6) (ap (f62_ok a2 h10) (ap h13 (ap h16 (ap h18 (ap h20 an)))))) rfl
        · obtain rfl := some_inj h
          exact rE cfg_ok [j3, ([], [jH 1 (jB x5)], []), ([], [jH 1 (jB x9)], []), j3, j3, j3, j3, j3] [some false, some false, some false, some false] [] [] [4] (.ret, (f41n0E a1 a2 (.ret 0)).2) (ap (f62_ok a1 h6) (ap (f62_ok a2 h10) (ap h13 (ap h16 (ap h18 (ap h20 an)))))) rfl
noncomputable def f41 (a1 : Int) (a2 : Int) : Option Int := (f41n0 a1 a2).bind fun o => match o with
  | .ret v21 => some v21
theorem f41_ok (a1 : Int) (a2 : Int) {r : Int} (h : (f41 a1 a2) = some r) : CallS Try.prog false 41 [(jI a1), (jI a2)] [] (jI r) [] := by
  unfold f41 at h
  obtain ⟨o, ho, h⟩ := bind_cases h
  cases o with
  | ret v21 =>
    obtain rfl := some_inj h
    exact CallS.plain cfg_ok (f := Try.f41) (c := c41) (by kernel_rfl) (by kernel_rfl) (by kernel_rfl) (by kernel_rfl) ((f41n0_ok a1 a2 ho).mono fun r e => by subst e; exact ⟨.inl rfl, (jI v21), (jI v21), by kernel_rfl, by kernel_rfl, ((Wk.refl _) : Wk (jI v21) (jI v21))⟩)

noncomputable def c40 : Code := Try.f40.body.getD .skip
inductive f40n2O where
  | exit0
  | ret (v28 : Int)
def f40n2E (bj1 : List Int) : f40n2O → Ex × Tr × Hp
  | .exit0 => ((.exit 0), mkS [(3, (jI 0))], [])
  | .ret v28 => (.ret, mkS [(2, (jI v28))], [])
def f40n2S (bj1 : List Int) (v19 : Int) : Tr × Hp := (mkS [(3, (jI 0)), (6, (.pl (.sl .any 1 (bj1.map (cInt .i64))))), (7, (jI (bj1.length : Int))), (8, (jI v19))], [])
noncomputable def f40n2 : Nat → List Int → Int → Option f40n2O
  | 0, _, _ => none
  | f + 1, bj1, v19 =>
    bif (decide (v19 < (bj1.length : Int))) then
      (at? bj1 v19).bind fun x25 =>
      bif (decide (x25 = 0)) then
        (f40n2 f bj1 (wr64 (v19 + 1)))
      else
        some (.ret x25)
    else
      some .exit0
theorem f40n2_ok : ∀ (f : Nat) (bj1 : List Int) (v19 : Int) {o : f40n2O}, (f40n2 f bj1 v19) = some o → TL Try.prog Try.f40.ntmps 0 f (cL (cL (dropC 1 (cL (dropC 2 c40))))) (f40n2S bj1 v19) (fun r => r = f40n2E bj1 o)
  | 0, _, _, o, h => by rw [f40n2] at h; cases h
  | f + 1, bj1, v19, o, h => by
    rw [f40n2] at h
    refine TL.body (K := fun s => ∃ v19 : Int, s = (f40n2S bj1 v19) ∧ (f40n2 f bj1 v19) = some o) ?_ (by rintro _ ⟨v19, rfl, hk⟩; exact f40n2_ok f _ _ hk)
    rcases cond_cases h with ⟨h21, h⟩ | ⟨h21, h⟩
    · obtain ⟨x25, h26, h⟩ := bind_cases h
      rcases cond_cases h with ⟨h27, h⟩ | ⟨h27, h⟩
      · exact rE cfg_ok [j3, ([], [(0, .idx (Int.toNat v19) ((cInt .i64) x25))], []), j3, j3] [some true, some false] [] [] [3, 6, 7, 8] (.norm, (f40n2S bj1 (wr64 (v19 + 1)))) (ap h21 (ap (at_some h26).1 (ap (at_map (cInt .i64) (at_some h26).2) (ap (not_t h27) an)))) (LoopQ.norm ⟨(wr64 (v19 + 1)), rfl, h⟩)
      · obtain rfl := some_inj h
        exact rK cfg_ok 3 [j3, ([], [(0, .idx (Int.toNat v19) ((cInt .i64) x25))], []), j3, j3] [some true, some true] [] [] [2] .ret ((f40n2E bj1 (.ret x25)).2) (ap h21 (ap (at_some h26).1 (ap (at_map (cInt .i64) (at_some h26).2) (ap (not_f h27) an)))) (LoopQ.out rfl rfl)
    · obtain rfl := some_inj h
      exact rK cfg_ok 2 [j3] [some false] [] [] [3] (.exit 0) ((f40n2E bj1 .exit0).2) (ap h21 an) (LoopQ.out rfl rfl)
noncomputable def f40n2L (bj1 : List Int) : List Int → Int → Option f40n2O
  | [], v19 =>
    some .exit0
  | x0 :: rest, v19 =>
    bif (decide (x0 = 0)) then
      (f40n2L bj1 rest (v19 + 1))
    else
      some (.ret x0)
theorem f40n2L_eq (bj1 : List Int) : ∀ (rest : List Int) (f k : Nat), bj1.drop k = rest → bj1.length ≤ maxLen → rest.length < f → f40n2 f bj1 (k : Int) = f40n2L bj1 rest (k : Int)
  | _, 0, _, _, _, hf => absurd hf (Nat.not_lt_zero _)
  | [], f + 1, k, hd, hm, hf => by
    have hk : ¬ ((k : Int) < (bj1.length : Int)) := by have := drop_nil hd; omega
    rw [f40n2, f40n2L]
    simp only [decide_eq_false hk, cond_false]
  | x0 :: rest, f + 1, k, hd, hm, hf => by
    obtain ⟨hx, hlt, hd'⟩ := drop_cons hd
    have hk : (k : Int) < (bj1.length : Int) := by omega
    have hw : wr64 ((k : Int) + 1) = (k : Int) + 1 := wr64_of (by omega) (by unfold maxLen at hm; omega)
    have ih : f40n2 f bj1 ((k : Int) + 1) = f40n2L bj1 rest ((k : Int) + 1) := f40n2L_eq bj1 rest f (k + 1) hd' hm (by simpa using hf)
    rw [f40n2, f40n2L]
    simp only [decide_eq_true hk, cond_true, at_nat, hx, Option.bind_some, hw, ih]
theorem f40n2_run (bj1 : List Int) (hm : bj1.length ≤ maxLen) : f40n2 FUEL bj1 0 = f40n2L bj1 bj1 0 := f40n2L_eq bj1 bj1 FUEL 0 List.drop_zero hm (lt_FUEL hm)
inductive f40n1O where
  | norm
  | ret (v32 : Int)
def f40n1E (bj1 : List Int) : f40n1O → Ex × Tr × Hp
  | .norm => (.norm, mkS [(3, (jI 0))], [])
  | .ret v32 => (.ret, mkS [(2, (jI v32))], [])
def f40n1S (bj1 : List Int) : Tr × Hp := (mkS [(0, (.pl (.sl .any 1 (bj1.map (cInt .i64))))), (3, (jI 0))], [])
noncomputable def f40n1 (bj1 : List Int) : Option f40n1O :=
  (f40n2 FUEL bj1 0).bind fun o29 => match o29 with
  | .exit0 => some .norm
  | .ret v31 => some (.ret v31)
theorem f40n1_ok (bj1 : List Int) {o : f40n1O} (h : (f40n1 bj1) = some o) : T Try.prog Try.f40.ntmps 0 (cL (dropC 2 c40)) (f40n1S bj1) (fun r => r = f40n1E bj1 o) := by
  unfold f40n1 at h
  refine rN cfg_ok 1 [([], [], [(1, .val (jI (bj1.length : Int)))])] [] [] [] [3, 6, 7, 8] (f40n2S bj1 0) (ap (len_cv (xs := bj1) (c := (cInt .i64))) an) ?_
  obtain ⟨o29, h30, h⟩ := bind_cases h
  cases o29 with
  | exit0 =>
    obtain rfl := some_inj h
    exact T.last' (T.bl (i := 0) (by kernel_rfl) (by kernel_rfl) (f40n2_ok FUEL bj1 0 h30)) (tds := []) (m := []) (keep := [3]) (st2 := (f40n1E bj1 .norm).2) (by kernel_rfl) an rfl
  | ret v31 =>
    obtain rfl := some_inj h
    exact T.last' (T.bl (i := 0) (by kernel_rfl) (by kernel_rfl) (f40n2_ok FUEL bj1 0 h30)) (tds := []) (m := []) (keep := [2]) (st2 := (f40n1E bj1 (.ret v31)).2) (by kernel_rfl) an rfl
inductive f40n0O where
  | ret (v36 : Int)
def f40n0E (a1 : List Int) : f40n0O → Ex × Tr × Hp
  | .ret v36 => (.ret, mkS [(2, (jI v36))], [])
def f40n0S (a1 : List Int) : Tr × Hp := (initS [(.pl (.sl .any 1 (a1.map (cInt .i64))))] 0 .leaf, [])
noncomputable def f40n0 (a1 : List Int) : Option f40n0O :=
  (f40n1 a1).bind fun o33 => match o33 with
  | .norm => some (.ret 0)
  | .ret v35 => some (.ret v35)
theorem f40n0_ok (a1 : List Int) {o : f40n0O} (h : (f40n0 a1) = some o) : T Try.prog Try.f40.ntmps 0 c40 (f40n0S a1) (fun r => r = f40n0E a1 o) := by
  unfold f40n0 at h
  refine rN cfg_ok 2 [j3, j3] [] [] [] [0, 3] (f40n1S a1) an ?_
  obtain ⟨o33, h34, h⟩ := bind_cases h
  cases o33 with
  | norm =>
    refine T.oneN (by kernel_rfl) (f40n1_ok a1 h34) (st2 := (f40n1E a1 .norm).2) rfl ?_
    obtain rfl := some_inj h
    exact rE cfg_ok [j3] [] [] [] [2] (.ret, (f40n0E a1 (.ret 0)).2) an rfl
  | ret v35 =>
    obtain rfl := some_inj h
    exact T.oneX' (by kernel_rfl) (f40n1_ok a1 h34) (tds := []) (m := []) (keep := [2]) (st2 := (f40n0E a1 (.ret v35)).2) (by kernel_rfl) an rfl rfl
noncomputable def f40 (a1 : List Int) : Option Int := (f40n0 a1).bind fun o => match o with
  | .ret v36 => some v36
theorem f40_ok (a1 : List Int) {r : Int} (h : (f40 a1) = some r) : CallS Try.prog false 40 [(.pl (.sl .any 1 (a1.map (cInt .i64))))] [] (jI r) [] := by
  unfold f40 at h
  obtain ⟨o, ho, h⟩ := bind_cases h
  cases o with
  | ret v36 =>
    obtain rfl := some_inj h
    exact CallS.plain cfg_ok (f := Try.f40) (c := c40) (by kernel_rfl) (by kernel_rfl) (by kernel_rfl) (by kernel_rfl) ((f40n0_ok a1 ho).mono fun r e => by subst e; exact ⟨.inl rfl, (jI v36), (jI v36), by kernel_rfl, by kernel_rfl, ((Wk.refl _) : Wk (jI v36) (jI v36))⟩)


end Go.Proofs.Ytkcafackfihmiaa
namespace Go.Proofs.Ytkcafackfihmiaa
set_option linter.unusedVariables false
set_option linter.unusedSimpArgs false
set_option maxRecDepth 100000
open Go.RowKit








end Go.Proofs.Ytkcafackfihmiaa
namespace Go.Proofs.Ytkcafackfihmiaa
set_option linter.unusedVariables false
set_option linter.unusedSimpArgs false
set_option maxRecDepth 100000
open Go.RowKit
noncomputable def c3 : Code := Try.f3.body.getD .skip

noncomputable def c39 : Code := Try.f39.body.getD .skip
inductive f39n0O where
  | ret (v19 : Int)
def f39n0E (a1 : Share_) (a2 : Share_) : f39n0O → Ex × Tr × Hp
  | .ret v19 => (.ret, mkS [(4, (jI v19))], [])
def f39n0S (a1 : Share_) (a2 : Share_) : Tr × Hp := (initS [(jA Share_.cells a1), (jA Share_.cells a2)] 0 .leaf, [])
noncomputable def f39n0 (a1 : Share_) (a2 : Share_) : Option f39n0O :=
  (f41 a1.flow.Date a2.flow.Date).bind fun x11 =>
  (f42 a1.flow.Ccy a2.flow.Ccy).bind fun x13 =>
  (f42 a1.party a2.party).bind fun x15 =>
  (f40 [x11, x13, x15]).bind fun x17 =>
  some (.ret x17)
theorem f39n0_ok (a1 : Share_) (a2 : Share_) {o : f39n0O} (h : (f39n0 a1 a2) = some o) : T Try.prog Try.f39.ntmps 0 c39 (f39n0S a1 a2) (fun r => r = f39n0E a1 a2 o) := by
  unfold f39n0 at h
  obtain ⟨x11, h12, h⟩ := bind_cases h
  obtain ⟨x13, h14, h⟩ := bind_cases h
  obtain ⟨x15, h16, h⟩ := bind_cases h
  obtain ⟨x17, h18, h⟩ := bind_cases h
  obtain rfl := some_inj h
  exact rE cfg_ok [j3, ([], [jH 6 (jI x11), jH 13 (jI x13), jH 18 (jI x15), jH 20 (jI x17)], [])] [] [] [] [4] (.ret, (f39n0E a1 a2 (.ret x17)).2) (ap (same_val (e := ⟨false, 42, [(jS a1.flow.Ccy), (jS a2.flow.Ccy)], [], (jI x13), []⟩) (f := ⟨false, 42, [(jS a1.party), (jS a2.party)], [], (jI x15), []⟩) (fun k => by simp only [jL, jS, jI, jB, jA, NettingSet.cells_eq, NettingSet.map_eq, NettingFlow.cells_eq, NettingFlow.map_eq, Key_.cells_eq, Key_.map_eq, List.cons.injEq, AV.pl.injEq, PV.str.injEq, PV.int.injEq, PV.bool.injEq, PV.agg.injEq, PV.sl.injEq, and_true, true_and] at k; have e0 : x13 = x15 := Option.some.inj (by rw [← h14, ← h16]; simp only [k]); exact ⟨by rw [e0], rfl⟩)) (ap (f41_ok a1.flow.Date a2.flow.Date h12) (ap (f42_ok a1.flow.Ccy a2.flow.Ccy h14) (ap (f42_ok a1.party a2.party h16) (ap (f40_ok [x11, x13, x15] h18) an))))) rfl
noncomputable def f39 (a1 : Share_) (a2 : Share_) : Option Int := (f39n0 a1 a2).bind fun o => match o with
  | .ret v19 => some v19
theorem f39_ok (a1 : Share_) (a2 : Share_) {r : Int} (h : (f39 a1 a2) = some r) : CallS Try.prog false 39 [(jA Share_.cells a1), (jA Share_.cells a2)] [] (jI r) [] := by
  unfold f39 at h
  obtain ⟨o, ho, h⟩ := bind_cases h
  cases o with
  | ret v19 =>
    obtain rfl := some_inj h
    exact CallS.plain cfg_ok (f := Try.f39) (c := c39) (by kernel_rfl) (by kernel_rfl) (by kernel_rfl) (by kernel_rfl) ((f39n0_ok a1 a2 ho).mono fun r e => by subst e; exact ⟨.inl rfl, (jI v19), (jI v19), by kernel_rfl, by kernel_rfl, ((Wk.refl _) : Wk (jI v19) (jI v19))⟩)

instance : Inhabited Share_ := ⟨(Share_.mk str_x (NettingFlow.mk 0 str_x str_x str_x str_x 0))⟩
def so38_39_good (xs : List Share_) : Prop := ∃ c : Share_ → Share_ → Int, (∀ x y, f39 x y = some (c x y)) ∧ Go.Sort.SWO (ltOf c) ∧ xs.length < 4611686018427387904
open Classical in
noncomputable def so38_39 (xs : List Share_) : Option (List Share_) := if h : so38_39_good xs then some (sortL h.choose xs) else none
theorem so38_39_val {xs : List Share_} {c : Share_ → Share_ → Int} (hc : ∀ x y, f39 x y = some (c x y)) (o : Go.Sort.SWO (ltOf c)) (hl : xs.length < 4611686018427387904) : so38_39 xs = some (sortL c xs) := by
  have h : so38_39_good xs := ⟨c, hc, o, hl⟩
  unfold so38_39
  rw [dif_pos h]
  have e : h.choose = c := funext fun x => funext fun y => Option.some.inj ((h.choose_spec.1 x y).symm.trans (hc x y))
  rw [e]
theorem so38_39_ok (xs : List Share_) {r : List Share_} (h : so38_39 xs = some r) :
    CallS Try.prog true 38 [.own 0, .pl (.fn 39)] [some (.row false 7 (xs.map Share_.cells))] (.tup []) [some (.row false 7 (r.map Share_.cells))] := by
  unfold so38_39 at h
  by_cases hc : so38_39_good xs
  · rw [dif_pos hc] at h
    obtain rfl := some_inj h
    have hs := hc.choose_spec
    exact sort_callS (cells := Share_.cells) so_lays rfl so_agg so_size (enters_of Try.func38 (by kernel_rfl) rfl) (fun _ => rfl) (fun x q hq => by
      simp only [Share_.cells, List.mem_cons, List.not_mem_nil, or_false] at hq
      rcases hq with rfl | rfl | rfl | rfl | rfl | rfl | rfl <;> rfl) _ hs.2.1 (fun x y => f39_ok _ _ (hs.1 x y)) xs hs.2.2
  · rw [dif_neg hc] at h; cases h


noncomputable def c16 : Code := Try.f16.body.getD .skip
inductive f16n2O where
  | exit0 (v37 : List (Key_ × Int))
def f16n2E (bb1 : ByteArray) (bg2 : List NettingFlow) : f16n2O → Ex × Tr × Hp
  | .exit0 v37 => ((.exit 0), mkS [(0, (jS bb1)), (7, (.mp 0))], [some (.map (v37.map (mkv (pAgg Key_.cells) (pInt .i64))))])
def f16n2S (bb1 : ByteArray) (bg2 : List NettingFlow) (v29 : Int) (v30 : List (Key_ × Int)) : Tr × Hp := (mkS [(0, (jS bb1)), (7, (.mp 0)), (27, (jL 6 NettingFlow.cells bg2)), (28, (jI (bg2.length : Int))), (29, (jI v29))], [some (.map (v30.map (mkv (pAgg Key_.cells) (pInt .i64))))])
noncomputable def f16n2 : Nat → ByteArray → List NettingFlow → Int → List (Key_ × Int) → Option f16n2O
  | 0, _, _, _, _ => none
  | f + 1, bb1, bg2, v29, v30 =>
    bif (decide (v29 < (bg2.length : Int))) then
      (at? bg2 v29).bind fun x35 =>
      (f16n2 f bb1 bg2 (wr64 (v29 + 1)) (mPut Key_.eqb (Key_.mk x35.Date x35.To x35.Ccy) (wr64 ((mGet Key_.eqb 0 (Key_.mk x35.Date x35.To x35.Ccy) (mPut Key_.eqb (Key_.mk x35.Date x35.From x35.Ccy) (wr64 ((mGet Key_.eqb 0 (Key_.mk x35.Date x35.From x35.Ccy) v30) - x35.Amount)) v30)) + x35.Amount)) (mPut Key_.eqb (Key_.mk x35.Date x35.From x35.Ccy) (wr64 ((mGet Key_.eqb 0 (Key_.mk x35.Date x35.From x35.Ccy) v30) - x35.Amount)) v30)))
    else
      some (.exit0 v30)
theorem f16n2_ok : ∀ (f : Nat) (bb1 : ByteArray) (bg2 : List NettingFlow) (v29 : Int) (v30 : List (Key_ × Int)) {o : f16n2O}, (f16n2 f bb1 bg2 v29 v30) = some o → TL Try.prog Try.f16.ntmps 0 f (cL (cL (dropC 1 (cL (dropC 4 c16))))) (f16n2S bb1 bg2 v29 v30) (fun r => r = f16n2E bb1 bg2 o)
  | 0, _, _, _, _, o, h => by rw [f16n2] at h; cases h
  | f + 1, bb1, bg2, v29, v30, o, h => by
    rw [f16n2] at h
    refine TL.body (K := fun s => ∃ v29 : Int, ∃ v30 : List (Key_ × Int), s = (f16n2S bb1 bg2 v29 v30) ∧ (f16n2 f bb1 bg2 v29 v30) = some o) ?_ (by rintro _ ⟨v29, v30, rfl, hk⟩; exact f16n2_ok f _ _ _ _ hk)
    rcases cond_cases h with ⟨h32, h⟩ | ⟨h32, h⟩
    · obtain ⟨x35, h36, h⟩ := bind_cases h
      exact rE cfg_ok [j3, ([], [(0, .idx (Int.toNat v29) (NettingFlow.cells x35))], []), ([], [(8, .look ((pInt .i64) (mGet Key_.eqb 0 (Key_.mk x35.Date x35.From x35.Ccy) v30)) (mHas Key_.eqb (Key_.mk x35.Date x35.From x35.Ccy) v30)), (12, .ment ((pInt .i64) (mGet Key_.eqb 0 (Key_.mk x35.Date x35.From x35.Ccy) v30)) (mIdx Key_.eqb (Key_.mk x35.Date x35.From x35.Ccy) v30) ((mEns Key_.eqb 0 (Key_.mk x35.Date x35.From x35.Ccy) v30).map (mkv (pAgg Key_.cells) (pInt .i64)))), (14, .mst (mIdx Key_.eqb (Key_.mk x35.Date x35.From x35.Ccy) v30) ((pAgg Key_.cells) (Key_.mk x35.Date x35.From x35.Ccy)) ((pInt .i64) (mGet Key_.eqb 0 (Key_.mk x35.Date x35.From x35.Ccy) v30)))], [(14, .map 0 ((mPut Key_.eqb (Key_.mk x35.Date x35.From x35.Ccy) (wr64 ((mGet Key_.eqb 0 (Key_.mk x35.Date x35.From x35.Ccy) v30) - x35.Amount)) v30).map (mkv (pAgg Key_.cells) (pInt .i64))))]), ([], [(8, .look ((pInt .i64) (mGet Key_.eqb 0 (Key_.mk x35.Date x35.To x35.Ccy) (mPut Key_.eqb (Key_.mk x35.Date x35.From x35.Ccy) (wr64 ((mGet Key_.eqb 0 (Key_.mk x35.Date x35.From x35.Ccy) v30) - x35.Amount)) v30))) (mHas Key_.eqb (Key_.mk x35.Date x35.To x35.Ccy) (mPut Key_.eqb (Key_.mk x35.Date x35.From x35.Ccy) (wr64 ((mGet Key_.eqb 0 (Key_.mk x35.Date x35.From x35.Ccy) v30) - x35.Amount)) v30))), (12, .ment ((pInt .i64) (mGet Key_.eqb 0 (Key_.mk x35.Date x35.To x35.Ccy) (mPut Key_.eqb (Key_.mk x35.Date x35.From x35.Ccy) (wr64 ((mGet Key_.eqb 0 (Key_.mk x35.Date x35.From x35.Ccy) v30) - x35.Amount)) v30))) (mIdx Key_.eqb (Key_.mk x35.Date x35.To x35.Ccy) (mPut Key_.eqb (Key_.mk x35.Date x35.From x35.Ccy) (wr64 ((mGet Key_.eqb 0 (Key_.mk x35.Date x35.From x35.Ccy) v30) - x35.Amount)) v30)) ((mEns Key_.eqb 0 (Key_.mk x35.Date x35.To x35.Ccy) (mPut Key_.eqb (Key_.mk x35.Date x35.From x35.Ccy) (wr64 ((mGet Key_.eqb 0 (Key_.mk x35.Date x35.From x35.Ccy) v30) - x35.Amount)) v30)).map (mkv (pAgg Key_.cells) (pInt .i64)))), (14, .mst (mIdx Key_.eqb (Key_.mk x35.Date x35.To x35.Ccy) (mPut Key_.eqb (Key_.mk x35.Date x35.From x35.Ccy) (wr64 ((mGet Key_.eqb 0 (Key_.mk x35.Date x35.From x35.Ccy) v30) - x35.Amount)) v30)) ((pAgg Key_.cells) (Key_.mk x35.Date x35.To x35.Ccy)) ((pInt .i64) (mGet Key_.eqb 0 (Key_.mk x35.Date x35.To x35.Ccy) (mPut Key_.eqb (Key_.mk x35.Date x35.From x35.Ccy) (wr64 ((mGet Key_.eqb 0 (Key_.mk x35.Date x35.From x35.Ccy) v30) - x35.Amount)) v30))))], [(14, .map 0 ((mPut Key_.eqb (Key_.mk x35.Date x35.To x35.Ccy) (wr64 ((mGet Key_.eqb 0 (Key_.mk x35.Date x35.To x35.Ccy) (mPut Key_.eqb (Key_.mk x35.Date x35.From x35.Ccy) (wr64 ((mGet Key_.eqb 0 (Key_.mk x35.Date x35.From x35.Ccy) v30) - x35.Amount)) v30)) + x35.Amount)) (mPut Key_.eqb (Key_.mk x35.Date x35.From x35.Ccy) (wr64 ((mGet Key_.eqb 0 (Key_.mk x35.Date x35.From x35.Ccy) v30) - x35.Amount)) v30)).map (mkv (pAgg Key_.cells) (pInt .i64))))]), j3] [some true] [] [0] [0, 7, 27, 28, 29] (.norm, (f16n2S bb1 bg2 (wr64 (v29 + 1)) (mPut Key_.eqb (Key_.mk x35.Date x35.To x35.Ccy) (wr64 ((mGet Key_.eqb 0 (Key_.mk x35.Date x35.To x35.Ccy) (mPut Key_.eqb (Key_.mk x35.Date x35.From x35.Ccy) (wr64 ((mGet Key_.eqb 0 (Key_.mk x35.Date x35.From x35.Ccy) v30) - x35.Amount)) v30)) + x35.Amount)) (mPut Key_.eqb (Key_.mk x35.Date x35.From x35.Ccy) (wr64 ((mGet Key_.eqb 0 (Key_.mk x35.Date x35.From x35.Ccy) v30) - x35.Amount)) v30)))) (ap h32 (ap (at_some h36).1 (ap (at_map NettingFlow.cells (at_some h36).2) (ap (look_map (vp := (pInt .i64)) (e := 3) key_62 0 (by kernel_rfl) (Key_.mk x35.Date x35.From x35.Ccy) v30) (ap (ment_map (vp := (pInt .i64)) (e := 3) key_62 0 (by kernel_rfl) (Key_.mk x35.Date x35.From x35.Ccy) v30) (ap (rfl : ((mIdx Key_.eqb (Key_.mk x35.Date x35.From x35.Ccy) v30) : Int) = (((mIdx Key_.eqb (Key_.mk x35.Date x35.From x35.Ccy) v30) : Nat) : Int)) (ap (mst_at (vp := (pInt .i64)) key_62 0 (Key_.mk x35.Date x35.From x35.Ccy) v30) (ap (mst_put (vp := (pInt .i64)) key_62 0 (wr64 ((mGet Key_.eqb 0 (Key_.mk x35.Date x35.From x35.Ccy) v30) - x35.Amount)) (Key_.mk x35.Date x35.From x35.Ccy) v30) (ap (look_map (vp := (pInt .i64)) (e := 3) key_62 0 (by kernel_rfl) (Key_.mk x35.Date x35.To x35.Ccy) (mPut Key_.eqb (Key_.mk x35.Date x35.From x35.Ccy) (wr64 ((mGet Key_.eqb 0 (Key_.mk x35.Date x35.From x35.Ccy) v30) - x35.Amount)) v30)) (ap (ment_map (vp := (pInt .i64)) (e := 3) key_62 0 (by kernel_rfl) (Key_.mk x35.Date x35.To x35.Ccy) (mPut Key_.eqb (Key_.mk x35.Date x35.From x35.Ccy) (wr64 ((mGet Key_.eqb 0 (Key_.mk x35.Date x35.From x35.Ccy) v30) - x35.Amount)) v30)) (ap (rfl : ((mIdx Key_.eqb (Key_.mk x35.Date x35.To x35.Ccy) (mPut Key_.eqb (Key_.mk x35.Date x35.From x35.Ccy) (wr64 ((mGet Key_.eqb 0 (Key_.mk x35.Date x35.From x35.Ccy) v30) - x35.Amount)) v30)) : Int) = (((mIdx Key_.eqb (Key_.mk x35.Date x35.To x35.Ccy) (mPut Key_.eqb (Key_.mk x35.Date x35.From x35.Ccy) (wr64 ((mGet Key_.eqb 0 (Key_.mk x35.Date x35.From x35.Ccy) v30) - x35.Amount)) v30)) : Nat) : Int)) (ap (mst_at (vp := (pInt .i64)) key_62 0 (Key_.mk x35.Date x35.To x35.Ccy) (mPut Key_.eqb (Key_.mk x35.Date x35.From x35.Ccy) (wr64 ((mGet Key_.eqb 0 (Key_.mk x35.Date x35.From x35.Ccy) v30) - x35.Amount)) v30)) (ap (mst_put (vp := (pInt .i64)) key_62 0 (wr64 ((mGet Key_.eqb 0 (Key_.mk x35.Date x35.To x35.Ccy) (mPut Key_.eqb (Key_.mk x35.Date x35.From x35.Ccy) (wr64 ((mGet Key_.eqb 0 (Key_.mk x35.Date x35.From x35.Ccy) v30) - x35.Amount)) v30)) + x35.Amount)) (Key_.mk x35.Date x35.To x35.Ccy) (mPut Key_.eqb (Key_.mk x35.Date x35.From x35.Ccy) (wr64 ((mGet Key_.eqb 0 (Key_.mk x35.Date x35.From x35.Ccy) v30) - x35.Amount)) v30)) an))))))))))))) (LoopQ.norm ⟨(wr64 (v29 + 1)), (mPut Key_.eqb (Key_.mk x35.Date x35.To x35.Ccy) (wr64 ((mGet Key_.eqb 0 (Key_.mk x35.Date x35.To x35.Ccy) (mPut Key_.eqb (Key_.mk x35.Date x35.From x35.Ccy) (wr64 ((mGet Key_.eqb 0 (Key_.mk x35.Date x35.From x35.Ccy) v30) - x35.Amount)) v30)) + x35.Amount)) (mPut Key_.eqb (Key_.mk x35.Date x35.From x35.Ccy) (wr64 ((mGet Key_.eqb 0 (Key_.mk x35.Date x35.From x35.Ccy) v30) - x35.Amount)) v30)), rfl, h⟩)
    · obtain rfl := some_inj h
      exact rK cfg_ok 2 [j3] [some false] [] [0] [0, 7] (.exit 0) ((f16n2E bb1 bg2 (.exit0 v30)).2) (ap h32 an) (LoopQ.out rfl rfl)
noncomputable def f16n2L (bb1 : ByteArray) (bg2 : List NettingFlow) : List NettingFlow → Int → (List (Key_ × Int)) → Option f16n2O
  | [], v29, v30 =>
    some (.exit0 v30)
  | x0 :: rest, v29, v30 =>
    (f16n2L bb1 bg2 rest (v29 + 1) (mPut Key_.eqb (Key_.mk x0.Date x0.To x0.Ccy) (wr64 ((mGet Key_.eqb 0 (Key_.mk x0.Date x0.To x0.Ccy) (mPut Key_.eqb (Key_.mk x0.Date x0.From x0.Ccy) (wr64 ((mGet Key_.eqb 0 (Key_.mk x0.Date x0.From x0.Ccy) v30) - x0.Amount)) v30)) + x0.Amount)) (mPut Key_.eqb (Key_.mk x0.Date x0.From x0.Ccy) (wr64 ((mGet Key_.eqb 0 (Key_.mk x0.Date x0.From x0.Ccy) v30) - x0.Amount)) v30)))
theorem f16n2L_eq (bb1 : ByteArray) (bg2 : List NettingFlow) : ∀ (rest : List NettingFlow) (f k : Nat) (v30 : List (Key_ × Int)), bg2.drop k = rest → bg2.length ≤ maxLen → rest.length < f → f16n2 f bb1 bg2 (k : Int) v30 = f16n2L bb1 bg2 rest (k : Int) v30
  | _, 0, _, _, _, _, hf => absurd hf (Nat.not_lt_zero _)
  | [], f + 1, k, v30, hd, hm, hf => by
    have hk : ¬ ((k : Int) < (bg2.length : Int)) := by have := drop_nil hd; omega
    rw [f16n2, f16n2L]
    simp only [decide_eq_false hk, cond_false]
  | x0 :: rest, f + 1, k, v30, hd, hm, hf => by
    obtain ⟨hx, hlt, hd'⟩ := drop_cons hd
    have hk : (k : Int) < (bg2.length : Int) := by omega
    have hw : wr64 ((k : Int) + 1) = (k : Int) + 1 := wr64_of (by omega) (by unfold maxLen at hm; omega)
    have ih : ∀ (v30 : List (Key_ × Int)), f16n2 f bb1 bg2 ((k : Int) + 1) v30 = f16n2L bb1 bg2 rest ((k : Int) + 1) v30 := fun v30 => f16n2L_eq bb1 bg2 rest f (k + 1) v30 hd' hm (by simpa using hf)
    rw [f16n2, f16n2L]
    simp only [decide_eq_true hk, cond_true, at_nat, hx, Option.bind_some, hw, ih]
theorem f16n2_run (bb1 : ByteArray) (bg2 : List NettingFlow) (v30 : List (Key_ × Int)) (hm : bg2.length ≤ maxLen) : f16n2 FUEL bb1 bg2 0 v30 = f16n2L bb1 bg2 bg2 0 v30 := f16n2L_eq bb1 bg2 bg2 FUEL 0 v30 List.drop_zero hm (lt_FUEL hm)
inductive f16n1O where
  | norm (v41 : List (Key_ × Int))
def f16n1E (bb1 : ByteArray) (bg2 : List NettingFlow) : f16n1O → Ex × Tr × Hp
  | .norm v41 => (.norm, mkS [(0, (jS bb1)), (7, (.mp 0))], [some (.map (v41.map (mkv (pAgg Key_.cells) (pInt .i64))))])
def f16n1S (bb1 : ByteArray) (bg2 : List NettingFlow) : Tr × Hp := (mkS [(0, (jS bb1)), (1, (jL 6 NettingFlow.cells bg2)), (7, (.mp 0))], [some (.map ([].map (mkv (pAgg Key_.cells) (pInt .i64))))])
noncomputable def f16n1 (bb1 : ByteArray) (bg2 : List NettingFlow) : Option f16n1O :=
  (f16n2 FUEL bb1 bg2 0 []).bind fun o38 => match o38 with
  | .exit0 v40 => some (.norm v40)
theorem f16n1_ok (bb1 : ByteArray) (bg2 : List NettingFlow) {o : f16n1O} (h : (f16n1 bb1 bg2) = some o) : T Try.prog Try.f16.ntmps 0 (cL (dropC 4 c16)) (f16n1S bb1 bg2) (fun r => r = f16n1E bb1 bg2 o) := by
  unfold f16n1 at h
  refine rN cfg_ok 1 [([], [], [(1, .val (jI (bg2.length : Int)))])] [] [] [0] [0, 7, 27, 28, 29] (f16n2S bb1 bg2 0 []) (ap (len_cv (xs := bg2) (c := NettingFlow.cells)) an) ?_
  obtain ⟨o38, h39, h⟩ := bind_cases h
  cases o38 with
  | exit0 v40 =>
    obtain rfl := some_inj h
    exact T.last' (T.bl (i := 0) (by kernel_rfl) (by kernel_rfl) (f16n2_ok FUEL bb1 bg2 0 [] h39)) (tds := []) (m := [0]) (keep := [0, 7]) (st2 := (f16n1E bb1 bg2 (.norm v40)).2) (by kernel_rfl) an rfl
inductive f16n4O where
  | exit2 (v90 : List Share_)
  | ret
def f16n4E (bb1 : ByteArray) (bi2 : List (Key_ × Int)) : f16n4O → Ex × Tr × Hp
  | .exit2 v90 => ((.exit 2), mkS [(10, (.own 0))], [jR 7 Share_.cells v90])
  | .ret => (.ret, mkS [(4, (.pl (.sl .nil 0 []))), (5, (jI 14))], [])
def f16n4S (bb1 : ByteArray) (bi2 : List (Key_ × Int)) (v74 : List Share_) (sn0 : List Nat) : Tr × Hp := (mkS [(0, (jS bb1)), (10, (.own 0)), (63, (.it 1))], [jR 7 Share_.cells v74, some (.iter 2 (bi2.map (mkv (pAgg Key_.cells) (pInt .i64))).length sn0), some (.map (bi2.map (mkv (pAgg Key_.cells) (pInt .i64))))])
noncomputable def f16n4 (bb1 : ByteArray) (bi2 : List (Key_ × Int)) : List (Key_ × Int) → (List Share_) → Option f16n4O
  | [], v74 =>
    some (.exit2 v74)
  | x76 :: rest, v74 =>
    bif (seq x76.1.set bb1) then
      (f16n4 bb1 bi2 rest v74)
    else
      bif (decide (1125899906842624 < (mxI x76.2 (wr64 (0 - x76.2))))) then
        some .ret
      else
        (f37 (Key_.mk x76.1.date str_x x76.1.ccy) bb1 x76.1.set x76.2).bind fun x86 =>
        bif x86.2 then
          req (fit (v74.length + 1) 96) <|
          (f16n4 bb1 bi2 rest (v74 ++ [(Share_.mk x76.1.set x86.1)]))
        else
          (f16n4 bb1 bi2 rest v74)
theorem f16n4_ok (bb1 : ByteArray) (bi2 : List (Key_ × Int)) : ∀ (f : Nat) (sn0 rem : List Nat) (v74 : List Share_) {Q : f16n4O → Prop}, Rem bi2.length sn0 rem → rem.length < f → (∀ p, p.Perm rem → ∃ o, f16n4 bb1 bi2 (ords bi2 p) v74 = some o ∧ Q o) → TL Try.prog Try.f16.ntmps 0 f (cL (cL (dropC 1 (cL (dropC 1 (dropC 1 (dropC 4 c16))))))) (f16n4S bb1 bi2 v74 sn0) (fun r => ∃ o, Q o ∧ r = f16n4E bb1 bi2 o)
  | 0, _, _, _, _, _, hf, _ => absurd hf (Nat.not_lt_zero _)
  | f + 1, sn0, rem, v74, Q, hR, hf, H => by
    refine TL.bodyQ (K := fun s => ∃ (sn0 rem : List Nat) (v74 : List Share_), s = f16n4S bb1 bi2 v74 sn0 ∧ Rem bi2.length sn0 rem ∧ rem.length < f ∧ (∀ p, p.Perm rem → ∃ o, f16n4 bb1 bi2 (ords bi2 p) v74 = some o ∧ Q o)) ?_ (by rintro _ ⟨sn0, rem, v74, rfl, h1, h2, h3⟩; exact f16n4_ok bb1 bi2 f sn0 rem v74 h1 h2 h3)
    refine T.oneNext cfg_ok (x := .tmp 63) (t := 64) (tb := 65) (i := 1) (o := 2) (m := (bi2.map (mkv (pAgg Key_.cells) (pInt .i64))).length) (seen := sn0) (kvs := (bi2.map (mkv (pAgg Key_.cells) (pInt .i64)))) (by kernel_rfl) (by kernel_rfl) (by kernel_rfl) (by kernel_rfl) (by kernel_rfl) (by kernel_rfl) rfl (fun hs => ?_) (fun j75 k v hj hs hx => ?_)
    · obtain rfl := hR.none (by simpa using hs)
      obtain ⟨o, h0, hq⟩ := H [] (List.Perm.refl _)
      have h : f16n4 bb1 bi2 [] v74 = some o := h0
      rw [f16n4] at h
      obtain rfl := some_inj h
      exact rK cfg_ok 1 [] [none] [] [0] [10] (.exit 2) ((f16n4E bb1 bi2 (.exit2 v74)).2) an (LoopQ2.out ⟨_, hq, rfl⟩ rfl)
    · obtain ⟨x76, h77, rfl, rfl⟩ := mkv_at hx
      obtain ⟨hR2, hlen, hP⟩ := hR.step (j := j75) (by simpa using hj) hs
      have H2 : ∀ p, p.Perm (rem.erase j75) → ∃ o, f16n4 bb1 bi2 (x76 :: ords bi2 p) v74 = some o ∧ Q o := fun p hp => by obtain ⟨o, h, hq⟩ := H _ (hP p hp); rw [ords_cons h77] at h; exact ⟨o, h, hq⟩
      obtain ⟨o, h, hq⟩ := H2 _ (List.Perm.refl _)
      rw [f16n4] at h
      rcases cond_cases h with ⟨h84, h⟩ | ⟨h84, h⟩
      · exact rE cfg_ok [([], [(0, .entr j75 ((pAgg Key_.cells) x76.1) ((pInt .i64) x76.2))], []), j3] [none, some true] [] [0, 1, 2] [0, 10, 63] (.norm, (f16n4S bb1 bi2 v74 (sn0 ++ [j75]))) (ap (last_app (seen := sn0) (j := j75)) (ap (rfl : (bi2.map (mkv (pAgg Key_.cells) (pInt .i64))).length = (bi2.map (mkv (pAgg Key_.cells) (pInt .i64))).length) (ap (at_mkv (kp := (pAgg Key_.cells)) (vp := (pInt .i64)) h77) (ap h84 an)))) (LoopQ2.norm ⟨sn0 ++ [j75], rem.erase j75, v74, rfl, hR2, by omega, fun p hp => by obtain ⟨o, h, hq⟩ := H2 p hp; refine ⟨o, ?_, hq⟩; rw [f16n4] at h; simp only [h84, cond_true, cond_false, Option.bind_some, req] at h; exact h⟩)
      · rcases cond_cases h with ⟨h85, h⟩ | ⟨h85, h⟩
        · obtain rfl := some_inj h
          exact rE cfg_ok [([], [(0, .entr j75 ((pAgg Key_.cells) x76.1) ((pInt .i64) x76.2))], []), j3, j3, j3] [none, some false, some true] [] [] [4, 5] (.ret, (f16n4E bb1 bi2 .ret).2) (ap (last_app (seen := sn0) (j := j75)) (ap (rfl : (bi2.map (mkv (pAgg Key_.cells) (pInt .i64))).length = (bi2.map (mkv (pAgg Key_.cells) (pInt .i64))).length) (ap (at_mkv (kp := (pAgg Key_.cells)) (vp := (pInt .i64)) h77) (ap h84 (ap h85 an))))) (LoopQ2.out ⟨_, hq, rfl⟩ rfl)
        · obtain ⟨x86, h87, h⟩ := bind_cases h
          rcases cond_cases h with ⟨h88, h⟩ | ⟨h88, h⟩
          · obtain ⟨h89, h⟩ := req_cases h
            exact rE cfg_ok [([], [(0, .entr j75 ((pAgg Key_.cells) x76.1) ((pInt .i64) x76.2))], []), j3, j3, ([], [jH 9 (.tup [(jA NettingFlow.cells x86.1), (jB x86.2)])], []), j3, ([], [(6, .fits)], [(6, .row 6 ((v74 ++ [(Share_.mk x76.1.set x86.1)]).map Share_.cells))])] [none, some false, some false, some true] [] [6, 1, 2] [0, 10, 63] (.norm, (f16n4S bb1 bi2 (v74 ++ [(Share_.mk x76.1.set x86.1)]) (sn0 ++ [j75]))) (ap (last_app (seen := sn0) (j := j75)) (ap (rfl : (bi2.map (mkv (pAgg Key_.cells) (pInt .i64))).length = (bi2.map (mkv (pAgg Key_.cells) (pInt .i64))).length) (ap (at_mkv (kp := (pAgg Key_.cells)) (vp := (pInt .i64)) h77) (ap h84 (ap h85 (ap (f37_ok (Key_.mk x76.1.date str_x x76.1.ccy) bb1 x76.1.set x76.2 h87) (ap h88 (ap (fit_map (te := ti71) (xs := v74) (n := 1) (c := Share_.cells) h89 rfl) (ap (app_cv (xs := v74) (ys := [(Share_.mk x76.1.set x86.1)]) (c := Share_.cells)) an))))))))) (LoopQ2.norm ⟨sn0 ++ [j75], rem.erase j75, (v74 ++ [(Share_.mk x76.1.set x86.1)]), rfl, hR2, by omega, fun p hp => by obtain ⟨o, h, hq⟩ := H2 p hp; refine ⟨o, ?_, hq⟩; rw [f16n4] at h; simp only [h84, h85, h87, h88, h89, cond_true, cond_false, Option.bind_some, req] at h; exact h⟩)
          · exact rE cfg_ok [([], [(0, .entr j75 ((pAgg Key_.cells) x76.1) ((pInt .i64) x76.2))], []), j3, j3, ([], [jH 9 (.tup [(jA NettingFlow.cells x86.1), (jB x86.2)])], []), j3] [none, some false, some false, some false] [] [0, 1, 2] [0, 10, 63] (.norm, (f16n4S bb1 bi2 v74 (sn0 ++ [j75]))) (ap (last_app (seen := sn0) (j := j75)) (ap (rfl : (bi2.map (mkv (pAgg Key_.cells) (pInt .i64))).length = (bi2.map (mkv (pAgg Key_.cells) (pInt .i64))).length) (ap (at_mkv (kp := (pAgg Key_.cells)) (vp := (pInt .i64)) h77) (ap h84 (ap h85 (ap (f37_ok (Key_.mk x76.1.date str_x x76.1.ccy) bb1 x76.1.set x76.2 h87) (ap h88 an))))))) (LoopQ2.norm ⟨sn0 ++ [j75], rem.erase j75, v74, rfl, hR2, by omega, fun p hp => by obtain ⟨o, h, hq⟩ := H2 p hp; refine ⟨o, ?_, hq⟩; rw [f16n4] at h; simp only [h84, h85, h87, h88, cond_true, cond_false, Option.bind_some, req] at h; exact h⟩)
inductive f16n3O where
  | norm (v94 : List Share_)
  | ret
def f16n3E (bb1 : ByteArray) (bi2 : List (Key_ × Int)) : f16n3O → Ex × Tr × Hp
  | .norm v94 => (.norm, mkS [(10, (.own 0))], [jR 7 Share_.cells v94])
  | .ret => (.ret, mkS [(4, (.pl (.sl .nil 0 []))), (5, (jI 14))], [])
def f16n3S (bb1 : ByteArray) (bi2 : List (Key_ × Int)) : Tr × Hp := (mkS [(0, (jS bb1)), (7, (.mp 0)), (10, (.pl (.sl .nil 0 [])))], [some (.map (bi2.map (mkv (pAgg Key_.cells) (pInt .i64))))])
noncomputable def f16n3 (bb1 : ByteArray) (bi2 : List (Key_ × Int)) (p : List (Key_ × Int)) : Option f16n3O :=
  (f16n4 bb1 bi2 p []).bind fun o91 => match o91 with
  | .exit2 v93 => some (.norm v93)
  | .ret => some .ret
theorem f16n3_ok (bb1 : ByteArray) (bi2 : List (Key_ × Int)) {Q : f16n3O → Prop} (H : ∀ p, p.Perm bi2 → ∃ o, f16n3 bb1 bi2 p = some o ∧ Q o) : T Try.prog Try.f16.ntmps 0 (cL (dropC 1 (dropC 1 (dropC 4 c16)))) (f16n3S bb1 bi2) (fun r => ∃ o, Q o ∧ r = f16n3E bb1 bi2 o) := by
  refine rN cfg_ok 1 [j3] [] [.mat 10 7] [2, 1, 0] [0, 10, 63] (f16n4S bb1 bi2 [] []) an ?_
  refine T.lastQ (T.blQ (i := 2) (by kernel_rfl) (by kernel_rfl) (f16n4_ok bb1 bi2 _ [] (List.range bi2.length) [] (Rem.start _) (Nat.lt_succ_self _) (Q := fun y => ∃ o, (match y with | .exit2 v93 => some (.norm v93) | .ret => some .ret) = some o ∧ Q o) (fun p hp => by obtain ⟨o, h, hq⟩ := H _ (ords_perm hp); unfold f16n3 at h; obtain ⟨y, hy, h⟩ := bind_ex h; exact ⟨y, hy, o, h, hq⟩))) ?_
  rintro y ⟨o, h, hq⟩
  cases y with
  | exit2 v93 =>
    obtain rfl := some_inj h
    exact Tidy.of [] [0] [10] ((f16n3E bb1 bi2 (.norm v93)).2) (by kernel_rfl) an ⟨_, hq, rfl⟩
  | ret =>
    obtain rfl := some_inj h
    exact Tidy.of [] [] [4, 5] ((f16n3E bb1 bi2 .ret).2) (by kernel_rfl) an ⟨_, hq, rfl⟩
inductive f16n6O where
  | exit4 (v130 : List NettingFlow)
def f16n6E (bm1 : List Share_) : f16n6O → Ex × Tr × Hp
  | .exit4 v130 => ((.exit 4), mkS [(15, (.own 0))], [jR 6 NettingFlow.cells v130])
def f16n6S (bm1 : List Share_) (v120 : Int) (v121 : List NettingFlow) : Tr × Hp := (mkS [(15, (.own 0)), (104, (.own 1)), (105, (jI (bm1.length : Int))), (106, (jI v120))], [jR 6 NettingFlow.cells v121, jR 7 Share_.cells bm1])
noncomputable def f16n6 : Nat → List Share_ → Int → List NettingFlow → Option f16n6O
  | 0, _, _, _ => none
  | f + 1, bm1, v120, v121 =>
    bif (decide (v120 < (bm1.length : Int))) then
      (at? bm1 v120).bind fun x127 =>
      req (fit (v121.length + 1) 80) <|
      (f16n6 f bm1 (wr64 (v120 + 1)) (v121 ++ [x127.flow]))
    else
      some (.exit4 v121)
theorem f16n6_ok : ∀ (f : Nat) (bm1 : List Share_) (v120 : Int) (v121 : List NettingFlow) {o : f16n6O}, (f16n6 f bm1 v120 v121) = some o → TL Try.prog Try.f16.ntmps 0 f (cL (cL (dropC 1 (cL (dropC 3 (dropC 1 (dropC 1 (dropC 1 (dropC 4 c16))))))))) (f16n6S bm1 v120 v121) (fun r => r = f16n6E bm1 o)
  | 0, _, _, _, o, h => by rw [f16n6] at h; cases h
  | f + 1, bm1, v120, v121, o, h => by
    rw [f16n6] at h
    refine TL.body (K := fun s => ∃ v120 : Int, ∃ v121 : List NettingFlow, s = (f16n6S bm1 v120 v121) ∧ (f16n6 f bm1 v120 v121) = some o) ?_ (by rintro _ ⟨v120, v121, rfl, hk⟩; exact f16n6_ok f _ _ _ hk)
    rcases cond_cases h with ⟨h123, h⟩ | ⟨h123, h⟩
    · obtain ⟨x127, h128, h⟩ := bind_cases h
      obtain ⟨h129, h⟩ := req_cases h
      exact rE cfg_ok [j3, ([], [(0, .at_ (Int.toNat v120)), (1, .idx 0 (Share_.cells x127))], []), ([], [(4, .fits)], [(4, .row 4 ((v121 ++ [x127.flow]).map NettingFlow.cells))]), j3] [some true] [] [4, 1] [15, 104, 105, 106] (.norm, (f16n6S bm1 (wr64 (v120 + 1)) (v121 ++ [x127.flow]))) (ap h123 (ap (at_some h128).1 (ap (lt_map Share_.cells (at_some h128).2) (ap (at_map Share_.cells (at_some h128).2) (ap (fit_map (te := ti32) (xs := v121) (n := 1) (c := NettingFlow.cells) h129 rfl) (ap (app_cv (xs := v121) (ys := [x127.flow]) (c := NettingFlow.cells)) an)))))) (LoopQ.norm ⟨(wr64 (v120 + 1)), (v121 ++ [x127.flow]), rfl, h⟩)
    · obtain rfl := some_inj h
      exact rK cfg_ok 2 [j3] [some false] [] [0] [15] (.exit 4) ((f16n6E bm1 (.exit4 v121)).2) (ap h123 an) (LoopQ.out rfl rfl)
noncomputable def f16n6L (bm1 : List Share_) : List Share_ → Int → (List NettingFlow) → Option f16n6O
  | [], v120, v121 =>
    some (.exit4 v121)
  | x0 :: rest, v120, v121 =>
    req (fit (v121.length + 1) 80) <|
    (f16n6L bm1 rest (v120 + 1) (v121 ++ [x0.flow]))
theorem f16n6L_eq (bm1 : List Share_) : ∀ (rest : List Share_) (f k : Nat) (v121 : List NettingFlow), bm1.drop k = rest → bm1.length ≤ maxLen → rest.length < f → f16n6 f bm1 (k : Int) v121 = f16n6L bm1 rest (k : Int) v121
  | _, 0, _, _, _, _, hf => absurd hf (Nat.not_lt_zero _)
  | [], f + 1, k, v121, hd, hm, hf => by
    have hk : ¬ ((k : Int) < (bm1.length : Int)) := by have := drop_nil hd; omega
    rw [f16n6, f16n6L]
    simp only [decide_eq_false hk, cond_false]
  | x0 :: rest, f + 1, k, v121, hd, hm, hf => by
    obtain ⟨hx, hlt, hd'⟩ := drop_cons hd
    have hk : (k : Int) < (bm1.length : Int) := by omega
    have hw : wr64 ((k : Int) + 1) = (k : Int) + 1 := wr64_of (by omega) (by unfold maxLen at hm; omega)
    have ih : ∀ (v121 : List NettingFlow), f16n6 f bm1 ((k : Int) + 1) v121 = f16n6L bm1 rest ((k : Int) + 1) v121 := fun v121 => f16n6L_eq bm1 rest f (k + 1) v121 hd' hm (by simpa using hf)
    rw [f16n6, f16n6L]
    simp only [decide_eq_true hk, cond_true, at_nat, hx, Option.bind_some, hw, ih]
theorem f16n6_run (bm1 : List Share_) (v121 : List NettingFlow) (hm : bm1.length ≤ maxLen) : f16n6 FUEL bm1 0 v121 = f16n6L bm1 bm1 0 v121 := f16n6L_eq bm1 bm1 FUEL 0 v121 List.drop_zero hm (lt_FUEL hm)
inductive f16n5O where
  | norm (v134 : List NettingFlow)
def f16n5E (bm1 : List Share_) : f16n5O → Ex × Tr × Hp
  | .norm v134 => (.norm, mkS [(15, (.own 0))], [jR 6 NettingFlow.cells v134])
def f16n5S (bm1 : List Share_) : Tr × Hp := (mkS [(10, (.own 0)), (15, (.pl (.sl .nil 0 [])))], [jR 7 Share_.cells bm1])
noncomputable def f16n5 (bm1 : List Share_) : Option f16n5O :=
  (f16n6 FUEL bm1 0 []).bind fun o131 => match o131 with
  | .exit4 v133 => some (.norm v133)
theorem f16n5_ok (bm1 : List Share_) {o : f16n5O} (h : (f16n5 bm1) = some o) : T Try.prog Try.f16.ntmps 0 (cL (dropC 3 (dropC 1 (dropC 1 (dropC 1 (dropC 4 c16)))))) (f16n5S bm1) (fun r => r = f16n5E bm1 o) := by
  unfold f16n5 at h
  refine rN cfg_ok 1 [([], [], [(1, .val (jI (bm1.length : Int)))])] [] [.mat 15 6] [1, 0] [15, 104, 105, 106] (f16n6S bm1 0 []) (ap (len_cv (xs := bm1) (c := Share_.cells)) an) ?_
  obtain ⟨o131, h132, h⟩ := bind_cases h
  cases o131 with
  | exit4 v133 =>
    obtain rfl := some_inj h
    exact T.last' (T.bl (i := 4) (by kernel_rfl) (by kernel_rfl) (f16n6_ok FUEL bm1 0 [] h132)) (tds := []) (m := [0]) (keep := [15]) (st2 := (f16n5E bm1 (.norm v133)).2) (by kernel_rfl) an rfl
inductive f16n0O where
  | ret (v138 : Int) (v139 : List NettingFlow)
def f16n0E (a1 : ByteArray) (a2 : List NettingFlow) : f16n0O → Ex × Tr × Hp
  | .ret v138 v139 => (.ret, mkS [(4, (.own 0)), (5, (jI v138))], [jR 6 NettingFlow.cells v139])
def f16n0S (a1 : ByteArray) (a2 : List NettingFlow) : Tr × Hp := (initS [(jS a1), (jL 6 NettingFlow.cells a2)] 0 .leaf, [])
noncomputable def f16n0 (a1 : ByteArray) (a2 : List NettingFlow) : Option f16n0O :=
  (f35 a2).bind fun x6 =>
  bif (decide (x6 = 0)) then
    (f36 a1).bind fun x12 =>
    bif x12 then
      (f16n1 a1 a2).bind fun o42 => match o42 with
      | .norm v44 => (anyOrder v44 fun p => (f16n3 a1 v44 p).bind fun o95 => match o95 with
        | .norm v97 => bif (decide (500 < (v97.length : Int))) then
            some (.ret 4 [])
          else
            (so38_39 v97).bind fun x102 =>
            (f16n5 x102).bind fun o135 => match o135 with
            | .norm v137 => some (.ret 0 v137)
        | .ret => some (.ret 14 []))
    else
      some (.ret 2 [])
  else
    some (.ret x6 [])
theorem f16n0_ok (a1 : ByteArray) (a2 : List NettingFlow) {o : f16n0O} (h : (f16n0 a1 a2) = some o) : T Try.prog Try.f16.ntmps 0 c16 (f16n0S a1 a2) (fun r => r = f16n0E a1 a2 o) := by
  unfold f16n0 at h
  obtain ⟨x6, h7, h⟩ := bind_cases h
  rcases cond_cases h with ⟨h8, h⟩ | ⟨h8, h⟩
  · obtain ⟨x12, h13, h⟩ := bind_cases h
    rcases cond_cases h with ⟨h14, h⟩ | ⟨h14, h⟩
    · refine rN cfg_ok 4 [j3, ([], [jH 1 (jI x6)], []), j3, ([], [jH 1 (jB x12)], []), j3] [some false, some false] [] [0] [0, 1, 7] (f16n1S a1 a2) (ap (f35_ok a2 h7) (ap (not_t h8) (ap (f36_ok a1 h13) (ap (not_t h14) an)))) ?_
      obtain ⟨o42, h43, h⟩ := bind_cases h
      cases o42 with
      | norm v44 =>
        refine T.oneN (by kernel_rfl) (f16n1_ok a1 a2 h43) (st2 := (f16n1E a1 a2 (.norm v44)).2) rfl ?_
        refine rN cfg_ok 1 [j3] [] [] [0] [0, 7, 10] (f16n3S a1 v44) an ?_
        refine T.oneQ (by kernel_rfl) (f16n3_ok a1 v44 (fun p hp => bind_ex (anyOrder_at h p hp))) ?_
        intro o95 h
        cases o95 with
        | norm v97 =>
          refine OneR.go ((f16n3E a1 v44 (.norm v97)).2) rfl ?_
          rcases cond_cases h with ⟨h99, h⟩ | ⟨h99, h⟩
          · obtain rfl := some_inj h
            exact rK cfg_ok 1 [([], [], [(1, .val (jI (v97.length : Int)))]), j3] [some true] [.mat 4 6] [1] [4, 5] .ret ((f16n0E a1 a2 (.ret 4 [])).2) (ap (len_cv (xs := v97) (c := Share_.cells)) (ap h99 an)) rfl
          · obtain ⟨x102, h103, h⟩ := bind_cases h
            refine rN cfg_ok 3 [([], [], [(1, .val (jI (v97.length : Int)))]), ([], [(1, .call (.tup []) [jR 7 Share_.cells x102])], []), j3] [some false] [] [0] [10, 15] (f16n5S x102) (ap (len_cv (xs := v97) (c := Share_.cells)) (ap h99 (ap (so38_39_ok v97 h103) an))) ?_
            obtain ⟨o135, h136, h⟩ := bind_cases h
            cases o135 with
            | norm v137 =>
              refine T.oneN (by kernel_rfl) (f16n5_ok x102 h136) (st2 := (f16n5E x102 (.norm v137)).2) rfl ?_
              obtain rfl := some_inj h
              exact rE cfg_ok [j3] [] [] [0] [4, 5] (.ret, (f16n0E a1 a2 (.ret 0 v137)).2) an rfl
        | ret =>
          obtain rfl := some_inj h
          exact OneR.out [.mat 4 6] [0] [4, 5] ((f16n0E a1 a2 (.ret 14 [])).2) (by kernel_rfl) an rfl rfl
    · obtain rfl := some_inj h
      exact rK cfg_ok 3 [j3, ([], [jH 1 (jI x6)], []), j3, ([], [jH 1 (jB x12)], []), j3] [some false, some true] [.mat 4 6] [0] [4, 5] .ret ((f16n0E a1 a2 (.ret 2 [])).2) (ap (f35_ok a2 h7) (ap (not_t h8) (ap (f36_ok a1 h13) (ap (not_f h14) an)))) rfl
  · obtain rfl := some_inj h
    exact rK cfg_ok 2 [j3, ([], [jH 1 (jI x6)], []), j3, j3] [some true] [.mat 4 6] [0] [4, 5] .ret ((f16n0E a1 a2 (.ret x6 [])).2) (ap (f35_ok a2 h7) (ap (not_f h8) an)) rfl
noncomputable def f16 (a1 : ByteArray) (a2 : List NettingFlow) : Option ((List NettingFlow) × Int) := (f16n0 a1 a2).bind fun o => match o with
  | .ret v138 v139 => some (v139, v138)
theorem f16_ok (a1 : ByteArray) (a2 : List NettingFlow) {r : (List NettingFlow) × Int} (h : (f16 a1 a2) = some r) : CallS Try.prog false 16 [(jS a1), (jL 6 NettingFlow.cells a2)] [] (.tup [(jL 6 NettingFlow.cells r.1), (jI r.2)]) [] := by
  unfold f16 at h
  obtain ⟨o, ho, h⟩ := bind_cases h
  cases o with
  | ret v138 v139 =>
    obtain rfl := some_inj h
    exact CallS.plain cfg_ok (f := Try.f16) (c := c16) (by kernel_rfl) (by kernel_rfl) (by kernel_rfl) (by kernel_rfl) ((f16n0_ok a1 a2 ho).mono fun r e => by subst e; exact ⟨.inl rfl, (.tup [(.own 0), (jI v138)]), (.tup [(jL 6 NettingFlow.cells v139), (jI v138)]), by kernel_rfl, by kernel_rfl, ((Wk.refl _) : Wk (.tup [(jL 6 NettingFlow.cells v139), (jI v138)]) (.tup [(jL 6 NettingFlow.cells v139), (jI v138)]))⟩)




end Go.Proofs.Ytkcafackfihmiaa
namespace Go.Proofs.Ytkcafackfihmiaa
set_option linter.unusedVariables false
set_option linter.unusedSimpArgs false
set_option maxRecDepth 100000
open Go.RowKit

noncomputable def c6 : Code := Try.f6.body.getD .skip

noncomputable def c50 : Code := Try.f50.body.getD .skip
inductive f50n0O where
  | ret (v4 : Int) (v5 : Int)
def f50n0E (a1 : Int) : f50n0O → Ex × Tr × Hp
  | .ret v4 v5 => (.ret, mkS [(2, (jI v4)), (3, (jI v5))], [])
def f50n0S (a1 : Int) : Tr × Hp := (initS [(jI a1)] 0 .leaf, [])
noncomputable def f50n0 (a1 : Int) : Option f50n0O :=
  bif (decide (1125899906842624 < (mxI a1 (wr64 (0 - a1))))) then
    some (.ret 0 14)
  else
    some (.ret a1 0)
theorem f50n0_ok (a1 : Int) {o : f50n0O} (h : (f50n0 a1) = some o) : T Try.prog Try.f50.ntmps 0 c50 (f50n0S a1) (fun r => r = f50n0E a1 o) := by
  unfold f50n0 at h
  rcases cond_cases h with ⟨h3, h⟩ | ⟨h3, h⟩
  · obtain rfl := some_inj h
    exact rK cfg_ok 2 [j3, j3, j3] [some true] [] [] [2, 3] .ret ((f50n0E a1 (.ret 0 14)).2) (ap h3 an) rfl
  · obtain rfl := some_inj h
    exact rE cfg_ok [j3, j3, j3] [some false] [] [] [2, 3] (.ret, (f50n0E a1 (.ret a1 0)).2) (ap h3 an) rfl
noncomputable def f50 (a1 : Int) : Option (Int × Int) := (f50n0 a1).bind fun o => match o with
  | .ret v4 v5 => some (v4, v5)
theorem f50_ok (a1 : Int) {r : Int × Int} (h : (f50 a1) = some r) : CallS Try.prog false 50 [(jI a1)] [] (.tup [(jI r.1), (jI r.2)]) [] := by
  unfold f50 at h
  obtain ⟨o, ho, h⟩ := bind_cases h
  cases o with
  | ret v4 v5 =>
    obtain rfl := some_inj h
    exact CallS.plain cfg_ok (f := Try.f50) (c := c50) (by kernel_rfl) (by kernel_rfl) (by kernel_rfl) (by kernel_rfl) ((f50n0_ok a1 ho).mono fun r e => by subst e; exact ⟨.inl rfl, (.tup [(jI v4), (jI v5)]), (.tup [(jI v4), (jI v5)]), by kernel_rfl, by kernel_rfl, ((Wk.refl _) : Wk (.tup [(jI v4), (jI v5)]) (.tup [(jI v4), (jI v5)]))⟩)


noncomputable def c7 : Code := Try.f7.body.getD .skip

noncomputable def c27 : Code := Try.f27.body.getD .skip
inductive f27n2O where
  | exit0 (v57 : Int)
def f27n2E (bb2 : ByteArray) (bd3 : Int) (bb4 : ByteArray) (bg1 : List NettingFlow) : f27n2O → Ex × Tr × Hp
  | .exit0 v57 => ((.exit 0), mkS [(11, (jI v57))], [])
def f27n2S (bb2 : ByteArray) (bd3 : Int) (bb4 : ByteArray) (bg1 : List NettingFlow) (v41 : Int) (v42 : Int) : Tr × Hp := (mkS [(1, (jS bb2)), (2, (jI bd3)), (3, (jS bb4)), (11, (jI v41)), (19, (jL 6 NettingFlow.cells bg1)), (20, (jI (bg1.length : Int))), (21, (jI v42))], [])
noncomputable def f27n2 : Nat → ByteArray → Int → ByteArray → List NettingFlow → Int → Int → Option f27n2O
  | 0, _, _, _, _, _, _ => none
  | f + 1, bb2, bd3, bb4, bg1, v41, v42 =>
    bif (decide (v42 < (bg1.length : Int))) then
      (at? bg1 v42).bind fun x51 =>
      bif (decide (x51.Date = bd3)) then
        bif (seq x51.Ccy bb4) then
          bif (seq x51.To bb2) then
            (f27n2 f bb2 bd3 bb4 bg1 (wr64 (v41 + x51.Amount)) (wr64 (v42 + 1)))
          else
            bif (seq x51.From bb2) then
              (f27n2 f bb2 bd3 bb4 bg1 (wr64 (v41 - x51.Amount)) (wr64 (v42 + 1)))
            else
              (f27n2 f bb2 bd3 bb4 bg1 v41 (wr64 (v42 + 1)))
        else
          (f27n2 f bb2 bd3 bb4 bg1 v41 (wr64 (v42 + 1)))
      else
        (f27n2 f bb2 bd3 bb4 bg1 v41 (wr64 (v42 + 1)))
    else
      some (.exit0 v41)
theorem f27n2_ok : ∀ (f : Nat) (bb2 : ByteArray) (bd3 : Int) (bb4 : ByteArray) (bg1 : List NettingFlow) (v41 : Int) (v42 : Int) {o : f27n2O}, (f27n2 f bb2 bd3 bb4 bg1 v41 v42) = some o → TL Try.prog Try.f27.ntmps 0 f (cL (cL (dropC 1 (cL (dropC 3 c27))))) (f27n2S bb2 bd3 bb4 bg1 v41 v42) (fun r => r = f27n2E bb2 bd3 bb4 bg1 o)
  | 0, _, _, _, _, _, _, o, h => by rw [f27n2] at h; cases h
  | f + 1, bb2, bd3, bb4, bg1, v41, v42, o, h => by
    rw [f27n2] at h
    refine TL.body (K := fun s => ∃ v41 : Int, ∃ v42 : Int, s = (f27n2S bb2 bd3 bb4 bg1 v41 v42) ∧ (f27n2 f bb2 bd3 bb4 bg1 v41 v42) = some o) ?_ (by rintro _ ⟨v41, v42, rfl, hk⟩; exact f27n2_ok f _ _ _ _ _ _ hk)
    rcases cond_cases h with ⟨h44, h⟩ | ⟨h44, h⟩
    · obtain ⟨x51, h52, h⟩ := bind_cases h
      rcases cond_cases h with ⟨h53, h⟩ | ⟨h53, h⟩
      · rcases cond_cases h with ⟨h54, h⟩ | ⟨h54, h⟩
        · rcases cond_cases h with ⟨h55, h⟩ | ⟨h55, h⟩
          · exact rE cfg_ok [j3, ([], [(0, .idx (Int.toNat v42) (NettingFlow.cells x51))], []), (jF [5, 6, 7, 8], [(9, .bool false)], []), j3, j3, j3] [some true, some false, some true] [] [] [1, 2, 3, 11, 19, 20, 21] (.norm, (f27n2S bb2 bd3 bb4 bg1 (wr64 (v41 + x51.Amount)) (wr64 (v42 + 1)))) (ap h44 (ap (at_some h52).1 (ap (at_map NettingFlow.cells (at_some h52).2) (ap (not_t h53) (ap4 (not_t h53) (ap (not_t h54) (ap h55 an))))))) (LoopQ.norm ⟨(wr64 (v41 + x51.Amount)), (wr64 (v42 + 1)), rfl, h⟩)
          · rcases cond_cases h with ⟨h56, h⟩ | ⟨h56, h⟩
            · exact rE cfg_ok [j3, ([], [(0, .idx (Int.toNat v42) (NettingFlow.cells x51))], []), (jF [5, 6, 7, 8], [(9, .bool false)], []), j3, j3, j3, j3] [some true, some false, some false, some true] [] [] [1, 2, 3, 11, 19, 20, 21] (.norm, (f27n2S bb2 bd3 bb4 bg1 (wr64 (v41 - x51.Amount)) (wr64 (v42 + 1)))) (ap h44 (ap (at_some h52).1 (ap (at_map NettingFlow.cells (at_some h52).2) (ap (not_t h53) (ap4 (not_t h53) (ap (not_t h54) (ap h55 (ap h56 an)))))))) (LoopQ.norm ⟨(wr64 (v41 - x51.Amount)), (wr64 (v42 + 1)), rfl, h⟩)
            · exact rE cfg_ok [j3, ([], [(0, .idx (Int.toNat v42) (NettingFlow.cells x51))], []), (jF [5, 6, 7, 8], [(9, .bool false)], []), j3, j3, j3] [some true, some false, some false, some false] [] [] [1, 2, 3, 11, 19, 20, 21] (.norm, (f27n2S bb2 bd3 bb4 bg1 v41 (wr64 (v42 + 1)))) (ap h44 (ap (at_some h52).1 (ap (at_map NettingFlow.cells (at_some h52).2) (ap (not_t h53) (ap4 (not_t h53) (ap (not_t h54) (ap h55 (ap h56 an)))))))) (LoopQ.norm ⟨v41, (wr64 (v42 + 1)), rfl, h⟩)
        · exact rE cfg_ok [j3, ([], [(0, .idx (Int.toNat v42) (NettingFlow.cells x51))], []), (jF [5, 6, 7, 8], [(9, .bool false)], []), j3] [some true, some true] [] [] [1, 2, 3, 11, 19, 20, 21] (.norm, (f27n2S bb2 bd3 bb4 bg1 v41 (wr64 (v42 + 1)))) (ap h44 (ap (at_some h52).1 (ap (at_map NettingFlow.cells (at_some h52).2) (ap (not_t h53) (ap4 (not_t h53) (ap (not_f h54) an)))))) (LoopQ.norm ⟨v41, (wr64 (v42 + 1)), rfl, h⟩)
      · exact rE cfg_ok [j3, ([], [(0, .idx (Int.toNat v42) (NettingFlow.cells x51))], []), (jT [5, 6, 7, 8], [(9, .bool true)], []), j3] [some true, none] [] [] [1, 2, 3, 11, 19, 20, 21] (.norm, (f27n2S bb2 bd3 bb4 bg1 v41 (wr64 (v42 + 1)))) (ap h44 (ap (at_some h52).1 (ap (at_map NettingFlow.cells (at_some h52).2) (ap (not_f h53) (ap4 (not_f h53) an))))) (LoopQ.norm ⟨v41, (wr64 (v42 + 1)), rfl, h⟩)
    · obtain rfl := some_inj h
      exact rK cfg_ok 2 [j3] [some false] [] [] [11] (.exit 0) ((f27n2E bb2 bd3 bb4 bg1 (.exit0 v41)).2) (ap h44 an) (LoopQ.out rfl rfl)
noncomputable def f27n2L (bb2 : ByteArray) (bd3 : Int) (bb4 : ByteArray) (bg1 : List NettingFlow) : List NettingFlow → Int → Int → Option f27n2O
  | [], v41, v42 =>
    some (.exit0 v41)
  | x0 :: rest, v41, v42 =>
    bif (decide (x0.Date = bd3)) then
      bif (seq x0.Ccy bb4) then
        bif (seq x0.To bb2) then
          (f27n2L bb2 bd3 bb4 bg1 rest (wr64 (v41 + x0.Amount)) (v42 + 1))
        else
          bif (seq x0.From bb2) then
            (f27n2L bb2 bd3 bb4 bg1 rest (wr64 (v41 - x0.Amount)) (v42 + 1))
          else
            (f27n2L bb2 bd3 bb4 bg1 rest v41 (v42 + 1))
      else
        (f27n2L bb2 bd3 bb4 bg1 rest v41 (v42 + 1))
    else
      (f27n2L bb2 bd3 bb4 bg1 rest v41 (v42 + 1))
theorem f27n2L_eq (bb2 : ByteArray) (bd3 : Int) (bb4 : ByteArray) (bg1 : List NettingFlow) : ∀ (rest : List NettingFlow) (f k : Nat) (v41 : Int), bg1.drop k = rest → bg1.length ≤ maxLen → rest.length < f → f27n2 f bb2 bd3 bb4 bg1 v41 (k : Int) = f27n2L bb2 bd3 bb4 bg1 rest v41 (k : Int)
  | _, 0, _, _, _, _, hf => absurd hf (Nat.not_lt_zero _)
  | [], f + 1, k, v41, hd, hm, hf => by
    have hk : ¬ ((k : Int) < (bg1.length : Int)) := by have := drop_nil hd; omega
    rw [f27n2, f27n2L]
    simp only [decide_eq_false hk, cond_false]
  | x0 :: rest, f + 1, k, v41, hd, hm, hf => by
    obtain ⟨hx, hlt, hd'⟩ := drop_cons hd
    have hk : (k : Int) < (bg1.length : Int) := by omega
    have hw : wr64 ((k : Int) + 1) = (k : Int) + 1 := wr64_of (by omega) (by unfold maxLen at hm; omega)
    have ih : ∀ (v41 : Int), f27n2 f bb2 bd3 bb4 bg1 v41 ((k : Int) + 1) = f27n2L bb2 bd3 bb4 bg1 rest v41 ((k : Int) + 1) := fun v41 => f27n2L_eq bb2 bd3 bb4 bg1 rest f (k + 1) v41 hd' hm (by simpa using hf)
    rw [f27n2, f27n2L]
    simp only [decide_eq_true hk, cond_true, at_nat, hx, Option.bind_some, hw, ih]
theorem f27n2_run (bb2 : ByteArray) (bd3 : Int) (bb4 : ByteArray) (bg1 : List NettingFlow) (v41 : Int) (hm : bg1.length ≤ maxLen) : f27n2 FUEL bb2 bd3 bb4 bg1 v41 0 = f27n2L bb2 bd3 bb4 bg1 bg1 v41 0 := f27n2L_eq bb2 bd3 bb4 bg1 bg1 FUEL 0 v41 List.drop_zero hm (lt_FUEL hm)
inductive f27n1O where
  | norm (v61 : Int)
def f27n1E (bg1 : List NettingFlow) (bb2 : ByteArray) (bd3 : Int) (bb4 : ByteArray) : f27n1O → Ex × Tr × Hp
  | .norm v61 => (.norm, mkS [(11, (jI v61))], [])
def f27n1S (bg1 : List NettingFlow) (bb2 : ByteArray) (bd3 : Int) (bb4 : ByteArray) : Tr × Hp := (mkS [(0, (jL 6 NettingFlow.cells bg1)), (1, (jS bb2)), (2, (jI bd3)), (3, (jS bb4)), (11, (jI 0))], [])
noncomputable def f27n1 (bg1 : List NettingFlow) (bb2 : ByteArray) (bd3 : Int) (bb4 : ByteArray) : Option f27n1O :=
  (f27n2 FUEL bb2 bd3 bb4 bg1 0 0).bind fun o58 => match o58 with
  | .exit0 v60 => some (.norm v60)
theorem f27n1_ok (bg1 : List NettingFlow) (bb2 : ByteArray) (bd3 : Int) (bb4 : ByteArray) {o : f27n1O} (h : (f27n1 bg1 bb2 bd3 bb4) = some o) : T Try.prog Try.f27.ntmps 0 (cL (dropC 3 c27)) (f27n1S bg1 bb2 bd3 bb4) (fun r => r = f27n1E bg1 bb2 bd3 bb4 o) := by
  unfold f27n1 at h
  refine rN cfg_ok 1 [([], [], [(1, .val (jI (bg1.length : Int)))])] [] [] [] [1, 2, 3, 11, 19, 20, 21] (f27n2S bb2 bd3 bb4 bg1 0 0) (ap (len_cv (xs := bg1) (c := NettingFlow.cells)) an) ?_
  obtain ⟨o58, h59, h⟩ := bind_cases h
  cases o58 with
  | exit0 v60 =>
    obtain rfl := some_inj h
    exact T.last' (T.bl (i := 0) (by kernel_rfl) (by kernel_rfl) (f27n2_ok FUEL bb2 bd3 bb4 bg1 0 0 h59)) (tds := []) (m := []) (keep := [11]) (st2 := (f27n1E bg1 bb2 bd3 bb4 (.norm v60)).2) (by kernel_rfl) an rfl
inductive f27n0O where
  | ret (v69 : Int) (v70 : Int)
def f27n0E (a1 : List NettingFlow) (a2 : ByteArray) (a3 : Int) (a4 : ByteArray) : f27n0O → Ex × Tr × Hp
  | .ret v69 v70 => (.ret, mkS [(8, (jI v69)), (9, (jI v70))], [])
def f27n0S (a1 : List NettingFlow) (a2 : ByteArray) (a3 : Int) (a4 : ByteArray) : Tr × Hp := (initS [(jL 6 NettingFlow.cells a1), (jS a2), (jI a3), (jS a4)] 0 .leaf, [])
noncomputable def f27n0 (a1 : List NettingFlow) (a2 : ByteArray) (a3 : Int) (a4 : ByteArray) : Option f27n0O :=
  (f35 a1).bind fun x8 =>
  bif (decide (x8 = 0)) then
    (f27n1 a1 a2 a3 a4).bind fun o62 => match o62 with
    | .norm v64 => (f50 v64).bind fun x67 =>
      some (.ret x67.1 x67.2)
  else
    some (.ret 0 x8)
theorem f27n0_ok (a1 : List NettingFlow) (a2 : ByteArray) (a3 : Int) (a4 : ByteArray) {o : f27n0O} (h : (f27n0 a1 a2 a3 a4) = some o) : T Try.prog Try.f27.ntmps 0 c27 (f27n0S a1 a2 a3 a4) (fun r => r = f27n0E a1 a2 a3 a4 o) := by
  unfold f27n0 at h
  obtain ⟨x8, h9, h⟩ := bind_cases h
  rcases cond_cases h with ⟨h10, h⟩ | ⟨h10, h⟩
  · refine rN cfg_ok 3 [j3, ([], [jH 1 (jI x8)], []), j3, j3] [some false] [] [] [0, 1, 2, 3, 11] (f27n1S a1 a2 a3 a4) (ap (f35_ok a1 h9) (ap (not_t h10) an)) ?_
    obtain ⟨o62, h63, h⟩ := bind_cases h
    cases o62 with
    | norm v64 =>
      refine T.oneN (by kernel_rfl) (f27n1_ok a1 a2 a3 a4 h63) (st2 := (f27n1E a1 a2 a3 a4 (.norm v64)).2) rfl ?_
      obtain ⟨x67, h68, h⟩ := bind_cases h
      obtain rfl := some_inj h
      exact rE cfg_ok [([], [jH 1 (.tup [(jI x67.1), (jI x67.2)])], [])] [] [] [] [8, 9] (.ret, (f27n0E a1 a2 a3 a4 (.ret x67.1 x67.2)).2) (ap (f50_ok v64 h68) an) rfl
  · obtain rfl := some_inj h
    exact rK cfg_ok 2 [j3, ([], [jH 1 (jI x8)], []), j3, j3] [some true] [] [] [8, 9] .ret ((f27n0E a1 a2 a3 a4 (.ret 0 x8)).2) (ap (f35_ok a1 h9) (ap (not_f h10) an)) rfl
noncomputable def f27 (a1 : List NettingFlow) (a2 : ByteArray) (a3 : Int) (a4 : ByteArray) : Option (Int × Int) := (f27n0 a1 a2 a3 a4).bind fun o => match o with
  | .ret v69 v70 => some (v69, v70)
theorem f27_ok (a1 : List NettingFlow) (a2 : ByteArray) (a3 : Int) (a4 : ByteArray) {r : Int × Int} (h : (f27 a1 a2 a3 a4) = some r) : CallS Try.prog false 27 [(jL 6 NettingFlow.cells a1), (jS a2), (jI a3), (jS a4)] [] (.tup [(jI r.1), (jI r.2)]) [] := by
  unfold f27 at h
  obtain ⟨o, ho, h⟩ := bind_cases h
  cases o with
  | ret v69 v70 =>
    obtain rfl := some_inj h
    exact CallS.plain cfg_ok (f := Try.f27) (c := c27) (by kernel_rfl) (by kernel_rfl) (by kernel_rfl) (by kernel_rfl) ((f27n0_ok a1 a2 a3 a4 ho).mono fun r e => by subst e; exact ⟨.inl rfl, (.tup [(jI v69), (jI v70)]), (.tup [(jI v69), (jI v70)]), by kernel_rfl, by kernel_rfl, ((Wk.refl _) : Wk (.tup [(jI v69), (jI v70)]) (.tup [(jI v69), (jI v70)]))⟩)
end Go.Proofs.Ytkcafackfihmiaa
namespace Go.Proofs.Ytkcafackfihmiaa
set_option linter.unusedVariables false
set_option linter.unusedSimpArgs false
set_option maxRecDepth 100000
open Go.RowKit
noncomputable def c8 : Code := Try.f8.body.getD .skip
inductive f8n4O where
  | norm (v373 : Bool)
def f8n4E (bg1 : List NettingFlow) (bb2 : ByteArray) (bf3 : Bool) (bl4 : (List NettingFlow) × Int) (bd5 : Int) (bd6 : Int) : f8n4O → Ex × Tr × Hp
  | .norm v373 => (.norm, mkS [(0, (jL 6 NettingFlow.cells bg1)), (1, (jS bb2)), (5, (jB bf3)), (6, (jL 6 NettingFlow.cells bl4.1)), (8, (jI bd5)), (9, (jI bd6)), (149, (jB v373))], [])
def f8n4S (bg1 : List NettingFlow) (bb2 : ByteArray) (bf3 : Bool) (bl4 : (List NettingFlow) × Int) (bd5 : Int) (bd6 : Int) : Tr × Hp := (mkS [(0, (jL 6 NettingFlow.cells bg1)), (1, (jS bb2)), (5, (jB bf3)), (6, (jL 6 NettingFlow.cells bl4.1)), (8, (jI bd5)), (9, (jI bd6))], [])
noncomputable def f8n4 (bg1 : List NettingFlow) (bb2 : ByteArray) (bf3 : Bool) (bl4 : (List NettingFlow) × Int) (bd5 : Int) (bd6 : Int) : Option f8n4O :=
  (at? bl4.1 bd6).bind fun x363 =>
  (at? bl4.1 bd5).bind fun x365 =>
  bif (decide (x363.Date = x365.Date)) then
    bif (seq x363.Ccy x365.Ccy) then
      bif (seq x363.From x365.From) then
        bif (seq x363.To x365.To) then
          some (.norm true)
        else
          bif (seq x363.From x365.To) then
            some (.norm (seq x363.To x365.From))
          else
            some (.norm false)
      else
        bif (seq x363.From x365.To) then
          some (.norm (seq x363.To x365.From))
        else
          some (.norm false)
    else
      some (.norm false)
  else
    some (.norm false)
theorem f8n4_ok (bg1 : List NettingFlow) (bb2 : ByteArray) (bf3 : Bool) (bl4 : (List NettingFlow) × Int) (bd5 : Int) (bd6 : Int) {o : f8n4O} (h : (f8n4 bg1 bb2 bf3 bl4 bd5 bd6) = some o) : T Try.prog Try.f8.ntmps 0 (cL (dropC 0 (cL (cL (dropC 1 (cL (cL (dropC 1 (dropC 1 (cL (cL (dropC 1 (cL (cL (dropC 1 (cL (dropC 1 (dropC 4 c8)))))))))))))))))) (f8n4S bg1 bb2 bf3 bl4 bd5 bd6) (fun r => r = f8n4E bg1 bb2 bf3 bl4 bd5 bd6 o) := by
  unfold f8n4 at h
  obtain ⟨x363, h364, h⟩ := bind_cases h
  obtain ⟨x365, h366, h⟩ := bind_cases h
  rcases cond_cases h with ⟨h367, h⟩ | ⟨h367, h⟩
  · rcases cond_cases h with ⟨h368, h⟩ | ⟨h368, h⟩
    · rcases cond_cases h with ⟨h369, h⟩ | ⟨h369, h⟩
      · rcases cond_cases h with ⟨h370, h⟩ | ⟨h370, h⟩
        · obtain rfl := some_inj h
          exact rE cfg_ok [(jT [12, 13, 14, 15, 16, 17, 18, 19, 20, 21, 22, 25, 26, 27, 28, 29, 30, 31, 32, 33, 34, 35, 36, 37, 38, 39, 40, 41, 42, 43, 44, 45, 46, 47, 48, 49, 50, 51, 52, 53, 54, 55, 56, 57, 58, 59, 60, 61, 73, 74], [(2, .idx (Int.toNat bd6) (NettingFlow.cells x363)), (7, .idx (Int.toNat bd5) (NettingFlow.cells x365)), (14, .idx (Int.toNat bd6) (NettingFlow.cells x363)), (19, .idx (Int.toNat bd5) (NettingFlow.cells x365)), (23, .bool true), (27, .idx (Int.toNat bd6) (NettingFlow.cells x363)), (32, .idx (Int.toNat bd5) (NettingFlow.cells x365)), (39, .idx (Int.toNat bd6) (NettingFlow.cells x363)), (44, .idx (Int.toNat bd5) (NettingFlow.cells x365)), (48, .bool true), (74, .bool true), (75, .bool true)], [])] [] [] [] [0, 1, 5, 6, 8, 9, 149] (.norm, (f8n4E bg1 bb2 bf3 bl4 bd5 bd6 (.norm true)).2) (ap (at_some h364).1 (ap (at_map NettingFlow.cells (at_some h364).2) (ap (at_some h366).1 (ap (at_map NettingFlow.cells (at_some h366).2) (ap3 h367 (ap (at_some h364).1 (ap (at_map NettingFlow.cells (at_some h364).2) (ap h367 (ap4 h367 (ap (at_some h366).1 (ap (at_map NettingFlow.cells (at_some h366).2) (ap4 h367 (ap3 h368 (ap (at_some h364).1 (ap (at_map NettingFlow.cells (at_some h364).2) (ap h368 (ap4 h368 (ap (at_some h366).1 (ap (at_map NettingFlow.cells (at_some h366).2) (ap4 h368 (ap3 h369 (ap (at_some h364).1 (ap (at_map NettingFlow.cells (at_some h364).2) (ap h369 (ap4 h369 (ap (at_some h366).1 (ap (at_map NettingFlow.cells (at_some h366).2) (ap3 h369 (ap h368 (ap h369 (ap h368 (ap h370 (ap4 h370 (ap4 h370 (ap4 h370 (ap h368 (ap h370 (ap h368 an)))))))))))))))))))))))))))))))))))))) rfl
        · rcases cond_cases h with ⟨h371, h⟩ | ⟨h371, h⟩
          · obtain rfl := some_inj h
            exact rE cfg_ok [(jF [50, 51, 52, 53, 54, 55, 56, 57, 58, 59, 60, 61, 73] ++ jT [12, 13, 14, 15, 16, 17, 18, 19, 20, 21, 22, 25, 26, 27, 28, 29, 30, 31, 32, 33, 34, 35, 36, 37, 38, 39, 40, 41, 42, 43, 44, 45, 46, 47, 48, 49, 62, 63, 64, 65, 66, 67, 68, 69, 70, 71, 72, 74], [(2, .idx (Int.toNat bd6) (NettingFlow.cells x363)), (7, .idx (Int.toNat bd5) (NettingFlow.cells x365)), (14, .idx (Int.toNat bd6) (NettingFlow.cells x363)), (19, .idx (Int.toNat bd5) (NettingFlow.cells x365)), (23, .bool true), (27, .idx (Int.toNat bd6) (NettingFlow.cells x363)), (32, .idx (Int.toNat bd5) (NettingFlow.cells x365)), (39, .idx (Int.toNat bd6) (NettingFlow.cells x363)), (44, .idx (Int.toNat bd5) (NettingFlow.cells x365)), (48, .bool true), (52, .idx (Int.toNat bd6) (NettingFlow.cells x363)), (57, .idx (Int.toNat bd5) (NettingFlow.cells x365)), (64, .idx (Int.toNat bd6) (NettingFlow.cells x363)), (69, .idx (Int.toNat bd5) (NettingFlow.cells x365)), (73, .bool true), (74, .bool false), (75, .bool true)], [])] [] [] [] [0, 1, 5, 6, 8, 9, 149] (.norm, (f8n4E bg1 bb2 bf3 bl4 bd5 bd6 (.norm (seq x363.To x365.From))).2) (ap (at_some h364).1 (ap (at_map NettingFlow.cells (at_some h364).2) (ap (at_some h366).1 (ap (at_map NettingFlow.cells (at_some h366).2) (ap3 h367 (ap (at_some h364).1 (ap (at_map NettingFlow.cells (at_some h364).2) (ap h367 (ap4 h367 (ap (at_some h366).1 (ap (at_map NettingFlow.cells (at_some h366).2) (ap4 h367 (ap3 h368 (ap (at_some h364).1 (ap (at_map NettingFlow.cells (at_some h364).2) (ap h368 (ap4 h368 (ap (at_some h366).1 (ap (at_map NettingFlow.cells (at_some h366).2) (ap4 h368 (ap3 h369 (ap (at_some h364).1 (ap (at_map NettingFlow.cells (at_some h364).2) (ap h369 (ap4 h369 (ap (at_some h366).1 (ap (at_map NettingFlow.cells (at_some h366).2) (ap3 h369 (ap h368 (ap h369 (ap h368 (ap3 h370 (ap (at_some h364).1 (ap (at_map NettingFlow.cells (at_some h364).2) (ap h370 (ap4 h370 (ap (at_some h366).1 (ap (at_map NettingFlow.cells (at_some h366).2) (ap4 h370 (ap3 h371 (ap (at_some h364).1 (ap (at_map NettingFlow.cells (at_some h364).2) (ap h371 (ap4 h371 (ap (at_some h366).1 (ap (at_map NettingFlow.cells (at_some h366).2) (ap3 h371 (ap h370 (ap h371 (ap h368 (ap h370 (ap h368 an)))))))))))))))))))))))))))))))))))))))))))))))))))) rfl
          · obtain rfl := some_inj h
            exact rE cfg_ok [(jF [50, 51, 52, 53, 54, 55, 56, 57, 58, 59, 60, 61, 62, 63, 64, 65, 66, 67, 68, 69, 70, 71, 72, 73] ++ jT [12, 13, 14, 15, 16, 17, 18, 19, 20, 21, 22, 25, 26, 27, 28, 29, 30, 31, 32, 33, 34, 35, 36, 37, 38, 39, 40, 41, 42, 43, 44, 45, 46, 47, 48, 49, 74], [(2, .idx (Int.toNat bd6) (NettingFlow.cells x363)), (7, .idx (Int.toNat bd5) (NettingFlow.cells x365)), (14, .idx (Int.toNat bd6) (NettingFlow.cells x363)), (19, .idx (Int.toNat bd5) (NettingFlow.cells x365)), (23, .bool true), (27, .idx (Int.toNat bd6) (NettingFlow.cells x363)), (32, .idx (Int.toNat bd5) (NettingFlow.cells x365)), (39, .idx (Int.toNat bd6) (NettingFlow.cells x363)), (44, .idx (Int.toNat bd5) (NettingFlow.cells x365)), (48, .bool true), (52, .idx (Int.toNat bd6) (NettingFlow.cells x363)), (57, .idx (Int.toNat bd5) (NettingFlow.cells x365)), (73, .bool false), (74, .bool false), (75, .bool true)], [])] [] [] [] [0, 1, 5, 6, 8, 9, 149] (.norm, (f8n4E bg1 bb2 bf3 bl4 bd5 bd6 (.norm false)).2) (ap (at_some h364).1 (ap (at_map NettingFlow.cells (at_some h364).2) (ap (at_some h366).1 (ap (at_map NettingFlow.cells (at_some h366).2) (ap3 h367 (ap (at_some h364).1 (ap (at_map NettingFlow.cells (at_some h364).2) (ap h367 (ap4 h367 (ap (at_some h366).1 (ap (at_map NettingFlow.cells (at_some h366).2) (ap4 h367 (ap3 h368 (ap (at_some h364).1 (ap (at_map NettingFlow.cells (at_some h364).2) (ap h368 (ap4 h368 (ap (at_some h366).1 (ap (at_map NettingFlow.cells (at_some h366).2) (ap4 h368 (ap3 h369 (ap (at_some h364).1 (ap (at_map NettingFlow.cells (at_some h364).2) (ap h369 (ap4 h369 (ap (at_some h366).1 (ap (at_map NettingFlow.cells (at_some h366).2) (ap3 h369 (ap h368 (ap h369 (ap h368 (ap3 h370 (ap (at_some h364).1 (ap (at_map NettingFlow.cells (at_some h364).2) (ap h370 (ap4 h370 (ap (at_some h366).1 (ap (at_map NettingFlow.cells (at_some h366).2) (ap4 h370 (ap3 h371 (ap4 h371 (ap4 h371 (ap h370 (ap h371 (ap h368 (ap h370 (ap h368 an))))))))))))))))))))))))))))))))))))))))))))))) rfl
      · rcases cond_cases h with ⟨h372, h⟩ | ⟨h372, h⟩
        · obtain rfl := some_inj h
          exact rE cfg_ok [(jF [37, 38, 39, 40, 41, 42, 43, 44, 45, 46, 47] ++ jT [12, 13, 14, 15, 16, 17, 18, 19, 20, 21, 22, 25, 26, 27, 28, 29, 30, 31, 32, 33, 34, 35, 36, 48, 49, 62, 63, 64, 65, 66, 67, 68, 69, 70, 71, 72, 74], [(2, .idx (Int.toNat bd6) (NettingFlow.cells x363)), (7, .idx (Int.toNat bd5) (NettingFlow.cells x365)), (14, .idx (Int.toNat bd6) (NettingFlow.cells x363)), (19, .idx (Int.toNat bd5) (NettingFlow.cells x365)), (23, .bool true), (27, .idx (Int.toNat bd6) (NettingFlow.cells x363)), (32, .idx (Int.toNat bd5) (NettingFlow.cells x365)), (48, .bool false), (52, .idx (Int.toNat bd6) (NettingFlow.cells x363)), (57, .idx (Int.toNat bd5) (NettingFlow.cells x365)), (64, .idx (Int.toNat bd6) (NettingFlow.cells x363)), (69, .idx (Int.toNat bd5) (NettingFlow.cells x365)), (73, .bool true), (75, .bool true)], [])] [] [] [] [0, 1, 5, 6, 8, 9, 149] (.norm, (f8n4E bg1 bb2 bf3 bl4 bd5 bd6 (.norm (seq x363.To x365.From))).2) (ap (at_some h364).1 (ap (at_map NettingFlow.cells (at_some h364).2) (ap (at_some h366).1 (ap (at_map NettingFlow.cells (at_some h366).2) (ap3 h367 (ap (at_some h364).1 (ap (at_map NettingFlow.cells (at_some h364).2) (ap h367 (ap4 h367 (ap (at_some h366).1 (ap (at_map NettingFlow.cells (at_some h366).2) (ap4 h367 (ap3 h368 (ap (at_some h364).1 (ap (at_map NettingFlow.cells (at_some h364).2) (ap h368 (ap4 h368 (ap (at_some h366).1 (ap (at_map NettingFlow.cells (at_some h366).2) (ap4 h368 (ap3 h369 (ap4 h369 (ap4 h369 (ap h368 (ap h369 (ap h368 (ap (at_some h364).1 (ap (at_map NettingFlow.cells (at_some h364).2) (ap (at_some h366).1 (ap (at_map NettingFlow.cells (at_some h366).2) (ap3 h372 (ap (at_some h364).1 (ap (at_map NettingFlow.cells (at_some h364).2) (ap h372 (ap4 h372 (ap (at_some h366).1 (ap (at_map NettingFlow.cells (at_some h366).2) (ap4 h372 (ap2 h368 an))))))))))))))))))))))))))))))))))))))) rfl
        · obtain rfl := some_inj h
          exact rE cfg_ok [(jF [37, 38, 39, 40, 41, 42, 43, 44, 45, 46, 47, 62, 63, 64, 65, 66, 67, 68, 69, 70, 71, 72] ++ jT [12, 13, 14, 15, 16, 17, 18, 19, 20, 21, 22, 25, 26, 27, 28, 29, 30, 31, 32, 33, 34, 35, 36, 48, 49, 74], [(2, .idx (Int.toNat bd6) (NettingFlow.cells x363)), (7, .idx (Int.toNat bd5) (NettingFlow.cells x365)), (14, .idx (Int.toNat bd6) (NettingFlow.cells x363)), (19, .idx (Int.toNat bd5) (NettingFlow.cells x365)), (23, .bool true), (27, .idx (Int.toNat bd6) (NettingFlow.cells x363)), (32, .idx (Int.toNat bd5) (NettingFlow.cells x365)), (48, .bool false), (52, .idx (Int.toNat bd6) (NettingFlow.cells x363)), (57, .idx (Int.toNat bd5) (NettingFlow.cells x365)), (73, .bool false), (75, .bool true)], [])] [] [] [] [0, 1, 5, 6, 8, 9, 149] (.norm, (f8n4E bg1 bb2 bf3 bl4 bd5 bd6 (.norm false)).2) (ap (at_some h364).1 (ap (at_map NettingFlow.cells (at_some h364).2) (ap (at_some h366).1 (ap (at_map NettingFlow.cells (at_some h366).2) (ap3 h367 (ap (at_some h364).1 (ap (at_map NettingFlow.cells (at_some h364).2) (ap h367 (ap4 h367 (ap (at_some h366).1 (ap (at_map NettingFlow.cells (at_some h366).2) (ap4 h367 (ap3 h368 (ap (at_some h364).1 (ap (at_map NettingFlow.cells (at_some h364).2) (ap h368 (ap4 h368 (ap (at_some h366).1 (ap (at_map NettingFlow.cells (at_some h366).2) (ap4 h368 (ap3 h369 (ap4 h369 (ap4 h369 (ap h368 (ap h369 (ap h368 (ap (at_some h364).1 (ap (at_map NettingFlow.cells (at_some h364).2) (ap (at_some h366).1 (ap (at_map NettingFlow.cells (at_some h366).2) (ap4 h372 (ap4 h372 (ap4 h372 (ap2 h368 an)))))))))))))))))))))))))))))))))) rfl
    · obtain rfl := some_inj h
      exact rE cfg_ok [(jF [25, 26, 27, 28, 29, 30, 31, 32, 33, 34, 35, 36, 48, 49, 74] ++ jT [12, 13, 14, 15, 16, 17, 18, 19, 20, 21, 22], [(2, .idx (Int.toNat bd6) (NettingFlow.cells x363)), (7, .idx (Int.toNat bd5) (NettingFlow.cells x365)), (14, .idx (Int.toNat bd6) (NettingFlow.cells x363)), (19, .idx (Int.toNat bd5) (NettingFlow.cells x365)), (23, .bool true), (75, .bool false)], [])] [] [] [] [0, 1, 5, 6, 8, 9, 149] (.norm, (f8n4E bg1 bb2 bf3 bl4 bd5 bd6 (.norm false)).2) (ap (at_some h364).1 (ap (at_map NettingFlow.cells (at_some h364).2) (ap (at_some h366).1 (ap (at_map NettingFlow.cells (at_some h366).2) (ap3 h367 (ap (at_some h364).1 (ap (at_map NettingFlow.cells (at_some h364).2) (ap h367 (ap4 h367 (ap (at_some h366).1 (ap (at_map NettingFlow.cells (at_some h366).2) (ap4 h367 (ap4 h368 (ap4 h368 (ap4 h368 (ap4 h368 an)))))))))))))))) rfl
  · obtain rfl := some_inj h
    exact rE cfg_ok [(jF [12, 13, 14, 15, 16, 17, 18, 19, 20, 21, 22], [(2, .idx (Int.toNat bd6) (NettingFlow.cells x363)), (7, .idx (Int.toNat bd5) (NettingFlow.cells x365)), (23, .bool false)], [])] [] [] [] [0, 1, 5, 6, 8, 9, 149] (.norm, (f8n4E bg1 bb2 bf3 bl4 bd5 bd6 (.norm false)).2) (ap (at_some h364).1 (ap (at_map NettingFlow.cells (at_some h364).2) (ap (at_some h366).1 (ap (at_map NettingFlow.cells (at_some h366).2) (ap4 h367 (ap4 h367 (ap4 h367 an))))))) rfl
inductive f8n3O where
  | norm
  | ret
def f8n3E (bg1 : List NettingFlow) (bb2 : ByteArray) (bf3 : Bool) (bl4 : (List NettingFlow) × Int) (bd5 : Int) (bd6 : Int) : f8n3O → Ex × Tr × Hp
  | .norm => (.norm, mkS [(0, (jL 6 NettingFlow.cells bg1)), (1, (jS bb2)), (5, (jB bf3)), (6, (jL 6 NettingFlow.cells bl4.1)), (8, (jI bd5)), (9, (jI bd6))], [])
  | .ret => (.ret, mkS [(4, (jB false))], [])
def f8n3S (bg1 : List NettingFlow) (bb2 : ByteArray) (bf3 : Bool) (bl4 : (List NettingFlow) × Int) (bd5 : Int) (bd6 : Int) : Tr × Hp := (mkS [(0, (jL 6 NettingFlow.cells bg1)), (1, (jS bb2)), (5, (jB bf3)), (6, (jL 6 NettingFlow.cells bl4.1)), (8, (jI bd5)), (9, (jI bd6))], [])
noncomputable def f8n3 (bg1 : List NettingFlow) (bb2 : ByteArray) (bf3 : Bool) (bl4 : (List NettingFlow) × Int) (bd5 : Int) (bd6 : Int) : Option f8n3O :=
  (f8n4 bg1 bb2 bf3 bl4 bd5 bd6).bind fun o374 => match o374 with
  | .norm v376 => bif v376 then
      some .ret
    else
      some .norm
theorem f8n3_ok (bg1 : List NettingFlow) (bb2 : ByteArray) (bf3 : Bool) (bl4 : (List NettingFlow) × Int) (bd5 : Int) (bd6 : Int) {o : f8n3O} (h : (f8n3 bg1 bb2 bf3 bl4 bd5 bd6) = some o) : T Try.prog Try.f8.ntmps 0 (cL (dropC 1 (cL (cL (dropC 1 (dropC 1 (cL (cL (dropC 1 (cL (cL (dropC 1 (cL (dropC 1 (dropC 4 c8))))))))))))))) (f8n3S bg1 bb2 bf3 bl4 bd5 bd6) (fun r => r = f8n3E bg1 bb2 bf3 bl4 bd5 bd6 o) := by
  unfold f8n3 at h
  refine T.block' (i := 3) (by kernel_rfl) ?_
  refine rN cfg_ok 0 [] [] [] [] [0, 1, 5, 6, 8, 9] (f8n4S bg1 bb2 bf3 bl4 bd5 bd6) an ?_
  obtain ⟨o374, h375, h⟩ := bind_cases h
  cases o374 with
  | norm v376 =>
    refine T.oneN (by kernel_rfl) (f8n4_ok bg1 bb2 bf3 bl4 bd5 bd6 h375) (st2 := (f8n4E bg1 bb2 bf3 bl4 bd5 bd6 (.norm v376)).2) rfl ?_
    rcases cond_cases h with ⟨h378, h⟩ | ⟨h378, h⟩
    · obtain rfl := some_inj h
      exact rE cfg_ok [j3] [some true] [] [] [4] (.ret, (f8n3E bg1 bb2 bf3 bl4 bd5 bd6 .ret).2) (ap h378 an) rfl
    · obtain rfl := some_inj h
      exact rE cfg_ok [] [some false] [] [] [0, 1, 5, 6, 8, 9] (.norm, (f8n3E bg1 bb2 bf3 bl4 bd5 bd6 .norm).2) (ap h378 an) rfl
inductive f8n5O where
  | exit2
  | ret
def f8n5E (bg1 : List NettingFlow) (bb2 : ByteArray) (bf3 : Bool) (bl4 : (List NettingFlow) × Int) (bd5 : Int) : f8n5O → Ex × Tr × Hp
  | .exit2 => ((.exit 2), mkS [(0, (jL 6 NettingFlow.cells bg1)), (1, (jS bb2)), (5, (jB bf3)), (6, (jL 6 NettingFlow.cells bl4.1)), (8, (jI bd5))], [])
  | .ret => (.ret, mkS [(4, (jB false))], [])
def f8n5S (bg1 : List NettingFlow) (bb2 : ByteArray) (bf3 : Bool) (bl4 : (List NettingFlow) × Int) (bd5 : Int) (v328 : Int) : Tr × Hp := (mkS [(0, (jL 6 NettingFlow.cells bg1)), (1, (jS bb2)), (5, (jB bf3)), (6, (jL 6 NettingFlow.cells bl4.1)), (8, (jI bd5)), (9, (jI v328))], [])
noncomputable def f8n5 : Nat → List NettingFlow → ByteArray → Bool → (List NettingFlow) × Int → Int → Int → Option f8n5O
  | 0, _, _, _, _, _, _ => none
  | f + 1, bg1, bb2, bf3, bl4, bd5, v328 =>
    bif (decide (v328 < bd5)) then
      (f8n3 bg1 bb2 bf3 bl4 bd5 v328).bind fun o379 => match o379 with
      | .norm => (f8n5 f bg1 bb2 bf3 bl4 bd5 (wr64 (v328 + 1)))
      | .ret => some .ret
    else
      some .exit2
theorem f8n5_ok : ∀ (f : Nat) (bg1 : List NettingFlow) (bb2 : ByteArray) (bf3 : Bool) (bl4 : (List NettingFlow) × Int) (bd5 : Int) (v328 : Int) {o : f8n5O}, (f8n5 f bg1 bb2 bf3 bl4 bd5 v328) = some o → TL Try.prog Try.f8.ntmps 0 f (cL (cL (dropC 1 (dropC 1 (cL (cL (dropC 1 (cL (cL (dropC 1 (cL (dropC 1 (dropC 4 c8))))))))))))) (f8n5S bg1 bb2 bf3 bl4 bd5 v328) (fun r => r = f8n5E bg1 bb2 bf3 bl4 bd5 o)
  | 0, _, _, _, _, _, _, o, h => by rw [f8n5] at h; cases h
  | f + 1, bg1, bb2, bf3, bl4, bd5, v328, o, h => by
    rw [f8n5] at h
    refine TL.body (K := fun s => ∃ v328 : Int, s = (f8n5S bg1 bb2 bf3 bl4 bd5 v328) ∧ (f8n5 f bg1 bb2 bf3 bl4 bd5 v328) = some o) ?_ (by rintro _ ⟨v328, rfl, hk⟩; exact f8n5_ok f _ _ _ _ _ _ hk)
    rcases cond_cases h with ⟨h330, h⟩ | ⟨h330, h⟩
    · refine rN cfg_ok 1 [j3] [some true] [] [] [0, 1, 5, 6, 8, 9] (f8n3S bg1 bb2 bf3 bl4 bd5 v328) (ap h330 an) ?_
      obtain ⟨o379, h380, h⟩ := bind_cases h
      cases o379 with
      | norm =>
        refine T.oneN (by kernel_rfl) (f8n3_ok bg1 bb2 bf3 bl4 bd5 v328 h380) (st2 := (f8n3E bg1 bb2 bf3 bl4 bd5 v328 .norm).2) rfl ?_
        exact rE cfg_ok [j3] [] [] [] [0, 1, 5, 6, 8, 9] (.norm, (f8n5S bg1 bb2 bf3 bl4 bd5 (wr64 (v328 + 1)))) an (LoopQ.norm ⟨(wr64 (v328 + 1)), rfl, h⟩)
      | ret =>
        obtain rfl := some_inj h
        exact T.oneX' (by kernel_rfl) (f8n3_ok bg1 bb2 bf3 bl4 bd5 v328 h380) (tds := []) (m := []) (keep := [4]) (st2 := (f8n5E bg1 bb2 bf3 bl4 bd5 .ret).2) (by kernel_rfl) an rfl (LoopQ.out rfl rfl)
    · obtain rfl := some_inj h
      exact rK cfg_ok 1 [j3] [some false] [] [] [0, 1, 5, 6, 8] (.exit 2) ((f8n5E bg1 bb2 bf3 bl4 bd5 .exit2).2) (ap h330 an) (LoopQ.out rfl rfl)
inductive f8n2O where
  | norm
  | ret
def f8n2E (bg1 : List NettingFlow) (bb2 : ByteArray) (bf3 : Bool) (bl4 : (List NettingFlow) × Int) (bd5 : Int) : f8n2O → Ex × Tr × Hp
  | .norm => (.norm, mkS [(0, (jL 6 NettingFlow.cells bg1)), (1, (jS bb2)), (5, (jB bf3)), (6, (jL 6 NettingFlow.cells bl4.1)), (8, (jI bd5))], [])
  | .ret => (.ret, mkS [(4, (jB false))], [])
def f8n2S (bg1 : List NettingFlow) (bb2 : ByteArray) (bf3 : Bool) (bl4 : (List NettingFlow) × Int) (bd5 : Int) : Tr × Hp := (mkS [(0, (jL 6 NettingFlow.cells bg1)), (1, (jS bb2)), (5, (jB bf3)), (6, (jL 6 NettingFlow.cells bl4.1)), (8, (jI bd5))], [])
noncomputable def f8n2 (bg1 : List NettingFlow) (bb2 : ByteArray) (bf3 : Bool) (bl4 : (List NettingFlow) × Int) (bd5 : Int) : Option f8n2O :=
  (at? bl4.1 bd5).bind fun x219 =>
  bif (seq x219.Set str_x) then
    bif ((seq x219.From bb2) == (seq x219.To bb2)) then
      some .ret
    else
      (f8n5 FUEL bg1 bb2 bf3 bl4 bd5 0).bind fun o381 => match o381 with
      | .exit2 => some .norm
      | .ret => some .ret
  else
    some .ret
theorem f8n2_ok (bg1 : List NettingFlow) (bb2 : ByteArray) (bf3 : Bool) (bl4 : (List NettingFlow) × Int) (bd5 : Int) {o : f8n2O} (h : (f8n2 bg1 bb2 bf3 bl4 bd5) = some o) : T Try.prog Try.f8.ntmps 0 (cL (dropC 1 (cL (cL (dropC 1 (cL (dropC 1 (dropC 4 c8)))))))) (f8n2S bg1 bb2 bf3 bl4 bd5) (fun r => r = f8n2E bg1 bb2 bf3 bl4 bd5 o) := by
  unfold f8n2 at h
  refine T.block' (i := 1) (by kernel_rfl) ?_
  obtain ⟨x219, h220, h⟩ := bind_cases h
  rcases cond_cases h with ⟨h221, h⟩ | ⟨h221, h⟩
  · rcases cond_cases h with ⟨h222, h⟩ | ⟨h222, h⟩
    · obtain rfl := some_inj h
      exact rK cfg_ok 1 [(jF [7, 8, 9, 10, 11, 12, 13, 14, 15, 16, 17, 18, 19, 20, 21], [(2, .idx (Int.toNat bd5) (NettingFlow.cells x219)), (9, .idx (Int.toNat bd5) (NettingFlow.cells x219)), (16, .idx (Int.toNat bd5) (NettingFlow.cells x219)), (22, .bool false)], []), j3] [some true] [] [] [4] .ret ((f8n2E bg1 bb2 bf3 bl4 bd5 .ret).2) (ap (at_some h220).1 (ap (at_map NettingFlow.cells (at_some h220).2) (ap3 (not_t h221) (ap (at_some h220).1 (ap (at_map NettingFlow.cells (at_some h220).2) (ap3 (not_t h221) (ap4 (not_t h221) (ap (at_some h220).1 (ap (at_map NettingFlow.cells (at_some h220).2) (ap2 (not_t h221) (ap4 (not_t h221) (ap h222 an)))))))))))) rfl
    · refine rN cfg_ok 1 [(jF [7, 8, 9, 10, 11, 12, 13, 14, 15, 16, 17, 18, 19, 20, 21], [(2, .idx (Int.toNat bd5) (NettingFlow.cells x219)), (9, .idx (Int.toNat bd5) (NettingFlow.cells x219)), (16, .idx (Int.toNat bd5) (NettingFlow.cells x219)), (22, .bool false)], [])] [some false] [] [] [0, 1, 5, 6, 8] (mkS [(0, (jL 6 NettingFlow.cells bg1)), (1, (jS bb2)), (5, (jB bf3)), (6, (jL 6 NettingFlow.cells bl4.1)), (8, (jI bd5))], []) (ap (at_some h220).1 (ap (at_map NettingFlow.cells (at_some h220).2) (ap3 (not_t h221) (ap (at_some h220).1 (ap (at_map NettingFlow.cells (at_some h220).2) (ap3 (not_t h221) (ap4 (not_t h221) (ap (at_some h220).1 (ap (at_map NettingFlow.cells (at_some h220).2) (ap2 (not_t h221) (ap4 (not_t h221) (ap h222 an)))))))))))) ?_
      refine rN cfg_ok 1 [j3] [] [] [] [0, 1, 5, 6, 8, 9] (f8n5S bg1 bb2 bf3 bl4 bd5 0) an ?_
      obtain ⟨o381, h382, h⟩ := bind_cases h
      cases o381 with
      | exit2 =>
        obtain rfl := some_inj h
        exact T.last' (T.bl (i := 2) (by kernel_rfl) (by kernel_rfl) (f8n5_ok FUEL bg1 bb2 bf3 bl4 bd5 0 h382)) (tds := []) (m := []) (keep := [0, 1, 5, 6, 8]) (st2 := (f8n2E bg1 bb2 bf3 bl4 bd5 .norm).2) (by kernel_rfl) an rfl
      | ret =>
        obtain rfl := some_inj h
        exact T.last' (T.bl (i := 2) (by kernel_rfl) (by kernel_rfl) (f8n5_ok FUEL bg1 bb2 bf3 bl4 bd5 0 h382)) (tds := []) (m := []) (keep := [4]) (st2 := (f8n2E bg1 bb2 bf3 bl4 bd5 .ret).2) (by kernel_rfl) an rfl
  · obtain rfl := some_inj h
    exact rK cfg_ok 1 [(jT [7, 8, 9, 10, 11, 12, 13, 14, 15, 16, 17, 18, 19, 20, 21], [(2, .idx (Int.toNat bd5) (NettingFlow.cells x219)), (22, .bool true)], []), j3] [none] [] [] [4] .ret ((f8n2E bg1 bb2 bf3 bl4 bd5 .ret).2) (ap (at_some h220).1 (ap (at_map NettingFlow.cells (at_some h220).2) (ap4 (not_f h221) (ap4 (not_f h221) (ap4 (not_f h221) (ap4 (not_f h221) an)))))) rfl
inductive f8n6O where
  | exit0
  | ret
def f8n6E (bg1 : List NettingFlow) (bb2 : ByteArray) (bf3 : Bool) (bl4 : (List NettingFlow) × Int) : f8n6O → Ex × Tr × Hp
  | .exit0 => ((.exit 0), mkS [(0, (jL 6 NettingFlow.cells bg1)), (1, (jS bb2)), (5, (jB bf3)), (6, (jL 6 NettingFlow.cells bl4.1))], [])
  | .ret => (.ret, mkS [(4, (jB false))], [])
def f8n6S (bg1 : List NettingFlow) (bb2 : ByteArray) (bf3 : Bool) (bl4 : (List NettingFlow) × Int) (v212 : Int) : Tr × Hp := (mkS [(0, (jL 6 NettingFlow.cells bg1)), (1, (jS bb2)), (5, (jB bf3)), (6, (jL 6 NettingFlow.cells bl4.1)), (8, (jI v212))], [])
noncomputable def f8n6 : Nat → List NettingFlow → ByteArray → Bool → (List NettingFlow) × Int → Int → Option f8n6O
  | 0, _, _, _, _, _ => none
  | f + 1, bg1, bb2, bf3, bl4, v212 =>
    bif (decide (v212 < (bl4.1.length : Int))) then
      (f8n2 bg1 bb2 bf3 bl4 v212).bind fun o383 => match o383 with
      | .norm => (f8n6 f bg1 bb2 bf3 bl4 (wr64 (v212 + 1)))
      | .ret => some .ret
    else
      some .exit0
theorem f8n6_ok : ∀ (f : Nat) (bg1 : List NettingFlow) (bb2 : ByteArray) (bf3 : Bool) (bl4 : (List NettingFlow) × Int) (v212 : Int) {o : f8n6O}, (f8n6 f bg1 bb2 bf3 bl4 v212) = some o → TL Try.prog Try.f8.ntmps 0 f (cL (cL (dropC 1 (cL (dropC 1 (dropC 4 c8)))))) (f8n6S bg1 bb2 bf3 bl4 v212) (fun r => r = f8n6E bg1 bb2 bf3 bl4 o)
  | 0, _, _, _, _, _, o, h => by rw [f8n6] at h; cases h
  | f + 1, bg1, bb2, bf3, bl4, v212, o, h => by
    rw [f8n6] at h
    refine TL.body (K := fun s => ∃ v212 : Int, s = (f8n6S bg1 bb2 bf3 bl4 v212) ∧ (f8n6 f bg1 bb2 bf3 bl4 v212) = some o) ?_ (by rintro _ ⟨v212, rfl, hk⟩; exact f8n6_ok f _ _ _ _ _ hk)
    rcases cond_cases h with ⟨h214, h⟩ | ⟨h214, h⟩
    · refine rN cfg_ok 1 [([], [], [(2, .val (jI (bl4.1.length : Int)))])] [some true] [] [] [0, 1, 5, 6, 8] (f8n2S bg1 bb2 bf3 bl4 v212) (ap (len_cv (xs := bl4.1) (c := NettingFlow.cells)) (ap h214 an)) ?_
      obtain ⟨o383, h384, h⟩ := bind_cases h
      cases o383 with
      | norm =>
        refine T.oneN (by kernel_rfl) (f8n2_ok bg1 bb2 bf3 bl4 v212 h384) (st2 := (f8n2E bg1 bb2 bf3 bl4 v212 .norm).2) rfl ?_
        exact rE cfg_ok [j3] [] [] [] [0, 1, 5, 6, 8] (.norm, (f8n6S bg1 bb2 bf3 bl4 (wr64 (v212 + 1)))) an (LoopQ.norm ⟨(wr64 (v212 + 1)), rfl, h⟩)
      | ret =>
        obtain rfl := some_inj h
        exact T.oneX' (by kernel_rfl) (f8n2_ok bg1 bb2 bf3 bl4 v212 h384) (tds := []) (m := []) (keep := [4]) (st2 := (f8n6E bg1 bb2 bf3 bl4 .ret).2) (by kernel_rfl) an rfl (LoopQ.out rfl rfl)
    · obtain rfl := some_inj h
      exact rK cfg_ok 1 [([], [], [(2, .val (jI (bl4.1.length : Int)))])] [some false] [] [] [0, 1, 5, 6] (.exit 0) ((f8n6E bg1 bb2 bf3 bl4 .exit0).2) (ap (len_cv (xs := bl4.1) (c := NettingFlow.cells)) (ap h214 an)) (LoopQ.out rfl rfl)
inductive f8n1O where
  | norm
  | ret
def f8n1E (bg1 : List NettingFlow) (bb2 : ByteArray) (bf3 : Bool) (bl4 : (List NettingFlow) × Int) : f8n1O → Ex × Tr × Hp
  | .norm => (.norm, mkS [(0, (jL 6 NettingFlow.cells bg1)), (1, (jS bb2)), (5, (jB bf3)), (6, (jL 6 NettingFlow.cells bl4.1))], [])
  | .ret => (.ret, mkS [(4, (jB false))], [])
def f8n1S (bg1 : List NettingFlow) (bb2 : ByteArray) (bf3 : Bool) (bl4 : (List NettingFlow) × Int) : Tr × Hp := (mkS [(0, (jL 6 NettingFlow.cells bg1)), (1, (jS bb2)), (5, (jB bf3)), (6, (jL 6 NettingFlow.cells bl4.1))], [])
noncomputable def f8n1 (bg1 : List NettingFlow) (bb2 : ByteArray) (bf3 : Bool) (bl4 : (List NettingFlow) × Int) : Option f8n1O :=
  (f8n6 FUEL bg1 bb2 bf3 bl4 0).bind fun o385 => match o385 with
  | .exit0 => some .norm
  | .ret => some .ret
theorem f8n1_ok (bg1 : List NettingFlow) (bb2 : ByteArray) (bf3 : Bool) (bl4 : (List NettingFlow) × Int) {o : f8n1O} (h : (f8n1 bg1 bb2 bf3 bl4) = some o) : T Try.prog Try.f8.ntmps 0 (cL (dropC 1 (dropC 4 c8))) (f8n1S bg1 bb2 bf3 bl4) (fun r => r = f8n1E bg1 bb2 bf3 bl4 o) := by
  unfold f8n1 at h
  refine rN cfg_ok 1 [j3] [] [] [] [0, 1, 5, 6, 8] (f8n6S bg1 bb2 bf3 bl4 0) an ?_
  obtain ⟨o385, h386, h⟩ := bind_cases h
  cases o385 with
  | exit0 =>
    obtain rfl := some_inj h
    exact T.last' (T.bl (i := 0) (by kernel_rfl) (by kernel_rfl) (f8n6_ok FUEL bg1 bb2 bf3 bl4 0 h386)) (tds := []) (m := []) (keep := [0, 1, 5, 6]) (st2 := (f8n1E bg1 bb2 bf3 bl4 .norm).2) (by kernel_rfl) an rfl
  | ret =>
    obtain rfl := some_inj h
    exact T.last' (T.bl (i := 0) (by kernel_rfl) (by kernel_rfl) (f8n6_ok FUEL bg1 bb2 bf3 bl4 0 h386)) (tds := []) (m := []) (keep := [4]) (st2 := (f8n1E bg1 bb2 bf3 bl4 .ret).2) (by kernel_rfl) an rfl
inductive f8n10O where
  | norm (v913 : Bool)
def f8n10E (bg1 : List NettingFlow) (bb2 : ByteArray) (bf3 : Bool) (bl4 : (List NettingFlow) × Int) (bd5 : Int) (bb6 : ByteArray) (bn7 : Int × Int) (bn8 : Int × Int) (bd9 : Int) (bh10 : NettingFlow) : f8n10O → Ex × Tr × Hp
  | .norm v913 => (.norm, mkS [(0, (jL 6 NettingFlow.cells bg1)), (1, (jS bb2)), (5, (jB bf3)), (6, (jL 6 NettingFlow.cells bl4.1)), (10, (jI bd5)), (166, (.own 0)), (167, (jI 2)), (168, (jI bd9)), (220, (jB v913))], [some (.row false 1 ([bh10.From, bh10.To].map cStr))])
def f8n10S (bg1 : List NettingFlow) (bb2 : ByteArray) (bf3 : Bool) (bl4 : (List NettingFlow) × Int) (bd5 : Int) (bb6 : ByteArray) (bn7 : Int × Int) (bn8 : Int × Int) (bd9 : Int) (bh10 : NettingFlow) : Tr × Hp := (mkS [(0, (jL 6 NettingFlow.cells bg1)), (1, (jS bb2)), (5, (jB bf3)), (6, (jL 6 NettingFlow.cells bl4.1)), (10, (jI bd5)), (12, (jS bb6)), (13, (jI bn7.1)), (14, (jI bn7.2)), (15, (jI bn8.1)), (16, (jI bn8.2)), (166, (.own 0)), (167, (jI 2)), (168, (jI bd9))], [some (.row false 1 ([bh10.From, bh10.To].map cStr))])
noncomputable def f8n10 (bg1 : List NettingFlow) (bb2 : ByteArray) (bf3 : Bool) (bl4 : (List NettingFlow) × Int) (bd5 : Int) (bb6 : ByteArray) (bn7 : Int × Int) (bn8 : Int × Int) (bd9 : Int) (bh10 : NettingFlow) : Option f8n10O :=
  bif (seq bb6 bb2) then
    bif (decide (bn7.2 = bn8.2)) then
      some (.norm (!(decide (bn7.1 = bn8.1))))
    else
      some (.norm true)
  else
    bif (decide (bn7.2 = 0)) then
      bif (decide (bn7.2 = bn8.2)) then
        some (.norm (!(decide (bn7.1 = bn8.1))))
      else
        some (.norm true)
    else
      some (.norm true)
theorem f8n10_ok (bg1 : List NettingFlow) (bb2 : ByteArray) (bf3 : Bool) (bl4 : (List NettingFlow) × Int) (bd5 : Int) (bb6 : ByteArray) (bn7 : Int × Int) (bn8 : Int × Int) (bd9 : Int) (bh10 : NettingFlow) {o : f8n10O} (h : (f8n10 bg1 bb2 bf3 bl4 bd5 bb6 bn7 bn8 bd9 bh10) = some o) : T Try.prog Try.f8.ntmps 0 (cL (dropC 0 (dropC 3 (cL (cL (dropC 2 (cL (cL (dropC 1 (cL (cL (dropC 1 (cL (cL (dropC 1 (cL (dropC 0 (dropC 1 (dropC 1 (dropC 4 c8)))))))))))))))))))) (f8n10S bg1 bb2 bf3 bl4 bd5 bb6 bn7 bn8 bd9 bh10) (fun r => r = f8n10E bg1 bb2 bf3 bl4 bd5 bb6 bn7 bn8 bd9 bh10 o) := by
  unfold f8n10 at h
  rcases cond_cases h with ⟨h909, h⟩ | ⟨h909, h⟩
  · rcases cond_cases h with ⟨h910, h⟩ | ⟨h910, h⟩
    · obtain rfl := some_inj h
      exact rE cfg_ok [(jF [4, 5, 13, 14, 15], [(6, .bool false), (16, .bool false)], [])] [] [] [0] [0, 1, 5, 6, 10, 166, 167, 168, 220] (.norm, (f8n10E bg1 bb2 bf3 bl4 bd5 bb6 bn7 bn8 bd9 bh10 (.norm (!(decide (bn7.1 = bn8.1))))).2) (ap3 (not_t h909) (ap4 (not_t h910) an)) rfl
    · obtain rfl := some_inj h
      exact rE cfg_ok [(jF [4, 5] ++ jT [13, 14, 15], [(6, .bool false), (16, .bool true)], [])] [] [] [0] [0, 1, 5, 6, 10, 166, 167, 168, 220] (.norm, (f8n10E bg1 bb2 bf3 bl4 bd5 bb6 bn7 bn8 bd9 bh10 (.norm true)).2) (ap3 (not_t h909) (ap4 (not_f h910) an)) rfl
  · rcases cond_cases h with ⟨h911, h⟩ | ⟨h911, h⟩
    · rcases cond_cases h with ⟨h912, h⟩ | ⟨h912, h⟩
      · obtain rfl := some_inj h
        exact rE cfg_ok [(jF [8, 9, 10, 13, 14, 15] ++ jT [4, 5], [(6, .bool true), (11, .bool false), (16, .bool false)], [])] [] [] [0] [0, 1, 5, 6, 10, 166, 167, 168, 220] (.norm, (f8n10E bg1 bb2 bf3 bl4 bd5 bb6 bn7 bn8 bd9 bh10 (.norm (!(decide (bn7.1 = bn8.1))))).2) (ap3 (not_f h909) (ap4 (not_t h911) (ap4 (not_t h912) an))) rfl
      · obtain rfl := some_inj h
        exact rE cfg_ok [(jF [8, 9, 10] ++ jT [4, 5, 13, 14, 15], [(6, .bool true), (11, .bool false), (16, .bool true)], [])] [] [] [0] [0, 1, 5, 6, 10, 166, 167, 168, 220] (.norm, (f8n10E bg1 bb2 bf3 bl4 bd5 bb6 bn7 bn8 bd9 bh10 (.norm true)).2) (ap3 (not_f h909) (ap4 (not_t h911) (ap4 (not_f h912) an))) rfl
    · obtain rfl := some_inj h
      exact rE cfg_ok [(jT [4, 5, 8, 9, 10], [(6, .bool true), (11, .bool true)], [])] [] [] [0] [0, 1, 5, 6, 10, 166, 167, 168, 220] (.norm, (f8n10E bg1 bb2 bf3 bl4 bd5 bb6 bn7 bn8 bd9 bh10 (.norm true)).2) (ap3 (not_f h909) (ap4 (not_f h911) an)) rfl
inductive f8n9O where
  | norm
  | ret
def f8n9E (bg1 : List NettingFlow) (bb2 : ByteArray) (bf3 : Bool) (bl4 : (List NettingFlow) × Int) (bd5 : Int) (bd6 : Int) (bh7 : NettingFlow) : f8n9O → Ex × Tr × Hp
  | .norm => (.norm, mkS [(0, (jL 6 NettingFlow.cells bg1)), (1, (jS bb2)), (5, (jB bf3)), (6, (jL 6 NettingFlow.cells bl4.1)), (10, (jI bd5)), (166, (.own 0)), (167, (jI 2)), (168, (jI bd6))], [some (.row false 1 ([bh7.From, bh7.To].map cStr))])
  | .ret => (.ret, mkS [(4, (jB false))], [])
def f8n9S (bg1 : List NettingFlow) (bb2 : ByteArray) (bf3 : Bool) (bl4 : (List NettingFlow) × Int) (bd5 : Int) (bd6 : Int) (bh7 : NettingFlow) : Tr × Hp := (mkS [(0, (jL 6 NettingFlow.cells bg1)), (1, (jS bb2)), (5, (jB bf3)), (6, (jL 6 NettingFlow.cells bl4.1)), (10, (jI bd5)), (166, (.own 0)), (167, (jI 2)), (168, (jI bd6))], [some (.row false 1 ([bh7.From, bh7.To].map cStr))])
noncomputable def f8n9 (bg1 : List NettingFlow) (bb2 : ByteArray) (bf3 : Bool) (bl4 : (List NettingFlow) × Int) (bd5 : Int) (bd6 : Int) (bh7 : NettingFlow) : Option f8n9O :=
  (at? [bh7.From, bh7.To] bd6).bind fun x881 =>
  (at? bg1 bd5).bind fun x887 =>
  (f27 bg1 x881 x887.Date x887.Ccy).bind fun x889 =>
  (f27 bl4.1 x881 x887.Date x887.Ccy).bind fun x893 =>
  (f8n10 bg1 bb2 bf3 bl4 bd5 x881 x889 x893 bd6 bh7).bind fun o914 => match o914 with
  | .norm v916 => bif v916 then
      some .ret
    else
      some .norm
theorem f8n9_ok (bg1 : List NettingFlow) (bb2 : ByteArray) (bf3 : Bool) (bl4 : (List NettingFlow) × Int) (bd5 : Int) (bd6 : Int) (bh7 : NettingFlow) {o : f8n9O} (h : (f8n9 bg1 bb2 bf3 bl4 bd5 bd6 bh7) = some o) : T Try.prog Try.f8.ntmps 0 (cL (dropC 2 (cL (cL (dropC 1 (cL (cL (dropC 1 (cL (cL (dropC 1 (cL (dropC 0 (dropC 1 (dropC 1 (dropC 4 c8)))))))))))))))) (f8n9S bg1 bb2 bf3 bl4 bd5 bd6 bh7) (fun r => r = f8n9E bg1 bb2 bf3 bl4 bd5 bd6 bh7 o) := by
  unfold f8n9 at h
  refine T.block' (i := 7) (by kernel_rfl) ?_
  obtain ⟨x881, h882, h⟩ := bind_cases h
  obtain ⟨x887, h888, h⟩ := bind_cases h
  obtain ⟨x889, h890, h⟩ := bind_cases h
  obtain ⟨x893, h894, h⟩ := bind_cases h
  refine rN cfg_ok 3 [([], [(0, .at_ (Int.toNat bd6)), (1, .idx 0 (cStr x881))], []), ([], [(4, .idx (Int.toNat bd5) (NettingFlow.cells x887)), (9, .idx (Int.toNat bd5) (NettingFlow.cells x887)), jH 12 (.tup [(jI x889.1), (jI x889.2)])], []), ([], [(4, .idx (Int.toNat bd5) (NettingFlow.cells x887)), (9, .idx (Int.toNat bd5) (NettingFlow.cells x887)), jH 12 (.tup [(jI x893.1), (jI x893.2)])], [])] [] [] [0] [0, 1, 5, 6, 10, 12, 13, 14, 15, 16, 166, 167, 168] (mkS [(0, (jL 6 NettingFlow.cells bg1)), (1, (jS bb2)), (5, (jB bf3)), (6, (jL 6 NettingFlow.cells bl4.1)), (10, (jI bd5)), (12, (jS x881)), (13, (jI x889.1)), (14, (jI x889.2)), (15, (jI x893.1)), (16, (jI x893.2)), (166, (.own 0)), (167, (jI 2)), (168, (jI bd6))], [some (.row false 1 ([bh7.From, bh7.To].map cStr))]) (ap (at_some h882).1 (ap (lt_map cStr (at_some h882).2) (ap (at_map cStr (at_some h882).2) (ap (at_some h888).1 (ap (at_map NettingFlow.cells (at_some h888).2) (ap (at_some h888).1 (ap (at_map NettingFlow.cells (at_some h888).2) (ap (f27_ok bg1 x881 x887.Date x887.Ccy h890) (ap (at_some h888).1 (ap (at_map NettingFlow.cells (at_some h888).2) (ap (at_some h888).1 (ap (at_map NettingFlow.cells (at_some h888).2) (ap (f27_ok bl4.1 x881 x887.Date x887.Ccy h894) an))))))))))))) ?_
  refine rN cfg_ok 0 [] [] [] [0] [0, 1, 5, 6, 10, 12, 13, 14, 15, 16, 166, 167, 168] (f8n10S bg1 bb2 bf3 bl4 bd5 x881 x889 x893 bd6 bh7) an ?_
  obtain ⟨o914, h915, h⟩ := bind_cases h
  cases o914 with
  | norm v916 =>
    refine T.oneN (by kernel_rfl) (f8n10_ok bg1 bb2 bf3 bl4 bd5 x881 x889 x893 bd6 bh7 h915) (st2 := (f8n10E bg1 bb2 bf3 bl4 bd5 x881 x889 x893 bd6 bh7 (.norm v916)).2) rfl ?_
    rcases cond_cases h with ⟨h918, h⟩ | ⟨h918, h⟩
    · obtain rfl := some_inj h
      exact rE cfg_ok [j3] [some true] [] [] [4] (.ret, (f8n9E bg1 bb2 bf3 bl4 bd5 bd6 bh7 .ret).2) (ap h918 an) rfl
    · obtain rfl := some_inj h
      exact rE cfg_ok [] [some false] [] [0] [0, 1, 5, 6, 10, 166, 167, 168] (.norm, (f8n9E bg1 bb2 bf3 bl4 bd5 bd6 bh7 .norm).2) (ap h918 an) rfl
inductive f8n11O where
  | exit6
  | ret
def f8n11E (bg1 : List NettingFlow) (bb2 : ByteArray) (bf3 : Bool) (bl4 : (List NettingFlow) × Int) (bd5 : Int) (x751 : NettingFlow) : f8n11O → Ex × Tr × Hp
  | .exit6 => ((.exit 6), mkS [(0, (jL 6 NettingFlow.cells bg1)), (1, (jS bb2)), (5, (jB bf3)), (6, (jL 6 NettingFlow.cells bl4.1)), (10, (jI bd5))], [])
  | .ret => (.ret, mkS [(4, (jB false))], [])
def f8n11S (bg1 : List NettingFlow) (bb2 : ByteArray) (bf3 : Bool) (bl4 : (List NettingFlow) × Int) (bd5 : Int) (x751 : NettingFlow) (v862 : Int) : Tr × Hp := (mkS [(0, (jL 6 NettingFlow.cells bg1)), (1, (jS bb2)), (5, (jB bf3)), (6, (jL 6 NettingFlow.cells bl4.1)), (10, (jI bd5)), (166, (.own 0)), (167, (jI 2)), (168, (jI v862))], [some (.row false 1 ([x751.From, x751.To].map cStr))])
noncomputable def f8n11 : Nat → List NettingFlow → ByteArray → Bool → (List NettingFlow) × Int → Int → NettingFlow → Int → Option f8n11O
  | 0, _, _, _, _, _, _, _ => none
  | f + 1, bg1, bb2, bf3, bl4, bd5, x751, v862 =>
    bif (decide (v862 < 2)) then
      (f8n9 bg1 bb2 bf3 bl4 bd5 v862 x751).bind fun o919 => match o919 with
      | .norm => (f8n11 f bg1 bb2 bf3 bl4 bd5 x751 (wr64 (v862 + 1)))
      | .ret => some .ret
    else
      some .exit6
theorem f8n11_ok : ∀ (f : Nat) (bg1 : List NettingFlow) (bb2 : ByteArray) (bf3 : Bool) (bl4 : (List NettingFlow) × Int) (bd5 : Int) (x751 : NettingFlow) (v862 : Int) {o : f8n11O}, (f8n11 f bg1 bb2 bf3 bl4 bd5 x751 v862) = some o → TL Try.prog Try.f8.ntmps 0 f (cL (cL (dropC 1 (cL (cL (dropC 1 (cL (cL (dropC 1 (cL (dropC 0 (dropC 1 (dropC 1 (dropC 4 c8)))))))))))))) (f8n11S bg1 bb2 bf3 bl4 bd5 x751 v862) (fun r => r = f8n11E bg1 bb2 bf3 bl4 bd5 x751 o)
  | 0, _, _, _, _, _, _, _, o, h => by rw [f8n11] at h; cases h
  | f + 1, bg1, bb2, bf3, bl4, bd5, x751, v862, o, h => by
    rw [f8n11] at h
    refine TL.body (K := fun s => ∃ v862 : Int, s = (f8n11S bg1 bb2 bf3 bl4 bd5 x751 v862) ∧ (f8n11 f bg1 bb2 bf3 bl4 bd5 x751 v862) = some o) ?_ (by rintro _ ⟨v862, rfl, hk⟩; exact f8n11_ok f _ _ _ _ _ _ _ hk)
    rcases cond_cases h with ⟨h864, h⟩ | ⟨h864, h⟩
    · refine rN cfg_ok 2 [j3] [some true] [] [0] [0, 1, 5, 6, 10, 166, 167, 168] (f8n9S bg1 bb2 bf3 bl4 bd5 v862 x751) (ap h864 an) ?_
      obtain ⟨o919, h920, h⟩ := bind_cases h
      cases o919 with
      | norm =>
        refine T.oneN (by kernel_rfl) (f8n9_ok bg1 bb2 bf3 bl4 bd5 v862 x751 h920) (st2 := (f8n9E bg1 bb2 bf3 bl4 bd5 v862 x751 .norm).2) rfl ?_
        exact rE cfg_ok [j3] [] [] [0] [0, 1, 5, 6, 10, 166, 167, 168] (.norm, (f8n11S bg1 bb2 bf3 bl4 bd5 x751 (wr64 (v862 + 1)))) an (LoopQ.norm ⟨(wr64 (v862 + 1)), rfl, h⟩)
      | ret =>
        obtain rfl := some_inj h
        exact T.oneX' (by kernel_rfl) (f8n9_ok bg1 bb2 bf3 bl4 bd5 v862 x751 h920) (tds := []) (m := []) (keep := [4]) (st2 := (f8n11E bg1 bb2 bf3 bl4 bd5 x751 .ret).2) (by kernel_rfl) an rfl (LoopQ.out rfl rfl)
    · obtain rfl := some_inj h
      exact rK cfg_ok 2 [j3] [some false] [] [] [0, 1, 5, 6, 10] (.exit 6) ((f8n11E bg1 bb2 bf3 bl4 bd5 x751 .exit6).2) (ap h864 an) (LoopQ.out rfl rfl)
inductive f8n8O where
  | norm
  | ret
def f8n8E (bg1 : List NettingFlow) (bb2 : ByteArray) (bf3 : Bool) (bl4 : (List NettingFlow) × Int) (bd5 : Int) : f8n8O → Ex × Tr × Hp
  | .norm => (.norm, mkS [(0, (jL 6 NettingFlow.cells bg1)), (1, (jS bb2)), (5, (jB bf3)), (6, (jL 6 NettingFlow.cells bl4.1)), (10, (jI bd5))], [])
  | .ret => (.ret, mkS [(4, (jB false))], [])
def f8n8S (bg1 : List NettingFlow) (bb2 : ByteArray) (bf3 : Bool) (bl4 : (List NettingFlow) × Int) (bd5 : Int) : Tr × Hp := (mkS [(0, (jL 6 NettingFlow.cells bg1)), (1, (jS bb2)), (5, (jB bf3)), (6, (jL 6 NettingFlow.cells bl4.1)), (10, (jI bd5))], [])
noncomputable def f8n8 (bg1 : List NettingFlow) (bb2 : ByteArray) (bf3 : Bool) (bl4 : (List NettingFlow) × Int) (bd5 : Int) : Option f8n8O :=
  (at? bg1 bd5).bind fun x751 =>
  (f8n11 FUEL bg1 bb2 bf3 bl4 bd5 x751 0).bind fun o921 => match o921 with
  | .exit6 => some .norm
  | .ret => some .ret
theorem f8n8_ok (bg1 : List NettingFlow) (bb2 : ByteArray) (bf3 : Bool) (bl4 : (List NettingFlow) × Int) (bd5 : Int) {o : f8n8O} (h : (f8n8 bg1 bb2 bf3 bl4 bd5) = some o) : T Try.prog Try.f8.ntmps 0 (cL (dropC 1 (cL (cL (dropC 1 (cL (dropC 0 (dropC 1 (dropC 1 (dropC 4 c8)))))))))) (f8n8S bg1 bb2 bf3 bl4 bd5) (fun r => r = f8n8E bg1 bb2 bf3 bl4 bd5 o) := by
  unfold f8n8 at h
  refine T.block' (i := 5) (by kernel_rfl) ?_
  obtain ⟨x751, h752, h⟩ := bind_cases h
  refine rN cfg_ok 1 [([], [(2, .idx (Int.toNat bd5) (NettingFlow.cells x751)), (7, .idx (Int.toNat bd5) (NettingFlow.cells x751))], [])] [] [] [0] [0, 1, 5, 6, 10, 166, 167, 168] (f8n11S bg1 bb2 bf3 bl4 bd5 x751 0) (ap (at_some h752).1 (ap (at_map NettingFlow.cells (at_some h752).2) (ap (at_some h752).1 (ap (at_map NettingFlow.cells (at_some h752).2) an)))) ?_
  obtain ⟨o921, h922, h⟩ := bind_cases h
  cases o921 with
  | exit6 =>
    obtain rfl := some_inj h
    exact T.last' (T.bl (i := 6) (by kernel_rfl) (by kernel_rfl) (f8n11_ok FUEL bg1 bb2 bf3 bl4 bd5 x751 0 h922)) (tds := []) (m := []) (keep := [0, 1, 5, 6, 10]) (st2 := (f8n8E bg1 bb2 bf3 bl4 bd5 .norm).2) (by kernel_rfl) an rfl
  | ret =>
    obtain rfl := some_inj h
    exact T.last' (T.bl (i := 6) (by kernel_rfl) (by kernel_rfl) (f8n11_ok FUEL bg1 bb2 bf3 bl4 bd5 x751 0 h922)) (tds := []) (m := []) (keep := [4]) (st2 := (f8n8E bg1 bb2 bf3 bl4 bd5 .ret).2) (by kernel_rfl) an rfl
inductive f8n12O where
  | exit4
  | ret
def f8n12E (bg1 : List NettingFlow) (bb2 : ByteArray) (bf3 : Bool) (bl4 : (List NettingFlow) × Int) : f8n12O → Ex × Tr × Hp
  | .exit4 => ((.exit 4), mkS [(5, (jB bf3))], [])
  | .ret => (.ret, mkS [(4, (jB false))], [])
def f8n12S (bg1 : List NettingFlow) (bb2 : ByteArray) (bf3 : Bool) (bl4 : (List NettingFlow) × Int) (v746 : Int) : Tr × Hp := (mkS [(0, (jL 6 NettingFlow.cells bg1)), (1, (jS bb2)), (5, (jB bf3)), (6, (jL 6 NettingFlow.cells bl4.1)), (10, (jI v746))], [])
noncomputable def f8n12 : Nat → List NettingFlow → ByteArray → Bool → (List NettingFlow) × Int → Int → Option f8n12O
  | 0, _, _, _, _, _ => none
  | f + 1, bg1, bb2, bf3, bl4, v746 =>
    bif (decide (v746 < (bg1.length : Int))) then
      (f8n8 bg1 bb2 bf3 bl4 v746).bind fun o923 => match o923 with
      | .norm => (f8n12 f bg1 bb2 bf3 bl4 (wr64 (v746 + 1)))
      | .ret => some .ret
    else
      some .exit4
theorem f8n12_ok : ∀ (f : Nat) (bg1 : List NettingFlow) (bb2 : ByteArray) (bf3 : Bool) (bl4 : (List NettingFlow) × Int) (v746 : Int) {o : f8n12O}, (f8n12 f bg1 bb2 bf3 bl4 v746) = some o → TL Try.prog Try.f8.ntmps 0 f (cL (cL (dropC 1 (cL (dropC 0 (dropC 1 (dropC 1 (dropC 4 c8)))))))) (f8n12S bg1 bb2 bf3 bl4 v746) (fun r => r = f8n12E bg1 bb2 bf3 bl4 o)
  | 0, _, _, _, _, _, o, h => by rw [f8n12] at h; cases h
  | f + 1, bg1, bb2, bf3, bl4, v746, o, h => by
    rw [f8n12] at h
    refine TL.body (K := fun s => ∃ v746 : Int, s = (f8n12S bg1 bb2 bf3 bl4 v746) ∧ (f8n12 f bg1 bb2 bf3 bl4 v746) = some o) ?_ (by rintro _ ⟨v746, rfl, hk⟩; exact f8n12_ok f _ _ _ _ _ hk)
    rcases cond_cases h with ⟨h748, h⟩ | ⟨h748, h⟩
    · refine rN cfg_ok 1 [([], [], [(2, .val (jI (bg1.length : Int)))])] [some true] [] [] [0, 1, 5, 6, 10] (f8n8S bg1 bb2 bf3 bl4 v746) (ap (len_cv (xs := bg1) (c := NettingFlow.cells)) (ap h748 an)) ?_
      obtain ⟨o923, h924, h⟩ := bind_cases h
      cases o923 with
      | norm =>
        refine T.oneN (by kernel_rfl) (f8n8_ok bg1 bb2 bf3 bl4 v746 h924) (st2 := (f8n8E bg1 bb2 bf3 bl4 v746 .norm).2) rfl ?_
        exact rE cfg_ok [j3] [] [] [] [0, 1, 5, 6, 10] (.norm, (f8n12S bg1 bb2 bf3 bl4 (wr64 (v746 + 1)))) an (LoopQ.norm ⟨(wr64 (v746 + 1)), rfl, h⟩)
      | ret =>
        obtain rfl := some_inj h
        exact T.oneX' (by kernel_rfl) (f8n8_ok bg1 bb2 bf3 bl4 v746 h924) (tds := []) (m := []) (keep := [4]) (st2 := (f8n12E bg1 bb2 bf3 bl4 .ret).2) (by kernel_rfl) an rfl (LoopQ.out rfl rfl)
    · obtain rfl := some_inj h
      exact rK cfg_ok 1 [([], [], [(2, .val (jI (bg1.length : Int)))])] [some false] [] [] [5] (.exit 4) ((f8n12E bg1 bb2 bf3 bl4 .exit4).2) (ap (len_cv (xs := bg1) (c := NettingFlow.cells)) (ap h748 an)) (LoopQ.out rfl rfl)
inductive f8n7O where
  | norm
  | ret
def f8n7E (bg1 : List NettingFlow) (bb2 : ByteArray) (bf3 : Bool) (bl4 : (List NettingFlow) × Int) : f8n7O → Ex × Tr × Hp
  | .norm => (.norm, mkS [(5, (jB bf3))], [])
  | .ret => (.ret, mkS [(4, (jB false))], [])
def f8n7S (bg1 : List NettingFlow) (bb2 : ByteArray) (bf3 : Bool) (bl4 : (List NettingFlow) × Int) : Tr × Hp := (mkS [(0, (jL 6 NettingFlow.cells bg1)), (1, (jS bb2)), (5, (jB bf3)), (6, (jL 6 NettingFlow.cells bl4.1))], [])
noncomputable def f8n7 (bg1 : List NettingFlow) (bb2 : ByteArray) (bf3 : Bool) (bl4 : (List NettingFlow) × Int) : Option f8n7O :=
  (f8n12 FUEL bg1 bb2 bf3 bl4 0).bind fun o925 => match o925 with
  | .exit4 => some .norm
  | .ret => some .ret
theorem f8n7_ok (bg1 : List NettingFlow) (bb2 : ByteArray) (bf3 : Bool) (bl4 : (List NettingFlow) × Int) {o : f8n7O} (h : (f8n7 bg1 bb2 bf3 bl4) = some o) : T Try.prog Try.f8.ntmps 0 (cL (dropC 0 (dropC 1 (dropC 1 (dropC 4 c8))))) (f8n7S bg1 bb2 bf3 bl4) (fun r => r = f8n7E bg1 bb2 bf3 bl4 o) := by
  unfold f8n7 at h
  refine rN cfg_ok 1 [j3] [] [] [] [0, 1, 5, 6, 10] (f8n12S bg1 bb2 bf3 bl4 0) an ?_
  obtain ⟨o925, h926, h⟩ := bind_cases h
  cases o925 with
  | exit4 =>
    obtain rfl := some_inj h
    exact T.last' (T.bl (i := 4) (by kernel_rfl) (by kernel_rfl) (f8n12_ok FUEL bg1 bb2 bf3 bl4 0 h926)) (tds := []) (m := []) (keep := [5]) (st2 := (f8n7E bg1 bb2 bf3 bl4 .norm).2) (by kernel_rfl) an rfl
  | ret =>
    obtain rfl := some_inj h
    exact T.last' (T.bl (i := 4) (by kernel_rfl) (by kernel_rfl) (f8n12_ok FUEL bg1 bb2 bf3 bl4 0 h926)) (tds := []) (m := []) (keep := [4]) (st2 := (f8n7E bg1 bb2 bf3 bl4 .ret).2) (by kernel_rfl) an rfl
inductive f8n0O where
  | ret (v929 : Bool)
def f8n0E (a1 : List NettingFlow) (a2 : ByteArray) : f8n0O → Ex × Tr × Hp
  | .ret v929 => (.ret, mkS [(4, (jB v929))], [])
def f8n0S (a1 : List NettingFlow) (a2 : ByteArray) : Tr × Hp := (initS [(jL 6 NettingFlow.cells a1), (jS a2)] 0 .leaf, [])
noncomputable def f8n0 (a1 : List NettingFlow) (a2 : ByteArray) : Option f8n0O :=
  f11.bind fun x5 =>
  (f12 [] a1).bind fun x11 =>
  bif x11 then
    some (.ret x5)
  else
    bif x5 then
      (f14r1 a1).bind fun x19 =>
      (f16 a2 x19).bind fun x21 =>
      bif (decide (x21.2 = 0)) then
        (f8n1 a1 a2 x5 x21).bind fun o387 => match o387 with
        | .norm => (f8n7 a1 a2 x5 x21).bind fun o927 => match o927 with
          | .norm => some (.ret x5)
          | .ret => some (.ret false)
        | .ret => some (.ret false)
      else
        some (.ret (decide ((x21.1.length : Int) = 0)))
    else
      some (.ret x5)
theorem f8n0_ok (a1 : List NettingFlow) (a2 : ByteArray) {o : f8n0O} (h : (f8n0 a1 a2) = some o) : T Try.prog Try.f8.ntmps 0 c8 (f8n0S a1 a2) (fun r => r = f8n0E a1 a2 o) := by
  unfold f8n0 at h
  obtain ⟨x5, h6, h⟩ := bind_cases h
  obtain ⟨x11, h12, h⟩ := bind_cases h
  rcases cond_cases h with ⟨h13, h⟩ | ⟨h13, h⟩
  · obtain rfl := some_inj h
    exact rK cfg_ok 3 [j3, ([], [jH 0 (jB x5)], []), ([(3, true), (4, true)], [jH 1 (jB x11), (5, .bool true)], []), j3] [none] [] [] [4] .ret ((f8n0E a1 a2 (.ret x5)).2) (ap (f11_ok h6) (ap3 h13 (ap (CallS.wk (args' := [(.pl (.sl .nil 0 [])), (jL 6 NettingFlow.cells a1)]) (f12_ok [] a1 h12) (wlc (Wk.pl (WkP.nil (f := .nil) (sz := 0) (sz' := 3))) (wlc (Wk.refl _) wln)) (Wk.refl _) rfl) an))) rfl
  · rcases cond_cases h with ⟨h14, h⟩ | ⟨h14, h⟩
    · obtain ⟨x19, h20, h⟩ := bind_cases h
      obtain ⟨x21, h22, h⟩ := bind_cases h
      refine rN cfg_ok 4 [j3, ([], [jH 0 (jB x5)], []), ([(3, false), (4, false)], [jH 1 (jB x11), (5, .bool false)], []), ([], [(2, .call (.own 0) [jR 6 NettingFlow.cells x19]), jH 3 (.tup [(jL 6 NettingFlow.cells x21.1), (jI x21.2)])], [])] [some false] [] [] [0, 1, 5, 6, 7] (mkS [(0, (jL 6 NettingFlow.cells a1)), (1, (jS a2)), (5, (jB x5)), (6, (jL 6 NettingFlow.cells x21.1)), (7, (jI x21.2))], []) (ap (f11_ok h6) (ap3 h13 (ap (CallS.wk (args' := [(.pl (.sl .nil 0 [])), (jL 6 NettingFlow.cells a1)]) (f12_ok [] a1 h12) (wlc (Wk.pl (WkP.nil (f := .nil) (sz := 0) (sz' := 3))) (wlc (Wk.refl _) wln)) (Wk.refl _) rfl) (ap (not_t h14) (ap (f14r1_ok a1 h20) (ap (f16_ok a2 x19 h22) an)))))) ?_
      rcases cond_cases h with ⟨h24, h⟩ | ⟨h24, h⟩
      · refine rN cfg_ok 1 [j3] [some false] [] [] [0, 1, 5, 6] (f8n1S a1 a2 x5 x21) (ap (not_t h24) an) ?_
        obtain ⟨o387, h388, h⟩ := bind_cases h
        cases o387 with
        | norm =>
          refine T.oneN (by kernel_rfl) (f8n1_ok a1 a2 x5 x21 h388) (st2 := (f8n1E a1 a2 x5 x21 .norm).2) rfl ?_
          refine rN cfg_ok 0 [] [] [] [] [0, 1, 5, 6] (f8n7S a1 a2 x5 x21) an ?_
          obtain ⟨o927, h928, h⟩ := bind_cases h
          cases o927 with
          | norm =>
            refine T.oneN (by kernel_rfl) (f8n7_ok a1 a2 x5 x21 h928) (st2 := (f8n7E a1 a2 x5 x21 .norm).2) rfl ?_
            obtain rfl := some_inj h
            exact rE cfg_ok [j3] [] [] [] [4] (.ret, (f8n0E a1 a2 (.ret x5)).2) an rfl
          | ret =>
            obtain rfl := some_inj h
            exact T.oneX' (by kernel_rfl) (f8n7_ok a1 a2 x5 x21 h928) (tds := []) (m := []) (keep := [4]) (st2 := (f8n0E a1 a2 (.ret false)).2) (by kernel_rfl) an rfl rfl
        | ret =>
          obtain rfl := some_inj h
          exact T.oneX' (by kernel_rfl) (f8n1_ok a1 a2 x5 x21 h388) (tds := []) (m := []) (keep := [4]) (st2 := (f8n0E a1 a2 (.ret false)).2) (by kernel_rfl) an rfl rfl
      · obtain rfl := some_inj h
        exact rK cfg_ok 1 [j3, (jT [2, 3, 4], [(5, .bool true)], [(3, .val (jI (x21.1.length : Int)))])] [some true] [] [] [4] .ret ((f8n0E a1 a2 (.ret (decide ((x21.1.length : Int) = 0)))).2) (ap (not_f h24) (ap2 h14 (ap (len_cv (xs := x21.1) (c := NettingFlow.cells)) (ap2 h14 an)))) rfl
    · obtain rfl := some_inj h
      exact rK cfg_ok 3 [j3, ([], [jH 0 (jB x5)], []), ([(3, false), (4, false)], [jH 1 (jB x11), (5, .bool false)], []), j3] [some true] [] [] [4] .ret ((f8n0E a1 a2 (.ret x5)).2) (ap (f11_ok h6) (ap3 h13 (ap (CallS.wk (args' := [(.pl (.sl .nil 0 [])), (jL 6 NettingFlow.cells a1)]) (f12_ok [] a1 h12) (wlc (Wk.pl (WkP.nil (f := .nil) (sz := 0) (sz' := 3))) (wlc (Wk.refl _) wln)) (Wk.refl _) rfl) (ap (not_f h14) an)))) rfl
noncomputable def f8 (a1 : List NettingFlow) (a2 : ByteArray) : Option Bool := (f8n0 a1 a2).bind fun o => match o with
  | .ret v929 => some v929
theorem f8_ok (a1 : List NettingFlow) (a2 : ByteArray) {r : Bool} (h : (f8 a1 a2) = some r) : CallS Try.prog false 8 [(jL 6 NettingFlow.cells a1), (jS a2)] [] (jB r) [] := by
  unfold f8 at h
  obtain ⟨o, ho, h⟩ := bind_cases h
  cases o with
  | ret v929 =>
    obtain rfl := some_inj h
    exact CallS.plain cfg_ok (f := Try.f8) (c := c8) (by kernel_rfl) (by kernel_rfl) (by kernel_rfl) (by kernel_rfl) ((f8n0_ok a1 a2 ho).mono fun r e => by subst e; exact ⟨.inl rfl, (jB v929), (jB v929), by kernel_rfl, by kernel_rfl, ((Wk.refl _) : Wk (jB v929) (jB v929))⟩)
end Go.Proofs.Ytkcafackfihmiaa
namespace Go.Proofs.Ytkcafackfihmiaa
set_option linter.unusedVariables false
set_option linter.unusedSimpArgs false
open Go.RowKit



end Go.Proofs.Ytkcafackfihmiaa
namespace Go.Proofs.Ytkcafackfihmiaa
set_option linter.unusedVariables false
set_option linter.unusedSimpArgs false
open Go.RowKit



end Go.Proofs.Ytkcafackfihmiaa
namespace Go.Proofs.Ytkcafackfihmiaa
set_option linter.unusedVariables false
set_option linter.unusedSimpArgs false
open Go.RowKit
end Go.Proofs.Ytkcafackfihmiaa
namespace Go.Proofs.Ytkcafackfihmiaa
set_option linter.unusedVariables false
set_option linter.unusedSimpArgs false
open Go.RowKit
end Go.Proofs.Ytkcafackfihmiaa
namespace Go.Proofs.Ytkcafackfihmiaa
set_option linter.unusedVariables false
set_option linter.unusedSimpArgs false
open Go.RowKit
abbrev NF := NettingFlow
abbrev NS := NettingSet

theorem f59_eq (c : Int) : f59 c = some (ltrI c) := by
  unfold f59 f59n0 ltrI
  cases decide (97 ≤ c) <;> cases decide (c ≤ 122) <;> cases decide (65 ≤ c) <;> cases decide (c ≤ 90) <;> rfl
theorem f36n2_eq {s : ByteArray} {k : Int} {b : UInt8} (h : at? s.data.toList k = some b) : f36n2 s k = some (bif chB b then .norm else .ret) := by
  have h3 : f36n3 s b k = some (.norm (!(chB b))) := by
    unfold f36n3 chB othI
    rw [f59_eq, ltNot, ltNot]
    simp only [Option.bind_some]
    cases ltrI b.toNat <;> cases decide ((48 : Int) ≤ (b.toNat : Int)) <;> cases decide ((b.toNat : Int) ≤ 57) <;> cases decide ((b.toNat : Int) = 95) <;> cases decide ((b.toNat : Int) = 45) <;> rfl
  unfold f36n2
  rw [h]
  simp only [Option.bind_some, h3]
  cases chB b <;> rfl
theorem f36n4_at (s : ByteArray) (hs : s.data.toList.length ≤ 1000) : ∀ (r : List UInt8) (f k : Nat), s.data.toList.drop k = r → r.length < f → f36n4 f s (k : Int) = some (bif r.all chB then .exit0 else .ret)
  | _, 0, _, _, h => absurd h (Nat.not_lt_zero _)
  | [], f + 1, k, hd, _ => by
    have := drop_nil hd
    rw [f36n4, sizeList, decide_eq_false (by omega), cond_false]; rfl
  | b :: r, f + 1, k, hd, hf => by
    obtain ⟨h1, h2, h3⟩ := dropAt hd
    rw [f36n4, sizeList, decide_eq_true (by omega), cond_true, f36n2_eq h1, List.all_cons]
    cases chB b with
    | false => rfl
    | true =>
      simp only [cond_true, Option.bind_some, Bool.true_and]
      rw [wrSucc (by omega)]
      exact f36n4_at s hs r f (k + 1) h3 (by simpa using hf)
theorem f36_eq (s : ByteArray) : f36 s = some (nmB s) := by
  unfold f36 f36n0 nmB
  rw [sizeList]
  by_cases hs : s.data.toList.length ≤ 40
  · have h1 : f36n1 s = some (bif s.data.toList.all chB then .norm else .ret) := by
      unfold f36n1
      have := f36n4_at s (by omega) s.data.toList FUEL 0 List.drop_zero (fuelSmall (by omega))
      rw [show ((0 : Nat) : Int) = 0 from rfl] at this
      rw [this]
      cases s.data.toList.all chB <;> rfl
    rw [h1]
    generalize s.data.toList = l at hs
    rw [decide_eq_false (by omega : ¬ (40 : Int) < (l.length : Int))]
    cases l with
    | nil => rfl
    | cons b r =>
      have h0 : at? (b :: r) 0 = some b := rfl
      rw [decide_eq_false (by simp; omega : ¬ (((b :: r).length : Nat) : Int) < 1), h0]
      simp only [cond_false, Option.bind_some, f59_eq, isNm, decide_eq_true hs, Bool.true_and, List.all_cons, chB]
      cases ltrI b.toNat <;> cases othI b.toNat <;> cases r.all chB <;> rfl
  · rw [decide_eq_false (by omega : ¬ ((s.data.toList.length : Nat) : Int) < 1), decide_eq_true (by omega : (40 : Int) < ((s.data.toList.length : Nat) : Int))]
    have : isNm s.data.toList = false := by
      generalize s.data.toList = l at hs
      cases l with
      | nil => rfl
      | cons b r => simp only [isNm, decide_eq_false hs, Bool.false_and]
    rw [this]; rfl

theorem f62_eq (a : Int) : f62 a = some false := by unfold f62 f62n0; simp
theorem f63_eq (a : ByteArray) : f63 a = some false := by unfold f63 f63n0; simp [seq_refl]
theorem f41_eq (a b : Int) : f41 a b = some (cmpI a b) := by
  unfold f41 f41n0 cmpI
  rw [f62_eq, f62_eq]
  simp only [Option.bind_some, cond_false]
  cases decide (a < b) <;> cases decide (b < a) <;> rfl
theorem f42_eq (a b : ByteArray) : f42 a b = some (cmpB a b) := by
  unfold f42 f42n0 cmpB
  rw [f63_eq, f63_eq]
  simp only [Option.bind_some, cond_false]
  cases slt a b <;> cases seq a b <;> rfl
theorem f40_eq (x y z : Int) : f40 [x, y, z] = some (cmpOr x (cmpOr y z)) := by
  unfold f40 f40n0 f40n1 cmpOr
  rw [f40n2_run [x, y, z] (maxSmall (by simp))]
  by_cases hx : x = 0
  · by_cases hy : y = 0
    · by_cases hz : z = 0
      · subst hx hy hz; rfl
      · subst hx hy; simp only [f40n2L, decide_eq_false hz, decide_true, cond_true, cond_false, Option.bind_some]
    · subst hx; simp only [f40n2L, decide_eq_false hy, decide_true, cond_true, cond_false, Option.bind_some]
  · simp only [f40n2L, decide_eq_false hx, cond_false, Option.bind_some]
def cO (a b : NF) : Int := cmpOr (cmpI a.Date b.Date) (cmpOr (cmpB a.Set b.Set) (cmpB a.Ccy b.Ccy))
theorem cO_cmp : Cmp cO := (Cmp.int NettingFlow.Date).lex ((Cmp.str NettingFlow.Set).lex (Cmp.str NettingFlow.Ccy))
theorem cmpOr_zero {a b : Int} : cmpOr a b = 0 ↔ a = 0 ∧ b = 0 := by
  unfold cmpOr
  by_cases h : a = 0
  · rw [decide_eq_true h]; simp [h]
  · rw [decide_eq_false h]; simp [h]
theorem cO_zero {a b : NF} : cO a b = 0 ↔ a.Date = b.Date ∧ a.Set = b.Set ∧ a.Ccy = b.Ccy := by
  unfold cO
  rw [cmpOr_zero, cmpOr_zero, cmpI_zero, cmpB_zero, cmpB_zero]
abbrev ltO : NF → NF → Bool := fun x y => decide (cO x y < 0)
theorem swo_O : SWo ltO := cO_cmp.swo
def sortO (l : List NF) : List NF := sortS ltO l

def namesB (x : NF) : Bool := (seq x.Set str_x || nmB x.Set) && (nmB x.Ccy && (nmB x.From && (nmB x.To && !(seq x.From x.To))))
def goodF (x : NF) : Bool := namesB x && (decide (0 ≤ x.Date) && (decide (x.Date ≤ 99999) && (decide (1 ≤ x.Amount) && decide (x.Amount ≤ 1125899906842624))))
theorem f57_eq (x : NF) : f57 x = some (goodF x) := by
  have h1 : f57n1 x = some (.norm (namesB x)) := by
    unfold f57n1 namesB
    rw [f36_eq, f36_eq, f36_eq, f36_eq]
    cases seq x.Set str_x <;> cases nmB x.Set <;> cases nmB x.Ccy <;> cases nmB x.From <;> cases nmB x.To <;> cases seq x.From x.To <;> rfl
  unfold f57 f57n0 goodF
  rw [h1]
  cases namesB x <;> cases decide (0 ≤ x.Date) <;> cases decide (x.Date ≤ 99999) <;> cases decide (1 ≤ x.Amount) <;> cases decide (x.Amount ≤ 1125899906842624) <;> rfl
theorem f70n2L_eq (bg : List NF) : ∀ (l : List NF) (v : Int), 0 ≤ v → ∃ o, f70_56n2L bg l v = some o ∧ (l.all goodF = true → o = .exit0) ∧ (l.all goodF = false → ∃ w, 0 ≤ w ∧ o = .ret w)
  | [], v, _ => ⟨.exit0, rfl, fun _ => rfl, fun h => by cases h⟩
  | x :: r, v, hv => by
    have e56 : f56 x = some (!(goodF x)) := by unfold f56 f56n0; rw [f57_eq]; rfl
    obtain ⟨o, h1, h2, h3⟩ := f70n2L_eq bg r (v + 1) (by omega)
    rw [f70_56n2L, e56, List.all_cons]
    simp only [Option.bind_some]
    cases goodF x with
    | true => exact ⟨o, h1, by simpa using h2, by simpa using h3⟩
    | false => exact ⟨.ret v, rfl, fun h => by simp at h, fun _ => ⟨v, hv, rfl⟩⟩
def listB (l : List NF) : Bool := decide (l.length ≤ 500) && l.all goodF
theorem f35_eq {l : List NF} (hm : l.length ≤ maxLen) : f35 l = some (bif listB l then 0 else 8) := by
  have hc : f58_56 l = some (!(l.all goodF)) := by
    obtain ⟨o, h1, h2, h3⟩ := f70n2L_eq l l 0 (by omega)
    unfold f58_56 f58_56n0 f70_56 f70_56n0 f70_56n1
    rw [f70_56n2_run l hm, h1]
    cases ha : l.all goodF with
    | true => rw [h2 ha]; rfl
    | false =>
      obtain ⟨w, hw, e⟩ := h3 ha
      rw [e]
      simp only [Option.bind_some]
      rw [decide_eq_true hw]; rfl
  unfold f35 f35n0 listB
  rw [ltNot, show decide ((l.length : Int) ≤ 500) = decide (l.length ≤ 500) by congr 1; apply propext; omega, hc]
  cases decide (l.length ≤ 500) <;> cases l.all goodF <;> rfl


theorem alive_t : f11 = some true := rfl
end Go.Proofs.Ytkcafackfihmiaa
namespace Go.Proofs.Ytkcafackfihmiaa
set_option linter.unusedVariables false
set_option linter.unusedSimpArgs false
open Go.RowKit
theorem key_iff (a b : Key_) : Key_.eqb a b = true ↔ a = b := ⟨Key_.eqb_eq, fun h => by subst h; simp [Key_.eqb, seq_refl]⟩
abbrev KM := List (Key_ × Int)
def gK (k : Key_) (m : KM) : Int := mGet Key_.eqb 0 k m

def sF (w : NF → Int) : List NF → Int
  | [] => 0
  | x :: r => w x + sF w r
theorem sF_app (w : NF → Int) : ∀ a b : List NF, sF w (a ++ b) = sF w a + sF w b
  | [], b => by simp [sF]
  | x :: a, b => by simp only [List.cons_append, sF, sF_app w a b]; omega
theorem sF_perm {w : NF → Int} {a b : List NF} (h : a.Perm b) : sF w a = sF w b := by
  induction h with
  | nil => rfl
  | cons x _ ih => rw [sF, sF, ih]
  | swap x y l => simp only [sF]; omega
  | trans _ _ i1 i2 => exact i1.trans i2
theorem sF_ext {w v : NF → Int} : ∀ {l : List NF}, (∀ x ∈ l, w x = v x) → sF w l = sF v l
  | [], _ => rfl
  | x :: r, h => by rw [sF, sF, h x List.mem_cons_self, sF_ext fun y hy => h y (List.mem_cons_of_mem _ hy)]
theorem sF_bound (w : NF → Int) (b : Int) : ∀ l : List NF, (∀ x ∈ l, -b ≤ w x ∧ w x ≤ b) → -(b * l.length) ≤ sF w l ∧ sF w l ≤ b * l.length
  | [], _ => by simp [sF]
  | x :: r, h => by
    have h1 := h x List.mem_cons_self
    have h2 := sF_bound w b r fun y hy => h y (List.mem_cons_of_mem _ hy)
    simp only [sF, List.length_cons, Int.natCast_add, Int.mul_add]
    simp only [Int.natCast_one, Int.mul_one]
    omega
theorem goodF_amt {x : NF} (h : goodF x = true) : 1 ≤ x.Amount ∧ x.Amount ≤ 1125899906842624 := by
  unfold goodF at h
  simp only [Bool.and_eq_true, decide_eq_true_eq] at h
  exact h.2.2.2
theorem goodF_ne {x : NF} (h : goodF x = true) : x.From ≠ x.To := fun e => by
  unfold goodF namesB at h
  rw [e, seq_refl] at h
  simp at h
theorem goodF_names {x : NF} (h : goodF x = true) : nmB x.Ccy = true ∧ nmB x.From = true ∧ nmB x.To = true ∧ (x.Set = str_x ∨ nmB x.Set = true) ∧ 0 ≤ x.Date ∧ x.Date ≤ 99999 := by
  unfold goodF namesB at h
  simp only [Bool.and_eq_true, Bool.or_eq_true, decide_eq_true_eq] at h
  exact ⟨h.1.2.1, h.1.2.2.1, h.1.2.2.2.1, h.1.1.elim (fun e => .inl (seq_iff.1 (decide_eq_true e))) .inr, h.2.1, h.2.2.1⟩
section
variable (of : NF → Key_) (sel : NF → Bool)
def restN : List NF → List NF
  | [] => []
  | x :: r => bif sel x then restN r else x :: restN r
theorem restN_eq : ∀ l : List NF, restN sel l = l.filter fun x => !sel x
  | [] => rfl
  | x :: r => by
    rw [restN, List.filter_cons, restN_eq r]
    cases sel x <;> rfl
end

def selP (x : NF) : Bool := !(seq x.Set str_x)
def mk1 (k : Key_) (a b : ByteArray) (n : Int) : NF := bif decide (n < 0) then ⟨k.date, k.set, k.ccy, b, a, -n⟩ else ⟨k.date, k.set, k.ccy, a, b, n⟩
theorem f37_eq {k : Key_} {a b : ByteArray} {n : Int} (h1 : -4611686018427387904 ≤ n) : f37 k a b n = some (mk1 k a b n, !decide (n = 0)) := by
  unfold f37 f37n0 mk1
  rw [show wr64 (0 - n) = wr64 (-n) by rw [Int.zero_sub]]
  by_cases h : n < 0
  · rw [decide_eq_true h, cond_true, cond_true, wrIn (by omega) (by omega)]; rfl
  · rw [decide_eq_false h]; rfl
def okAmt (n : Int) : Bool := decide (-1125899906842624 ≤ n) && decide (n ≤ 1125899906842624)
theorem mx_eq {n : Int} (h1 : -4611686018427387904 ≤ n) (h2 : n ≤ 4611686018427387904) : decide ((1125899906842624 : Int) < mxI n (wr64 (0 - n))) = !okAmt n := by
  rw [wrIn (n := 0 - n) (by omega) (by omega)]
  unfold okAmt
  have e : mxI n (0 - n) = if 0 ≤ n then n else -n := by
    unfold mxI
    by_cases h : 0 ≤ n
    · rw [if_pos h, decide_eq_false (by omega)]; rfl
    · rw [if_neg h, decide_eq_true (by omega), cond_true]; omega
  rw [e, ← Bool.decide_and, ← decide_not]
  apply decide_eq_decide.2
  split <;> omega
end Go.Proofs.Ytkcafackfihmiaa
namespace Go.Proofs.Ytkcafackfihmiaa
set_option linter.unusedVariables false
set_option linter.unusedSimpArgs false
open Go.RowKit

def tw (φ : Key_ → Int) : KM → Int
  | [] => 0
  | e :: r => φ e.1 * e.2 + tw φ r
theorem tw_put (φ : Key_ → Int) (k : Key_) (v : Int) : ∀ m : KM, tw φ (mPut Key_.eqb k v m) = tw φ m - φ k * gK k m + φ k * v
  | [] => by simp [mPut, tw, gK, mGet]
  | (a, w) :: r => by
    unfold gK
    rw [mPut, mGet]
    cases h : Key_.eqb k a with
    | true =>
      have := (key_iff _ _).1 h; subst this
      simp only [cond_true, tw]; omega
    | false =>
      have := tw_put φ k v r
      unfold gK at this
      simp only [cond_false, tw, this]; omega

theorem f14_eq {l : List NF} (hl : l.length ≤ 1000000) : f14r1 l = some l := by
  unfold f14r1 f14r1n0
  cases h : l with
  | nil => rfl
  | cons x r =>
    rw [h] at hl
    rw [req, fitSmall hl (by omega)]; rfl
theorem f12_eq (s : List NS) (l : List NF) : ∃ b, f12 s l = some b ∧ (b = false → s.length ≤ 80 ∧ l.length ≤ 520) := by
  unfold f12 f12n0
  by_cases h : (80 : Int) < (s.length : Int)
  · rw [decide_eq_true h]; exact ⟨true, rfl, fun h => by cases h⟩
  · rw [decide_eq_false h]
    refine ⟨_, rfl, fun k => ?_⟩
    have := of_decide_eq_false k
    omega
end Go.Proofs.Ytkcafackfihmiaa
namespace Go.Proofs.Ytkcafackfihmiaa
set_option linter.unusedVariables false
set_option linter.unusedSimpArgs false
open Go.RowKit


theorem stay {x : List NF} {y : List NF} (hx : Sd ltO x) (hy : y.Perm (x.filter selP)) (hn : y.Pairwise fun a b => eqv ltO a b = false) : sortO (restN selP x ++ y) = x := by
  have sel_eq : ∀ {k z : NF}, eqv ltO k z = true → selP z = selP k := fun {k z} e => by
    obtain ⟨_, h2, _⟩ := cO_zero.1 (cO_cmp.eqv.1 e)
    unfold selP; rw [h2]
  refine (sortS_of swo_O hx ⟨?_, fun k => ?_⟩).symm
  · rw [restN_eq]
    have := (List.filter_append_perm selP x).symm
    refine this.trans (List.perm_append_comm.trans ((List.Perm.refl _).append hy.symm))
  · rw [List.filter_append, restN_eq, List.filter_filter]
    cases hk : selP k with
    | false =>
      have e1 : y.filter (eqv ltO k) = [] := List.filter_eq_nil_iff.2 fun z hz e => by
        have := (List.mem_filter.1 (hy.mem_iff.1 hz)).2
        rw [sel_eq e, hk] at this; cases this
      rw [e1, List.append_nil]
      refine List.filter_congr fun z hz => ?_
      cases e : eqv ltO k z with
      | false => rfl
      | true => rw [sel_eq e, hk]; rfl
    | true =>
      have e1 : x.filter (fun a => eqv ltO k a && !selP a) = [] := List.filter_eq_nil_iff.2 fun z hz e => by
        rw [Bool.and_eq_true] at e
        rw [sel_eq e.1, hk] at e; cases e.2
      rw [e1, List.nil_append]
      have e2 : x.filter (eqv ltO k) = (x.filter selP).filter (eqv ltO k) := by
        rw [List.filter_filter]
        refine List.filter_congr fun z hz => ?_
        cases e : eqv ltO k z with
        | false => rfl
        | true => rw [sel_eq e, hk]; rfl
      rw [e2]
      exact (Cl.of_perm hy.symm hn swo_O).2 k

end Go.Proofs.Ytkcafackfihmiaa
namespace Go.Proofs.Ytkcafackfihmiaa
set_option linter.unusedVariables false
set_option linter.unusedSimpArgs false
open Go.RowKit

def withN (n : Int) : Int × Int := bif okAmt n then (n, 0) else (0, 14)
theorem f50_eq {n : Int} (h1 : -4611686018427387904 ≤ n) (h2 : n ≤ 4611686018427387904) : f50 n = some (withN n) := by
  unfold f50 f50n0 withN
  rw [mx_eq h1 h2]
  cases okAmt n <;> rfl


end Go.Proofs.Ytkcafackfihmiaa
namespace Go.Proofs.Ytkcafackfihmiaa
set_option linter.unusedVariables false
set_option linter.unusedSimpArgs false
open Go.RowKit
def kT (x : NF) : Key_ := ⟨x.Date, x.To, x.Ccy⟩
def kF (x : NF) : Key_ := ⟨x.Date, x.From, x.Ccy⟩
def putF (x : NF) (m : KM) : KM := mPut Key_.eqb (kF x) (gK (kF x) m - x.Amount) m
def putT (x : NF) (m : KM) : KM := mPut Key_.eqb (kT x) (gK (kT x) m + x.Amount) m
def addH : List NF → KM → KM
  | [], m => m
  | x :: r, m => addH r (putT x (putF x m))
def wH (k : Key_) (x : NF) : Int := (bif Key_.eqb k (kT x) then x.Amount else 0) - (bif Key_.eqb k (kF x) then x.Amount else 0)
theorem gK_put (k q : Key_) (v : Int) (m : KM) : gK q (mPut Key_.eqb k v m) = bif Key_.eqb q k then v else gK q m := by unfold gK; exact mgetPut key_iff _ _ _ _ m
theorem gK_F (k : Key_) (x : NF) (m : KM) : gK k (putF x m) = gK k m - (bif Key_.eqb k (kF x) then x.Amount else 0) := by
  unfold putF
  rw [gK_put]
  cases h : Key_.eqb k (kF x) with
  | true => rw [(key_iff _ _).1 h]; rfl
  | false => simp
theorem gK_T (k : Key_) (x : NF) (m : KM) : gK k (putT x m) = gK k m + (bif Key_.eqb k (kT x) then x.Amount else 0) := by
  unfold putT
  rw [gK_put]
  cases h : Key_.eqb k (kT x) with
  | true => rw [(key_iff _ _).1 h]; rfl
  | false => simp
theorem addH_get (k : Key_) : ∀ (l : List NF) (m : KM), gK k (addH l m) = gK k m + sF (wH k) l
  | [], m => by simp [addH, sF]
  | x :: r, m => by rw [addH, addH_get k r, gK_T, gK_F, sF, wH]; omega
theorem addH_nd : ∀ (l : List NF) {m : KM}, ndK m → ndK (addH l m)
  | [], m, h => h
  | x :: r, m, h => addH_nd r (mputNd key_iff (mputNd key_iff h))
theorem addH_len : ∀ (l : List NF) (m : KM), (addH l m).length ≤ m.length + 2 * l.length
  | [], m => by simp [addH]
  | x :: r, m => by
    have h1 := addH_len r (putT x (putF x m))
    have h2 := mputLen (E := Key_.eqb) (kT x) (gK (kT x) (putF x m) + x.Amount) (putF x m)
    have h3 := mputLen (E := Key_.eqb) (kF x) (gK (kF x) m - x.Amount) m
    rw [addH]
    unfold putT putF at *
    simp only [List.length_cons]
    omega
theorem addH_key {k : Key_} : ∀ {l : List NF} {m : KM}, (∃ e ∈ addH l m, e.1 = k) → (∃ e ∈ m, e.1 = k) ∨ ∃ x ∈ l, kT x = k ∨ kF x = k
  | [], m, h => .inl h
  | x :: r, m, h => by
    rw [addH] at h
    rcases addH_key h with h | ⟨y, h1, h2⟩
    · rcases mputKeys key_iff h with e | h
      · exact .inr ⟨x, List.mem_cons_self, .inl e.symm⟩
      · rcases mputKeys key_iff h with e | h
        · exact .inr ⟨x, List.mem_cons_self, .inr e.symm⟩
        · exact .inl h
    · exact .inr ⟨y, List.mem_cons_of_mem _ h1, h2⟩
theorem addH_keep {k : Key_} : ∀ {l : List NF} {m : KM}, (∃ e ∈ m, e.1 = k) → ∃ e ∈ addH l m, e.1 = k
  | [], m, h => h
  | x :: r, m, h => addH_keep (l := r) (mputKeep key_iff (mputKeep key_iff h))
theorem addH_has {k : Key_} {x : NF} (hk : kT x = k ∨ kF x = k) : ∀ {l : List NF} {m : KM}, x ∈ l → ∃ e ∈ addH l m, e.1 = k
  | y :: r, m, h => by
    rw [addH]
    rcases List.mem_cons.1 h with rfl | h
    · refine addH_keep ?_
      rcases hk with rfl | rfl
      · exact mputHas key_iff _ _ _
      · exact mputKeep key_iff (mputHas key_iff _ _ _)
    · exact addH_has hk h
theorem addH_app : ∀ (a b : List NF) (m : KM), addH (a ++ b) m = addH b (addH a m)
  | [], b, m => rfl
  | x :: a, b, m => by rw [List.cons_append, addH, addH]; exact addH_app a b _
theorem wH_bd {k : Key_} {l : List NF} (hg : ∀ x ∈ l, goodF x = true) (hl : l.length ≤ 500) : -562949953421312000 ≤ sF (wH k) l ∧ sF (wH k) l ≤ 562949953421312000 := by
  have := sF_bound (wH k) 1125899906842624 l fun x hx => by
    have := goodF_amt (hg x hx)
    unfold wH
    cases Key_.eqb k (kT x) <;> cases Key_.eqb k (kF x) <;> simp only [cond_true, cond_false] <;> omega
  omega
def sumsH (l : List NF) : KM := addH l []
theorem gH_bd {l : List NF} (hg : ∀ x ∈ l, goodF x = true) (hl : l.length ≤ 500) (k : Key_) : -562949953421312000 ≤ gK k (sumsH l) ∧ gK k (sumsH l) ≤ 562949953421312000 := by
  unfold sumsH
  rw [addH_get]
  have := wH_bd (k := k) hg hl
  have e : gK k [] = 0 := rfl
  omega
theorem sumsH_mem {l : List NF} {e : Key_ × Int} (he : e ∈ sumsH l) : gK e.1 (sumsH l) = e.2 :=
  mgetMem key_iff (z := (0 : Int)) (k := e.1) (v := e.2) (addH_nd l List.Pairwise.nil) he
theorem sumsH_bd {l : List NF} (hg : ∀ x ∈ l, goodF x = true) (hl : l.length ≤ 500) : ∀ e ∈ sumsH l, -562949953421312000 ≤ e.2 ∧ e.2 ≤ 562949953421312000 := fun e he => by
  have := gH_bd hg hl e.1
  rw [sumsH_mem he] at this
  exact this
theorem f16w_eq (hub : ByteArray) {bg : List NF} (hg : ∀ x ∈ bg, goodF x = true) (hl : bg.length ≤ 500) : ∀ (l pre : List NF) (v : Int), bg = pre ++ l → f16n2L hub bg l v (addH pre []) = some (.exit0 (sumsH bg))
  | [], pre, v, h => by rw [List.append_nil] at h; subst h; rfl
  | x :: r, pre, v, h => by
    have ih := f16w_eq hub hg hl r (pre ++ [x]) (v + 1) (by rw [h]; simp)
    have hx : goodF x = true := hg x (by rw [h]; simp)
    have hp : ∀ y ∈ pre, goodF y = true := fun y hy => hg y (by rw [h]; simp [hy])
    have hpl : pre.length + 1 ≤ 500 := by rw [h] at hl; simp at hl; omega
    have ha := goodF_amt hx
    have hb1 := gH_bd hp (by omega) (kF x)
    have hb2 := gH_bd hp (by omega) (kT x)
    rw [addH_app, addH] at ih
    unfold sumsH at hb1 hb2
    have e1 : wr64 (mGet Key_.eqb 0 (Key_.mk x.Date x.From x.Ccy) (addH pre []) - x.Amount) = gK (kF x) (addH pre []) - x.Amount := by
      show wr64 (gK (kF x) (addH pre []) - x.Amount) = _
      rw [wrIn (by omega) (by omega)]
    have e2 : wr64 (mGet Key_.eqb 0 (Key_.mk x.Date x.To x.Ccy) (putF x (addH pre [])) + x.Amount) = gK (kT x) (putF x (addH pre [])) + x.Amount := by
      show wr64 (gK (kT x) (putF x (addH pre [])) + x.Amount) = _
      have := gK_F (kT x) x (addH pre [])
      rw [this]
      cases Key_.eqb (kT x) (kF x) <;> simp only [cond_true, cond_false] <;> rw [wrIn (by omega) (by omega)]
    rw [f16n2L, e1]
    show f16n2L hub bg r (v + 1) (mPut Key_.eqb (Key_.mk x.Date x.To x.Ccy) (wr64 (mGet Key_.eqb 0 (Key_.mk x.Date x.To x.Ccy) (putF x (addH pre [])) + x.Amount)) (putF x (addH pre []))) = _
    rw [e2]
    exact ih

def shr (hub : ByteArray) (e : Key_ × Int) : Share_ := ⟨e.1.set, mk1 ⟨e.1.date, str_x, e.1.ccy⟩ hub e.1.set e.2⟩
def selH (hub : ByteArray) (e : Key_ × Int) : Bool := !(seq e.1.set hub) && !(decide (e.2 = 0))
def okH (hub : ByteArray) (p : KM) : Bool := p.all fun e => seq e.1.set hub || okAmt e.2
def madeH (hub : ByteArray) (p : KM) : List Share_ := (p.filter (selH hub)).map (shr hub)
theorem madeH_cons (hub : ByteArray) (e : Key_ × Int) (p : KM) : madeH hub (e :: p) = (bif selH hub e then [shr hub e] else []) ++ madeH hub p := by
  unfold madeH
  rw [List.filter_cons]
  cases selH hub e <;> simp
theorem f16n4_eq (hub : ByteArray) (bi : KM) : ∀ (p : KM) (o : List Share_), (∀ e ∈ p, -562949953421312000 ≤ e.2 ∧ e.2 ≤ 562949953421312000) → o.length + p.length ≤ 10000 →
    f16n4 hub bi p o = some (bif okH hub p then .exit2 (o ++ madeH hub p) else .ret)
  | [], o, _, _ => by simp [f16n4, madeH, okH]
  | e :: p, o, hb, hn => by
    simp only [List.length_cons] at hn
    have he := hb e List.mem_cons_self
    have ih := fun o' => f16n4_eq hub bi p o' fun x hx => hb x (List.mem_cons_of_mem _ hx)
    unfold okH at ih ⊢
    rw [f16n4, mx_eq (by omega) (by omega), List.all_cons, madeH_cons]
    unfold selH
    cases seq e.1.set hub with
    | true => simp only [cond_true, Bool.true_or, Bool.true_and, Bool.not_true, Bool.false_and, cond_false, List.nil_append]; exact ih o (by omega)
    | false =>
      cases okAmt e.2 with
      | false => rfl
      | true =>
        simp only [Bool.not_true, cond_false, Option.bind_some, Bool.true_and, Bool.false_or, Bool.not_false]
        rw [f37_eq (by omega)]
        simp only [Option.bind_some]
        cases h0 : decide (e.2 = 0) with
        | true => simp only [Bool.not_true, cond_false, List.nil_append]; exact ih o (by omega)
        | false =>
          simp only [Bool.not_false, cond_true]
          rw [req, fitSmall (by omega) (by omega), cond_true]
          have := ih (o ++ [shr hub e]) (by simp; omega)
          simpa [shr] using this
def cS (a b : Share_) : Int := cmpOr (cmpI a.flow.Date b.flow.Date) (cmpOr (cmpB a.flow.Ccy b.flow.Ccy) (cmpB a.party b.party))
theorem cS_cmp : Cmp cS := (Cmp.int fun x : Share_ => x.flow.Date).lex ((Cmp.str fun x : Share_ => x.flow.Ccy).lex (Cmp.str Share_.party))
theorem f39_eq (a b : Share_) : f39 a b = some (cS a b) := by
  unfold f39 f39n0
  rw [f41_eq, f42_eq, f42_eq]
  simp only [Option.bind_some, f40_eq]
  rfl
theorem cS_zero {a b : Share_} : cS a b = 0 ↔ a.flow.Date = b.flow.Date ∧ a.flow.Ccy = b.flow.Ccy ∧ a.party = b.party := by
  unfold cS
  rw [cmpOr_zero, cmpOr_zero, cmpI_zero, cmpB_zero, cmpB_zero]
abbrev ltS : Share_ → Share_ → Bool := fun x y => decide (cS x y < 0)
theorem swo_S : SWo ltS := cS_cmp.swo
theorem sortL_S {a b : List Share_} (hp : b.Perm a) (hn : a.Pairwise fun x y => eqv ltS x y = false) : sortL cS b = sortS ltS a :=
  sortS_of swo_S (sortL_sorted cS_cmp.SWO b) (Cl.of_perm ((sortL_perm cS_cmp.SWO b).trans hp) hn swo_S)
theorem mk1_fields (k : Key_) (a b : ByteArray) (n : Int) : (mk1 k a b n).Date = k.date ∧ (mk1 k a b n).Set = k.set ∧ (mk1 k a b n).Ccy = k.ccy := by
  unfold mk1
  cases decide (n < 0) <;> exact ⟨rfl, rfl, rfl⟩
theorem madeH_key (hub : ByteArray) {m : KM} (h : ndK m) : (madeH hub m).Pairwise fun x y => eqv ltS x y = false := by
  unfold madeH
  rw [List.pairwise_map]
  refine (h.sublist List.filter_sublist).imp fun {a b} hab => ?_
  cases e : eqv ltS (shr hub a) (shr hub b) with
  | false => rfl
  | true =>
    obtain ⟨h1, h2, h3⟩ := cS_zero.1 (cS_cmp.eqv.1 e)
    unfold shr at h1 h2 h3
    simp only [mk1_fields] at h1 h2 h3
    refine absurd ?_ hab
    obtain ⟨⟨d, p, c⟩, n⟩ := a
    obtain ⟨⟨d', p', c'⟩, n'⟩ := b
    simp only at h1 h2 h3
    rw [h1, h2, h3]
theorem madeH_len (hub : ByteArray) (p : KM) : (madeH hub p).length ≤ p.length := by
  unfold madeH; rw [List.length_map]; exact List.length_filter_le _ _
theorem f16u_eq (bm : List Share_) : ∀ (l : List Share_) (v : Int) (o : List NF), o.length + l.length ≤ 10000 → f16n6L bm l v o = some (.exit4 (o ++ l.map Share_.flow))
  | [], v, o, _ => by simp [f16n6L]
  | x :: r, v, o, h => by
    simp only [List.length_cons] at h
    rw [f16n6L, req, fitSmall (by omega) (by omega), cond_true, f16u_eq bm r (v + 1) (o ++ [x.flow]) (by simp; omega)]
    simp
def hubM (hub : ByteArray) (m : KM) : List NF × Int := bif okH hub m then bif decide (500 < (madeH hub m).length) then ([], 4) else ((sortS ltS (madeH hub m)).map Share_.flow, 0) else ([], 14)
def hubS (hub : ByteArray) (l : List NF) : List NF × Int := bif listB l then bif nmB hub then hubM hub (sumsH l) else ([], 2) else ([], 8)
theorem listB_iff {l : List NF} (h : listB l = true) : l.length ≤ 500 ∧ ∀ x ∈ l, goodF x = true := by
  unfold listB at h
  rwa [Bool.and_eq_true, decide_eq_true_eq, List.all_eq_true] at h
theorem f16_eq (hub : ByteArray) {l : List NF} (hm : l.length ≤ maxLen) : f16 hub l = some (hubS hub l) := by
  unfold f16 f16n0 hubS
  rw [f35_eq hm]
  cases hc : listB l with
  | false => rfl
  | true =>
    obtain ⟨hl, hg⟩ := listB_iff hc
    simp only [cond_true, Option.bind_some, decide_true, f36_eq]
    cases nmB hub with
    | false => rfl
    | true =>
      have h1 : f16n1 hub l = some (.norm (sumsH l)) := by
        unfold f16n1
        rw [f16n2_run hub l [] (maxSmall (by omega))]
        have := f16w_eq hub hg hl l [] 0 rfl
        have this' : f16n2L hub l l 0 [] = _ := this
        rw [this']; rfl
      have hlen : (sumsH l).length ≤ 1000 := by
        have := addH_len l []
        unfold sumsH
        simp only [List.length_nil] at this
        omega
      have h3 : ∀ p, p.Perm (sumsH l) → f16n3 hub (sumsH l) p = some (bif okH hub (sumsH l) then .norm (madeH hub p) else .ret) := fun p hp => by
        unfold f16n3
        rw [f16n4_eq hub _ p [] (fun e he => sumsH_bd hg hl e (hp.mem_iff.1 he)) (by rw [hp.length_eq]; simp; omega)]
        unfold okH
        rw [hp.all_eq]
        cases (sumsH l).all fun e => seq e.1.set hub || okAmt e.2 <;> rfl
      have hn := madeH_len hub (sumsH l)
      unfold hubM
      simp only [cond_true, h1, Option.bind_some]
      cases ho : okH hub (sumsH l) with
      | false =>
        rw [anyOrder_of (o := f16n0O.ret 14 []) fun p hp => ?_]
        · rfl
        · rw [h3 p hp, ho]; rfl
      | true =>
        rw [anyOrder_of (o := bif decide (500 < (madeH hub (sumsH l)).length) then f16n0O.ret 4 [] else f16n0O.ret 0 ((sortS ltS (madeH hub (sumsH l))).map Share_.flow)) fun p hp => ?_]
        · cases decide (500 < (madeH hub (sumsH l)).length) <;> rfl
        · have hp2 : (madeH hub p).Perm (madeH hub (sumsH l)) := (hp.filter _).map _
          rw [h3 p hp, ho]
          simp only [cond_true, Option.bind_some]
          rw [hp2.length_eq, show decide ((500 : Int) < (((madeH hub (sumsH l)).length : Nat) : Int)) = decide (500 < (madeH hub (sumsH l)).length) by congr 1; apply propext; omega]
          by_cases h5 : 500 < (madeH hub (sumsH l)).length
          · rw [decide_eq_true h5]; rfl
          · rw [decide_eq_false h5, cond_false, cond_false, so38_39_val f39_eq cS_cmp.SWO (by rw [hp2.length_eq]; omega)]
            have e := sortL_S hp2 (madeH_key hub (addH_nd l List.Pairwise.nil))
            have hsl : (sortS ltS (madeH hub (sumsH l))).length ≤ 1000 := by rw [sortS_len swo_S]; omega
            simp only [Option.bind_some]
            have e' : sortL cS (madeH hub p) = sortS ltS (madeH hub (sumsH l)) := e
            rw [e']
            unfold f16n5
            rw [f16n6_run (sortS ltS (madeH hub (sumsH l))) [] (maxSmall (by omega)), f16u_eq _ _ 0 [] (by simp; omega)]
            rfl
end Go.Proofs.Ytkcafackfihmiaa
namespace Go.Proofs.Ytkcafackfihmiaa
set_option linter.unusedVariables false
set_option linter.unusedSimpArgs false
open Go.RowKit
def nw (w : ByteArray) (d : Int) (c : ByteArray) (x : NF) : Int := bif decide (x.Date = d) && seq x.Ccy c then bif seq x.To w then x.Amount else bif seq x.From w then -x.Amount else 0 else 0
theorem f27w_eq (w : ByteArray) (d : Int) (c : ByteArray) (bg : List NF) : ∀ (l : List NF) (n v : Int), f27n2L w d c bg l (wr64 n) v = some (.exit0 (wr64 (n + sF (nw w d c) l)))
  | [], n, v => by simp [f27n2L, sF]
  | x :: r, n, v => by
    rw [f27n2L, sF, nw]
    have ih := fun n' => f27w_eq w d c bg r n' (v + 1)
    cases decide (x.Date = d) with
    | false => simp only [cond_false, Bool.false_and, ih, Int.zero_add]
    | true =>
      cases seq x.Ccy c with
      | false => simp only [cond_true, cond_false, Bool.true_and, ih, Int.zero_add]
      | true =>
        cases seq x.To w with
        | true => simp only [cond_true, Bool.and_self, wrL, ih, Int.add_assoc]
        | false =>
          cases seq x.From w with
          | true => simp only [cond_true, cond_false, Bool.and_self, wrLs, ih]; rw [Int.sub_eq_add_neg, Int.add_assoc]
          | false => simp only [cond_true, cond_false, Bool.and_self, ih, Int.zero_add]
theorem nw_bd {l : List NF} (hg : ∀ x ∈ l, goodF x = true) (hl : l.length ≤ 500) (w : ByteArray) (d : Int) (c : ByteArray) : -562949953421312000 ≤ sF (nw w d c) l ∧ sF (nw w d c) l ≤ 562949953421312000 := by
  have := sF_bound (nw w d c) 1125899906842624 l fun x hx => by
    have := goodF_amt (hg x hx)
    unfold nw
    cases decide (x.Date = d) && seq x.Ccy c <;> cases seq x.To w <;> cases seq x.From w <;> simp only [cond_true, cond_false] <;> omega
  omega
def netS (l : List NF) (w : ByteArray) (d : Int) (c : ByteArray) : Int × Int := bif listB l then withN (sF (nw w d c) l) else (0, 8)
theorem f27_eq {l : List NF} (hm : l.length ≤ maxLen) (w : ByteArray) (d : Int) (c : ByteArray) : f27 l w d c = some (netS l w d c) := by
  unfold f27 f27n0 netS
  rw [f35_eq hm]
  cases hc : listB l with
  | false => rfl
  | true =>
    obtain ⟨hl, hg⟩ := listB_iff hc
    have hb := nw_bd hg hl w d c
    have h1 : f27n1 l w d c = some (.norm (sF (nw w d c) l)) := by
      have := f27w_eq w d c l l 0 0
      rw [Int.zero_add, wrIn (n := sF (nw w d c) l) (by omega) (by omega)] at this
      have this' : f27n2L w d c l l 0 0 = _ := this
      unfold f27n1
      rw [f27n2_run w d c l 0 hm, this']; rfl
    simp only [cond_true, Option.bind_some, decide_true, h1, f50_eq (n := sF (nw w d c) l) (by omega) (by omega)]

def phi (hub w : ByteArray) (d : Int) (c : ByteArray) (k : Key_) : Int :=
  bif decide (k.date = d) && seq k.ccy c then bif seq k.set hub then 0 else bif seq k.set w then 1 else bif seq hub w then -1 else 0 else 0
theorem nw_shr {hub w : ByteArray} {d : Int} {c : ByteArray} {e : Key_ × Int} (hne : seq e.1.set hub = false) : nw w d c (shr hub e).flow = phi hub w d c e.1 * e.2 := by
  unfold nw shr mk1 phi
  rw [hne]
  by_cases h : e.2 < 0
  · rw [decide_eq_true h]
    simp only [cond_true, cond_false]
    cases decide (e.1.date = d) && seq e.1.ccy c with
    | false => simp
    | true =>
      simp only [cond_true]
      cases h1 : seq hub w with
      | true =>
        have := seq_iff.1 h1; subst this
        rw [hne]; simp
      | false => cases seq e.1.set w <;> simp
  · rw [decide_eq_false h]
    simp only [cond_true, cond_false]
    cases decide (e.1.date = d) && seq e.1.ccy c with
    | false => simp
    | true => cases seq e.1.set w <;> cases seq hub w <;> simp
theorem sF_madeH (hub w : ByteArray) (d : Int) (c : ByteArray) : ∀ m : KM, sF (nw w d c) ((madeH hub m).map Share_.flow) = tw (phi hub w d c) m
  | [] => rfl
  | e :: r => by
    rw [madeH_cons, List.map_append, sF_app, sF_madeH hub w d c r, tw, selH]
    cases hs : seq e.1.set hub with
    | true =>
      have : phi hub w d c e.1 = 0 := by unfold phi; rw [hs]; cases decide (e.1.date = d) && seq e.1.ccy c <;> rfl
      rw [this]; simp [sF]
    | false =>
      by_cases h0 : e.2 = 0
      · rw [decide_eq_true h0, h0]; simp [sF]
      · rw [decide_eq_false h0]
        simp only [Bool.not_false, Bool.and_self, cond_true, List.map_cons, List.map_nil, sF, nw_shr hs]
        omega
theorem tw_H (φ : Key_ → Int) : ∀ (l : List NF) (m : KM), tw φ (addH l m) = tw φ m + sF (fun x => (φ (kT x) - φ (kF x)) * x.Amount) l
  | [], m => by simp [addH, sF]
  | x :: r, m => by
    have h1 : tw φ (putF x m) = tw φ m - φ (kF x) * x.Amount := by unfold putF; rw [tw_put, Int.mul_sub]; omega
    have h2 : tw φ (putT x (putF x m)) = tw φ (putF x m) + φ (kT x) * x.Amount := by unfold putT; rw [tw_put, Int.mul_add]; omega
    rw [addH, tw_H φ r, h2, h1, sF, Int.sub_mul]; omega
theorem phi_nw {x : NF} (hg : goodF x = true) (hub w : ByteArray) (d : Int) (c : ByteArray) : (phi hub w d c (kT x) - phi hub w d c (kF x)) * x.Amount = nw w d c x := by
  have hne := goodF_ne hg
  unfold phi nw kT kF
  simp only
  cases decide (x.Date = d) && seq x.Ccy c with
  | false => simp
  | true =>
    simp only [cond_true]
    by_cases h1 : x.To = hub
    · subst h1
      rw [seq_refl, seqF hne]
      by_cases h2 : x.To = w
      · subst h2; rw [seq_refl, seqF hne]; simp
      · rw [seqF h2]; cases seq x.From w <;> simp
    · rw [seqF h1]
      by_cases h3 : x.From = hub
      · subst h3
        rw [seq_refl]
        cases seq x.To w <;> cases seq x.From w <;> simp
      · rw [seqF h3]
        by_cases h2 : x.To = w
        · subst h2; rw [seq_refl, seqF hne, seqF (a := hub) fun e => h1 e.symm]; simp
        · rw [seqF h2]
          by_cases h4 : x.From = w
          · subst h4; rw [seq_refl, seqF (a := hub) fun e => h3 e.symm]; simp
          · rw [seqF h4]; cases seq hub w <;> simp
theorem nw_wH {x : NF} (hg : goodF x = true) (w : ByteArray) (d : Int) (c : ByteArray) : nw w d c x = wH ⟨d, w, c⟩ x := by
  have hne := goodF_ne hg
  unfold nw wH
  by_cases h1 : x.Date = d
  · by_cases h2 : x.Ccy = c
    · subst h1 h2
      rw [decide_eq_true (rfl : x.Date = x.Date), seq_refl]
      simp only [Bool.and_self, cond_true]
      by_cases h3 : x.To = w
      · subst h3
        rw [seq_refl, eF key_iff (a := ⟨x.Date, x.To, x.Ccy⟩) (b := kF x) fun e => hne (Key_.mk.inj e).2.1.symm]
        have : Key_.eqb ⟨x.Date, x.To, x.Ccy⟩ (kT x) = true := eRefl key_iff _
        rw [this]; simp
      · rw [seqF h3, eF key_iff (a := ⟨x.Date, w, x.Ccy⟩) (b := kT x) fun e => h3 (Key_.mk.inj e).2.1.symm]
        by_cases h4 : x.From = w
        · subst h4
          have : Key_.eqb ⟨x.Date, x.From, x.Ccy⟩ (kF x) = true := eRefl key_iff _
          rw [this, seq_refl]; simp
        · rw [seqF h4, eF key_iff (a := ⟨x.Date, w, x.Ccy⟩) (b := kF x) fun e => h4 (Key_.mk.inj e).2.1.symm]; simp
    · rw [seqF h2, eF key_iff (a := ⟨d, w, c⟩) (b := kT x) fun e => h2 (Key_.mk.inj e).2.2.symm, eF key_iff (a := ⟨d, w, c⟩) (b := kF x) fun e => h2 (Key_.mk.inj e).2.2.symm]; simp
  · rw [decide_eq_false h1, eF key_iff (a := ⟨d, w, c⟩) (b := kT x) fun e => h1 (Key_.mk.inj e).1.symm, eF key_iff (a := ⟨d, w, c⟩) (b := kF x) fun e => h1 (Key_.mk.inj e).1.symm]; simp
section
variable {hub : ByteArray} {l : List NF}
def flH (hub : ByteArray) (l : List NF) : List NF := (sortS ltS (madeH hub (sumsH l))).map Share_.flow
theorem flH_perm : (flH hub l).Perm ((madeH hub (sumsH l)).map Share_.flow) := (sortS_cl swo_S _).1.map _
theorem share_mem {y : Share_} (h : y ∈ sortS ltS (madeH hub (sumsH l))) : ∃ e ∈ sumsH l, seq e.1.set hub = false ∧ ¬ e.2 = 0 ∧ y = shr hub e := by
  have h1 := (sortS_cl swo_S _).1.mem_iff.1 h
  unfold madeH at h1
  obtain ⟨e, h2, rfl⟩ := List.mem_map.1 h1
  obtain ⟨h3, h4⟩ := List.mem_filter.1 h2
  unfold selH at h4
  rw [Bool.and_eq_true, Bool.not_eq_true', Bool.not_eq_true'] at h4
  exact ⟨e, h3, h4.1, of_decide_eq_false h4.2, rfl⟩
theorem shr_good {e : Key_ × Int} (hh : nmB hub = true) (h1 : nmB e.1.set = true) (h2 : nmB e.1.ccy = true) (h3 : 0 ≤ e.1.date) (h4 : e.1.date ≤ 99999) (hne : seq e.1.set hub = false) (h0 : ¬ e.2 = 0) (ho : okAmt e.2 = true) : goodF (shr hub e).flow = true := by
  have hne' : seq hub e.1.set = false := seqF fun k => by rw [k, seq_refl] at hne; cases hne
  unfold okAmt at ho
  rw [Bool.and_eq_true, decide_eq_true_eq, decide_eq_true_eq] at ho
  unfold goodF namesB shr mk1
  by_cases h : e.2 < 0
  · rw [decide_eq_true h]
    simp only [cond_true, seq_refl, Bool.true_or, h1, h2, hh, hne, Bool.not_false, Bool.and_self, Bool.true_and, decide_eq_true h3, decide_eq_true h4]
    rw [decide_eq_true (by omega), decide_eq_true (by omega)]; rfl
  · rw [decide_eq_false h]
    simp only [cond_false, seq_refl, Bool.true_or, h1, h2, hh, hne', Bool.not_false, Bool.and_self, Bool.true_and, decide_eq_true h3, decide_eq_true h4]
    rw [decide_eq_true (by omega), decide_eq_true (by omega)]; rfl
theorem sumsH_from {e : Key_ × Int} (he : e ∈ sumsH l) : ∃ x ∈ l, kT x = e.1 ∨ kF x = e.1 := by
  rcases addH_key ⟨e, he, rfl⟩ with ⟨y, h1, _⟩ | h
  · cases h1
  · exact h
theorem flH_list (hb : listB l = true) (hh : nmB hub = true) (ho : okH hub (sumsH l) = true) (h5 : (madeH hub (sumsH l)).length ≤ 500) : listB (flH hub l) = true := by
  obtain ⟨hl, hg⟩ := listB_iff hb
  unfold listB
  rw [Bool.and_eq_true, decide_eq_true_eq, List.all_eq_true]
  refine ⟨by unfold flH; rw [List.length_map, sortS_len swo_S]; exact h5, fun x hx => ?_⟩
  obtain ⟨y, h1, rfl⟩ := List.mem_map.1 hx
  obtain ⟨e, h2, h3, h4, rfl⟩ := share_mem h1
  obtain ⟨z, h6, h7⟩ := sumsH_from h2
  obtain ⟨k1, k2, k3, _, k4, k5⟩ := goodF_names (hg z h6)
  unfold okH at ho
  have h8 := List.all_eq_true.1 ho e h2
  rw [h3, Bool.false_or] at h8
  obtain ⟨k, n⟩ := e
  rcases h7 with h7 | h7
  · have h7 : kT z = k := h7
    subst h7
    exact shr_good hh k3 k1 k4 k5 h3 h4 h8
  · have h7 : kF z = k := h7
    subst h7
    exact shr_good hh k2 k1 k4 k5 h3 h4 h8
theorem flH_net (hg : ∀ x ∈ l, goodF x = true) (w : ByteArray) (d : Int) (c : ByteArray) : sF (nw w d c) (flH hub l) = sF (nw w d c) l := by
  rw [sF_perm flH_perm, sF_madeH]
  unfold sumsH
  rw [tw_H, sF_ext (v := nw w d c) fun x hx => phi_nw (hg x hx) hub w d c]
  show 0 + _ = _
  omega
def clsH (a b : NF) : Bool := decide (a.Date = b.Date) && (seq a.Ccy b.Ccy && ((seq a.From b.From && seq a.To b.To) || (seq a.From b.To && seq a.To b.From)))
theorem shr_ft (e : Key_ × Int) : ((shr hub e).flow.From = hub ∧ (shr hub e).flow.To = e.1.set) ∨ ((shr hub e).flow.From = e.1.set ∧ (shr hub e).flow.To = hub) := by
  unfold shr mk1
  cases decide (e.2 < 0)
  · exact .inl ⟨rfl, rfl⟩
  · exact .inr ⟨rfl, rfl⟩
theorem flH_pair : (flH hub l).Pairwise fun a b => clsH a b = false := by
  unfold flH
  rw [List.pairwise_map]
  have hk : (madeH hub (sumsH l)).Pairwise fun a b => eqv ltS a b = false := madeH_key hub (addH_nd l List.Pairwise.nil)
  have hs : (sortS ltS (madeH hub (sumsH l))).Pairwise fun a b => eqv ltS a b = false := ((sortS_cl swo_S _).1.symm.pairwise_iff (fun {a b} e => by
    cases f : eqv ltS b a with
    | false => rfl
    | true => rw [eqv_symm f] at e; cases e)).1 hk
  refine List.Pairwise.imp_of_mem (fun {a b} ha hb hab => ?_) hs
  obtain ⟨e, _, h1, _, rfl⟩ := share_mem ha
  obtain ⟨g, _, h2, _, rfl⟩ := share_mem hb
  cases hq : clsH (shr hub e).flow (shr hub g).flow with
  | false => rfl
  | true =>
    unfold clsH at hq
    simp only [Bool.and_eq_true, Bool.or_eq_true] at hq
    obtain ⟨q1, q2, q3⟩ := hq
    have q1 := of_decide_eq_true q1
    have hne : ∀ {a : ByteArray}, seq a hub = false → a ≠ hub := fun k e => by rw [e, seq_refl] at k; cases k
    have n1 := hne h1
    have n2 := hne h2
    have hset : e.1.set = g.1.set := by
      rcases q3 with ⟨r1, r2⟩ | ⟨r1, r2⟩ <;> have r1 := seq_iff.1 r1 <;> have r2 := seq_iff.1 r2 <;> rcases shr_ft (hub := hub) e with ⟨s1, s2⟩ | ⟨s1, s2⟩ <;> rcases shr_ft (hub := hub) g with ⟨t1, t2⟩ | ⟨t1, t2⟩ <;> rw [s1] at r1 <;> rw [s2] at r2
      all_goals first | rw [t1] at r1 | rw [t2] at r1
      all_goals first | rw [t2] at r2 | rw [t1] at r2
      all_goals first | exact r1 | exact r2 | exact absurd r1 n1 | exact absurd r2 n1 | exact absurd r1.symm n2 | exact absurd r2.symm n2
    rw [cS_cmp.eqv.2 (cS_zero.2 ⟨q1, seq_iff.1 q2, hset⟩)] at hab
    cases hab
theorem flH_ft {x : NF} (hx : x ∈ flH hub l) : seq x.Set str_x = true ∧ (seq x.From hub == seq x.To hub) = false := by
  obtain ⟨y, h1, rfl⟩ := List.mem_map.1 hx
  obtain ⟨e, h2, h3, h4, rfl⟩ := share_mem h1
  refine ⟨?_, ?_⟩
  · unfold shr; rw [(mk1_fields _ _ _ _).2.1]; exact seq_refl _
  · rcases shr_ft (hub := hub) e with ⟨s1, s2⟩ | ⟨s1, s2⟩ <;> rw [s1, s2, h3, seq_refl] <;> rfl
end
section
variable {bg : List NF} {hub : ByteArray} {X : List NF} {e : Int}
theorem f8n4_eq {i j : Int} {a b : NF} (hj : at? X j = some a) (hi : at? X i = some b) : f8n4 bg hub true (X, e) i j = some (.norm (clsH a b)) := by
  unfold f8n4 clsH
  rw [hj, hi]
  simp only [Option.bind_some]
  cases decide (a.Date = b.Date) <;> cases seq a.Ccy b.Ccy <;> cases seq a.From b.From <;> cases seq a.To b.To <;> cases seq a.From b.To <;> cases seq a.To b.From <;> rfl
theorem f8n5_at (hl : X.length ≤ 1000) {i : Nat} (hi : i < X.length) (hp : ∀ j (h : j < i), clsH (X[j]'(Nat.lt_trans h hi)) X[i] = false) : ∀ (n f k : Nat), k + n = i → n < f → f8n5 f bg hub true (X, e) (i : Int) (k : Int) = some .exit2
  | _, 0, _, _, h => absurd h (Nat.not_lt_zero _)
  | 0, f + 1, k, hk, _ => by rw [f8n5, decide_eq_false (by omega)]; rfl
  | n + 1, f + 1, k, hk, hf => by
    have hki : k < i := by omega
    rw [f8n5, decide_eq_true (by omega), cond_true]
    unfold f8n3
    rw [f8n4_eq (at_in (Nat.lt_trans hki hi)) (at_in hi), hp k hki]
    simp only [Option.bind_some, cond_false]
    rw [wrSucc (by omega)]
    exact f8n5_at hl hi hp n f (k + 1) (by omega) (by omega)
theorem f8n6_at (hl : X.length ≤ 1000) (hp : X.Pairwise fun a b => clsH a b = false) (hx : ∀ x ∈ X, seq x.Set str_x = true ∧ (seq x.From hub == seq x.To hub) = false) : ∀ (n f k : Nat), k + n = X.length → n < f → f8n6 f bg hub true (X, e) (k : Int) = some .exit0
  | _, 0, _, _, h => absurd h (Nat.not_lt_zero _)
  | 0, f + 1, k, hk, _ => by rw [f8n6, decide_eq_false (by show ¬ (k : Int) < (X.length : Int); omega)]; rfl
  | n + 1, f + 1, k, hk, hf => by
    have hkl : k < X.length := by omega
    obtain ⟨h1, h2⟩ := hx X[k] (List.getElem_mem hkl)
    have h3 := f8n5_at (bg := bg) (hub := hub) (e := e) hl hkl (fun j h => List.pairwise_iff_getElem.1 hp j k _ hkl h) k FUEL 0 (by omega) (fuelSmall (by omega))
    have h3' : f8n5 FUEL bg hub true (X, e) (k : Int) 0 = some .exit2 := h3
    rw [f8n6, decide_eq_true (by show (k : Int) < (X.length : Int); omega), cond_true]
    unfold f8n2
    rw [at_in hkl]
    simp only [Option.bind_some, h1, h2, cond_true, cond_false, h3']
    rw [wrSucc (by omega)]
    exact f8n6_at hl hp hx n f (k + 1) (by omega) (by omega)
theorem f8n9_eq {k : Int} {j : Int} {x : NF} {w : ByteArray} (hl : bg.length ≤ 1000) (hX : X.length ≤ 1000) (hx : at? bg k = some x) (hw : at? [x.From, x.To] j = some w) (h1 : netS bg w x.Date x.Ccy = netS X w x.Date x.Ccy) (h2 : seq w hub = false → (netS bg w x.Date x.Ccy).2 = 0) : f8n9 bg hub true (X, e) k j x = some .norm := by
  unfold f8n9 f8n10
  rw [hw, hx]
  simp only [Option.bind_some]
  rw [f27_eq (maxSmall (by omega)), f27_eq (maxSmall (by omega)), ← h1]
  simp only [Option.bind_some, decide_true]
  cases hq : seq w hub with
  | true => rfl
  | false => rw [h2 hq]; rfl
theorem f8n12_at (hl : bg.length ≤ 1000) (hX : X.length ≤ 1000) (hx : ∀ x ∈ bg, ∀ w, (w = x.From ∨ w = x.To) → netS bg w x.Date x.Ccy = netS X w x.Date x.Ccy ∧ (seq w hub = false → (netS bg w x.Date x.Ccy).2 = 0)) : ∀ (n f k : Nat), k + n = bg.length → n < f → f8n12 f bg hub true (X, e) (k : Int) = some .exit4
  | _, 0, _, _, h => absurd h (Nat.not_lt_zero _)
  | 0, f + 1, k, hk, _ => by rw [f8n12, decide_eq_false (by omega)]; rfl
  | n + 1, f + 1, k, hk, hf => by
    have hkl : k < bg.length := by omega
    have hm : bg[k] ∈ bg := List.getElem_mem hkl
    have ha := at_in hkl
    have h0 := f8n9_eq (hub := hub) (e := e) (j := 0) hl hX ha rfl (hx _ hm _ (.inl rfl)).1 (hx _ hm _ (.inl rfl)).2
    have h1 := f8n9_eq (hub := hub) (e := e) (j := 1) hl hX ha rfl (hx _ hm _ (.inr rfl)).1 (hx _ hm _ (.inr rfl)).2
    have h11 : f8n11 FUEL bg hub true (X, e) (k : Int) bg[k] 0 = some .exit6 := by
      have hF : 2 < FUEL := fuelSmall (by omega)
      obtain ⟨g, hg⟩ : ∃ g, FUEL = g + 3 := ⟨FUEL - 3, by omega⟩
      rw [hg, f8n11, decide_eq_true (by omega), cond_true, h0]
      simp only [Option.bind_some]
      rw [show wr64 (0 + 1) = (1 : Int) from by rw [wrIn (by omega) (by omega)]; rfl, f8n11, decide_eq_true (by omega), cond_true, h1]
      simp only [Option.bind_some]
      rw [show wr64 (1 + 1) = (2 : Int) from by rw [wrIn (by omega) (by omega)]; rfl, f8n11, decide_eq_false (by omega)]; rfl
    rw [f8n12, decide_eq_true (by omega), cond_true]
    unfold f8n8
    rw [ha]
    simp only [Option.bind_some, h11]
    rw [wrSucc (by omega)]
    exact f8n12_at hl hX hx n f (k + 1) (by omega) (by omega)
end
theorem withN_ok {n : Int} (h : okAmt n = true) : (withN n).2 = 0 := by unfold withN; rw [h]; rfl
theorem lawHub (l : List NettingFlow) (hub : ByteArray) (hm : l.length ≤ maxLen ∧ ∀ x ∈ l, NettingFlow.ok x) (_ : hub.size ≤ maxLen) : f8 l hub = some true := by
  unfold f8 f8n0
  rw [alive_t]
  obtain ⟨b, h1, h2⟩ := f12_eq [] l
  rw [h1]
  simp only [Option.bind_some]
  cases b with
  | true => rfl
  | false =>
    obtain ⟨h3, h4⟩ := h2 rfl
    simp only [cond_false, cond_true]
    rw [f14_eq (by omega)]
    simp only [Option.bind_some, f16_eq hub hm.1, hubS]
    cases hb : listB l with
    | false => rfl
    | true =>
      obtain ⟨hl, hg⟩ := listB_iff hb
      cases hh : nmB hub with
      | false => rfl
      | true =>
        unfold hubM
        cases ho : okH hub (sumsH l) with
        | false => rfl
        | true =>
          by_cases h5 : 500 < (madeH hub (sumsH l)).length
          · rw [decide_eq_true h5]; rfl
          · rw [decide_eq_false h5]
            have hX := flH_list hb hh ho (by omega)
            obtain ⟨xl, xg⟩ := listB_iff hX
            have k1 : f8n1 l hub true (flH hub l, 0) = some .norm := by
              unfold f8n1
              have := f8n6_at (bg := l) (hub := hub) (X := flH hub l) (e := 0) (by omega) flH_pair (fun x hx => flH_ft hx) (flH hub l).length FUEL 0 (by omega) (fuelSmall (by omega))
              have this' : f8n6 FUEL l hub true (flH hub l, 0) 0 = some .exit0 := this
              rw [this']; rfl
            have k7 : f8n7 l hub true (flH hub l, 0) = some .norm := by
              unfold f8n7
              have := f8n12_at (bg := l) (hub := hub) (X := flH hub l) (e := 0) (by omega) (by omega) (fun x hx w hw => by
                unfold netS
                rw [hb, hX, flH_net hg]
                refine ⟨rfl, fun hq => ?_⟩
                rw [cond_true]
                refine withN_ok ?_
                have hk : kT x = ⟨x.Date, w, x.Ccy⟩ ∨ kF x = ⟨x.Date, w, x.Ccy⟩ := by
                  rcases hw with rfl | rfl
                  · exact .inr rfl
                  · exact .inl rfl
                obtain ⟨y, y1, y2⟩ := addH_has hk (m := []) hx
                have y3 := sumsH_mem y1
                have y4 : gK y.1 (sumsH l) = sF (nw w x.Date x.Ccy) l := by
                  unfold sumsH
                  rw [addH_get, y2, sF_ext (w := wH _) (v := nw w x.Date x.Ccy) fun z hz => (nw_wH (hg z hz) w x.Date x.Ccy).symm]
                  show 0 + _ = _
                  omega
                unfold okH at ho
                have y5 := List.all_eq_true.1 ho y y1
                rw [y2] at y5
                simp only [hq, Bool.false_or] at y5
                rw [← y4, y3]; exact y5) l.length FUEL 0 (by omega) (fuelSmall (by omega))
              have this' : f8n12 FUEL l hub true (flH hub l, 0) 0 = some .exit4 := this
              rw [this']; rfl
            have ef : (sortS ltS (madeH hub (sumsH l))).map Share_.flow = flH hub l := rfl
            simp only [cond_true, cond_false, ef, decide_true, k1, k7, Option.bind_some]
end Go.Proofs.Ytkcafackfihmiaa
