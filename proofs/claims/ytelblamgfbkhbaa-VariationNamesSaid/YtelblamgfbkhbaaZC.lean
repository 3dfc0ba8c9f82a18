/- The clean machine is sound, first part: the operations that touch no memory. No condition. -/
import Derived.Test.YtelblamgfbkhbaaZB
import Derived.Test.YtelblamgfbkhbaaZK
namespace Go.Proofs.Ytelblamgfbkhbaa
set_option linter.unusedSimpArgs false
set_option linter.unusedVariables false
open Go.RowKit

/-! ### tables -/
def litOK : PV → Value → Bool
  | .int k n, .int k' m => kindEq k k' && decide (n = m)
  | .bool b, .bool c => b == c
  | .str s, .string t => decide (s.data.toList = t.data.toList)
  | .nilf, .nilFunc => true
  | .nilp, .pointer none => true
  | .nilm, .map none => true
  | .nili, .nilIface => true
  | .sl .nil _ [], .slice none 0 0 => true
  | _, _ => false
def litsOK : List PV → List Value → Bool
  | [], [] => true
  | p :: ps, v :: vs => litOK p v && litsOK ps vs
  | _, _ => false
def fieldsOK : List (Nat × Nat) → List Field → Bool
  | [], [] => true
  | (t, o) :: fs, f :: gs => Nat.beq t f.type && Nat.beq o f.offset && f.name != "_" && fieldsOK fs gs
  | _, _ => false
def kindOK : TK → TypeDesc → Bool
  | .int k, .int k' => kindEq k k'
  | .bool, .bool => true
  | .str, .string => true
  | .ptr e, .pointer e' => Nat.beq e e'
  | .sl e, .slice e' => Nat.beq e e'
  | .arr n e, .array n' e' => Nat.beq n n' && Nat.beq e e'
  | .map k e, .map k' e' => Nat.beq k k' && Nat.beq e e'
  | .struct fs, .struct gs => fieldsOK fs gs.toList
  | .func, .func _ _ _ => true
  | .ifc, .interface _ => true
  | _, _ => false
/-- The machine's row for a type says what the program's does. -/
def tyOKB (P : Program) (t : Nat) (ti : TI) : Bool :=
  (match P.info? t with
    | some i => Nat.beq i.size ti.size && Nat.beq i.bytes ti.bytes && (match i.zero with | some z => litsOK ti.zero z.cells.toList && (match z with | .agg _ => ti.k.row | _ => !ti.k.row) | none => false) && Nat.beq ti.zero.length ti.size
    | none => false) &&
  (match P.underlying t with
    | some u => kindOK ti.k u && (match u with | .struct _ => !(P.stoodInHeld t) && !(P.eqGuardType P.depth t) | _ => true)
    | none => false)
def resOK : List AV → Bool
  | [] => true
  | .pl _ :: r => resOK r
  | _ => false
/-- The plan of a region whose order is drawn is sound: each stands behind what it waits for; two that do not wait for one another do not look at each other's slots. -/
def chkL (ops : Array Oper) (m : Nat) : List (Nat × Nat) → List It → Nat → Nat → List It → Bool
  | _, _, _, k, [] => Nat.ble k m
  | tbl, prev, done, k, x :: L => Nat.beq x.anc (ancOf x.need tbl) && Nat.beq (Nat.land x.need done) x.need && !(bit done x.i) && Nat.beq x.nid k &&
    prev.all (fun y => bit x.anc y.i || Oper.apart ops y.o x.o) && chkL ops m ((x.i, x.anc) :: tbl) (x :: prev) (orBit done x.i) (bif creates x.o.op then k + 1 else k) L
def planOK (ops : List Oper) : Bool := match plan ops.length 0 0 [] (items 0 ops) with | some L => chkL ops.toArray (countNew ops) [] [] 0 0 L | none => true
def codeOK : Code → Bool
  | .region _ ops true => planOK ops.toList
  | .seq a b => codeOK a && codeOK b
  | .cond _ a b => codeOK a && codeOK b
  | .block _ a => codeOK a
  | .loop a => codeOK a
  | _ => true
structure CfgOK (P : Program) (C : Cfg) : Prop where
  ty : ∀ t ti, C.ty t = some ti → tyOKB P t ti = true
  fn : ∀ k f, C.fn k = some f → P.funcs[k]? = some f
  name : ∀ k f, C.fn k = some f → (f.name == "runtime.NumGoroutine") = false
  code : ∀ k f c, C.fn k = some f → f.body = some c → codeOK c = true
  mixed : P.follows .mixedOrders = true
  noext : ∀ k, C.ext k = none

theorem kindEq_eq {a b : IntKind} (h : kindEq a b = true) : a = b := by cases a <;> cases b <;> simp_all [kindEq]
theorem kindEq_refl (a : IntKind) : kindEq a a = true := by cases a <;> rfl
theorem bytes_eq {a b : ByteArray} (h : a.data.toList = b.data.toList) : a = b := by
  cases a; cases b; simp at h; rw [h]

section
variable {P : Program} {C : Cfg} {w : World} {Y : Nat → Prop}
theorem litOK_pr {p : PV} {v : Value} (h : litOK p v = true) : oneP p = true ∧ ∀ (w : World) (Y : Nat → Prop), PR w Y p v := by
  unfold litOK at h
  split at h
  · simp at h; obtain ⟨h1, h2⟩ := h; cases kindEq_eq h1; subst h2; exact ⟨rfl, fun _ _ => by simp only [PR]⟩
  · simp at h; subst h; exact ⟨rfl, fun _ _ => by simp only [PR]⟩
  · simp only [decide_eq_true_eq] at h; cases bytes_eq h; exact ⟨rfl, fun _ _ => by simp only [PR]⟩
  · exact ⟨rfl, fun _ _ => by simp only [PR]⟩
  · exact ⟨rfl, fun _ _ => by simp only [PR]⟩
  · exact ⟨rfl, fun _ _ => by simp only [PR]⟩
  · exact ⟨rfl, fun _ _ => by simp only [PR]⟩
  · exact ⟨rfl, fun _ _ => by simp only [PR]; exact ⟨none, 0, rfl, by simp, by simp [maxLen], ⟨rfl, rfl⟩, .inl rfl⟩⟩
  · cases h
theorem litsOK_prl : ∀ {ps : List PV} {vs : List Value}, litsOK ps vs = true → ∀ (w : World) (Y : Nat → Prop), PRL w Y ps vs
  | [], [], _, _, _ => by simp only [PRL]
  | p :: ps, v :: vs, h, w, Y => by
    simp only [litsOK, Bool.and_eq_true] at h
    simp only [PRL]
    exact ⟨v, vs, rfl, (litOK_pr h.1).1, (litOK_pr h.1).2 w Y, litsOK_prl h.2 w Y⟩
  | [], _ :: _, h, _, _ => by simp [litsOK] at h
  | _ :: _, [], h, _, _ => by simp [litsOK] at h
theorem tyOK_info {t : Nat} {ti : TI} (h : tyOKB P t ti = true) : ∃ i z, P.info? t = some i ∧ i.size = ti.size ∧ i.bytes = ti.bytes ∧ i.zero = some z ∧ ∀ (w : World) (Y : Nat → Prop), PRL w Y ti.zero z.cells.toList := by
  unfold tyOKB at h
  rw [Bool.and_eq_true] at h
  obtain ⟨h, _⟩ := h
  cases hi : P.info? t with
  | none => simp [hi] at h
  | some i =>
    cases hz : i.zero with
    | none => simp [hi, hz] at h
    | some z =>
      simp only [hi, hz, Bool.and_eq_true, Nat.beq_eq] at h
      exact ⟨i, z, rfl, h.1.1.1, h.1.1.2, hz, litsOK_prl h.1.2.1⟩
theorem tyOK_zero {t : Nat} {ti : TI} (h : tyOKB P t ti = true) : ∃ i z, P.info? t = some i ∧ i.zero = some z ∧ (ti.k.row = true → ∃ vs, z = .agg vs.toArray ∧ ∀ (w : World) (Y : Nat → Prop), PRL w Y ti.zero vs) ∧ (ti.k.row = false → ∀ (w : World) (Y : Nat → Prop), PRL w Y ti.zero [z]) := by
  unfold tyOKB at h
  rw [Bool.and_eq_true] at h
  obtain ⟨h, _⟩ := h
  cases hi : P.info? t with
  | none => simp [hi] at h
  | some i =>
    cases hz : i.zero with
    | none => simp [hi, hz] at h
    | some z =>
      simp only [hi, hz, Bool.and_eq_true, Nat.beq_eq] at h
      refine ⟨i, z, rfl, hz, fun hr => ?_, fun hr => ?_⟩
      · cases z <;> first | (simp [hr] at h; done) | skip
        rename_i cs
        exact ⟨cs.toList, rfl, litsOK_prl h.1.2.1⟩
      · have hp := litsOK_prl h.1.2.1
        cases z <;> first | exact hp | skip
        simp [hr] at h
theorem tyOK_len {t : Nat} {ti : TI} (h : tyOKB P t ti = true) : ti.zero.length = ti.size := by
  unfold tyOKB at h
  rw [Bool.and_eq_true] at h
  obtain ⟨h, _⟩ := h
  cases hi : P.info? t with
  | none => simp [hi] at h
  | some i => simp only [hi, Bool.and_eq_true, Nat.beq_eq] at h; exact h.2
theorem tyOK_und {t : Nat} {ti : TI} (h : tyOKB P t ti = true) : ∃ u, P.underlying t = some u ∧ kindOK ti.k u = true := by
  unfold tyOKB at h
  rw [Bool.and_eq_true] at h
  obtain ⟨_, h⟩ := h
  cases hu : P.underlying t with
  | none => simp [hu] at h
  | some u => simp only [hu, Bool.and_eq_true] at h; exact ⟨u, rfl, h.1⟩
theorem tyOK_held {t : Nat} {ti : TI} {fs : Array Field} (h : tyOKB P t ti = true) (hu : P.underlying t = some (.struct fs)) : P.stoodInHeld t = false := by
  unfold tyOKB at h
  rw [Bool.and_eq_true] at h
  obtain ⟨_, h⟩ := h
  simp only [hu, Bool.and_eq_true] at h
  simpa using h.2.1
theorem tyOK_guard {t : Nat} {ti : TI} {fs : Array Field} (h : tyOKB P t ti = true) (hu : P.underlying t = some (.struct fs)) : P.eqGuardType P.depth t = false := by
  unfold tyOKB at h
  rw [Bool.and_eq_true] at h
  obtain ⟨_, h⟩ := h
  simp only [hu, Bool.and_eq_true] at h
  simpa using h.2.2
theorem und_int {t : Nat} {ti : TI} {k : IntKind} (h : tyOKB P t ti = true) (hk : ti.k = .int k) : P.underlying t = some (.int k) := by
  obtain ⟨u, hu, hq⟩ := tyOK_und h
  rw [hk] at hq; cases u <;> simp [kindOK] at hq; cases kindEq_eq hq; exact hu
theorem und_bool {t : Nat} {ti : TI} (h : tyOKB P t ti = true) (hk : ti.k = .bool) : P.underlying t = some .bool := by
  obtain ⟨u, hu, hq⟩ := tyOK_und h
  rw [hk] at hq; cases u <;> simp [kindOK] at hq; exact hu
theorem und_str {t : Nat} {ti : TI} (h : tyOKB P t ti = true) (hk : ti.k = .str) : P.underlying t = some .string := by
  obtain ⟨u, hu, hq⟩ := tyOK_und h
  rw [hk] at hq; cases u <;> simp [kindOK] at hq; exact hu
theorem und_sl {t e : Nat} {ti : TI} (h : tyOKB P t ti = true) (hk : ti.k = .sl e) : P.underlying t = some (.slice e) := by
  obtain ⟨u, hu, hq⟩ := tyOK_und h
  rw [hk] at hq; cases u <;> simp [kindOK] at hq; subst hq; exact hu
theorem und_arr {t n e : Nat} {ti : TI} (h : tyOKB P t ti = true) (hk : ti.k = .arr n e) : P.underlying t = some (.array n e) := by
  obtain ⟨u, hu, hq⟩ := tyOK_und h
  rw [hk] at hq; cases u <;> simp [kindOK] at hq; obtain ⟨rfl, rfl⟩ := hq; exact hu
theorem und_map {t n e : Nat} {ti : TI} (h : tyOKB P t ti = true) (hk : ti.k = .map n e) : P.underlying t = some (.map n e) := by
  obtain ⟨u, hu, hq⟩ := tyOK_und h
  rw [hk] at hq; cases u <;> simp [kindOK] at hq; obtain ⟨rfl, rfl⟩ := hq; exact hu
theorem und_struct {t : Nat} {ti : TI} {fs : List (Nat × Nat)} (h : tyOKB P t ti = true) (hk : ti.k = .struct fs) : ∃ gs, P.underlying t = some (.struct gs) ∧ fieldsOK fs gs.toList = true := by
  obtain ⟨u, hu, hq⟩ := tyOK_und h
  rw [hk] at hq; cases u <;> simp [kindOK] at hq; exact ⟨_, hu, hq⟩
theorem und_row {t : Nat} {ti : TI} (h : tyOKB P t ti = true) : ∃ u, P.underlying t = some u ∧ u.isRow = ti.k.row := by
  obtain ⟨u, hu, hq⟩ := tyOK_und h
  refine ⟨u, hu, ?_⟩
  cases hk : ti.k <;> rw [hk] at hq <;> cases u <;> simp_all [kindOK, TypeDesc.isRow, TK.row]
theorem fieldsOK_at : ∀ {fs : List (Nat × Nat)} {gs : List Field}, fieldsOK fs gs = true → ∀ {i t o : Nat}, fs[i]? = some (t, o) → ∃ g, gs[i]? = some g ∧ g.type = t ∧ g.offset = o ∧ (g.name ≠ "_")
  | [], _, _, i, t, o, h => by simp at h
  | (t', o') :: fs, g :: gs, hf, i, t, o, h => by
    simp only [fieldsOK, Bool.and_eq_true, Nat.beq_eq] at hf
    cases i with
    | zero => simp at h; obtain ⟨rfl, rfl⟩ := h; exact ⟨g, by simp, hf.1.1.1.symm, hf.1.1.2.symm, by simpa using hf.1.2⟩
    | succ i => simp at h; simpa using fieldsOK_at hf.2 h
  | _ :: _, [], hf, _, _, _, _ => by simp [fieldsOK] at hf
theorem run_size {t : Nat} {ti : TI} (h : tyOKB P t ti = true) : (sizeOf t).run P w = .ok ti.size w := by
  obtain ⟨i, z, hi, hs, _⟩ := tyOK_info h
  simp [sizeOf, typeInfo, hi, hs]

/-! ### what a step gives -/
def Good (nid : Nat) (H : Hp) (X : Nat → Prop) (φ : Phi) (w : World) (v : AV) (H' : Hp) (r : Result Next) : Prop :=
  ∃ nx v' w' φ', r = .ok nx w' ∧ (nx = .value v' ∨ (nx = .skip ∧ v' = undef)) ∧ VR w' (YOf X φ') φ' v v' ∧ HR X φ' H' w' ∧ Ev φ w φ' w' ∧ H.length ≤ H'.length ∧ ∀ k, k ≠ nid → φ k = .fresh → φ' k = .fresh
variable {X : Nat → Prop} {φ : Phi} {H : Hp}
theorem good_val {nid : Nat} {v : AV} {v' : Value} {r : Result Next} (hr : r = .ok (.value v') w) (hv : VR w (YOf X φ) φ v v') (hH : HR X φ H w) : Good nid H X φ w v H r :=
  ⟨_, v', w, φ, hr, .inl rfl, hv, hH, Ev.refl _ _, Nat.le_refl _, fun _ _ h => h⟩

variable {ρ : Operand → Value} {d : Option Tmp} {ty : TypeId} {pos : String} {af : Array Edge} {g : Option (Nat × Bool)}
theorem x_quo {t t' : TypeId} {k : IntKind} {x y : Operand} {p q : Int} (hx : ρ x = .int k p) (hy : ρ y = .int k q) (hq : q ≠ 0) : (execOp ρ ⟨d, .binOp .quo t x y t', ty, pos, af, g⟩).run P w = .ok (.value (.int k (k.wrap (p.tdiv q)))) w := by
  simp [execOp, hx, hy, eqGuard, binOp, Op.intDiv, hq]
theorem x_rem {t t' : TypeId} {k : IntKind} {x y : Operand} {p q : Int} (hx : ρ x = .int k p) (hy : ρ y = .int k q) (hq : q ≠ 0) : (execOp ρ ⟨d, .binOp .rem t x y t', ty, pos, af, g⟩).run P w = .ok (.value (.int k (p.tmod q))) w := by
  simp [execOp, hx, hy, eqGuard, binOp, Op.intDiv, hq]
theorem x_and {t t' : TypeId} {k : IntKind} {x y : Operand} {p q : Int} (hx : ρ x = .int k p) (hy : ρ y = .int k q) : (execOp ρ ⟨d, .binOp .and t x y t', ty, pos, af, g⟩).run P w = .ok (.value (.int k (k.wrap (BitVec.ofInt k.bits p &&& BitVec.ofInt k.bits q).toNat))) w := by
  simp [execOp, hx, hy, eqGuard, binOp, Op.intBits]
theorem x_or {t t' : TypeId} {k : IntKind} {x y : Operand} {p q : Int} (hx : ρ x = .int k p) (hy : ρ y = .int k q) : (execOp ρ ⟨d, .binOp .or t x y t', ty, pos, af, g⟩).run P w = .ok (.value (.int k (k.wrap (BitVec.ofInt k.bits p ||| BitVec.ofInt k.bits q).toNat))) w := by
  simp [execOp, hx, hy, eqGuard, binOp, Op.intBits]
theorem x_xor {t t' : TypeId} {k : IntKind} {x y : Operand} {p q : Int} (hx : ρ x = .int k p) (hy : ρ y = .int k q) : (execOp ρ ⟨d, .binOp .xor t x y t', ty, pos, af, g⟩).run P w = .ok (.value (.int k (k.wrap (BitVec.ofInt k.bits p ^^^ BitVec.ofInt k.bits q).toNat))) w := by
  simp [execOp, hx, hy, eqGuard, binOp, Op.intBits]
theorem x_shl {t t' : TypeId} {k k' : IntKind} {x y : Operand} {p q : Int} (hx : ρ x = .int k p) (hy : ρ y = .int k' q) (hq : ¬ q < 0) : (execOp ρ ⟨d, .binOp .shl t x y t', ty, pos, af, g⟩).run P w = .ok (.value (.int k (k.wrap (p * 2 ^ (min q.toNat k.bits))))) w := by
  simp [execOp, hx, hy, eqGuard, binOp, Op.shift, hq]
theorem x_shr {t t' : TypeId} {k k' : IntKind} {x y : Operand} {p q : Int} (hx : ρ x = .int k p) (hy : ρ y = .int k' q) (hq : ¬ q < 0) : (execOp ρ ⟨d, .binOp .shr t x y t', ty, pos, af, g⟩).run P w = .ok (.value (.int k (p.fdiv (2 ^ (min q.toNat k.bits))))) w := by
  simp [execOp, hx, hy, eqGuard, binOp, Op.shift, hq]
theorem x_binI {op : BinOp} {t t' : TypeId} {k : IntKind} {x y : Operand} {a b : Int} {p : PV} (h : binI op k a b = some p) (hx : ρ x = .int k a) (hy : ρ y = .int k b) :
    ∃ v, (execOp ρ ⟨d, .binOp op t x y t', ty, pos, af, g⟩).run P w = .ok (.value v) w ∧ PR w Y p v := by
  unfold binI at h
  split at h
  all_goals first | (simp only [Option.some.injEq] at h; subst h) | skip
  · exact ⟨_, x_add hx hy, by simp only [PR]⟩
  · exact ⟨_, x_sub hx hy, by simp only [PR]⟩
  · exact ⟨_, x_mul hx hy, by simp only [PR]⟩
  · by_cases hb : b = 0
    · simp [hb] at h
    · simp [hb] at h; subst h; exact ⟨_, x_quo hx hy hb, by simp only [PR]⟩
  · by_cases hb : b = 0
    · simp [hb] at h
    · simp [hb] at h; subst h; exact ⟨_, x_rem hx hy hb, by simp only [PR]⟩
  · exact ⟨_, x_and hx hy, by simp only [PR]⟩
  · exact ⟨_, x_or hx hy, by simp only [PR]⟩
  · exact ⟨_, x_xor hx hy, by simp only [PR]⟩
  · exact ⟨_, x_eql hx hy, by simp only [PR]⟩
  · exact ⟨_, x_neq hx hy, by simp only [PR]⟩
  · exact ⟨_, x_lss hx hy, by simp only [PR]⟩
  · exact ⟨_, x_leq hx hy, by simp only [PR]⟩
  · exact ⟨_, x_gtr hx hy, by simp only [PR]⟩
  · exact ⟨_, x_geq hx hy, by simp only [PR]⟩
  · cases h
theorem x_shI {op : BinOp} {t t' : TypeId} {k k' : IntKind} {x y : Operand} {a b : Int} {p : PV} (hop : op = .shl ∨ op = .shr) (h : shI op k a b = some p) (hx : ρ x = .int k a) (hy : ρ y = .int k' b) :
    ∃ v, (execOp ρ ⟨d, .binOp op t x y t', ty, pos, af, g⟩).run P w = .ok (.value v) w ∧ PR w Y p v := by
  unfold shI at h
  by_cases hb : b < 0
  · simp [hb] at h
  · rcases hop with rfl | rfl
    · simp [hb] at h; subst h; exact ⟨_, x_shl hx hy hb, by simp only [PR]⟩
    · simp [hb] at h; subst h; exact ⟨_, x_shr hx hy hb, by simp only [PR]⟩
theorem bytesLt_eq : ∀ (a b : List UInt8), Op.bytesLess a b = bytesLt a b
  | _, [] => by simp [Op.bytesLess, bytesLt]
  | [], _ :: _ => by simp [Op.bytesLess, bytesLt]
  | a :: x, b :: y => by
    simp only [Op.bytesLess, bytesLt, bytesLt_eq x y]
    congr 1
    · rw [Bool.eq_iff_iff]; simp [UInt8.lt_iff_toNat_lt, Nat.blt_eq]
    · congr 1
      rw [Bool.eq_iff_iff]; simp [UInt8.toNat_inj.symm]
theorem x_binS {op : BinOp} {t t' : TypeId} {x y : Operand} {a b : ByteArray} {p : PV} (h : binS op a b = some p) (hx : ρ x = .string a) (hy : ρ y = .string b) :
    ∃ v, (execOp ρ ⟨d, .binOp op t x y t', ty, pos, af, g⟩).run P w = .ok (.value v) w ∧ PR w Y p v := by
  unfold binS at h
  split at h
  · by_cases hb : a.size + b.size ≤ 9223372036854775807
    · rw [show Nat.ble (a.size + b.size) 9223372036854775807 = true from by simpa using hb] at h
      simp only [cond_true, Option.some.injEq] at h
      subst h
      have he : a ++ b = ⟨(a.data.toList ++ b.data.toList).toArray⟩ := by
        apply bytes_eq; simp [ByteArray.data_append]
      refine ⟨.string (a ++ b), ?_, by simp only [PR]; rw [he]⟩
      have hb' : (a.size : Int) + (b.size : Int) ≤ 9223372036854775807 := by omega
      have hm : IntKind.i64.max = 9223372036854775807 := by decide
      simp only [execOp, hx, hy, eqGuard, binOp, Op.stringOp]
      simp [hm, Int.not_lt.2 hb']
    · rw [show Nat.ble (a.size + b.size) 9223372036854775807 = false from by rw [Bool.eq_false_iff]; simpa using hb] at h
      simp at h
  all_goals first | (simp only [Option.some.injEq] at h; subst h) | skip
  · exact ⟨_, x_eqs hx hy, by simp only [PR]⟩
  · exact ⟨_, x_nes hx hy, by simp only [PR]⟩
  · exact ⟨.bool (Op.bytesLess a.toList b.toList), by simp [execOp, hx, hy, eqGuard, binOp, Op.stringOp], by simp only [PR]; rw [bytesLt_eq, ByteArray.toList_eq, ByteArray.toList_eq]⟩
  · exact ⟨.bool (Op.bytesLess a.toList b.toList || a.toList == b.toList), by simp [execOp, hx, hy, eqGuard, binOp, Op.stringOp], by simp only [PR]; rw [beq_bytes, bytesLt_eq, ByteArray.toList_eq, ByteArray.toList_eq]⟩
  · exact ⟨.bool !(Op.bytesLess a.toList b.toList || a.toList == b.toList), by simp [execOp, hx, hy, eqGuard, binOp, Op.stringOp], by simp only [PR]; rw [beq_bytes, bytesLt_eq, ByteArray.toList_eq, ByteArray.toList_eq]⟩
  · exact ⟨.bool !(Op.bytesLess a.toList b.toList), by simp [execOp, hx, hy, eqGuard, binOp, Op.stringOp], by simp only [PR]; rw [bytesLt_eq, ByteArray.toList_eq, ByteArray.toList_eq]⟩
  · cases h

/-! ### equality -/
/-- The value of a type whose cells are these. -/
def vAt (row : Bool) (vs : List Value) : Value := if row then .agg vs.toArray else vs.headD undef
theorem run_part {t off : Nat} {ti : TI} {vs : List Value} (h : tyOKB P t ti = true) (hl : off + ti.size ≤ vs.length) (h1 : ti.k.row = false → 0 < ti.size) :
    (part t vs.toArray off).run P w = .ok (vAt ti.k.row ((vs.drop off).take ti.size)) w := by
  obtain ⟨u, hu, hr⟩ := und_row h
  have hag : (isAgg t).run P w = .ok ti.k.row w := by
    rw [← hr]; unfold isAgg; rw [Sem.run_bind, run_underlying hu w]; cases u <;> simp [TypeDesc.isRow]
  unfold part
  rw [Sem.run_bind, hag]
  cases hrow : ti.k.row with
  | true =>
    simp only [Result.andThen_ok, if_true, Sem.run_bind, run_size h, Sem.run_pure, vAt]
    congr 3
    apply Array.ext'
    simp
  | false =>
    have h0 := h1 hrow
    have hlt : off < vs.length := by omega
    have e1 : vs.toArray[off]? = some vs[off] := by simp [hlt]
    have e2 : ((vs.drop off).take ti.size).headD undef = vs[off] := by
      rw [List.drop_eq_getElem_cons hlt]
      cases hs : ti.size with
      | zero => omega
      | succ n => rfl
    simp only [Result.andThen_ok, Bool.false_eq_true, if_false, e1, Sem.run_pure, vAt, e2]
theorem PRL.take : ∀ {cs : List PV} {vs : List Value}, PRL w Y cs vs → ∀ n, PRL w Y (cs.take n) (vs.take n)
  | [], vs, h, n => by simp only [PRL] at h; subst h; simp [PRL]
  | c :: cs, vs, h, 0 => by simp [PRL]
  | c :: cs, vs, h, n + 1 => by
    simp only [PRL] at h
    obtain ⟨v, r, rfl, ho, hc, hr⟩ := h
    simp only [List.take_succ_cons, PRL]
    exact ⟨v, r.take n, rfl, ho, hc, PRL.take hr n⟩
theorem PRL.drop : ∀ {cs : List PV} {vs : List Value}, PRL w Y cs vs → ∀ n, PRL w Y (cs.drop n) (vs.drop n)
  | [], vs, h, n => by simp only [PRL] at h; subst h; simp [PRL]
  | c :: cs, vs, h, 0 => by simpa using h
  | c :: cs, vs, h, n + 1 => by
    simp only [PRL] at h
    obtain ⟨v, r, rfl, ho, hc, hr⟩ := h
    simpa using PRL.drop hr n
theorem prl_one {p : PV} {vs : List Value} (h : PRL w Y [p] vs) : ∃ v, vs = [v] ∧ oneP p = true ∧ PR w Y p v := by
  simp only [PRL] at h
  obtain ⟨v, r, rfl, ho, hp, rfl⟩ := h
  exact ⟨v, rfl, ho, hp⟩
theorem eqF_ok (hC : CfgOK P C) {eq : Nat → List PV → List PV → Option Bool} {k : Nat} {x y : List PV} {vs us : List Value} (hx : PRL w Y x vs) (hy : PRL w Y y us)
    (ih : ∀ t x y b vs us, eq t x y = some b → PRL w Y x vs → PRL w Y y us → ∃ ti, C.ty t = some ti ∧ (ti.k.row = false → vs.length = 1 ∧ us.length = 1) ∧ (Op.equalIn k t (vAt ti.k.row vs) (vAt ti.k.row us)).run P w = .ok b w) :
    ∀ (fs : List (Nat × Nat)) (gs : List Field) (b : Bool), fieldsOK fs gs = true → eqF C.ty eq fs x y = some b → (Op.eqFields k vs.toArray us.toArray gs).run P w = .ok b w
  | [], [], b, _, h => by simp [eqF] at h; subst h; simp [Op.eqFields]
  | (t, o) :: fs, g :: gs, b, hf, h => by
    simp only [fieldsOK, Bool.and_eq_true, Nat.beq_eq] at hf
    obtain ⟨⟨⟨ht, ho⟩, hn⟩, hf⟩ := hf
    simp only [eqF] at h
    cases hti : C.ty t with
    | none => simp [hti] at h
    | some ti =>
      simp only [hti] at h
      by_cases hb0 : o + ti.size ≤ x.length ∧ o + ti.size ≤ y.length
      case neg =>
        rw [show (Nat.ble (o + ti.size) x.length && Nat.ble (o + ti.size) y.length) = false from by rw [Bool.eq_false_iff]; simpa using hb0] at h
        simp at h
      rw [show (Nat.ble (o + ti.size) x.length && Nat.ble (o + ti.size) y.length) = true from by simpa using hb0] at h
      simp only [cond_true] at h
      have hb1 : o + ti.size ≤ vs.length ∧ o + ti.size ≤ us.length := by rw [hx.length, hy.length]; exact hb0
      cases hq : eq t ((x.drop o).take ti.size) ((y.drop o).take ti.size) with
      | none => simp [hq] at h
      | some c =>
        obtain ⟨ti', hti', hlen, hrun⟩ := ih t _ _ c _ _ hq ((hx.drop o).take ti.size) ((hy.drop o).take ti.size)
        rw [hti] at hti'; cases hti'
        have h1 : ti.k.row = false → 0 < ti.size := fun hr => by
          have := (hlen hr).1
          simp at this; omega
        have e1 := run_part (w := w) (hC.ty t ti hti) hb1.1 h1
        have e2 := run_part (w := w) (hC.ty t ti hti) hb1.2 h1
        have hn' : g.name ≠ "_" := by simpa using hn
        subst ht; subst ho
        simp only [Op.eqFields, hn', ne_eq, not_false_eq_true, if_true, Sem.run_bind, e1, Result.andThen_ok, e2, hrun]
        cases c with
        | true =>
          simp only [hq] at h
          simpa using eqF_ok hC hx hy ih fs gs b hf h
        | false =>
          simp only [hq, Option.some.injEq] at h
          subst h
          simp
  | [], _ :: _, _, hf, _ => by simp [fieldsOK] at hf
  | _ :: _, [], _, hf, _ => by simp [fieldsOK] at hf
theorem eqP_ok (hC : CfgOK P C) : ∀ (d t : Nat) (x y : List PV) (b : Bool) (vs us : List Value), eqP C.ty d t x y = some b → PRL w Y x vs → PRL w Y y us →
    ∃ ti, C.ty t = some ti ∧ (ti.k.row = false → vs.length = 1 ∧ us.length = 1) ∧ ∀ k, d ≤ k → (Op.equalIn k t (vAt ti.k.row vs) (vAt ti.k.row us)).run P w = .ok b w
  | 0, t, x, y, b, vs, us, h, _, _ => by simp [eqP] at h
  | d + 1, t, x, y, b, vs, us, h, hx, hy => by
    simp only [eqP] at h
    cases hti : C.ty t with
    | none => simp [hti] at h
    | some ti =>
      simp only [hti] at h
      have hT := hC.ty t ti hti
      refine ⟨ti, rfl, ?_⟩
      split at h
      · rename_i k a k' b' hk
        cases hkk : kindEq k k' with
        | false => simp [hkk] at h
        | true =>
          simp [hkk] at h; subst h
          cases kindEq_eq hkk
          obtain ⟨v, rfl, _, hv⟩ := prl_one hx
          obtain ⟨u, rfl, _, hu⟩ := prl_one hy
          simp only [PR] at hv hu; subst hv; subst hu
          refine ⟨fun _ => ⟨rfl, rfl⟩, fun m hm => ?_⟩
          obtain ⟨m, rfl⟩ : ∃ m', m = m' + 1 := ⟨m - 1, by omega⟩
          rw [show ti.k.row = false from by rw [hk]; rfl]
          simp only [vAt, Bool.false_eq_true, if_false, List.headD_cons]
          simp [Op.equalIn, run_underlying (und_int hT hk)]
          rfl
      · rename_i a b' hk
        simp at h; subst h
        obtain ⟨v, rfl, _, hv⟩ := prl_one hx
        obtain ⟨u, rfl, _, hu⟩ := prl_one hy
        simp only [PR] at hv hu; subst hv; subst hu
        refine ⟨fun _ => ⟨rfl, rfl⟩, fun m hm => ?_⟩
        obtain ⟨m, rfl⟩ : ∃ m', m = m' + 1 := ⟨m - 1, by omega⟩
        rw [show ti.k.row = false from by rw [hk]; rfl]
        simp only [vAt, Bool.false_eq_true, if_false, List.headD_cons]
        simp [Op.equalIn, run_underlying (und_bool hT hk)]
      · rename_i a b' hk
        simp only [Option.some.injEq] at h; subst h
        obtain ⟨v, rfl, _, hv⟩ := prl_one hx
        obtain ⟨u, rfl, _, hu⟩ := prl_one hy
        simp only [PR] at hv hu; subst hv; subst hu
        refine ⟨fun _ => ⟨rfl, rfl⟩, fun m hm => ?_⟩
        obtain ⟨m, rfl⟩ : ∃ m', m = m' + 1 := ⟨m - 1, by omega⟩
        rw [show ti.k.row = false from by rw [hk]; rfl]
        simp only [vAt, Bool.false_eq_true, if_false, List.headD_cons]
        simp only [Op.equalIn, Sem.run_bind, run_underlying (und_str hT hk), Result.andThen_ok, Sem.run_pure]
        rw [beq_toListBytes, beq_bytes]
      · rename_i fs hk
        obtain ⟨gs, hu, hf⟩ := und_struct hT hk
        refine ⟨(fun hr => by rw [hk] at hr; cases hr), fun m hm => ?_⟩
        obtain ⟨m, rfl⟩ : ∃ m', m = m' + 1 := ⟨m - 1, by omega⟩
        rw [show ti.k.row = true from by rw [hk]; rfl]
        simp only [vAt, if_true]
        have hF : P.fieldsOf t = gs := by simp [Program.fieldsOf, hu]
        rw [run_equalIn_struct w m t vs.toArray us.toArray (by rw [hF]; exact hu) (tyOK_held hT hu), hF]
        exact eqF_ok hC hx hy (fun t x y b vs us he hx hy => by
          obtain ⟨ti, h1, h2, h3⟩ := eqP_ok hC d t x y b vs us he hx hy
          exact ⟨ti, h1, h2, h3 m (by omega)⟩) fs gs.toList b hf h
      · cases h
theorem pr_cells {p : PV} {v : Value} (ho : oneP p = true) (h : PR w Y p v) : PRL w Y [p] [v] := by
  simp only [PRL]; exact ⟨v, [], rfl, ho, h, rfl⟩
theorem eqV_ok (hC : CfgOK P C) {t : Nat} {p q : PV} {b : Bool} {v u : Value} (h : eqV C.ty t p q = some b) (hp : PR w Y p v) (hq : PR w Y q u) :
    (Op.equalIn 10000 t v u).run P w = .ok b w ∧ ((∃ xs ys, v = .agg xs ∧ u = .agg ys ∧ P.eqGuardType P.depth t = false) ∨ (oneP p = true ∧ oneP q = true)) := by
  unfold eqV at h
  cases hti : C.ty t with
  | none => simp [hti] at h
  | some ti =>
    simp only [hti] at h
    cases hr : ti.k.row with
    | true =>
      simp only [hr, cond_true] at h
      split at h
      · rename_i x y
        simp only [PR] at hp hq
        obtain ⟨vs, rfl, hvs⟩ := hp
        obtain ⟨us, rfl, hus⟩ := hq
        obtain ⟨ti', h1, _, h3⟩ := eqP_ok hC 20 t x y b vs us h hvs hus
        rw [hti] at h1; cases h1
        have h4 := h3 10000 (by omega)
        rw [hr] at h4
        simp only [vAt, if_true] at h4
        refine ⟨h4, .inl ⟨_, _, rfl, rfl, ?_⟩⟩
        cases hk : ti.k <;> rw [hk] at hr <;> simp [TK.row] at hr
        · simp [eqP, hti, hk] at h
        · obtain ⟨gs, hu, _⟩ := und_struct (hC.ty t ti hti) hk
          exact tyOK_guard (hC.ty t ti hti) hu
      · cases h
    | false =>
      simp only [hr, cond_false] at h
      cases ho : oneP p && oneP q with
      | false => simp [ho] at h
      | true =>
        simp only [ho, cond_true] at h
        rw [Bool.and_eq_true] at ho
        obtain ⟨ti', h1, _, h3⟩ := eqP_ok hC 20 t _ _ b _ _ h (pr_cells ho.1 hp) (pr_cells ho.2 hq)
        rw [hti] at h1; cases h1
        have h4 := h3 10000 (by omega)
        rw [hr] at h4
        simp only [vAt, Bool.false_eq_true, if_false, List.headD_cons] at h4
        exact ⟨h4, .inr ho⟩
theorem x_eql_of {t t' : TypeId} {x y : Operand} {v u : Value} {b : Bool} (hx : ρ x = v) (hy : ρ y = u) (h : (Op.equalIn 10000 t v u).run P w = .ok b w) (hg : (eqGuard .eql t x y v u).run P w = .ok () w)
    (hb : binOp .eql t v u = (do pure (.bool (← Op.equal t v u)))) : (execOp ρ ⟨d, .binOp .eql t x y t', ty, pos, af, g⟩).run P w = .ok (.value (.bool b)) w := by
  subst hx; subst hy
  simp only [execOp, Sem.run_bind, hg, Result.andThen_ok, hb, Op.equal, Op.maxDepth, h, Sem.run_pure]
theorem x_neq_of {t t' : TypeId} {x y : Operand} {v u : Value} {b : Bool} (hx : ρ x = v) (hy : ρ y = u) (h : (Op.equalIn 10000 t v u).run P w = .ok b w) (hg : (eqGuard .neq t x y v u).run P w = .ok () w)
    (hb : binOp .neq t v u = (do pure (.bool (!(← Op.equal t v u))))) : (execOp ρ ⟨d, .binOp .neq t x y t', ty, pos, af, g⟩).run P w = .ok (.value (.bool (!b))) w := by
  subst hx; subst hy
  simp only [execOp, Sem.run_bind, hg, Result.andThen_ok, hb, Op.equal, Op.maxDepth, h, Sem.run_pure]
/-- Two values that the model holds against each other by their type. -/
def EqB (P : Program) (w : World) (t : Nat) (v u : Value) (b : Bool) : Prop :=
  (Op.equalIn 10000 t v u).run P w = .ok b w ∧ (∀ x y, (eqGuard .eql t x y v u).run P w = .ok () w ∧ (eqGuard .neq t x y v u).run P w = .ok () w) ∧
  binOp .eql t v u = (do pure (.bool (← Op.equal t v u))) ∧ binOp .neq t v u = (do pure (.bool (!(← Op.equal t v u))))
theorem run_isEq {t : Nat} {u : TypeDesc} (hu : P.underlying t = some u) : (underlying t).run P w = .ok u w := run_underlying hu w
theorem eqI_sl {t e n : Nat} {A : Option Addr} {a c b e' : Nat} (ht : P.underlying t = some (.slice e)) : (Op.equalIn (n + 1) t (.slice A a c) (.slice none b e')).run P w = .ok A.isNone w := by
  cases A <;> simp [Op.equalIn, run_underlying ht]
theorem eqI_fn0 {t n : Nat} {u : TypeDesc} (hu : P.underlying t = some u) (hk : kindOK .func u = true) : (Op.equalIn (n + 1) t .nilFunc .nilFunc).run P w = .ok true w := by
  cases u <;> simp [kindOK] at hk
  simp [Op.equalIn, run_underlying hu]
theorem eqI_fn1 {t n : Nat} {u : TypeDesc} {f : Fn} {a b : Array Value} (hu : P.underlying t = some u) (hk : kindOK .func u = true) : (Op.equalIn (n + 1) t (.func f a b) .nilFunc).run P w = .ok false w := by
  cases u <;> simp [kindOK] at hk
  simp [Op.equalIn, run_underlying hu]
theorem eqI_map {t k e n : Nat} {m : Option Nat} (ht : P.underlying t = some (.map k e)) : (Op.equalIn (n + 1) t (.map m) (.map none)).run P w = .ok m.isNone w := by
  cases m <;> simp [Op.equalIn, run_underlying ht]
theorem evEq_ok (hC : CfgOK P C) (hH : HR X φ H w) {t : Nat} {x y : AV} {b : Bool} {v u : Value} (h : evEq C H t x y = some b) (hx : VR w (YOf X φ) φ x v) (hy : VR w (YOf X φ) φ y u)
    (hni : ∀ k a k' c, ¬ (x = .pl (.int k a) ∧ y = .pl (.int k' c))) (hns : ∀ a c, ¬ (x = .pl (.str a) ∧ y = .pl (.str c))) : EqB P w t v u b := by
  unfold evEq at h
  cases hti : C.ty t with
  | none => simp [hti] at h
  | some ti =>
    simp only [hti] at h
    have hT := hC.ty t ti hti
    split at h
    · rename_i e hk
      simp at h; subst h
      simp only [VR, PR, flOk] at hx hy
      obtain ⟨A, c, rfl, _, _, ⟨rfl, rfl⟩, _⟩ := hx
      obtain ⟨A, c, rfl, _, _, ⟨rfl, rfl⟩, _⟩ := hy
      exact ⟨eqI_sl (n := 9999) (und_sl hT hk), fun x y => ⟨by simp [eqGuard], by simp [eqGuard]⟩, rfl, rfl⟩
    · rename_i e f sz e0 es0 sz' es' hn hk
      simp at h; subst h
      simp only [VR, PR, flOk] at hx hy
      obtain ⟨A, c, rfl, _, _, _, hA⟩ := hx
      obtain ⟨A', c', rfl, _, _, ⟨rfl, rfl⟩, _⟩ := hy
      rcases hA with hA | ⟨b, o, rfl, _⟩
      · simp at hA
      · exact ⟨eqI_sl (n := 9999) (und_sl hT hk), fun x y => ⟨by simp [eqGuard], by simp [eqGuard]⟩, rfl, rfl⟩
    · rename_i e o sz' es' hk
      split at h
      · rename_i fz sz e0 es0 ho
        simp at h; subst h
        obtain ⟨z, l, hl, hO⟩ := hH.ob _ _ ho
        simp only [VR, PR, flOk] at hx hy
        obtain ⟨A', c', rfl, _, _, ⟨rfl, rfl⟩, _⟩ := hy
        have := hx.2.2 _ l hl; subst this
        simp only [OR] at hO
        obtain ⟨_, h1, _, h2, _, h3⟩ := hO
        rcases h3 with ⟨_, h4⟩ | ⟨b, p, _, _, h4, _⟩
        · simp at h1; omega
        · exact ⟨by have := eqI_sl (P := P) (w := w) (n := 9999) (A := l.addr 0) (a := l.n) (c := l.c) (b := es'.length) (e' := 0) (und_sl hT hk); simpa [Loc.addr, h4] using this, fun x y => ⟨by simp [eqGuard], by simp [eqGuard]⟩, rfl, rfl⟩
      · cases h
    · rename_i e o off len sz' es' hk
      split at h
      · rename_i fz sz es ho
        simp at h; subst h
        obtain ⟨z, l, hl, hO⟩ := hH.ob _ _ ho
        simp only [VR, PR, flOk] at hx hy
        obtain ⟨A', c', rfl, _, _, ⟨rfl, rfl⟩, _⟩ := hy
        obtain ⟨A, c, rfl, h5, h6, h7⟩ := hx.2.2 _ l hl
        simp only [OR] at hO
        obtain ⟨_, _, _, h2, _, _⟩ := hO
        obtain ⟨_, h8⟩ := h7 (by omega)
        cases A with
        | none => exact absurd rfl h8
        | some a => exact ⟨eqI_sl (n := 9999) (und_sl hT hk), fun x y => ⟨by simp [eqGuard], by simp [eqGuard]⟩, rfl, rfl⟩
      · cases h
    · rename_i hk
      simp at h; subst h
      simp only [VR, PR] at hx hy; subst hx; subst hy
      obtain ⟨u, hu, hq⟩ := tyOK_und hT
      rw [hk] at hq
      exact ⟨eqI_fn0 (n := 9999) hu hq, fun x y => ⟨by simp [eqGuard], by simp [eqGuard]⟩, rfl, rfl⟩
    · rename_i hk
      simp at h; subst h
      simp only [VR, PR] at hx hy; subst hx; subst hy
      obtain ⟨u, hu, hq⟩ := tyOK_und hT
      rw [hk] at hq
      exact ⟨eqI_fn1 (n := 9999) hu hq, fun x y => ⟨by simp [eqGuard], by simp [eqGuard]⟩, rfl, rfl⟩
    · rename_i hk
      simp at h; subst h
      simp only [VR, PR] at hx hy; subst hy
      obtain ⟨vs, rfl, _⟩ := hx
      obtain ⟨u, hu, hq⟩ := tyOK_und hT
      rw [hk] at hq
      exact ⟨eqI_fn1 (n := 9999) hu hq, fun x y => ⟨by simp [eqGuard], by simp [eqGuard]⟩, rfl, rfl⟩
    · rename_i k e hk
      simp at h; subst h
      simp only [VR, PR] at hx hy; subst hx; subst hy
      exact ⟨eqI_map (n := 9999) (und_map hT hk), fun x y => ⟨by simp [eqGuard], by simp [eqGuard]⟩, rfl, rfl⟩
    · rename_i k e o hk
      split at h
      · rename_i kvs ho
        simp at h; subst h
        obtain ⟨z, l, hl, hO⟩ := hH.ob _ _ ho
        simp only [VR, PR] at hx hy; subst hy
        obtain ⟨b, _, rfl⟩ := hx.2.2 _ l hl
        exact ⟨eqI_map (n := 9999) (und_map hT hk), fun x y => ⟨by simp [eqGuard], by simp [eqGuard]⟩, rfl, rfl⟩
      · cases h
    · rename_i p q _ _ _ _ _
      simp only [VR] at hx hy
      obtain ⟨h1, h2⟩ := eqV_ok hC h hx hy
      rcases h2 with ⟨xs, ys, rfl, rfl, hg⟩ | ⟨hp, hq⟩
      · exact ⟨h1, fun x y => ⟨run_eqGuard_agg w .eql t x y xs ys hg, run_eqGuard_agg w .neq t x y xs ys hg⟩, rfl, rfl⟩
      · unfold eqV at h
        simp only [hti, hp, hq, Bool.and_self, cond_true] at h
        cases hr : ti.k.row with
        | true => simp only [hr, cond_true] at h; cases p <;> cases q <;> simp_all [oneP]
        | false =>
          simp only [hr, cond_false, eqP, hti] at h
          split at h
          · rename_i heq1 heq2; simp only [List.cons.injEq, and_true] at heq1 heq2; exact absurd ⟨by rw [heq1], by rw [heq2]⟩ (hni _ _ _ _)
          · rename_i a c hk heq1 heq2
            simp only [List.cons.injEq, and_true] at heq1 heq2; subst heq1; subst heq2
            simp only [PR] at hx hy; subst hx; subst hy
            exact ⟨h1, fun x y => ⟨by simp [eqGuard], by simp [eqGuard]⟩, rfl, rfl⟩
          · rename_i heq1 heq2; simp only [List.cons.injEq, and_true] at heq1 heq2; exact absurd ⟨by rw [heq1], by rw [heq2]⟩ (hns _ _)
          · rename_i hk; rw [hk] at hr; cases hr
          · cases h
    · cases h
theorem evBin_ok (hC : CfgOK P C) (hH : HR X φ H w) {op : BinOp} {t t' : Nat} {x y : Operand} {a c r : AV} (h : evBin C H op t a c = some r) (hx : VR w (YOf X φ) φ a (ρ x)) (hy : VR w (YOf X φ) φ c (ρ y)) :
    ∃ v, (execOp ρ ⟨d, .binOp op t x y t', ty, pos, af, g⟩).run P w = .ok (.value v) w ∧ VR w (YOf X φ) φ r v := by
  unfold evBin at h
  split at h
  · simp only [VR, PR] at hx hy
    simp only [Option.map_eq_some_iff] at h
    obtain ⟨p, hp, rfl⟩ := h
    obtain ⟨v, h1, h2⟩ := x_shI (Y := YOf X φ) (.inl rfl) hp hx hy
    exact ⟨v, h1, by simpa only [VR] using h2⟩
  · simp only [VR, PR] at hx hy
    simp only [Option.map_eq_some_iff] at h
    obtain ⟨p, hp, rfl⟩ := h
    obtain ⟨v, h1, h2⟩ := x_shI (Y := YOf X φ) (.inr rfl) hp hx hy
    exact ⟨v, h1, by simpa only [VR] using h2⟩
  · rename_i k a k' b _ _
    cases hkk : kindEq k k' with
    | false => simp [hkk] at h
    | true =>
      cases kindEq_eq hkk
      simp only [hkk, cond_true, Option.map_eq_some_iff] at h
      obtain ⟨p, hp, rfl⟩ := h
      simp only [VR, PR] at hx hy
      obtain ⟨v, h1, h2⟩ := x_binI (Y := YOf X φ) hp hx hy
      exact ⟨v, h1, by simpa only [VR] using h2⟩
  · simp only [VR, PR] at hx hy
    simp only [Option.map_eq_some_iff] at h
    obtain ⟨p, hp, rfl⟩ := h
    obtain ⟨v, h1, h2⟩ := x_binS (Y := YOf X φ) hp hx hy
    exact ⟨v, h1, by simpa only [VR] using h2⟩
  · simp only [Option.map_eq_some_iff] at h
    obtain ⟨b, hb, rfl⟩ := h
    rename_i hni hns
    obtain ⟨h1, h2, h3, _⟩ := evEq_ok hC hH hb hx hy (fun k a k' c hc => hni _ _ _ _ hc.1 hc.2) (fun a c hc => hns _ _ hc.1 hc.2)
    exact ⟨.bool b, x_eql_of rfl rfl h1 (h2 x y).1 h3, by simp only [VR, PR]⟩
  · simp only [Option.map_eq_some_iff] at h
    obtain ⟨b, hb, rfl⟩ := h
    rename_i hni hns
    obtain ⟨h1, h2, _, h3⟩ := evEq_ok hC hH hb hx hy (fun k a k' c hc => hni _ _ _ _ hc.1 hc.2) (fun a c hc => hns _ _ hc.1 hc.2)
    exact ⟨.bool (!b), x_neq_of rfl rfl h1 (h2 x y).2 h3, by simp only [VR, PR]⟩
  · cases h
end
end Go.Proofs.Ytelblamgfbkhbaa
