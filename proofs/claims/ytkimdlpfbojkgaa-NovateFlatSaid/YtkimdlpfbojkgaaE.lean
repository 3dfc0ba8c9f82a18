/- Equality of trades and of legs, as the program compares them. -/
import Derived.Test.YtkimdlpfbojkgaaF
import Derived.Test.YtkimdlpfbojkgaaV
namespace Go.Proofs.Ytkimdlpfbojkgaa
open Go.RowKit
theorem stood_34 : Try.prog.stoodInHeld 34 = false := by kernel_rfl
theorem stood_32 : Try.prog.stoodInHeld 32 = false := by kernel_rfl
theorem guard_34 : Try.prog.eqGuardType Try.prog.depth 34 = false := by kernel_rfl
theorem guard_32 : Try.prog.eqGuardType Try.prog.depth 32 = false := by kernel_rfl
def eqS (a b : ByteArray) : Bool := decide (a.data.toList = b.data.toList)
def tradeEq (x y : Trade) : Bool := eqS x.b y.b && (eqS x.s y.s && (eqS x.p y.p && (x.q == y.q && (x.r == y.r && (x.bo == y.bo && (x.so == y.so && x.st == y.st))))))
def legEq (x y : Leg) : Bool := x.n == y.n && (eqS x.b y.b && (eqS x.s y.s && (eqS x.p y.p && (x.q == y.q && x.r == y.r))))
theorem eqf_trade (x y : Trade) (w : World) : (Op.eqFields 9999 x.cells.toArray y.cells.toArray (Try.prog.fieldsOf 34).toList).run Try.prog w = .ok (tradeEq x y) w := by
  simp [go_sem, Try.underlying34, Try.underlying9, Try.underlying3, Try.underlying4, Try.underlying5, Trade.cells]
  unfold tradeEq eqS
  simp only [ByteArray.toList_eq]
  repeat' split
  all_goals simp_all
theorem eqf_leg (x y : Leg) (w : World) : (Op.eqFields 9999 x.cells.toArray y.cells.toArray (Try.prog.fieldsOf 32).toList).run Try.prog w = .ok (legEq x y) w := by
  simp [go_sem, Try.underlying32, Try.underlying9, Try.underlying3, Leg.cells]
  unfold legEq eqS
  simp only [ByteArray.toList_eq]
  repeat' split
  all_goals simp_all
theorem flds_34 : Try.prog.underlying 34 = some (.struct (Try.prog.fieldsOf 34)) := by kernel_rfl
theorem flds_32 : Try.prog.underlying 32 = some (.struct (Try.prog.fieldsOf 32)) := by kernel_rfl
section
variable {ρ : Operand → Value} {w : World} {d : Option Tmp} {ty t' : TypeId} {pos : String} {af : Array Edge} {g : Option (Nat × Bool)} {a b : Operand}
theorem x_net {x y : Trade} (hx : ρ a = .agg x.cells.toArray) (hy : ρ b = .agg y.cells.toArray) : (execOp ρ ⟨d, .binOp .neq 34 a b t', ty, pos, af, g⟩).run Try.prog w = .ok (.value (.bool (!tradeEq x y))) w := by
  simp only [execOp, hx, hy, Sem.run_bind, run_eqGuard_agg w .neq 34 a b _ _ guard_34, Result.andThen_ok, run_neq_struct, run_equalIn_agg w 9999 34 _ _ flds_34 stood_34, eqf_trade]
  rfl
theorem x_nel {x y : Leg} (hx : ρ a = .agg x.cells.toArray) (hy : ρ b = .agg y.cells.toArray) : (execOp ρ ⟨d, .binOp .neq 32 a b t', ty, pos, af, g⟩).run Try.prog w = .ok (.value (.bool (!legEq x y))) w := by
  simp only [execOp, hx, hy, Sem.run_bind, run_eqGuard_agg w .neq 32 a b _ _ guard_32, Result.andThen_ok, run_neq_struct, run_equalIn_agg w 9999 32 _ _ flds_32 stood_32, eqf_leg]
  rfl
end
theorem eqS_iff {a b : ByteArray} : eqS a b = true ↔ a = b := by
  unfold eqS
  rw [decide_eq_true_iff]
  constructor
  · intro h
    cases a; cases b
    congr 1
    exact Array.ext' h
  · rintro rfl; rfl
theorem tradeEq_iff {x y : Trade} : tradeEq x y = true ↔ x = y := by
  cases x; cases y
  simp [tradeEq, eqS_iff]
theorem legEq_iff {x y : Leg} : legEq x y = true ↔ x = y := by
  cases x; cases y
  simp [legEq, eqS_iff]
end Go.Proofs.Ytkimdlpfbojkgaa
