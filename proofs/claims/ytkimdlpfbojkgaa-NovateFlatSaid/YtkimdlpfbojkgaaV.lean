/- What the contracts speak of: trades, legs, and what the calls make of them, in plain words. No condition. -/
import Derived.Test.YtkimdlpfbojkgaaR
namespace Go.Proofs.Ytkimdlpfbojkgaa
open Go.RowKit

def letB (c : Int) : Bool := decide (97 ≤ c ∧ c ≤ 122) || decide (65 ≤ c ∧ c ≤ 90)
def okB (c : Int) : Bool := letB c || decide (48 ≤ c ∧ c ≤ 57) || decide (c = 95) || decide (c = 45)
def nameB (l : List UInt8) : Bool := decide (1 ≤ l.length) && decide (l.length ≤ 40) && letB ((l.getD 0 0).toNat : Int) && l.all fun c => okB (c.toNat : Int)
def partyB (l : List UInt8) : Bool := (!decide (l = (⟨#[104, 111, 117, 115, 101]⟩ : ByteArray).data.toList)) && nameB l

/-- A trade of a book, as its eight cells. -/
structure Trade where
  b : ByteArray
  s : ByteArray
  p : ByteArray
  q : Int
  r : Int
  bo : Bool
  so : Bool
  st : Int
def Trade.cells (t : Trade) : List Value := [.string t.b, .string t.s, .string t.p, .int .i64 t.q, .int .i64 t.r, .bool t.bo, .bool t.so, .int .u8 t.st]
theorem Trade.len (t : Trade) : t.cells.length = 8 := rfl
theorem Trade.one (t : Trade) : OneL t.cells := ⟨rfl, rfl, rfl, rfl, rfl, rfl, rfl, rfl, trivial⟩
/-- A leg, as its six cells. -/
structure Leg where
  n : Int
  b : ByteArray
  s : ByteArray
  p : ByteArray
  q : Int
  r : Int
def Leg.cells (t : Leg) : List Value := [.int .i64 t.n, .string t.b, .string t.s, .string t.p, .int .i64 t.q, .int .i64 t.r]
theorem Leg.len (t : Leg) : t.cells.length = 6 := rfl
theorem Leg.one (t : Leg) : OneL t.cells := ⟨rfl, rfl, rfl, rfl, rfl, rfl, trivial⟩

def termsB (t : Trade) : Bool :=
  ((((((((partyB t.b.data.toList) && (partyB t.s.data.toList)) && (!(decide (t.b.data.toList = t.s.data.toList)))) && (nameB t.p.data.toList)) && (decide ((1 : Int) ≤ t.q))) && (decide (t.q ≤ 1048576))) && (decide ((-536870912 : Int) ≤ t.r))) && (decide (t.r ≤ 536870912)))
def rightB (t : Trade) : Bool := termsB t && (if t.bo && t.so then decide (t.st = 1) || decide (t.st = 3) else decide (t.st = 0) || decide (t.st = 2))
def checkB (l : List Trade) : Bool := decide (l.length ≤ 200) && l.all rightB
def chk (l : List Trade) : Int := if checkB l then 0 else 8
end Go.Proofs.Ytkimdlpfbojkgaa
