/- A step given to a law: its cells, read. No condition. -/
import Derived.Test.YtkimdlpfbojkgaaQ
namespace Go.Proofs.Ytkimdlpfbojkgaa
open Go.RowKit Go.ChangeShapes Go.WideShapes Go.Deep
section
variable {H : Type} {enc : TypeId × Value → H} {w : World} {base : Nat} {spare : Nat → Bool} {held : Bool}
/-- A step, as its eight cells. -/
structure Step where
  kd : Int
  nb : Int
  y : ByteArray
  b : ByteArray
  s : ByteArray
  p : ByteArray
  q : Int
  r : Int
def Step.cells (t : Step) : List Value := [.int .u8 t.kd, .int .i64 t.nb, .string t.y, .string t.b, .string t.s, .string t.p, .int .i64 t.q, .int .i64 t.r]
theorem Step.len (t : Step) : t.cells.length = 8 := rfl
theorem Step.one (t : Step) : OneL t.cells := ⟨rfl, rfl, rfl, rfl, rfl, rfl, rfl, rfl, trivial⟩
theorem step_mk (fs : Array Field) (hfs : Try.prog.underlying 40 = some (.struct fs)) (vs : List Value) (hl : vs.length = 8) (hr : Reads1 enc Try.prog w base spare held fs vs) : ∃ x, Step.cells x = vs := by
  rw [Try.underlying40] at hfs
  cases hfs
  match vs, hl with
  | [a0, a1, a2, a3, a4, a5, a6, a7], _ =>
    obtain ⟨_, _, h0⟩ := hr 0 _ _ rfl rfl
    obtain ⟨_, _, h1⟩ := hr 1 _ _ rfl rfl
    obtain ⟨_, _, h2⟩ := hr 2 _ _ rfl rfl
    obtain ⟨_, _, h3⟩ := hr 3 _ _ rfl rfl
    obtain ⟨_, _, h4⟩ := hr 4 _ _ rfl rfl
    obtain ⟨_, _, h5⟩ := hr 5 _ _ rfl rfl
    obtain ⟨_, _, h6⟩ := hr 6 _ _ rfl rfl
    obtain ⟨_, _, h7⟩ := hr 7 _ _ rfl rfl
    obtain ⟨kd, e0, _, _⟩ := DataW.trod_int Try.underlying5 h0
    obtain ⟨nb, e1, _, _⟩ := DataW.trod_int Try.underlying3 h1
    obtain ⟨y, e2, _, _⟩ := DataW.trod_string Try.underlying9 h2
    obtain ⟨b, e3, _, _⟩ := DataW.trod_string Try.underlying9 h3
    obtain ⟨s, e4, _, _⟩ := DataW.trod_string Try.underlying9 h4
    obtain ⟨p, e5, _, _⟩ := DataW.trod_string Try.underlying9 h5
    obtain ⟨q, e6, _, _⟩ := DataW.trod_int Try.underlying3 h6
    obtain ⟨r, e7, _, _⟩ := DataW.trod_int Try.underlying3 h7
    simp only [List.cons.injEq, and_true] at e0 e1 e2 e3 e4 e5 e6 e7
    subst e0; subst e1; subst e2; subst e3; subst e4; subst e5; subst e6; subst e7
    exact ⟨⟨kd, nb, y, b, s, p, q, r⟩, rfl⟩
theorem one40 (fs : Array Field) (hfs : Try.prog.underlying 40 = some (.struct fs)) : oneCellFields Try.prog fs = true ∧ fs.size = 8 := by
  rw [Try.underlying40] at hfs
  cases hfs
  exact ⟨by kernel_rfl, rfl⟩
theorem open_step {r : Reach} {b0 : Nat} {v : Value} {d : DataW H} {ps : List MemPlace} (hval : Value.okWide Try.prog w r b0 40 v) (hd : DataW.Trod enc Try.prog w base spare held 40 v d ps) :
    ∃ x : Step, v = .agg #[.int .u8 x.kd, .int .i64 x.nb, .string x.y, .string x.b, .string x.s, .string x.p, .int .i64 x.q, .int .i64 x.r] := by
  obtain ⟨cs, rfl, hsz⟩ := okWide_struct Try.underlying40 hval
  obtain ⟨m, hm⟩ := hd
  obtain ⟨fs, hfs⟩ : ∃ fs, Try.prog.underlying 40 = some (.struct fs) := ⟨_, Try.underlying40⟩
  have hc : Try.prog.cellsOf 40 = 8 := by kernel_rfl
  have hl : cs.toList.length = 8 := by rw [Array.length_toList, hsz, hc]
  have hr : Reads1 enc Try.prog w base spare held fs cs.toList := reads_struct hfs (one40 fs hfs).1 (hl.trans (one40 fs hfs).2.symm) hm
  obtain ⟨x, hx⟩ := step_mk fs hfs cs.toList hl hr
  refine ⟨x, ?_⟩
  congr 1
  apply Array.toList_inj.1
  rw [← hx]; rfl
end
end Go.Proofs.Ytkimdlpfbojkgaa
