/- A book given to a law: its trades, read. No condition. -/
import Derived.Test.YtkimdlpfbojkgaaO
import Derived.Test.YtkimdlpfbojkgaaV
import Derived.Test.YtkimdlpfbojkgaaF
import Derived.ProofKit
import Derived.ChangeSame
import Derived.ChangeMaps5
namespace Go.Proofs.Ytkimdlpfbojkgaa
open Go.RowKit Go.ChangeShapes Go.WideShapes Go.Deep
section
variable {H : Type} {enc : TypeId × Value → H} {w : World} {base : Nat} {spare : Nat → Bool} {held : Bool}
theorem trade_mk (fs : Array Field) (hfs : Try.prog.underlying 34 = some (.struct fs)) (vs : List Value) (hl : vs.length = 8) (hr : Reads1 enc Try.prog w base spare held fs vs) : ∃ x, Trade.cells x = vs := by
  rw [Try.underlying34] at hfs
  cases hfs
  match vs, hl with
  | [a0, a1, a2, a3, a4, a5, a6, a7], _ =>
    obtain ⟨_, _, h0⟩ := hr 0 _ _ rfl rfl
    obtain ⟨_, _, h1⟩ := hr 1 _ _ rfl rfl
    obtain ⟨_, _, h2⟩ := hr 2 _ _ rfl rfl
    obtain ⟨_, _, h3⟩ := hr 3 _ _ rfl rfl
    obtain ⟨_, _, h4⟩ := hr 4 _ _ rfl rfl
    obtain ⟨_, _, h5⟩ := hr 5 _ _ rfl rfl
    obtain ⟨_, _, h6⟩ := hr 6 _ _ rfl rfl
    obtain ⟨_, _, h7⟩ := hr 7 _ _ rfl rfl
    obtain ⟨b, e0, _, _⟩ := DataW.trod_string Try.underlying9 h0
    obtain ⟨s, e1, _, _⟩ := DataW.trod_string Try.underlying9 h1
    obtain ⟨p, e2, _, _⟩ := DataW.trod_string Try.underlying9 h2
    obtain ⟨q, e3, _, _⟩ := DataW.trod_int Try.underlying3 h3
    obtain ⟨r, e4, _, _⟩ := DataW.trod_int Try.underlying3 h4
    obtain ⟨bo, e5, _⟩ := DataW.trod_bool Try.underlying4 h5
    obtain ⟨so, e6, _⟩ := DataW.trod_bool Try.underlying4 h6
    obtain ⟨st, e7, _, _⟩ := DataW.trod_int Try.underlying5 h7
    simp only [List.cons.injEq, and_true] at e0 e1 e2 e3 e4 e5 e6 e7
    subst e0; subst e1; subst e2; subst e3; subst e4; subst e5; subst e6; subst e7
    exact ⟨⟨b, s, p, q, r, bo, so, st⟩, rfl⟩
theorem one34 (fs : Array Field) (hfs : Try.prog.underlying 34 = some (.struct fs)) : oneCellFields Try.prog fs = true ∧ fs.size = 8 := by
  rw [Try.underlying34] at hfs
  cases hfs
  exact ⟨by kernel_rfl, rfl⟩
theorem open_book {r : Reach} {b0 : Nat} {v : Value} {d : DataW H} {ps : List MemPlace} (hval : Value.okWide Try.prog w r b0 24 v) (hd : DataW.Trod enc Try.prog w base spare held 24 v d ps) :
    ∃ A c, ∃ l : List Trade, v = .agg #[.slice A l.length c] ∧ SlB 0 w.heap.size w A c 8 Trade.cells l := by
  obtain ⟨cs, rfl, hsz⟩ := okWide_struct Try.underlying24 hval
  obtain ⟨m, hm⟩ := hd
  obtain ⟨y0, n, hx, hl, h0⟩ := trod_struct1 Try.underlying24 hm
  have hc24 : Try.prog.cellsOf 24 = 1 := by kernel_rfl
  have hc22 : Try.prog.cellsOf 22 = 1 := by kernel_rfl
  change DataW.trod enc Try.prog w base spare held n 22 ((cs.toList.drop 0).take (Try.prog.cellsOf 22)) = _ at h0
  rw [hc22, List.drop_zero, List.take_of_length_le (by rw [Array.length_toList, hsz, hc24]; exact Nat.le_refl _)] at h0
  obtain ⟨fs, hfs⟩ : ∃ fs, Try.prog.underlying 34 = some (.struct fs) := ⟨_, Try.underlying34⟩
  obtain ⟨A, c, l, hcs, hs⟩ := open_rows (sz := 8) (E := Trade.cells) Try.underlying22 hfs (one34 fs hfs).1 (by kernel_rfl) (one34 fs hfs).2 (by decide) Trade.len (fun vs hv hr => trade_mk fs hfs vs hv hr) h0
  refine ⟨A, c, l, ?_, hs⟩
  congr 1
  cases cs; simp_all
end
end Go.Proofs.Ytkimdlpfbojkgaa
