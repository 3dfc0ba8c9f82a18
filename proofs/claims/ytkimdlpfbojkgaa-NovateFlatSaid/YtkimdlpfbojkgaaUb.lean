/- A run of steps given to a law, read; and what of the memory is kept. No condition. -/
import Derived.Test.YtkimdlpfbojkgaaU
namespace Go.Proofs.Ytkimdlpfbojkgaa
open Go.RowKit Go.ChangeShapes Go.WideShapes Go.Deep
theorem Mem.roSub {w w0 : World} {G : List Nat} {L : List Own} {R R' : List Ro} (h : Mem w0 G w L R) (hs : ∀ r ∈ R', r ∈ R) : Mem w0 G w L R' :=
  ⟨h.kept, h.own, h.base, h.dist, fun r hr => h.ro r (hs r hr), fun x hx r hr => h.sep x hx r (hs r hr)⟩
section
variable {H : Type} {enc : TypeId × Value → H} {w : World} {base : Nat} {spare : Nat → Bool} {held : Bool}
theorem open_steps {r : Reach} {b0 : Nat} {v : Value} {d : DataW H} {ps : List MemPlace} (hval : Value.okWide Try.prog w r b0 48 v) (hd : DataW.Trod enc Try.prog w base spare held 48 v d ps) :
    ∃ A c, ∃ l : List Step, v = .slice A l.length c ∧ SlB 0 w.heap.size w A c 8 Step.cells l := by
  obtain ⟨a, len, cap, rfl⟩ := okWide_slice Try.underlying48 hval
  obtain ⟨m, hm⟩ := hd
  obtain ⟨fs, hfs⟩ : ∃ fs, Try.prog.underlying 40 = some (.struct fs) := ⟨_, Try.underlying40⟩
  obtain ⟨A, c, l, hcs, hs⟩ := open_rows (sz := 8) (E := Step.cells) Try.underlying48 hfs (one40 fs hfs).1 (by kernel_rfl) (one40 fs hfs).2 (by decide) Step.len (fun vs hv hr => step_mk fs hfs vs hv hr) hm
  refine ⟨A, c, l, ?_, hs⟩
  simpa [Value.cells] using hcs
end
end Go.Proofs.Ytkimdlpfbojkgaa
