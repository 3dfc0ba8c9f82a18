/- Arguments opened: slices of structs, read as lists. No condition. -/
import Derived.Test.YtkimdlpfbojkgaaR
import Derived.Deep.Slices
import Derived.Deep.Fields
import Derived.ProofKit
import Derived.ChangeSame
namespace Go.Proofs.Ytkimdlpfbojkgaa
open Go.RowKit Go.ChangeShapes Go.WideShapes Go.Deep
section
variable {H : Type} {enc : TypeId × Value → H} {P : Program} {w : World} {base : Nat} {spare : Nat → Bool} {held : Bool}
/-- Each of these values can be read at its field's type. -/
def Reads1 (enc : TypeId × Value → H) (P : Program) (w : World) (base : Nat) (spare : Nat → Bool) (held : Bool) (fs : Array Field) (vs : List Value) : Prop :=
  ∀ (j : Nat) (f : Field) (v : Value), fs[j]? = some f → vs[j]? = some v → ∃ n y, DataW.trod enc P w base spare held n f.type [v] = some y
theorem reads_struct {e n : Nat} {fs : Array Field} {vs : List Value} {x : DataW H × List MemPlace} (he : P.underlying e = some (.struct fs)) (hone : oneCellFields P fs = true) (hl : vs.length = fs.size) (h : DataW.trod enc P w base spare held n e vs = some x) : Reads1 enc P w base spare held fs vs := by
  obtain ⟨ys, n', hn', hy, hlen, hyl, hf⟩ := DataW.trod_struct he h
  intro j f v hj hv
  obtain ⟨ho, hk⟩ := hone_of hone j f hj
  have h1 := hf j f hj
  rw [ho, hk] at h1
  have hjl : j < vs.length := (List.getElem?_eq_some_iff.1 hv).1
  have hvj : vs[j] = v := (List.getElem?_eq_some_iff.1 hv).2
  have h2 : (vs.drop j).take 1 = [v] := by
    rw [List.drop_eq_getElem_cons hjl, hvj]; rfl
  rw [h2] at h1
  have hys : j < ys.length := by rw [hyl, ← hl]; exact hjl
  exact ⟨n', ys[j], by rw [h1, List.getElem?_eq_getElem hys]⟩
theorem open_rows {α : Type} {E : α → List Value} {sz t e fuel : Nat} {fs : Array Field} {cs : List Value} {x : DataW H × List MemPlace} (ht : P.underlying t = some (.slice e)) (he : P.underlying e = some (.struct fs)) (hone : oneCellFields P fs = true)
    (hC : P.cellsOf e = sz) (hfs : fs.size = sz) (hsz : 0 < sz) (hE : ∀ x, (E x).length = sz) (hmk : ∀ vs : List Value, vs.length = sz → Reads1 enc P w base spare held fs vs → ∃ x, E x = vs)
    (h : DataW.trod enc P w base spare held fuel t cs = some x) : ∃ A c, ∃ l : List α, cs = [.slice A l.length c] ∧ SlB 0 w.heap.size w A c sz E l := by
  rcases open_slice ht h with ⟨hcs, _⟩ | ⟨a, len, cap, m, n, D, Pl, hcs, hb, hl, hm, hmm, hx, hi⟩
  · exact ⟨none, 0, [], hcs, SlB.nil _ _ _ _ _⟩
  · have hel : ∀ i, i < len → ∃ x : α, ∀ j u, (E x)[j]? = some u → w.cell? ((a.add (i * sz)).add j) = some u := by
      intro i hil
      have him : i < m := by rw [hmm]; split <;> omega
      obtain ⟨cs', hc, ht'⟩ := hi i him
      rw [hC] at hc
      obtain ⟨_, hcl, hat⟩ := World.cells?_some hc
      have hr := reads_struct he hone (by rw [hcl, hfs]) ht'
      obtain ⟨x, hxE⟩ := hmk cs' hcl hr
      refine ⟨x, fun j u hu => ?_⟩
      rw [hxE] at hu
      have hj : j < cs'.length := (List.getElem?_eq_some_iff.1 hu).1
      rw [hat j (by omega), hu]
    refine ⟨some a, cap, List.ofFn fun i : Fin len => Classical.choose (hel i.1 i.2), by rw [hcs]; simp, by simpa using hl, hm, by simp, fun k x hk => ?_⟩
    have hkl : k < len := by
      have := (List.getElem?_eq_some_iff.1 hk).1
      simpa using this
    have hxe : Classical.choose (hel k hkl) = x := by
      rw [List.getElem?_ofFn] at hk
      simpa [hkl] using hk
    have hcell := Classical.choose_spec (hel k hkl)
    rw [hxe] at hcell
    have h00 : 0 < len := by omega
    obtain ⟨u0, hu0⟩ : ∃ u, (E (Classical.choose (hel 0 h00)))[0]? = some u := ⟨_, List.getElem?_eq_getElem (by rw [hE]; exact hsz)⟩
    have hc0 := Classical.choose_spec (hel 0 h00) 0 u0 hu0
    have ha0 : (a.add (0 * sz)).add 0 = a := by simp [Addr.add]
    rw [ha0] at hc0
    obtain ⟨g, o, s⟩ := a
    have hs : s = none := World.cell?_spot hc0
    subst hs
    refine ⟨g, o, rfl, ⟨Nat.zero_le _, World.block_lt_of_cell? w _ hc0⟩, fun j u hu => ?_⟩
    have := hcell j u hu
    rwa [addr_add, addr_add] at this
end
end Go.Proofs.Ytkimdlpfbojkgaa
