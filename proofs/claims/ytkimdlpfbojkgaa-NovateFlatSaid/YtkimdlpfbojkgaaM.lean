/- Memory for the walk by explicit values: blocks of the call's own, slices that are read. No condition. -/
import Derived.Test.YtkimdlpfbojkgaaK
import Derived.Deep.MidRow
import Derived.WalkSpells
namespace Go.Proofs.Ytkimdlpfbojkgaa
open Go.RowKit

/-- A piece of memory of the call's own. -/
structure Own where
  blk : Option Nat
  ok : World → Prop
  loc : ∀ w w', ok w → (∀ g, blk = some g → w'.heap[g]? = w.heap[g]?) → ok w'
  lt : ∀ w, ok w → ∀ g, blk = some g → g < w.heap.size

/-- What can be read, in blocks from lo on and below hi, and is never written. -/
structure Ro where
  lo : Nat
  hi : Nat
  ok : World → Prop
  loc : ∀ w w', ok w → (∀ g, lo ≤ g → g < hi → w'.heap[g]? = w.heap[g]?) → ok w'

theorem lt_of_get {w : World} {b : Nat} {o : Obj} (h : w.heap[b]? = some o) : b < w.heap.size := by
  rcases Nat.lt_or_ge b w.heap.size with hlt | hge
  · exact hlt
  · rw [Array.getElem?_eq_none hge] at h; cases h

def Own.cells (b t : Nat) (cs : Array Value) : Own where
  blk := some b
  ok w := w.heap[b]? = some (.cells cs t (0, 0))
  loc := fun _ _ h hk => (hk b rfl).trans h
  lt := fun _ h g hg => by injection hg with hg; subst hg; exact lt_of_get h

def Own.row (e sz : Nat) (v : Value) (n : Nat) (xs : List Value) : Own where
  blk := v.ownBlock
  ok w := w.ownsRow 0 e sz v n xs
  loc := fun w w' h hk => by
    refine ⟨h.1, ?_⟩
    rcases h.2 with hn | ⟨g, cap, cur, rfl, hb, hgg, rest⟩
    · exact .inl hn
    · exact .inr ⟨g, cap, cur, rfl, hb, (hk g rfl).trans hgg, rest⟩
  lt := fun w h g hg => (h.lt g hg).2

/-- What was there is as it was, but for the blocks of G. -/
structure Kept (w w' : World) (G : List Nat) : Prop where
  os : w'.os = w.os
  tape : w'.tape = w.tape
  output : w'.output = w.output
  size : w.heap.size ≤ w'.heap.size
  block : ∀ k, k < w.heap.size → k ∉ G → w'.heap[k]? = w.heap[k]?
theorem Kept.refl (w : World) (G : List Nat) : Kept w w G := ⟨rfl, rfl, rfl, Nat.le_refl _, fun _ _ _ => rfl⟩
theorem Kept.then_ {w w1 w2 : World} {G : List Nat} (h : Kept w w1 G) (k : Kept w1 w2 G) : Kept w w2 G :=
  ⟨k.os.trans h.os, k.tape.trans h.tape, k.output.trans h.output, Nat.le_trans h.size k.size, fun i hi hg => (k.block i (Nat.lt_of_lt_of_le hi h.size) hg).trans (h.block i hi hg)⟩
theorem Kept.of_below {w w' : World} {G : List Nat} (h : Below w.heap.size w w') : Kept w w' G := ⟨h.os, h.tape, h.output, h.size, fun k hk _ => h.block k hk⟩
theorem Kept.below {w w' : World} (h : Kept w w' []) : Below w.heap.size w w' := ⟨h.os, h.tape, h.output, h.size, fun k hk => h.block k hk (by simp)⟩

structure Mem (w0 : World) (G : List Nat) (w : World) (L : List Own) (R : List Ro) : Prop where
  kept : Kept w0 w G
  own : ∀ x ∈ L, x.ok w
  base : ∀ x ∈ L, ∀ g, x.blk = some g → w0.heap.size ≤ g ∨ g ∈ G
  dist : L.Pairwise fun x y => ∀ g, x.blk = some g → y.blk ≠ some g
  ro : ∀ r ∈ R, r.ok w ∧ r.hi ≤ w.heap.size
  sep : ∀ x ∈ L, ∀ r ∈ R, ∀ g, x.blk = some g → g < r.lo ∨ r.hi ≤ g

section
variable {w0 w w' : World} {G : List Nat} {L : List Own} {R : List Ro}
theorem Mem.start (w : World) (G : List Nat) : Mem w G w [] [] := ⟨Kept.refl _ _, by simp, by simp, by simp, by simp, by simp⟩

theorem Mem.size (h : Mem w0 G w L R) : w0.heap.size ≤ w.heap.size := h.kept.size
theorem Mem.below (h : Mem w0 [] w L R) : Below w0.heap.size w0 w := h.kept.below

/-- Something that lies in old memory can be read from now on. -/
theorem Mem.see (h : Mem w0 G w [] R) (r : Ro) (hr : r.ok w) (hhi : r.hi ≤ w.heap.size) : Mem w0 G w [] (r :: R) := by
  refine ⟨h.kept, h.own, h.base, h.dist, ?_, by simp⟩
  intro x hx
  rcases List.mem_cons.1 hx with rfl | hx
  · exact ⟨hr, hhi⟩
  · exact h.ro x hx
/-- An old piece of memory that may be written. -/
theorem Mem.hold (h : Mem w0 G w L R) (x : Own) (hx : x.ok w) (hb : ∀ g, x.blk = some g → g ∈ G) (hd : ∀ y ∈ L, ∀ g, x.blk = some g → y.blk ≠ some g) (hs : ∀ r ∈ R, ∀ g, x.blk = some g → g < r.lo ∨ r.hi ≤ g) : Mem w0 G w (x :: L) R := by
  refine ⟨h.kept, ?_, ?_, List.pairwise_cons.2 ⟨hd, h.dist⟩, h.ro, ?_⟩
  · intro y hy
    rcases List.mem_cons.1 hy with rfl | hy
    · exact hx
    · exact h.own y hy
  · intro y hy g hg
    rcases List.mem_cons.1 hy with rfl | hy
    · exact .inr (hb g hg)
    · exact h.base y hy g hg
  · intro y hy r hr g hg
    rcases List.mem_cons.1 hy with rfl | hy
    · exact hs r hr g hg
    · exact h.sep y hy r hr g hg

/-- A step that leaves all that was there as it was. -/
theorem Mem.call (h : Mem w0 G w L R) (hb : Below w.heap.size w w') : Mem w0 G w' L R := by
  refine ⟨h.kept.then_ (Kept.of_below hb), ?_, h.base, h.dist, ?_, h.sep⟩
  · intro x hx
    exact x.loc w w' (h.own x hx) fun g hg => hb.block g (x.lt w (h.own x hx) g hg)
  · intro r hr
    obtain ⟨ho, hh⟩ := h.ro r hr
    exact ⟨r.loc w w' ho fun g _ hg => hb.block g (by omega), Nat.le_trans hh hb.size⟩

theorem Mem.drew (h : Mem w0 G w L R) : Mem w0 G w.drew L R := h.call (Below.refl _ _).drew

/-- What a step has made new, for reading. -/
theorem Mem.made (h : Mem w0 G w L R) (hb : Below w.heap.size w w') (r : Ro) (hr : r.ok w') (hlo : w.heap.size ≤ r.lo) (hhi : r.hi ≤ w'.heap.size) : Mem w0 G w' L (r :: R) := by
  have h' := h.call hb
  refine ⟨h'.kept, h'.own, h'.base, h'.dist, ?_, ?_⟩
  · intro x hx
    rcases List.mem_cons.1 hx with rfl | hx
    · exact ⟨hr, hhi⟩
    · exact h'.ro x hx
  · intro x hx y hy g hg
    rcases List.mem_cons.1 hy with rfl | hy
    · exact .inl (by have := x.lt w (h.own x hx) g hg; omega)
    · exact h'.sep x hx y hy g hg

/-- What a step has made new, for reading and writing. -/
theorem Mem.make (h : Mem w0 G w L R) (hb : Below w.heap.size w w') (x : Own) (hx : x.ok w') (hlo : ∀ g, x.blk = some g → w.heap.size ≤ g) : Mem w0 G w' (x :: L) R := by
  have h' := h.call hb
  refine ⟨h'.kept, ?_, ?_, ?_, h'.ro, ?_⟩
  · intro y hy
    rcases List.mem_cons.1 hy with rfl | hy
    · exact hx
    · exact h'.own y hy
  · intro y hy g hg
    rcases List.mem_cons.1 hy with rfl | hy
    · exact .inl (Nat.le_trans h.size (hlo g hg))
    · exact h'.base y hy g hg
  · refine List.pairwise_cons.2 ⟨fun y hy g hg he => ?_, h'.dist⟩
    have h1 := hlo g hg
    have h2 := y.lt w (h.own y hy) g he
    omega
  · intro y hy r hr g hg
    rcases List.mem_cons.1 hy with rfl | hy
    · exact .inr (by have := hlo g hg; have := (h.ro r hr).2; omega)
    · exact h'.sep y hy r hr g hg

theorem Mem.alloc (h : Mem w0 G w L R) (t : Nat) (cs : Array Value) : Mem w0 G (w.alloc (.cells cs t)) (Own.cells w.heap.size t cs :: L) R :=
  h.make ((Below.refl _ _).alloc (Nat.le_refl _) _) _ (heap_alloc_new w _) fun g hg => by injection hg with hg; omega

/-- The i-th own piece is written: whatever lies elsewhere stays. -/
theorem Mem.write (h : Mem w0 G w L R) {i : Nat} {x y : Own} (hi : L[i]? = some x) (hsize : w.heap.size ≤ w'.heap.size) (hos : w'.os = w.os) (htape : w'.tape = w.tape) (hout : w'.output = w.output)
    (hkeep : ∀ g, g < w.heap.size → x.blk ≠ some g → w'.heap[g]? = w.heap[g]?) (hy : y.ok w') (hblk : ∀ g, y.blk = some g → x.blk = some g ∨ w.heap.size ≤ g) : Mem w0 G w' (L.set i y) R := by
  have hil : i < L.length := (List.getElem?_eq_some_iff.1 hi).1
  have hxi : L[i] = x := (List.getElem?_eq_some_iff.1 hi).2
  have hxm : x ∈ L := hxi ▸ List.getElem_mem hil
  have hne : ∀ j z, L[j]? = some z → j ≠ i → ∀ g, z.blk = some g → x.blk ≠ some g := by
    intro j z hz hj g hg hx
    have hjl : j < L.length := (List.getElem?_eq_some_iff.1 hz).1
    have hzj : L[j] = z := (List.getElem?_eq_some_iff.1 hz).2
    have hp := List.pairwise_iff_getElem.1 h.dist
    rcases Nat.lt_or_gt_of_ne hj with hlt | hgt
    · exact hp j i hjl hil hlt g (hzj ▸ hg) (hxi ▸ hx)
    · exact hp i j hil hjl hgt g (hxi ▸ hx) (hzj ▸ hg)
  have hmem : ∀ z ∈ L.set i y, z = y ∨ ∃ j, j ≠ i ∧ L[j]? = some z := by
    intro z hz
    obtain ⟨j, hj, rfl⟩ := List.mem_iff_getElem.1 hz
    rw [List.getElem_set]
    by_cases e : i = j
    · left; rw [if_pos e]
    · right; rw [if_neg e]; exact ⟨j, fun h => e h.symm, List.getElem?_eq_getElem (by simpa using hj)⟩
  refine ⟨⟨hos.trans h.kept.os, htape.trans h.kept.tape, hout.trans h.kept.output, Nat.le_trans h.size hsize, fun g hg hG => (hkeep g (by have := h.size; omega) fun he => ?_).trans (h.kept.block g hg hG)⟩, ?_, ?_, ?_, ?_, ?_⟩
  · rcases h.base x hxm g he with h1 | h1
    · omega
    · exact hG h1
  · intro z hz
    rcases hmem z hz with rfl | ⟨j, hj, hzj⟩
    · exact hy
    · have hzm : z ∈ L := List.mem_of_getElem? hzj
      exact z.loc w w' (h.own z hzm) fun g hg => hkeep g (z.lt w (h.own z hzm) g hg) (hne j z hzj hj g hg)
  · intro z hz g hg
    rcases hmem z hz with rfl | ⟨j, hj, hzj⟩
    · rcases hblk g hg with hx | hx
      · exact h.base x hxm g hx
      · exact .inl (Nat.le_trans h.size hx)
    · exact h.base z (List.mem_of_getElem? hzj) g hg
  · rw [List.pairwise_iff_getElem]
    intro a b ha hb hab g hga hgb
    rw [List.getElem_set] at hga hgb
    have hal : a < L.length := by simpa using ha
    have hbl : b < L.length := by simpa using hb
    by_cases ea : i = a
    · rw [if_pos ea] at hga
      rw [if_neg (by omega)] at hgb
      rcases hblk g hga with hx | hx
      · exact hne b L[b] (List.getElem?_eq_getElem hbl) (by omega) g hgb hx
      · have := L[b].lt w (h.own _ (List.getElem_mem hbl)) g hgb; omega
    · rw [if_neg ea] at hga
      by_cases eb : i = b
      · rw [if_pos eb] at hgb
        rcases hblk g hgb with hx | hx
        · exact hne a L[a] (List.getElem?_eq_getElem hal) (by omega) g hga hx
        · have := L[a].lt w (h.own _ (List.getElem_mem hal)) g hga; omega
      · rw [if_neg eb] at hgb
        exact List.pairwise_iff_getElem.1 h.dist a b hal hbl hab g hga hgb
  · intro r hr
    obtain ⟨ho, hh⟩ := h.ro r hr
    refine ⟨r.loc w w' ho fun g h1 h2 => hkeep g (by omega) fun he => ?_, Nat.le_trans hh hsize⟩
    rcases h.sep x hxm r hr g he with h3 | h3 <;> omega
  · intro z hz r hr g hg
    rcases hmem z hz with rfl | ⟨j, hj, hzj⟩
    · rcases hblk g hg with hx | hx
      · exact h.sep x hxm r hr g hx
      · exact .inr (by have := (h.ro r hr).2; omega)
    · exact h.sep z (List.mem_of_getElem? hzj) r hr g hg

theorem Mem.cells_at (h : Mem w0 G w L R) {i b t : Nat} {cs : Array Value} (hi : L[i]? = some (Own.cells b t cs)) : w.heap[b]? = some (.cells cs t (0, 0)) := h.own _ (List.mem_of_getElem? hi)
theorem Mem.cell (h : Mem w0 G w L R) {i b t : Nat} {cs : Array Value} (hi : L[i]? = some (Own.cells b t cs)) {o : Nat} {v : Value} (hv : cs[o]? = some v) : w.cell? ⟨b, o, none⟩ = some v := by
  rw [cell_of_row w b o cs t (0, 0) (h.cells_at hi)]; exact hv

theorem setCell_heap (w : World) {b t o : Nat} {cs : Array Value} (v : Value) (h : w.heap[b]? = some (.cells cs t (0, 0))) : (w.setCell ⟨b, o, none⟩ v).heap[b]? = some (.cells (cs.setIfInBounds o v) t (0, 0)) := by
  simp [World.setCell, Array.getElem?_modify, h]

theorem Mem.set (h : Mem w0 G w L R) {i b t : Nat} {cs : Array Value} (hi : L[i]? = some (Own.cells b t cs)) (o : Nat) (v : Value) : Mem w0 G (w.setCell ⟨b, o, none⟩ v) (L.set i (Own.cells b t (cs.setIfInBounds o v))) R :=
  h.write hi (by simp [World.setCell]) rfl rfl rfl (fun g _ hne => Below.heap_setCell w _ v g (fun e => hne (by rw [e]; rfl))) (setCell_heap w v (h.cells_at hi)) fun g hg => .inl hg
end

/-! ### the operations on memory -/
section
variable {P : Program} {ρ : Operand → Value} {w w' w0 : World} {G : List Nat} {d : Option Tmp} {ty : TypeId} {pos : String} {af : Array Edge} {g : Option (Nat × Bool)}
theorem x_box {t : TypeId} {x : Operand} {v : Value} (hx : ρ x = v) : (execOp ρ ⟨d, .box t x, ty, pos, af, g⟩).run P w = .ok (.value (.pointer (some ⟨w.heap.size, 0, none⟩))) (w.alloc (.cells v.cells t)) := by
  subst hx
  simp [go_sem]
theorem x_alloc {t : TypeId} {i : TypeInfo} {z : Value} (hi : P.info? t = some i) (hz : i.zero = some z) : (execOp ρ ⟨d, .alloc t, ty, pos, af, g⟩).run P w = .ok (.value (.pointer (some ⟨w.heap.size, 0, none⟩))) (w.alloc (.cells z.cells t)) := by
  simp [go_sem, zeroValue, typeInfo, hi, hz]
theorem run_isAgg_no {t : TypeId} {u : TypeDesc} (hu : P.underlying t = some u) (hd : u.isRow = false) : (isAgg t).run P w = .ok false w := by
  unfold isAgg
  rw [Sem.run_bind, run_underlying hu w]
  cases u <;> simp_all [TypeDesc.isRow]
theorem x_load1 {t : TypeId} {u : TypeDesc} {x : Operand} {a : Addr} {v : Value} (hu : P.underlying t = some u) (hd : u.isRow = false) (hx : ρ x = .pointer (some a)) (hc : w.cell? a = some v) :
    (execOp ρ ⟨d, .load t x, ty, pos, af, g⟩).run P w = .ok (.value v) w := by
  have h1 : (Instr.loadAt t (.pointer (some a))).run P w = .ok v w := by
    simp [Instr.loadAt, Instr.sureAddr, loadVar, Sem.run_bind, run_isAgg_no hu hd, run_load, hc]
  simp [execOp, hx, h1]
theorem x_loadn {t : TypeId} {u : TypeDesc} {x : Operand} {b o : Nat} {cs : List Value} (hu : P.underlying t = some u) (hd : u.isRow = true) (hi : (P.info? t).map (·.size) = some cs.length) (hx : ρ x = .pointer (some ⟨b, o, none⟩)) (hc : w.rangeAt b o cs) :
    (execOp ρ ⟨d, .load t x, ty, pos, af, g⟩).run P w = .ok (.value (.agg cs.toArray)) w := by
  simp [execOp, hx, run_loadAt_mid w b o t cs u hc hu hd hi]
theorem x_storen {t e : TypeId} {x y : Operand} {b : Nat} {old cs : Array Value} (hi : (P.info? t).map (·.size) = some cs.size) (h1 : cs.all (·.oneCell') = true) (ho : old.size = cs.size) (hx : ρ x = .pointer (some ⟨b, 0, none⟩)) (hy : ρ y = .agg cs)
    (hg : w.heap[b]? = some (.cells old e (0, 0))) : (execOp ρ ⟨d, .store t x y, ty, pos, af, g⟩).run P w = .ok .skip (w.setRow b cs) := by
  simp [execOp, hx, hy, Instr.storeAt, Instr.sureAddr, run_storeVar_row w b e t old cs hg hi ho h1]
theorem x_store1 {t : TypeId} {x y : Operand} {b o : Nat} {v old : Value} (hi : (P.info? t).map (·.size) = some 1) (h1 : v.oneCell' = true) (hv : v.cells = #[v]) (hx : ρ x = .pointer (some ⟨b, o, none⟩)) (hy : ρ y = v)
    (hc : w.cell? ⟨b, o, none⟩ = some old) (hf : w.frozen? ⟨b, o, none⟩ = false) : (execOp ρ ⟨d, .store t x y, ty, pos, af, g⟩).run P w = .ok .skip (w.setCell ⟨b, o, none⟩ v) := by
  have hs : (store ⟨b, o, none⟩ v).run P w = .ok () (w.setCell ⟨b, o, none⟩ v) := by
    rw [run_store P w _ v _ h1, hc]
    simp [hf]
  have ha : (storeCells ⟨b, o, none⟩ [v]).run P w = .ok () (w.setCell ⟨b, o, none⟩ v) := by
    simp [storeCells, Addr.add, hs]
  cases hq : P.info? t with
  | none => simp [hq] at hi
  | some i =>
    have hi' : i.size = 1 := by simpa [hq] using hi
    have h2 : (Instr.storeAt t (.pointer (some ⟨b, o, none⟩)) v).run P w = .ok () (w.setCell ⟨b, o, none⟩ v) := by
      simp only [Instr.storeAt, Instr.sureAddr, Sem.run_bind, Sem.run_pure, Result.andThen_ok, storeVar, sizeOf, typeInfo, hv]
      simp [hq, hi', ha]
    simp [execOp, hx, hy, h2]

/-- The place of a field. -/
def FieldAt (P : Program) (s f off : Nat) : Prop := ∀ (b o : Nat) (w : World), (Instr.fieldAt s (.pointer (some ⟨b, o, none⟩)) f).run P w = .ok (.pointer (some ⟨b, o + off, none⟩)) w
theorem fieldAt_of {s f : Nat} {fs : Array Field} {fd : Field} {off sz : Nat} (hs : P.underlying s = some (.struct fs)) (hf : fs[f]? = some fd) (hz : (P.info? fd.type).map (·.size) = some sz) (hsz : (sz == 0) = false) (ho : fd.offset = off) : FieldAt P s f off := by
  intro b o w
  cases hq : P.info? fd.type with
  | none => simp [hq] at hz
  | some i =>
    have hi' : i.size = sz := by simpa [hq] using hz
    have hne : sz ≠ 0 := by simpa using hsz
    simp [Instr.fieldAt, run_underlying hs, hf, Instr.sureAddr, fieldPlace, sizeOf, typeInfo, hq, hi', hne, ho, Addr.add_mid]
theorem x_field {s f off : Nat} {x : Operand} {b o : Nat} (hF : FieldAt P s f off) (hx : ρ x = .pointer (some ⟨b, o, none⟩)) :
    (execOp ρ ⟨d, .fieldAddr s x f, ty, pos, af, g⟩).run P w = .ok (.value (.pointer (some ⟨b, o + off, none⟩))) w := by
  simp [execOp, hx, hF b o w]

/-- The place of an element of a slice. -/
def ElemAt (P : Program) (t sz : Nat) : Prop := ∀ (b o n c k : Nat) (w : World), k < n → (Instr.indexAt t (.slice (some ⟨b, o, none⟩) n c) (.int .i64 (k : Int))).run P w = .ok (.pointer (some ⟨b, o + k * sz, none⟩)) w
theorem elemAt_of {t e sz : Nat} (ht : P.underlying t = some (.slice e)) (hz : (P.info? e).map (·.size) = some sz) : ElemAt P t sz := by
  intro b o n c k w hk
  cases hq : P.info? e with
  | none => simp [hq] at hz
  | some i =>
    have hi' : i.size = sz := by simpa [hq] using hz
    have h0 : (0 : Int) ≤ k := by omega
    simp [Instr.indexAt, asIntOf, run_underlying ht, h0, hk, sizeOf, typeInfo, hq, hi', Addr.add_mid]
theorem x_elem {t sz : Nat} {x y : Operand} {b o n c k : Nat} {i : Int} (hE : ElemAt P t sz) (hx : ρ x = .slice (some ⟨b, o, none⟩) n c) (hy : ρ y = .int .i64 i) (hi : i = (k : Int)) (hk : k < n) :
    (execOp ρ ⟨d, .indexAddr t x y, ty, pos, af, g⟩).run P w = .ok (.value (.pointer (some ⟨b, o + k * sz, none⟩))) w := by
  subst hi
  simp [execOp, hx, hy, hE b o n c k w hk]

theorem run_info {e : TypeId} {i : TypeInfo} (hq : P.info? e = some i) : (typeInfo e).run P w = .ok i w := by simp [typeInfo, hq]
theorem x_build {t : TypeId} {parts : Array (Nat × Operand)} {cs : Array Value} (hb : P.built t (parts.map fun (i, x) => (i, ρ x)).toList = some cs) :
    (execOp ρ ⟨d, .build t parts, ty, pos, af, g⟩).run P w = .ok (.value (.agg cs)) w := by
  simp [execOp, run_build w t _ cs hb]

def builtSlice (P : Program) (e len : Nat) (parts : List (Nat × Value)) : Option (Array Value) :=
  match P.info? e with
  | some i => match i.zero with
    | some z => if len * i.size > 2 ^ 24 ∨ len * i.size = 0 then none else Instr.fill (fun k => some (k * i.size, i.size)) ((Array.range (len * i.size)).map (z.cells[· % z.cells.size]!)) parts
    | none => none
  | none => none
theorem x_buildSlice {t e len : Nat} {parts : Array (Nat × Operand)} {cs : Array Value} (ht : P.underlying t = some (.slice e)) (hb : builtSlice P e len (parts.map fun (i, x) => (i, ρ x)).toList = some cs) :
    (execOp ρ ⟨d, .buildSlice t len parts, ty, pos, af, g⟩).run P w = .ok (.value (.slice (some ⟨w.heap.size, 0, none⟩) len len)) (w.alloc (.cells cs e)) := by
  unfold builtSlice at hb
  cases hq : P.info? e with
  | none => simp [hq] at hb
  | some i =>
    cases hz : i.zero with
    | none => simp [hq, hz] at hb
    | some z =>
      simp only [hq, hz] at hb
      split at hb
      · cases hb
      · rename_i hn
        have h1 : ¬ len * i.size > 2 ^ 24 := fun h => hn (.inl h)
        have h2 : ¬ len * i.size = 0 := fun h => hn (.inr h)
        have hr : (Instr.buildSlice t len (parts.map fun (i, x) => (i, ρ x))).run P w = .ok (.slice (some ⟨w.heap.size, 0, none⟩) len len) (w.alloc (.cells cs e)) := by
          have ha : (newRow e cs).run P w = .ok ⟨w.heap.size, 0, none⟩ (w.alloc (.cells cs e)) := by simp [newRow, go_sem]
          have hs : (sizeOf e).run P w = .ok i.size w := by simp [sizeOf, run_info hq]
          have hzv : (zeroValue e).run P w = .ok z w := by simp [zeroValue, run_info hq, hz]
          simp only [Instr.buildSlice, Sem.run_bind, run_underlying ht, Result.andThen_ok, hs, h1, h2, if_false, Sem.run_pure, hzv, hb, ha]
        simp [execOp, hr]
theorem x_buildSlice0 {t e : Nat} {i : TypeInfo} (ht : P.underlying t = some (.slice e)) (hq : P.info? e = some i) :
    (execOp ρ ⟨d, .buildSlice t 0 #[], ty, pos, af, g⟩).run P w = .ok (.value (.slice (some ⟨w.heap.size, 0, none⟩) 0 0)) (w.alloc (.cells #[] e)) := by
  have hr : (Instr.buildSlice t 0 #[]).run P w = .ok (.slice (some ⟨w.heap.size, 0, none⟩) 0 0) (w.alloc (.cells #[] e)) := by
    simp [Instr.buildSlice, Sem.run_bind, run_underlying ht, sizeOf, typeInfo, hq, go_sem, Instr.fill]
  simp [execOp, hr]

theorem x_makeFunc {fn : Fn} {first captured : Array Operand} {fs cs : Array Value} (h1 : first.map ρ = fs) (h2 : captured.map ρ = cs) : (execOp ρ ⟨d, .makeFunc fn first captured, ty, pos, af, g⟩).run P w = .ok (.value (.func fn fs cs)) w := by
  subst h1; subst h2; rfl
theorem x_nilCheck {x : Operand} {a : Addr} (hx : ρ x = .pointer (some a)) : (execOp ρ ⟨d, .nilCheck x, ty, pos, af, g⟩).run P w = .ok (.value (.pointer (some a))) w := by
  simp [execOp, hx]

/-- The function k has a body: a call of it enters. -/
def Enters (P : Program) (k : Nat) : Prop := ∀ (args : Array Value) (w : World), (callFunc k args).run P w = .ok (.enter k args) w
theorem enters_of {k : Nat} {fn : Func} (hf : P.funcs[k]? = some fn) (hn : (fn.name == "runtime.NumGoroutine") = false) (hb : fn.body.isNone = false) : Enters P k := by
  intro args w
  have h1 : fn.name ≠ "runtime.NumGoroutine" := by simpa using hn
  have h2 : fn.body ≠ none := by intro h; simp [h] at hb
  simp [callFunc, hf, h1, h2]
theorem x_call {k : Nat} {f : Operand} {args : Array Operand} {ts : Array TypeId} {vs cap : Array Value} (hE : Enters P k) (hf : ρ f = .func (.func k) #[] cap) (ha : args.map ρ ++ cap = vs) :
    (execOp ρ ⟨d, .call { callee := .value f, args := args, argTypes := ts }, ty, pos, af, g⟩).run P w = .ok (.enter k vs) w := by
  subst ha
  have := hE (args.map ρ ++ cap) w
  simp [execOp, resolve, hf, Deferred.ofValue, invoke, this]
end

/-! ### calls -/
section
variable {P : Program} {ops : Array Oper} {Q : Exit → Act → World → Prop} {K : Act → World → Prop} {rest : List Oper} {o : Oper} {n : Nat} {l : List (Nat × Value)} {w w' : World}
theorem o_call {a : Act} {f : Nat} {args : Array Value} {Rr : Ending → World → Prop} (hrun : (execOp a.eval o).run P w = .ok (.enter f args) w) (hc : Calls P f args w Rr)
    (h : ∀ e w', Rr e w' → ∃ v, e = .returned v ∧ K (a.put o.dst v) w') : o.wp P a w K Q := by
  unfold Oper.wp
  rw [hrun, Oper.upon_enter]
  refine hc.mono fun e w' hr => ?_
  obtain ⟨v, rfl, hk⟩ := h e w' hr
  exact hk
theorem sC {d : Nat} {op : Op} {ty : TypeId} {pos : String} {af : Array Edge} {f : Nat} {args : Array Value} {Rr : Ending → World → Prop} (hd : Nat.blt d n = true)
    (hrun : (execOp (fr n l).eval ⟨some d, op, ty, pos, af, none⟩).run P w = .ok (.enter f args) w) (hc : Calls P f args w Rr)
    (h : ∀ e w', Rr e w' → ∃ v, e = .returned v ∧ wpS P ops Q rest K (fr n ((d, v) :: l)) w') :
    wpS P ops Q (⟨some d, op, ty, pos, af, none⟩ :: rest) K (fr n l) w := by
  unfold wpS
  rw [if_pos (by simp [Region.wanted])]
  refine .inl (o_call hrun hc fun e w' hr => ?_)
  obtain ⟨v, he, hk⟩ := h e w' hr
  exact ⟨v, he, by rw [put_fr hd]; exact hk⟩
theorem sCu {op : Op} {ty : TypeId} {pos : String} {af : Array Edge} {f : Nat} {args : Array Value} {Rr : Ending → World → Prop}
    (hrun : (execOp (fr n l).eval ⟨none, op, ty, pos, af, none⟩).run P w = .ok (.enter f args) w) (hc : Calls P f args w Rr)
    (h : ∀ e w', Rr e w' → ∃ v, e = .returned v ∧ wpS P ops Q rest K (fr n l) w') :
    wpS P ops Q (⟨none, op, ty, pos, af, none⟩ :: rest) K (fr n l) w := by
  unfold wpS
  rw [if_pos (by simp [Region.wanted])]
  exact .inl (o_call hrun hc h)
theorem gC {os : List Oper} {d j t : Nat} {b : Bool} {op : Op} {ty : TypeId} {pos : String} {af : Array Edge} {f : Nat} {args : Array Value} {Rr : Ending → World → Prop} (hd : Nat.blt d n = true)
    (h1 : dstAt os j = some t) (hn : Nat.blt t n = true) (h2 : look l t = .bool b)
    (hrun : (execOp (fr n l).eval ⟨some d, op, ty, pos, af, some (j, b)⟩).run P w = .ok (.enter f args) w) (hc : Calls P f args w Rr)
    (h : ∀ e w', Rr e w' → ∃ v, e = .returned v ∧ wpS P os.toArray Q rest K (fr n ((d, v) :: l)) w') :
    wpS P os.toArray Q (⟨some d, op, ty, pos, af, some (j, b)⟩ :: rest) K (fr n l) w := by
  unfold wpS
  rw [if_pos (by simp [Region.wanted, yielded_fr ((dstAt_eq os j).trans h1) hn h2])]
  refine .inl (o_call hrun hc fun e w' hr => ?_)
  obtain ⟨v, he, hk⟩ := h e w' hr
  exact ⟨v, he, by rw [put_fr hd]; exact hk⟩
end

/-! ### regions that draw their order -/
section
variable {P : Program} {ops : Array Oper} {Q : Exit → Act → World → Prop} {K : Act → World → Prop} {o : Oper} {n : Nat} {l : List (Nat × Value)} {w w' : World} {S : World → Prop} {fuel : Nat} {listed : Array Bool}
variable {N : Act → World → Prop} {X : Nat → Act → World → Prop} {R : Act → World → Prop}
theorem c_drawn {a : Act} {id : Nat} (S : World → Prop) (hm : P.follows .mixedOrders = true) (h : wpAnyH P .any ops (post4 N X R) S ops.size (Array.replicate ops.size false) a w.drew) : wpC P (.region id ops true) N X R a w :=
  wp_region_held hm h
/-- Taken first: an operation that yields its value in every world that meets S. -/
theorem dT {i d : Nat} {op : Op} {ty : TypeId} {pos : String} {af : Array Edge} {v : Value} (hi : ops[i]? = some ⟨some d, op, ty, pos, af, none⟩) (hs : Region.noSelect ops = true) (hf : (Region.free .any ops listed i && (Region.ready .any ops listed).contains i) = true)
    (hd : Nat.blt d n = true) (hS : S w) (hy : ∀ w, S w → (execOp (fr n l).eval ⟨some d, op, ty, pos, af, none⟩).run P w = .ok (.value v) w)
    (h : wpAnyH P .any ops (post4 N X R) S fuel (listed.setIfInBounds i true) (fr n ((d, v) :: l)) w) : wpAnyH P .any ops (post4 N X R) S (fuel + 1) listed (fr n l) w := by
  rw [Bool.and_eq_true] at hf
  refine wpAnyH_take hi hs hf.1 hf.2 (fun _ _ _ h => h) (.inl ⟨by simp [Region.wanted], hy⟩) hS ?_
  rw [put_fr hd]
  exact h
theorem dA {rs : List Nat} (hr : Region.ready .any ops listed = rs) (hne : rs.isEmpty = false)
    (h : ∀ i ∈ rs, wpOp P ops (post4 N X R) i (fun a' w' => S w' ∧ wpAnyH P .any ops (post4 N X R) S fuel (listed.setIfInBounds i true) a' w') (fr n l) w) : wpAnyH P .any ops (post4 N X R) S (fuel + 1) listed (fr n l) w :=
  wpAnyH_all hr (by intro h; subst h; cases hne) h
theorem dN {p : Nat → Prop} : ∀ i ∈ ([] : List Nat), p i := by simp
theorem dC {p : Nat → Prop} {i : Nat} {rs : List Nat} (h1 : p i) (h2 : ∀ j ∈ rs, p j) : ∀ j ∈ i :: rs, p j := by
  intro j hj
  rcases List.mem_cons.1 hj with rfl | hj
  · exact h1
  · exact h2 j hj
theorem dst {i d : Nat} {op : Op} {ty : TypeId} {pos : String} {af : Array Edge} {v : Value} (hi : ops[i]? = some ⟨some d, op, ty, pos, af, none⟩) (hd : Nat.blt d n = true)
    (hrun : (execOp (fr n l).eval ⟨some d, op, ty, pos, af, none⟩).run P w = .ok (.value v) w') (h : K (fr n ((d, v) :: l)) w') : wpOp P ops Q i K (fr n l) w := by
  refine wpOp_step hi fun K' hK => ?_
  rw [if_pos (by simp [Region.wanted])]
  unfold Oper.wp
  rw [hrun, Oper.upon_value, put_fr hd]
  exact hK _ _ h
theorem dsu {i : Nat} {op : Op} {ty : TypeId} {pos : String} {af : Array Edge} (hi : ops[i]? = some ⟨none, op, ty, pos, af, none⟩)
    (hrun : (execOp (fr n l).eval ⟨none, op, ty, pos, af, none⟩).run P w = .ok .skip w') (h : K (fr n l) w') : wpOp P ops Q i K (fr n l) w := by
  refine wpOp_step hi fun K' hK => ?_
  rw [if_pos (by simp [Region.wanted])]
  unfold Oper.wp
  rw [hrun, Oper.upon_skip]
  exact hK _ _ h
theorem dsC {i d : Nat} {op : Op} {ty : TypeId} {pos : String} {af : Array Edge} {f : Nat} {args : Array Value} {Rr : Ending → World → Prop} (hi : ops[i]? = some ⟨some d, op, ty, pos, af, none⟩) (hd : Nat.blt d n = true)
    (hrun : (execOp (fr n l).eval ⟨some d, op, ty, pos, af, none⟩).run P w = .ok (.enter f args) w) (hc : Calls P f args w Rr)
    (h : ∀ e w', Rr e w' → ∃ v, e = .returned v ∧ K (fr n ((d, v) :: l)) w') : wpOp P ops Q i K (fr n l) w := by
  refine wpOp_step hi fun K' hK => ?_
  rw [if_pos (by simp [Region.wanted])]
  refine o_call hrun hc fun e w' hr => ?_
  obtain ⟨v, he, hk⟩ := h e w' hr
  exact ⟨v, he, by rw [put_fr hd]; exact hK _ _ hk⟩
theorem dE {a : Act} (hr : Region.ready .any ops listed = []) (h : N a w) : wpAnyH P .any ops (post4 N X R) S fuel listed a w := wpAnyH_done hr h fuel
end

/-! ### small ones -/
theorem not_t {b : Bool} (h : (!b) = true) : b = false := by simpa using h
theorem not_f {b : Bool} (h : (!b) = false) : b = true := by simpa using h
theorem and_l {a b : Bool} (h : (a && b) = true) : a = true := by cases a <;> simp_all
theorem and_r {a b : Bool} (h : (a && b) = true) : b = true := by cases a <;> simp_all
theorem or_l {a b : Bool} (h : (a || b) = false) : a = false := by cases a <;> simp_all
theorem or_r {a b : Bool} (h : (a || b) = false) : b = false := by cases a <;> simp_all
theorem and_t {a b : Bool} (h : a = true) : b = (a && b) := by subst h; rfl
theorem and_f {a b : Bool} (h : a = false) : false = (a && b) := by subst h; rfl
theorem or_t {a b : Bool} (h : a = true) : true = (a || b) := by subst h; rfl
theorem or_f {a b : Bool} (h : a = false) : b = (a || b) := by subst h; rfl
theorem j_to {K : Act → World → Prop} {n : Nat} {cur live : List (Nat × Value)} {w : World} (hJ : ∀ jk, K (fr n (live ++ jk)) w) (h : Held cur live) : K (fr n cur) w := by rw [fr_held h]; exact hJ _
theorem bcase (b : Bool) : b = false ∨ b = true := by cases b <;> simp

def EvL (ρ : Operand → Value) : List Operand → List Value → Prop
  | [], [] => True
  | x :: xs, v :: vs => ρ x = v ∧ EvL ρ xs vs
  | _, _ => False
theorem evL_map {ρ : Operand → Value} : ∀ {xs : List Operand} {vs : List Value}, EvL ρ xs vs → xs.map ρ = vs
  | [], [], _ => rfl
  | x :: xs, v :: vs, h => by rw [List.map_cons, h.1, evL_map h.2]
  | [], _ :: _, h => h.elim
  | _ :: _, [], h => h.elim
def EvP (ρ : Operand → Value) : List (Nat × Operand) → List (Nat × Value) → Prop
  | [], [] => True
  | x :: xs, v :: vs => (x.1 = v.1 ∧ ρ x.2 = v.2) ∧ EvP ρ xs vs
  | _, _ => False
theorem evP_map {ρ : Operand → Value} : ∀ {xs : List (Nat × Operand)} {vs : List (Nat × Value)}, EvP ρ xs vs → (xs.map fun (i, x) => (i, ρ x)) = vs
  | [], [], _ => rfl
  | x :: xs, v :: vs, h => by rw [List.map_cons, evP_map h.2]; simp [h.1.1, h.1.2]
  | [], _ :: _, h => h.elim
  | _ :: _, [], h => h.elim

section
variable {P : Program} {ρ : Operand → Value} {w w' w0 : World} {G : List Nat} {d : Option Tmp} {ty : TypeId} {pos : String} {af : Array Edge} {g : Option (Nat × Bool)} {L L' : List Own} {R : List Ro}
theorem x_pick_t {c x y : Operand} {v : Value} (hc : ρ c = .bool true) (hv : ρ x = v) : (execOp ρ ⟨d, .pick c x y, ty, pos, af, g⟩).run P w = .ok (.value v) w := x_pick hc hv
theorem x_pick_f {c x y : Operand} {v : Value} (hc : ρ c = .bool false) (hv : ρ y = v) : (execOp ρ ⟨d, .pick c x y, ty, pos, af, g⟩).run P w = .ok (.value v) w := x_pick hc hv
theorem x_add_eq {t t' : TypeId} {k : IntKind} {x y : Operand} {p q r : Int} (hx : ρ x = .int k p) (hy : ρ y = .int k q) (h : k.wrap (p + q) = r) : (execOp ρ ⟨d, .binOp .add t x y t', ty, pos, af, g⟩).run P w = .ok (.value (.int k r)) w := by subst h; exact x_add hx hy
theorem x_sub_eq {t t' : TypeId} {k : IntKind} {x y : Operand} {p q r : Int} (hx : ρ x = .int k p) (hy : ρ y = .int k q) (h : k.wrap (p - q) = r) : (execOp ρ ⟨d, .binOp .sub t x y t', ty, pos, af, g⟩).run P w = .ok (.value (.int k r)) w := by subst h; exact x_sub hx hy
theorem x_mul_eq {t t' : TypeId} {k : IntKind} {x y : Operand} {p q r : Int} (hx : ρ x = .int k p) (hy : ρ y = .int k q) (h : k.wrap (p * q) = r) : (execOp ρ ⟨d, .binOp .mul t x y t', ty, pos, af, g⟩).run P w = .ok (.value (.int k r)) w := by subst h; exact x_mul hx hy
theorem x_neg_eq {t : TypeId} {k : IntKind} {x : Operand} {p r : Int} (hx : ρ x = .int k p) (h : k.wrap (-p) = r) : (execOp ρ ⟨d, .unOp .neg t x, ty, pos, af, g⟩).run P w = .ok (.value (.int k r)) w := by
  subst h; simp [execOp, hx, go_sem]
theorem x_slnil_eql {t t' e : TypeId} {x y : Operand} {A : Option Addr} {n c : Nat} (ht : P.underlying t = some (.slice e)) (hx : ρ x = .slice A n c) (hy : ρ y = .slice none 0 0) : (execOp ρ ⟨d, .binOp .eql t x y t', ty, pos, af, g⟩).run P w = .ok (.value (.bool A.isNone)) w := by
  simp [execOp, hx, hy, eqGuard, Lib.run_eql_slice_nil w t e A n c 0 0 ht]
theorem x_slnil_neq {t t' e : TypeId} {x y : Operand} {A : Option Addr} {n c : Nat} (ht : P.underlying t = some (.slice e)) (hx : ρ x = .slice A n c) (hy : ρ y = .slice none 0 0) : (execOp ρ ⟨d, .binOp .neq t x y t', ty, pos, af, g⟩).run P w = .ok (.value (.bool (!A.isNone))) w := by
  simp [execOp, hx, hy, eqGuard, run_neq_slice_nil_any w t e A n c 0 0 ht]
theorem x_callL {k : Nat} {f : Operand} {xs : List Operand} {ts : Array TypeId} {vs cap : List Value} (hE : Enters P k) (hf : ρ f = .func (.func k) #[] cap.toArray) (ha : EvL ρ xs vs) :
    (execOp ρ ⟨d, .call { callee := .value f, args := xs.toArray, argTypes := ts }, ty, pos, af, g⟩).run P w = .ok (.enter k (vs ++ cap).toArray) w :=
  x_call hE hf (by rw [List.map_toArray, evL_map ha]; simp)
theorem x_buildL {t : TypeId} {ps : List (Nat × Operand)} {vs : List (Nat × Value)} {cs : Array Value} (h : EvP ρ ps vs) (hb : P.built t vs = some cs) :
    (execOp ρ ⟨d, .build t ps.toArray, ty, pos, af, g⟩).run P w = .ok (.value (.agg cs)) w :=
  x_build (by rw [List.map_toArray, evP_map h]; exact hb)
theorem x_buildSliceL {t e len : Nat} {ps : List (Nat × Operand)} {vs : List (Nat × Value)} {cs : Array Value} (ht : P.underlying t = some (.slice e)) (h : EvP ρ ps vs) (hb : builtSlice P e len vs = some cs) :
    (execOp ρ ⟨d, .buildSlice t len ps.toArray, ty, pos, af, g⟩).run P w = .ok (.value (.slice (some ⟨w.heap.size, 0, none⟩) len len)) (w.alloc (.cells cs e)) :=
  x_buildSlice ht (by rw [List.map_toArray, evP_map h]; exact hb)
theorem x_makeFuncL {fn : Nat} {xs : List Operand} {vs : List Value} (h : EvL ρ xs vs) : (execOp ρ ⟨d, .makeFunc (.func fn) #[] xs.toArray, ty, pos, af, g⟩).run P w = .ok (.value (.func (.func fn) #[] vs.toArray)) w :=
  x_makeFunc (by simp) (by rw [List.map_toArray, evL_map h])
theorem zero_of {t : TypeId} {cs : Array Value} (hz : (P.info? t).bind (fun i => i.zero.map (·.cells)) = some cs) : ∃ i z, P.info? t = some i ∧ i.zero = some z ∧ z.cells = cs := by
  cases hi : P.info? t with
  | none => simp [hi] at hz
  | some i =>
    cases hq : i.zero with
    | none => simp [hi, hq] at hz
    | some z => exact ⟨i, z, rfl, hq, by simpa [hi, hq] using hz⟩
theorem x_allocz {t : TypeId} {cs : Array Value} (hz : (P.info? t).bind (fun i => i.zero.map (·.cells)) = some cs) : (execOp ρ ⟨d, .alloc t, ty, pos, af, g⟩).run P w = .ok (.value (.pointer (some ⟨w.heap.size, 0, none⟩))) (w.alloc (.cells cs t)) := by
  obtain ⟨i, z, h1, h2, rfl⟩ := zero_of hz
  exact x_alloc h1 h2
theorem x_buildSlicez {t e : Nat} {cs : Array Value} (ht : P.underlying t = some (.slice e)) (hz : (P.info? e).bind (fun i => i.zero.map (·.cells)) = some cs) :
    (execOp ρ ⟨d, .buildSlice t 0 #[], ty, pos, af, g⟩).run P w = .ok (.value (.slice (some ⟨w.heap.size, 0, none⟩) 0 0)) (w.alloc (.cells #[] e)) := by
  obtain ⟨i, z, h1, _, _⟩ := zero_of hz
  exact x_buildSlice0 ht h1
theorem x_loadw {t : TypeId} {u : TypeDesc} {x : Operand} {b o : Nat} {cs : List Value} (hu : P.underlying t = some u) (hd : u.isRow = true) (hi : (P.info? t).map (·.size) = some cs.length) (hx : ρ x = .pointer (some ⟨b, o, none⟩)) (hc : w.rangeAt b o cs) :
    (execOp ρ ⟨d, .load t x, ty, pos, af, g⟩).run P w = .ok (.value (.agg cs.toArray)) w := x_loadn hu hd hi hx hc
theorem x_fieldv {s f off : Nat} {x : Operand} {b o q : Nat} (hF : FieldAt P s f off) (hx : ρ x = .pointer (some ⟨b, o, none⟩)) (hq : o + off = q) :
    (execOp ρ ⟨d, .fieldAddr s x f, ty, pos, af, g⟩).run P w = .ok (.value (.pointer (some ⟨b, q, none⟩))) w := by subst hq; exact x_field hF hx
theorem x_elemA {t sz : Nat} {x y : Operand} {A : Option Addr} {b o n c k : Nat} {i : Int} (hE : ElemAt P t sz) (hx : ρ x = .slice A n c) (hA : A = some ⟨b, o, none⟩) (hy : ρ y = .int .i64 i) (hi : i = (k : Int)) (hk : k < n) :
    (execOp ρ ⟨d, .indexAddr t x y, ty, pos, af, g⟩).run P w = .ok (.value (.pointer (some ⟨b, o + k * sz, none⟩))) w := by subst hA; exact x_elem hE hx hy hi hk

def AtL (cs : Array Value) : Nat → List Value → Prop
  | _, [] => True
  | o, v :: r => cs[o]? = some v ∧ AtL cs (o + 1) r
theorem atL_get {cs : Array Value} : ∀ {sub : List Value} {o : Nat}, AtL cs o sub → ∀ j v, sub[j]? = some v → cs[o + j]? = some v
  | [], _, _, j, v, h => by simp at h
  | x :: r, o, ha, 0, v, h => by simp at h; subst h; exact ha.1
  | x :: r, o, ha, j + 1, v, h => by
    have := atL_get ha.2 j v (by simpa using h)
    rwa [show o + 1 + j = o + (j + 1) from by omega] at this
theorem Mem.range (h : Mem w0 G w L R) {i b t o : Nat} {cs : Array Value} {sub : List Value} (hi : L[i]? = some (Own.cells b t cs)) (ha : AtL cs o sub) : w.rangeAt b o sub :=
  fun j v hv => h.cell hi (atL_get ha j v hv)
theorem Mem.free (h : Mem w0 G w L R) {i b t : Nat} {cs : Array Value} (hi : L[i]? = some (Own.cells b t cs)) {o : Nat} : w.frozen? ⟨b, o, none⟩ = false := by
  simp [World.frozen?, h.cells_at hi]
def OneL : List Value → Prop
  | [] => True
  | v :: r => v.oneCell' = true ∧ OneL r
theorem oneL_all : ∀ {l : List Value}, OneL l → ∀ v ∈ l, v.oneCell' = true
  | [], _, v, h => by cases h
  | x :: r, h, v, hv => by
    rcases List.mem_cons.1 hv with rfl | hv
    · exact h.1
    · exact oneL_all h.2 v hv
theorem x_storew {t e : TypeId} {x y : Operand} {b : Nat} {old : Array Value} {cs : List Value} (hi : (P.info? t).map (·.size) = some cs.length) (hx : ρ x = .pointer (some ⟨b, 0, none⟩)) (hy : ρ y = .agg cs.toArray)
    (hg : w.heap[b]? = some (.cells old e (0, 0))) (ho : old.size = cs.length) (h1 : OneL cs) : (execOp ρ ⟨d, .store t x y, ty, pos, af, g⟩).run P w = .ok .skip (w.setRow b cs.toArray) :=
  x_storen (cs := cs.toArray) (by simpa using hi) (all_oneCell_toArray (oneL_all h1)) (by simpa using ho) hx hy hg
theorem Mem.dropL (h : Mem w0 G w L R) (k : Nat) : Mem w0 G w (L.drop k) R :=
  ⟨h.kept, fun x hx => h.own x (List.mem_of_mem_drop hx), fun x hx => h.base x (List.mem_of_mem_drop hx), h.dist.sublist (List.drop_sublist k L), h.ro, fun x hx => h.sep x (List.mem_of_mem_drop hx)⟩
theorem Mem.dropR (h : Mem w0 G w L R) (k : Nat) : Mem w0 G w L (R.drop k) :=
  ⟨h.kept, h.own, h.base, h.dist, fun r hr => h.ro r (List.mem_of_mem_drop hr), fun x hx r hr => h.sep x hx r (List.mem_of_mem_drop hr)⟩
theorem Mem.setRow (h : Mem w0 G w L R) {i b t : Nat} {old : Array Value} (hi : L[i]? = some (Own.cells b t old)) (cs : Array Value) : Mem w0 G (w.setRow b cs) (L.set i (Own.cells b t cs)) R :=
  h.write hi (by simp [World.setRow]) rfl rfl rfl (fun g _ hne => by
    have hg : g ≠ b := fun e => hne (by rw [e]; rfl)
    simp only [World.setRow, Array.getElem?_modify]
    rw [if_neg (fun e => hg e.symm)]) (setRow_heap w b old cs t (0, 0) (h.cells_at hi)) fun g hg => .inl hg
end

/-- A slice that is read: '.slice A l.length c' holds the elements of l, each as the sz cells 'E x'; its block lies from lo on and below hi. -/
def SlB {α : Type} (lo hi : Nat) (w : World) (A : Option Addr) (c sz : Nat) (E : α → List Value) (l : List α) : Prop :=
  l.length ≤ c ∧ c ≤ maxLen ∧ (A = none → c = 0) ∧
  ∀ k x, l[k]? = some x → ∃ g o, A = some ⟨g, o, none⟩ ∧ (lo ≤ g ∧ g < hi) ∧ ∀ j u, (E x)[j]? = some u → w.cell? ⟨g, o + k * sz + j, none⟩ = some u
def Ro.sl {α : Type} (lo hi : Nat) (A : Option Addr) (c sz : Nat) (E : α → List Value) (l : List α) : Ro where
  lo := lo
  hi := hi
  ok w := SlB lo hi w A c sz E l
  loc := fun w w' h hk => by
    refine ⟨h.1, h.2.1, h.2.2.1, fun k x hx => ?_⟩
    obtain ⟨g, o, hA, hg, hc⟩ := h.2.2.2 k x hx
    refine ⟨g, o, hA, hg, fun j u hu => ?_⟩
    rw [World.cell?_of_block (w := w) (hk g hg.1 hg.2)]
    exact hc j u hu
section
variable {w w' w0 : World} {G : List Nat} {L L' : List Own} {R : List Ro} {α : Type} {lo hi : Nat} {A : Option Addr} {c sz : Nat} {E : α → List Value} {l : List α}
theorem Mem.sl (h : Mem w0 G w L R) {i : Nat} (hi' : R[i]? = some (Ro.sl lo hi A c sz E l)) : SlB lo hi w A c sz E l := (h.ro _ (List.mem_of_getElem? hi')).1
theorem Mem.roat (h : Mem w0 G w L R) {i k : Nat} {x : α} (hi' : R[i]? = some (Ro.sl lo hi A c sz E l)) (hx : l[k]? = some x) : ∃ g o, A = some ⟨g, o, none⟩ := by
  obtain ⟨g, o, hA, _⟩ := (h.sl hi').2.2.2 k x hx
  exact ⟨g, o, hA⟩
theorem Mem.rocell (h : Mem w0 G w L R) {i k g o j : Nat} {x : α} {v : Value} (hi' : R[i]? = some (Ro.sl lo hi A c sz E l)) (hA : A = some ⟨g, o, none⟩) (hx : l[k]? = some x) (hv : (E x)[j]? = some v) : w.cell? ⟨g, o + k * sz + j, none⟩ = some v := by
  obtain ⟨g', o', hA', _, hc⟩ := (h.sl hi').2.2.2 k x hx
  rw [hA] at hA'
  injection hA' with hA'
  injection hA' with h1 h2
  subst h1; subst h2
  exact hc j v hv
theorem atE {cs : List Value} : ∀ {sub : List Value} {f : Nat}, AtL cs.toArray f sub → ∀ j v, sub[j]? = some v → cs[f + j]? = some v := fun h j v hv => by simpa using atL_get h j v hv
theorem Mem.rorange (h : Mem w0 G w L R) {i k g o f : Nat} {x : α} {sub : List Value} (hi' : R[i]? = some (Ro.sl lo hi A c sz E l)) (hA : A = some ⟨g, o, none⟩) (hx : l[k]? = some x) (hv : AtL (E x).toArray f sub) : w.rangeAt g (o + k * sz + f) sub := fun j v hj => by
  have := h.rocell hi' hA hx (atE hv j v hj)
  rwa [← Nat.add_assoc] at this
/-- The same, spelled by its words, for handing on. -/
theorem SlB.wide {lo' hi' : Nat} (h : SlB lo hi w A c sz E l) (h1 : lo' ≤ lo) (h2 : hi ≤ hi') : SlB lo' hi' w A c sz E l :=
  ⟨h.1, h.2.1, h.2.2.1, fun k x hx => by
    obtain ⟨g, o, hA, hg, hc⟩ := h.2.2.2 k x hx
    exact ⟨g, o, hA, ⟨by omega, by omega⟩, hc⟩⟩
theorem SlB.below {B : Nat} (h : SlB lo hi w A c sz E l) (hb : Below B w w') (hh : hi ≤ B) : SlB lo hi w' A c sz E l :=
  (Ro.sl lo hi A c sz E l).loc w w' h fun g _ hg => hb.block g (by show g < B; have : g < hi := hg; omega)
theorem SlB.nil (lo hi : Nat) (w : World) (sz : Nat) (E : α → List Value) : SlB lo hi w none 0 sz E ([] : List α) := ⟨by simp, by simp [maxLen], by simp, by simp⟩
end

/-! ### steps that turn the world -/
section
variable {P : Program} {ops : Array Oper} {Q : Exit → Act → World → Prop} {K : Act → World → Prop} {rest : List Oper} {o : Oper} {n : Nat} {l : List (Nat × Value)} {w w' w0 : World} {G : List Nat} {L L' : List Own} {R : List Ro} {cs : Array Value} {t : Nat}
theorem snew {d : Nat} {op : Op} {ty : TypeId} {pos : String} {af : Array Edge} (M : Mem w0 G w L R) (hd : Nat.blt d n = true)
    (hrun : (execOp (fr n l).eval ⟨some d, op, ty, pos, af, none⟩).run P w = .ok (.value (.pointer (some ⟨w.heap.size, 0, none⟩))) (w.alloc (.cells cs t)))
    (h : ∀ b w', Mem w0 G w' (Own.cells b t cs :: L) R → wpS P ops Q rest K (fr n ((d, .pointer (some ⟨b, 0, none⟩)) :: l)) w') : wpS P ops Q (⟨some d, op, ty, pos, af, none⟩ :: rest) K (fr n l) w :=
  st hd hrun (h _ _ (M.alloc t cs))
theorem snews {d : Nat} {op : Op} {ty : TypeId} {pos : String} {af : Array Edge} {m : Nat} (M : Mem w0 G w L R) (hd : Nat.blt d n = true)
    (hrun : (execOp (fr n l).eval ⟨some d, op, ty, pos, af, none⟩).run P w = .ok (.value (.slice (some ⟨w.heap.size, 0, none⟩) m m)) (w.alloc (.cells cs t)))
    (h : ∀ b w', Mem w0 G w' (Own.cells b t cs :: L) R → wpS P ops Q rest K (fr n ((d, .slice (some ⟨b, 0, none⟩) m m) :: l)) w') : wpS P ops Q (⟨some d, op, ty, pos, af, none⟩ :: rest) K (fr n l) w :=
  st hd hrun (h _ _ (M.alloc t cs))
theorem sset {op : Op} {ty : TypeId} {pos : String} {af : Array Edge} {i b : Nat} {old : Array Value} (M : Mem w0 G w L R) (hi : L[i]? = some (Own.cells b t old)) (hL : L.set i (Own.cells b t cs) = L')
    (hrun : (execOp (fr n l).eval ⟨none, op, ty, pos, af, none⟩).run P w = .ok .skip (w.setRow b cs))
    (h : ∀ w', Mem w0 G w' L' R → wpS P ops Q rest K (fr n l) w') : wpS P ops Q (⟨none, op, ty, pos, af, none⟩ :: rest) K (fr n l) w :=
  su hrun (h _ (hL ▸ M.setRow hi cs))
theorem sset1 {op : Op} {ty : TypeId} {pos : String} {af : Array Edge} {i b o : Nat} {old : Array Value} {v : Value} (M : Mem w0 G w L R) (hi : L[i]? = some (Own.cells b t old)) (hL : L.set i (Own.cells b t (old.setIfInBounds o v)) = L')
    (hrun : (execOp (fr n l).eval ⟨none, op, ty, pos, af, none⟩).run P w = .ok .skip (w.setCell ⟨b, o, none⟩ v))
    (h : ∀ w', Mem w0 G w' L' R → wpS P ops Q rest K (fr n l) w') : wpS P ops Q (⟨none, op, ty, pos, af, none⟩ :: rest) K (fr n l) w :=
  su hrun (h _ (hL ▸ M.set hi o v))
theorem dnew {i d : Nat} {op : Op} {ty : TypeId} {pos : String} {af : Array Edge} (M : Mem w0 G w L R) (hi : ops[i]? = some ⟨some d, op, ty, pos, af, none⟩) (hd : Nat.blt d n = true)
    (hrun : (execOp (fr n l).eval ⟨some d, op, ty, pos, af, none⟩).run P w = .ok (.value (.pointer (some ⟨w.heap.size, 0, none⟩))) (w.alloc (.cells cs t)))
    (h : ∀ b w', Mem w0 G w' (Own.cells b t cs :: L) R → K (fr n ((d, .pointer (some ⟨b, 0, none⟩)) :: l)) w') : wpOp P ops Q i K (fr n l) w :=
  dst hi hd hrun (h _ _ (M.alloc t cs))
theorem dnews {i d : Nat} {op : Op} {ty : TypeId} {pos : String} {af : Array Edge} {m : Nat} (M : Mem w0 G w L R) (hi : ops[i]? = some ⟨some d, op, ty, pos, af, none⟩) (hd : Nat.blt d n = true)
    (hrun : (execOp (fr n l).eval ⟨some d, op, ty, pos, af, none⟩).run P w = .ok (.value (.slice (some ⟨w.heap.size, 0, none⟩) m m)) (w.alloc (.cells cs t)))
    (h : ∀ b w', Mem w0 G w' (Own.cells b t cs :: L) R → K (fr n ((d, .slice (some ⟨b, 0, none⟩) m m) :: l)) w') : wpOp P ops Q i K (fr n l) w :=
  dst hi hd hrun (h _ _ (M.alloc t cs))
theorem dset {i k : Nat} {op : Op} {ty : TypeId} {pos : String} {af : Array Edge} {b : Nat} {old : Array Value} (M : Mem w0 G w L R) (hi : ops[i]? = some ⟨none, op, ty, pos, af, none⟩) (hk : L[k]? = some (Own.cells b t old)) (hL : L.set k (Own.cells b t cs) = L')
    (hrun : (execOp (fr n l).eval ⟨none, op, ty, pos, af, none⟩).run P w = .ok .skip (w.setRow b cs))
    (h : ∀ w', Mem w0 G w' L' R → K (fr n l) w') : wpOp P ops Q i K (fr n l) w :=
  dsu hi hrun (h _ (hL ▸ M.setRow hk cs))
theorem dset1 {i k : Nat} {op : Op} {ty : TypeId} {pos : String} {af : Array Edge} {b o : Nat} {old : Array Value} {v : Value} (M : Mem w0 G w L R) (hi : ops[i]? = some ⟨none, op, ty, pos, af, none⟩) (hk : L[k]? = some (Own.cells b t old)) (hL : L.set k (Own.cells b t (old.setIfInBounds o v)) = L')
    (hrun : (execOp (fr n l).eval ⟨none, op, ty, pos, af, none⟩).run P w = .ok .skip (w.setCell ⟨b, o, none⟩ v))
    (h : ∀ w', Mem w0 G w' L' R → K (fr n l) w') : wpOp P ops Q i K (fr n l) w :=
  dsu hi hrun (h _ (hL ▸ M.set hk o v))
end
section
variable {P : Program} {N : Act → World → Prop} {X : Nat → Act → World → Prop} {R : Act → World → Prop} {w : World} {x y : Code} {n : Nat} {l : List (Nat × Value)} {o : Operand}
theorem c_cond_t (hc : (fr n l).eval o = .bool true) (h : wpC P x N X R (fr n l) w) : wpC P (.cond o x y) N X R (fr n l) w := wp_cond_true hc h
theorem c_cond_f (hc : (fr n l).eval o = .bool false) (h : wpC P y N X R (fr n l) w) : wpC P (.cond o x y) N X R (fr n l) w := wp_cond_false hc h
end

/-! ### results, some of them in memory -/
def RV (P : Program) (n : Nat) (l : List (Nat × Value)) (w : World) : ResultVar → Value → Prop
  | .tmp t, v => (fr n l).eval (.tmp t) = v
  | .cell a t, v => ∃ b o, (fr n l).eval (.tmp a) = .pointer (some ⟨b, o, none⟩) ∧ (loadVar t ⟨b, o, none⟩).run P w = .ok v w
section
variable {P : Program} {fn : Func} {R : Ending → World → Prop} {n : Nat} {l : List (Nat × Value)} {w : World}
theorem rT {t : Nat} {v : Value} (h : (fr n l).eval (.tmp t) = v) : RV P n l w (.tmp t) v := h
theorem rL {a t b o : Nat} {u : TypeDesc} {cs : List Value} (ha : (fr n l).eval (.tmp a) = .pointer (some ⟨b, o, none⟩)) (hu : P.underlying t = some u) (hd : u.isRow = true) (hi : (P.info? t).map (·.size) = some cs.length) (hc : w.rangeAt b o cs) : RV P n l w (.cell a t) (.agg cs.toArray) :=
  ⟨b, o, ha, run_loadVar_mid w b o t cs u hc hu hd hi⟩
def resOne (tmps : Array Value) : ResultVar → Sem Value
  | .tmp t => pure (tmps.getD t undef)
  | .cell a t => do loadVar t (← asAddr (tmps.getD a undef))
theorem rv_run {r : ResultVar} {v : Value} (h : RV P n l w r v) : (resOne (fr n l).tmps r).run P w = .ok v w := by
  cases r with
  | tmp t =>
    have : (fr n l).tmps.getD t undef = v := h
    show Sem.run P (pure ((fr n l).tmps.getD t undef)) w = _
    rw [this]; rfl
  | cell a t =>
    obtain ⟨b, o, h1, h2⟩ := h
    have h1 : (fr n l).tmps.getD a undef = .pointer (some ⟨b, o, none⟩) := h1
    show Sem.run P (do loadVar t (← asAddr ((fr n l).tmps.getD a undef))) w = _
    rw [h1]
    simpa [asAddr] using h2
theorem results_eq (tmps : Array Value) : results fn tmps = (do let vs ← fn.results.mapM (resOne tmps); pure (if h : vs.size = 1 then vs[0] else .tuple vs)) := by
  have : resOne tmps = fun x => (match x with | .tmp t => pure (tmps.getD t undef) | .cell a t => (asAddr (tmps.getD a undef) >>= fun p => loadVar t p)) := by funext x; cases x <;> rfl
  rw [this]; rfl
theorem rm1 {r1 : ResultVar} {v1 : Value} (hr : fn.results = #[r1]) (h1 : RV P n l w r1 v1) (h : R (.returned v1) w) : retP P fn R (fr n l) w :=
  ⟨rfl, v1, by rw [results_eq, hr]; simp [rv_run h1], h⟩
theorem rm2 {r1 r2 : ResultVar} {v1 v2 : Value} (hr : fn.results = #[r1, r2]) (h1 : RV P n l w r1 v1) (h2 : RV P n l w r2 v2) (h : R (.returned (.tuple #[v1, v2])) w) : retP P fn R (fr n l) w :=
  ⟨rfl, .tuple #[v1, v2], by rw [results_eq, hr]; simp [rv_run h1, rv_run h2], h⟩
theorem rm3 {r1 r2 r3 : ResultVar} {v1 v2 v3 : Value} (hr : fn.results = #[r1, r2, r3]) (h1 : RV P n l w r1 v1) (h2 : RV P n l w r2 v2) (h3 : RV P n l w r3 v3) (h : R (.returned (.tuple #[v1, v2, v3])) w) : retP P fn R (fr n l) w :=
  ⟨rfl, .tuple #[v1, v2, v3], by rw [results_eq, hr]; simp [rv_run h1, rv_run h2, rv_run h3], h⟩
end
theorem ret_bool {a b : Bool} (h : a = b) : Ending.returned (.bool a) = .returned (.bool b) := by rw [h]
theorem ret_int {k : IntKind} {a b : Int} (h : a = b) : Ending.returned (.int k a) = .returned (.int k b) := by rw [h]
theorem c_loopH {P : Program} {N : Act → World → Prop} {X : Nat → Act → World → Prop} {R : Act → World → Prop} {w : World} {c : Code} {n : Nat} {cur live : List (Nat × Value)} (hh : Held cur live) (I : Nat → List (Nat × Value) → World → Prop) {m : Nat} (h0 : I m (live ++ cur) w)
    (round : ∀ m l w, I m l w → wpC P c (fun a w => ∃ m' l', m' < m ∧ a = fr n l' ∧ I m' l' w) X R (fr n l) w) : wpC P (.loop c) N X R (fr n cur) w := by
  rw [fr_held hh]; exact c_loop I h0 round
end Go.Proofs.Ytkimdlpfbojkgaa
