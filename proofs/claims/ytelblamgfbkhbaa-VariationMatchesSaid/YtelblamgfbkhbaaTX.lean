/- Operations on slices by explicit values (cap, slices of slices, copy, append), for walks; what a moved row is. No condition. -/
import Derived.Test.YtelblamgfbkhbaaTW
import Derived.Lib.Overlaps
import Derived.Lib.AppendZerosOnto
namespace Go.Proofs.Ytelblamgfbkhbaa
set_option linter.unusedVariables false
set_option linter.unusedSimpArgs false
open Go.RowKit Go.Lib
section
variable {P : Program} {ρ : Operand → Value} {w w' : World} {d : Option Tmp} {ty : TypeId} {pos : String} {af : Array Edge} {g : Option (Nat × Bool)} {t e : Nat} {te : TI}
theorem nmin {a b m : Nat} (h : m = min a b) : Nat.min a b = m := by subst h; rfl
theorem x_addE {t t' : TypeId} {k : IntKind} {x y : Operand} {p q r : Int} (hx : ρ x = .int k p) (hy : ρ y = .int k q) (h : k.wrap (p + q) = r) : (execOp ρ ⟨d, .binOp .add t x y t', ty, pos, af, g⟩).run P w = .ok (.value (.int k r)) w := by subst h; exact x_add hx hy
theorem x_subE {t t' : TypeId} {k : IntKind} {x y : Operand} {p q r : Int} (hx : ρ x = .int k p) (hy : ρ y = .int k q) (h : k.wrap (p - q) = r) : (execOp ρ ⟨d, .binOp .sub t x y t', ty, pos, af, g⟩).run P w = .ok (.value (.int k r)) w := by subst h; exact x_sub hx hy
theorem x_cap {x : Operand} {A : Option Addr} {n c : Nat} (ht : P.underlying t = some (.slice e)) (hx : ρ x = .slice A n c) :
  (execOp ρ ⟨d, .call { callee := .builtin .cap, args := #[x], argTypes := #[t] }, ty, pos, af, g⟩).run P w = .ok (.value (.int .i64 c)) w := by
 refine x_bi (f := Builtin.cap_) (fun _ _ _ _ => rfl) ?_
 simp [hx, Builtin.cap_, run_underlying ht, goInt]
theorem x_slA {x y : Operand} {A : Option Addr} {len cap l : Nat} (ht : P.underlying t = some (.slice e)) (he : Qbb P e te = true) (hx : ρ x = .slice A len cap) (hy : ρ y = .int .i64 l) (h1 : l ≤ len) (h2 : len ≤ cap) :
  (execOp ρ ⟨d, .slice t x (some y) none none, ty, pos, af, g⟩).run P w = .ok (.value (.slice (if cap = l then A else A.map (·.add (l * te.size))) (len - l) (cap - l))) w :=
 x_slice ht he hx (Qde (lo := some l) (hi := none) (vl := some (ρ y)) (vh := none) ⟨.i64, hy⟩ trivial h1 h2)
theorem x_slL {x y : Operand} {b o len cap l : Nat} (ht : P.underlying t = some (.slice e)) (he : Qbb P e te = true) (hx : ρ x = .slice (some ⟨b, o, none⟩) len cap) (hy : ρ y = .int .i64 l) (h1 : l ≤ len) (h2 : len ≤ cap) (h3 : l < cap) :
  (execOp ρ ⟨d, .slice t x (some y) none none, ty, pos, af, g⟩).run P w = .ok (.value (.slice (some ⟨b, o + l * te.size, none⟩) (len - l) (cap - l))) w := by
 have := x_slA (w := w) (d := d) (ty := ty) (pos := pos) (af := af) (g := g) ht he hx hy h1 h2
 rwa [if_neg (by omega), Option.map_some, Addr.add_mid] at this
theorem x_slH {x y : Operand} {A : Option Addr} {len cap h : Nat} (ht : P.underlying t = some (.slice e)) (he : Qbb P e te = true) (hx : ρ x = .slice A len cap) (hA : A = none ∨ ∃ b o, A = some ⟨b, o, none⟩) (hy : ρ y = .int .i64 h) (h1 : h ≤ cap) :
  (execOp ρ ⟨d, .slice t x none (some y) none, ty, pos, af, g⟩).run P w = .ok (.value (.slice A h cap)) w := by
 have := x_slice (w := w) (d := d) (ty := ty) (pos := pos) (af := af) (g := g) (lo := none) (hi := some y) (mx := none) ht he hx (Qde (lo := none) (hi := some h) (vl := none) (vh := some (ρ y)) trivial ⟨.i64, hy⟩ (Nat.zero_le _) h1)
 rw [this]
 rcases hA with rfl | ⟨b, o, rfl⟩
 ·simp
 ·simp only [Option.getD_none, Option.getD_some, Option.map_some, Addr.add_mid, Nat.zero_mul, Nat.add_zero, ite_self, Nat.sub_zero]
theorem x_slLH {x y z : Operand} {A : Option Addr} {len cap l h : Nat} (ht : P.underlying t = some (.slice e)) (he : Qbb P e te = true) (hx : ρ x = .slice A len cap) (hy : ρ y = .int .i64 l) (hz : ρ z = .int .i64 h) (h1 : l ≤ h) (h2 : h ≤ cap) :
  (execOp ρ ⟨d, .slice t x (some y) (some z) none, ty, pos, af, g⟩).run P w = .ok (.value (.slice (if cap = l then A else A.map (·.add (l * te.size))) (h - l) (cap - l))) w :=
 x_slice ht he hx (Qde (lo := some l) (hi := some h) (vl := some (ρ y)) (vh := some (ρ z)) ⟨.i64, hy⟩ ⟨.i64, hz⟩ h1 h2)
theorem x_slLHM {x y z u : Operand} {A : Option Addr} {len cap l h m : Nat} (ht : P.underlying t = some (.slice e)) (he : Qbb P e te = true) (hx : ρ x = .slice A len cap) (hy : ρ y = .int .i64 l) (hz : ρ z = .int .i64 h) (hu : ρ u = .int .i64 m) (h1 : l ≤ h) (h2 : h ≤ m) (h3 : m ≤ cap) :
  (execOp ρ ⟨d, .slice t x (some y) (some z) (some u), ty, pos, af, g⟩).run P w = .ok (.value (.slice (if m = l then A else A.map (·.add (l * te.size))) (h - l) (m - l))) w := by
 refine x_slice ht he hx ?_
 simp only [Option.map_some, hy, hz, hu]
 simp [Instr.sliceBounds, Qaj h3, Qaj h2, Qaj h1]
theorem run_first {b o n len cap : Nat} {cs : List Value} (hl : cs.length = n * te.size) (hr : w.rangeAt b o cs) : (Builtin.firstCells te.size n (.slice (some ⟨b, o, none⟩) len cap)).run P w = .ok cs.toArray w :=
 run_firstCells_some w te.size n ⟨b, o, none⟩ len cap cs hl fun j v hj => by rw [Addr.add_mid]; exact hr j v hj
theorem x_cp {x y : Operand} {b o dl dc b2 o2 sl sc m : Nat} {cs : List Value} (ht : P.underlying t = some (.slice e)) (he : Qbb P e te = true) (hx : ρ x = .slice (some ⟨b, o, none⟩) dl dc) (hy : ρ y = .slice (some ⟨b2, o2, none⟩) sl sc)
  (hm : Nat.min sl dl = m) (hl : cs.length = m * te.size) (hr : w.rangeAt b2 o2 cs) (hth : w.there b o cs.length) (h1 : ∀ u ∈ cs, u.oneCell' = true) :
  (execOp ρ ⟨d, .call { callee := .builtin .copy, args := #[x, y], argTypes := #[t, t] }, ty, pos, af, g⟩).run P w = .ok (.value (.int .i64 m)) (w.setCells b o cs) := by
 refine x_copy ?_
 have hs := Qcz (w := w) he
 have hf := run_first (P := P) (len := sl) (cap := sc) hl hr
 have hst := run_cells (P := P) hth h1
 subst hm
 simp [hx, hy, Builtin.copy_, run_underlying ht, Builtin.lenOf, hs, hf, hst, goInt]
theorem x_appR {x y : Operand} {b o n c b2 o2 m mc : Nat} {cs : List Value} (ht : P.underlying t = some (.slice e)) (he : Qbb P e te = true) (hx : ρ x = .slice (some ⟨b, o, none⟩) n c) (hy : ρ y = .slice (some ⟨b2, o2, none⟩) m mc)
  (hl : cs.length = m * te.size) (hr : w.rangeAt b2 o2 cs) (hth : w.there b (o + n * te.size) cs.length) (h1 : ∀ u ∈ cs, u.oneCell' = true) (hroom : n + m ≤ c) :
  (execOp ρ ⟨d, .call { callee := .builtin .append, args := #[x, y], argTypes := #[t, t] }, ty, pos, af, g⟩).run P w = .ok (.value (.slice (some ⟨b, o, none⟩) (n + m) c)) (w.setCells b (o + n * te.size) cs) := by
 refine x_append ?_
 rw [hx, hy]
 exact run_app_room ht he ht (fun _ h => by cases h) (by simp [Builtin.lenOf]) (run_first hl hr) hroom (.inr ⟨b, o, rfl, hth, h1, rfl⟩)
theorem x_app2 {x y : Operand} {t t1 : Nat} {vx vy v : Value} (hx : ρ x = vx) (hy : ρ y = vy) (h : (Builtin.append_ #[t, t1] ty #[vx, vy]).run P w = .ok v w') :
  (execOp ρ ⟨d, .call { callee := .builtin .append, args := #[x, y], argTypes := #[t, t1] }, ty, pos, af, g⟩).run P w = .ok (.value v) w' := x_append (by rw [hx, hy]; exact h)
theorem x_appR2 {x y : Operand} {b o n c m mc : Nat} {A2 : Option Addr} {cs : List Value} (ht : P.underlying t = some (.slice e)) (he : Qbb P e te = true) (hx : ρ x = .slice (some ⟨b, o, none⟩) n c) (hy : ρ y = .slice A2 m mc)
  (hf : (Builtin.firstCells te.size m (.slice A2 m mc)).run P w = .ok cs.toArray w) (hth : w.there b (o + n * te.size) cs.length) (h1 : ∀ u ∈ cs, u.oneCell' = true) (hroom : n + m ≤ c) :
  (execOp ρ ⟨d, .call { callee := .builtin .append, args := #[x, y], argTypes := #[t, t] }, ty, pos, af, g⟩).run P w = .ok (.value (.slice (some ⟨b, o, none⟩) (n + m) c)) (w.setCells b (o + n * te.size) cs) := by
 refine x_append ?_
 rw [hx, hy]
 exact run_app_room ht he ht (fun _ h => by cases h) (by simp [Builtin.lenOf]) hf hroom (.inr ⟨b, o, rfl, hth, h1, rfl⟩)
theorem run_appG {A : Option Addr} {n c b2 o2 m mc : Nat} {cs olds : List Value} (ht : P.underlying t = some (.slice e)) (he : Qbb P e te = true)
  (hl : cs.length = m * te.size) (hr : w.rangeAt b2 o2 cs) (hroom : c < n + m) (hfit : Qbk (n + m) te = true) (ho : (Builtin.firstCells te.size n (.slice A n c)).run P w.drew = .ok olds.toArray w.drew) :
  ∃ (c' : Nat) (rest : Array Value), n + m ≤ c' ∧ c' ≤ maxLen ∧ rest.size = (c' - (n + m)) * te.size ∧
  ∀ ty, (Builtin.append_ #[t, t] ty #[.slice A n c, .slice (some ⟨b2, o2, none⟩) m mc]).run P w = .ok (.slice (some ⟨w.heap.size, 0, none⟩) (n + m) c') (w.drew.alloc (.cells ((olds ++ cs).toArray ++ rest) e)) := by
 obtain ⟨hf1, hf2⟩ := fits_of hfit
 obtain ⟨ie, ze, hie, hse, hbe, hze, hzl⟩ := Qau he
 have hzs : ze.cells.size = te.size := by rw [← tyOK_len he, ← (hzl w (fun _ => False)).length, Array.length_toList]
 refine ⟨grownCap w (n + m) c e, Builtin.zeroCells ze.cells (grownCap w (n + m) c e - (n + m)), grownCap_ge w _ _ e, grownCap_le_maxLen w _ _ e hf2, by rw [size_zeroCells, hzs], fun ty => ?_⟩
 have hf := run_first (P := P) (w := w.drew) (te := te) (len := m) (cap := mc) hl (by simpa using hr)
 have hn : ¬ (n + m ≤ c) := by omega
 have hgf := growslice_fits (bytes := te.bytes) hroom hf1
 have hs := Qcz (w := w) he
 have h48 : ¬ (281474976710656 < Builtin.nextslicecap (n + m) c * ie.bytes) := by rw [hbe]; omega
 have hzv : (zeroValue e).run P w.drew = .ok ze w.drew := by simp [zeroValue, typeInfo, hie, hze]
 have h63 : ¬ (9223372036854775807 < (n : Int) + (m : Int)) := by unfold maxLen at hf2; omega
 have hl2 : (Builtin.lenOf (.slice (some ⟨b2, o2, none⟩) m mc)).run P w = .ok m w := by simp [Builtin.lenOf]
 simp [Builtin.append_, run_underlying ht, hs, hl2, hn, h48, Question.forced, ho, hf, newRow, grownCap, hzv, typeInfo, hie, h63]
 congr 2
 apply Array.ext'
 simp [List.append_assoc]
theorem run_appZ {A : Option Addr} {t3 n c k : Nat} {olds : List Value} (ht : P.underlying t = some (.slice e)) (h3 : P.underlying t3 = some (.int .i64)) (he : Qbb P e te = true)
  (h0 : 0 < k) (hs : 0 < te.size) (hroom : c < n + k) (hfit : Qbk (n + k) te = true) (ho : (Builtin.firstCells te.size n (.slice A n c)).run P w.drew = .ok olds.toArray w.drew) :
  ∃ (c' : Nat) (rest : Array Value), n + k ≤ c' ∧ c' ≤ maxLen ∧ rest.size = (k + (c' - (n + k))) * te.size ∧
  ∀ ty, (Builtin.append_ #[t, t3] ty #[.slice A n c, .int .i64 k]).run P w = .ok (.slice (some ⟨w.heap.size, 0, none⟩) (n + k) c') (w.drew.alloc (.cells (olds.toArray ++ rest) e)) := by
 obtain ⟨hf1, hf2⟩ := fits_of hfit
 obtain ⟨ie, ze, hie, hse, hbe, hze, hzl⟩ := Qau he
 have hzs : ze.cells.size = te.size := by rw [← tyOK_len he, ← (hzl w (fun _ => False)).length, Array.length_toList]
 have h48 : k * te.bytes ≤ 281474976710656 := Nat.le_trans (Nat.mul_le_mul_right _ (by omega)) (Nat.le_trans hf1 (by omega))
 refine ⟨grownCap w (n + k) c e, Builtin.zeroCells ze.cells k ++ Builtin.zeroCells ze.cells (grownCap w (n + k) c e - (n + k)), grownCap_ge w _ _ e, grownCap_le_maxLen w _ _ e hf2, by rw [Array.size_append, size_zeroCells, size_zeroCells, hzs, Nat.add_mul], fun ty => ?_⟩
 have := run_append_grow_zeros (P := P) w t t3 ty e ie ze .i64 .i64 ht h3 hie hze A n c olds (by rw [hse]; exact ho) k h0 (by rw [hse]; exact hs) hroom (by unfold maxLen at hf2; omega) (by rw [hbe]; exact h48) (by rw [hbe]; exact growslice_fits hroom hf1)
 rw [this, Array.append_assoc]
theorem x_slLH2 {x y z : Operand} {b o len cap l h : Nat} (ht : P.underlying t = some (.slice e)) (he : Qbb P e te = true) (hx : ρ x = .slice (some ⟨b, o, none⟩) len cap) (hy : ρ y = .int .i64 l) (hz : ρ z = .int .i64 h) (h1 : l ≤ h) (h2 : h ≤ cap) (h3 : l < cap) :
  (execOp ρ ⟨d, .slice t x (some y) (some z) none, ty, pos, af, g⟩).run P w = .ok (.value (.slice (some ⟨b, o + l * te.size, none⟩) (h - l) (cap - l))) w := by
 have := x_slLH (w := w) (d := d) (ty := ty) (pos := pos) (af := af) (g := g) ht he hx hy hz h1 h2
 rwa [if_neg (by omega), Option.map_some, Addr.add_mid] at this
theorem run_clr (ht : P.underlying t = some (.slice e)) (he : Qbb P e te = true) : ∃ zs : List Value, zs.length = te.size ∧ ∀ (w : World) (b o m mc : Nat) (ty : TypeId), m = 1 → w.there b o te.size → (Builtin.clear_ #[t] ty #[.slice (some ⟨b, o, none⟩) m mc]).run P w = .ok (.tuple #[]) (w.setCells b o zs) := by
 obtain ⟨ie, ze, hie, hse, hbe, hze, hzl⟩ := Qau he
 have hzs : ∀ w : World, ze.cells.size = te.size := fun w => by rw [← tyOK_len he, ← (hzl w (fun _ => False)).length, Array.length_toList]
 refine ⟨ze.cells.toList, ?_, fun w b o m mc ty hm hth => ?_⟩
 ·have := hzl (World.mk #[] default default default default) (fun _ => False)
  rw [this.length, tyOK_len he]
 ·subst hm
  have h1 : ∀ u ∈ ze.cells.toList, u.oneCell' = true := PRL.one (hzl w (fun _ => False))
  have hst := run_cells (P := P) (w := w) (b := b) (o := o) (vs := ze.cells.toList) (by rw [Array.length_toList, hzs w]; exact hth) h1
  have hzc : (Builtin.zeroCells ze.cells 1).toList = ze.cells.toList := by
   simp only [Builtin.zeroCells, Nat.one_mul, Array.toList_map, Array.toList_range]
   refine List.ext_getElem (by simp) fun i h2 h3 => ?_
   have h4 : i < ze.cells.size := by simpa using h3
   simp [Nat.mod_eq_of_lt h4, h4]
  simp [Builtin.clear_, run_underlying ht, zeroValue, typeInfo, hie, hze, hzc, hst]
theorem x_callV2 {k : Nat} {f x y : Operand} {ts : Array TypeId} {vx vy v : Value} (hE : (callFunc k #[vx, vy]).run P w = .ok (.value v) w) (hf : ρ f = .func (.func k) #[] #[]) (hx : ρ x = vx) (hy : ρ y = vy) :
  (execOp ρ ⟨d, .call { callee := .value f, args := #[x, y], argTypes := ts }, ty, pos, af, g⟩).run P w = .ok (.value v) w := by
 subst hx; subst hy
 simp [execOp, resolve, hf, Deferred.ofValue, invoke, hE]
end
def Far (b : Nat) (w w' : World) : Prop := w'.os = w.os ∧ w'.tape = w.tape ∧ (w'.output = w.output ∧ w.drawn ≤ w'.drawn) ∧ w.heap.size ≤ w'.heap.size ∧ ∀ k, k < w.heap.size → k ≠ b → w'.heap[k]? = w.heap[k]?
section
variable {w w' w'' : World} {b : Nat}
theorem Far.refl : Far b w w := ⟨rfl, rfl, ⟨rfl, Nat.le_refl _⟩, Nat.le_refl _, fun _ _ _ => rfl⟩
theorem Far.trans (h : Far b w w') (k : Far b w' w'') : Far b w w'' :=
 ⟨k.1.trans h.1, k.2.1.trans h.2.1, ⟨k.2.2.1.1.trans h.2.2.1.1, Nat.le_trans h.2.2.1.2 k.2.2.1.2⟩, Nat.le_trans h.2.2.2.1 k.2.2.2.1, fun j hj hn => (k.2.2.2.2 j (Nat.lt_of_lt_of_le hj h.2.2.2.1) hn).trans (h.2.2.2.2 j hj hn)⟩
theorem Far.put (h : Far b w w') (o : Nat) (vs : List Value) : Far b w (w'.setCells b o vs) := by
 obtain ⟨f1, f2, f3, f4, f5⟩ := Qaz b vs o w'
 exact h.trans ⟨f1, f2, f3, by omega, fun k _ hk => f5 k hk⟩
theorem Far.drew (h : Far b w w') : Far b w w'.drew := h.trans ⟨rfl, rfl, ⟨rfl, Nat.le_succ _⟩, Nat.le_refl _, fun _ _ _ => rfl⟩
theorem Far.alloc (h : Far b w w') (o : Obj) : Far b w (w'.alloc o) := h.trans ⟨rfl, rfl, ⟨rfl, Nat.le_refl _⟩, (by show _ ≤ (w'.heap.push o).size; rw [Array.size_push]; omega), fun k hk _ => Below.heap_alloc w' o k hk⟩
theorem Qbx {o m : Nat} {vs : List Value} (hg : ∃ t cs, w.heap[b]? = some (.cells cs t (0, 0)) ∧ m ≤ cs.size) (hle : o + vs.length ≤ m) : ∃ t cs, (w.setCells b o vs).heap[b]? = some (.cells cs t (0, 0)) ∧ m ≤ cs.size := by
 obtain ⟨t, cs, h1, h2⟩ := hg
 obtain ⟨cs', h3, h4⟩ := setCells_size (vs := vs) (o := o) h1 (by omega)
 exact ⟨t, cs', h3, by omega⟩
theorem rangeAt_app {o : Nat} {us vs : List Value} (h : w.rangeAt b o us) (k : w.rangeAt b (o + us.length) vs) : w.rangeAt b o (us ++ vs) := fun j v hj => by
 rcases Nat.lt_or_ge j us.length with hl | hl
 ·rw [List.getElem?_append_left hl] at hj; exact h j v hj
 ·rw [List.getElem?_append_right hl] at hj
  have := k (j - us.length) v hj
  rwa [show o + us.length + (j - us.length) = o + j by omega] at this
variable {P : Program} {X : Nat → Prop} {φ : Phi} {H : Hp}
theorem moved {k sz b' o' c' : Nat} {l : Loc} {es' : List (List PV)} {vss : List (List Value)} (hH : HR X φ H w) (hk : H.length = k) (hl : φ 0 = .at false l) (hnc : es'.length ≤ c') (hc' : c' ≤ maxLen)
  {b0 : Nat} (hf : Far b0 w w') (hb0 : b0 < w.heap.size → ∃ p, l.A = some (b0, p)) (hA : (∃ p, l.A = some (b', p)) ∨ (w.heap.size ≤ b' ∧ b' < w'.heap.size))
  (hcell : ∃ t cs, w'.heap[b']? = some (.cells cs t (0, 0)) ∧ o' + c' * sz ≤ cs.size) (hv : PRLL w (YOf X φ) sz es' vss) (hr : w'.rangeAt b' o' vss.flatten) :
  Ret X φ H w [(.own k, hput (hset H 0 none) k (.row false sz es'))] (.returned (.slice (some ⟨b', o', none⟩) es'.length c')) w' := by
 subst hk
 obtain ⟨f1, f2, f3, f4, f5⟩ := hf
 have hfr := hH.free
 obtain ⟨h1, ev⟩ := HR.move (l' := ⟨some (b', o'), es'.length, c', sz⟩) (x := .row false sz es') hH hfr hl f1 f2 f3 f4 (fun k hk hn => f5 k hk fun e => by subst e; obtain ⟨p, hp⟩ := hb0 hk; exact hn p hp)
  (fun b p' e => by simp only [Option.some.injEq, Prod.mk.injEq] at e; obtain ⟨rfl, rfl⟩ := e; exact hA) (fun ev => by
   obtain ⟨t, cs, h3, h4⟩ := hcell
   simp only [OR]
   exact ⟨trivial, trivial, trivial, hnc, hc', .inr ⟨b', o', t, cs, rfl, h3, h4, PRE.of_flat (PRLL.stay (ev.stay X) hv) hr, fun h => by cases h⟩⟩)
 refine ⟨_, List.mem_singleton.2 rfl, _, _, rfl, ?_, h1, ev, length_move (Nat.le_refl _), fun j hj hfj => ?_⟩
 ·simp only [VR]
  refine ⟨rfl, (by rw [Phi.set_self]; intro h; cases h), fun z l' hz => ?_⟩
  rw [Phi.set_self] at hz
  cases hz
  simp [Loc.addr]
 ·have hj0 : j ≠ 0 := fun e => by subst e; rw [hl] at hfj; cases hfj
  rw [Phi.set_ne (by omega), Phi.set_ne hj0]; exact hfj
end
end Go.Proofs.Ytelblamgfbkhbaa
