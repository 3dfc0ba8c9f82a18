/- slices.Insert of one element and slices.Delete of one element, walked; both as calls on own rows. No condition. -/
import Derived.Test.YtelblamgfbkhbaaTyM
import Derived.Test.YtelblamgfbkhbaaTX
namespace Go.Proofs.Ytelblamgfbkhbaa
set_option linter.unusedVariables false
set_option linter.unusedSimpArgs false
open Go.RowKit Go.Lib Go.Proofs.Ytelblamgfbkhbaa.W
def te52 : TI := ⟨.struct [(9, 0), (9, 1), (3, 2), (3, 3)], 4, 48, [.str ByteArray.empty, .str ByteArray.empty, .int .i64 0, .int .i64 0]⟩
theorem in_hu : Try.prog.underlying 25 = some (.slice 52) := Try.underlying25
theorem in_he : Qbb Try.prog 52 te52 = true := by kernel_rfl
theorem in_i3 : Try.prog.underlying 3 = some (.int .i64) := Try.underlying3
theorem in_mixed : Try.prog.follows .mixedOrders = true := by kernel_rfl
theorem there_new {w : World} {C : Array Value} {t o n : Nat} (h : o + n ≤ C.size) : (w.alloc (.cells C t)).there w.heap.size o n := fun j hj =>
 ⟨by rw [World.cell?_alloc_new, Array.getElem?_eq_getElem (by omega)]; rfl, World.frozen?_alloc_new w C t (o + j)⟩
section
variable {b off n c i vb voff vc : Nat} {ca cd vs cs : List Value} {w : World} {R : Ending → World → Prop}
set_option maxHeartbeats 4000000 in
set_option maxRecDepth 20000 in
theorem ins_er (hn : n + 1 ≤ c) (hc : c ≤ 9223372036854775807) (hvl : vs.length = 1 * te52.size) (hv : w.rangeAt vb voff vs) (htv : w.there b (off + n * te52.size) vs.length) (h1v : ∀ u ∈ vs, u.oneCell' = true)
  (hpost : R (.returned (.slice (some ⟨b, off, none⟩) (n + 1) c)) (w.setCells b (off + n * te52.size) vs)) :
  Calls Try.prog 64 #[.slice (some ⟨b, off, none⟩) n c, .int .i64 ((n : Nat) : Int), .slice (some ⟨vb, voff, none⟩) 1 vc] w R := by
 have hu := in_hu; have he := in_he; have hi3 := in_i3; have mixed := in_mixed
 refine W.enter (args := [Value.slice (some (⟨b, off, none⟩ : Addr)) n c, Value.int .i64 ((n : Nat) : Int), Value.slice (some ⟨vb, voff, none⟩) 1 vc]) Try.func64 rfl (n := 95) rfl rfl fun T hT => ?_
 refine Qam fun K1 hK1 => ?_
 refine Qbm ?_
 refine st (v := Value.slice none 0 0) rfl (Qak (v := Value.slice none 0 0) rfl) ?_
 refine Qbl ?_
 refine hK1 _ _ ?_
 refine Qam fun K2 hK2 => ?_
 refine Qbm ?_
 refine st (v := Value.slice (some (⟨b, off, none⟩ : Addr)) n c) rfl (Qu (v := Value.slice (some (⟨b, off, none⟩ : Addr)) n c) (Qj (v := Value.slice (some (⟨b, off, none⟩ : Addr)) n c) rfl rfl)) ?_
 refine st (v := Value.int .i64 ((n : Nat) : Int)) rfl (Qu (v := Value.int .i64 ((n : Nat) : Int)) (Qj (v := Value.int .i64 ((n : Nat) : Int)) rfl rfl)) ?_
 refine st (v := Value.slice (if c = n then (some (⟨b, off, none⟩ : Addr)) else (some (⟨b, off, none⟩ : Addr)).map (·.add (n * te52.size))) (n - n) (c - n)) rfl (x_slA hu he (Qj (v := Value.slice (some (⟨b, off, none⟩ : Addr)) n c) rfl rfl) (Qj (v := Value.int .i64 ((n : Nat) : Int)) rfl rfl) (by omega) (by omega)) ?_
 refine Qbl ?_
 refine hK2 _ _ ?_
 refine Qam fun K3 hK3 => ?_
 refine Qbm ?_
 refine st (v := Value.slice (some ⟨vb, voff, none⟩) 1 vc) rfl (Qu (v := Value.slice (some ⟨vb, voff, none⟩) 1 vc) (Qj (v := Value.slice (some ⟨vb, voff, none⟩) 1 vc) rfl rfl)) ?_
 refine st (v := Value.int .i64 ((1 : Nat) : Int)) rfl (x_lensl hu (Qj (v := Value.slice (some ⟨vb, voff, none⟩) 1 vc) rfl rfl)) ?_
 refine st (v := Value.int .i64 ((1 : Nat) : Int)) rfl (Qak (v := Value.int .i64 ((1 : Nat) : Int)) (Qj (v := Value.int .i64 ((1 : Nat) : Int)) rfl rfl)) ?_
 refine Qbl ?_
 refine hK3 _ _ ?_
 refine Qam fun K4 hK4 => ?_
 refine Qam fun K5 hK5 => ?_
 refine Qbm ?_
 refine st (v := Value.int .i64 ((1 : Nat) : Int)) rfl (Qu (v := Value.int .i64 ((1 : Nat) : Int)) (Qj (v := Value.int .i64 ((1 : Nat) : Int)) rfl rfl)) ?_
 refine st (v := Value.bool (decide (((1 : Nat) : Int) = 0))) rfl (x_eql (k := .i64) (p := ((1 : Nat) : Int)) (q := 0) (Qj (v := Value.int .i64 ((1 : Nat) : Int)) rfl rfl) rfl) ?_
 refine Qbl ?_
 refine hK5 _ _ ?_
 refine c_cond (b := decide (((1 : Nat) : Int) = 0)) (Qj rfl rfl) (fun hc => absurd (of_decide_eq_true hc) (by omega)) (fun hc => ?_)
 refine c_skip ?_
 refine hK4 _ _ ?_
 refine Qam fun K6 hK6 => ?_
 refine Qbm ?_
 refine st (v := Value.slice (some (⟨b, off, none⟩ : Addr)) n c) rfl (Qu (v := Value.slice (some (⟨b, off, none⟩ : Addr)) n c) (Qj (v := Value.slice (some (⟨b, off, none⟩ : Addr)) n c) rfl rfl)) ?_
 refine st (v := Value.int .i64 ((n : Nat) : Int)) rfl (x_lensl hu (Qj (v := Value.slice (some (⟨b, off, none⟩ : Addr)) n c) rfl rfl)) ?_
 refine st (v := Value.int .i64 ((n : Nat) : Int)) rfl (Qak (v := Value.int .i64 ((n : Nat) : Int)) (Qj (v := Value.int .i64 ((n : Nat) : Int)) rfl rfl)) ?_
 refine Qbl ?_
 refine hK6 _ _ ?_
 refine Qam fun K7 hK7 => ?_
 refine Qam fun K8 hK8 => ?_
 refine Qbm ?_
 refine st (v := Value.int .i64 ((n : Nat) : Int)) rfl (Qu (v := Value.int .i64 ((n : Nat) : Int)) (Qj (v := Value.int .i64 ((n : Nat) : Int)) rfl rfl)) ?_
 refine st (v := Value.int .i64 ((n : Nat) : Int)) rfl (Qu (v := Value.int .i64 ((n : Nat) : Int)) (Qj (v := Value.int .i64 ((n : Nat) : Int)) rfl rfl)) ?_
 refine st (v := Value.bool (decide (((n : Nat) : Int) = ((n : Nat) : Int)))) rfl (x_eql (k := .i64) (p := ((n : Nat) : Int)) (q := ((n : Nat) : Int)) (Qj (v := Value.int .i64 ((n : Nat) : Int)) rfl rfl) (Qj (v := Value.int .i64 ((n : Nat) : Int)) rfl rfl)) ?_
 refine Qbl ?_
 refine hK8 _ _ ?_
 refine c_cond (b := decide (((n : Nat) : Int) = ((n : Nat) : Int))) (Qj rfl rfl) (fun hc => ?_) (fun hc => absurd rfl (of_decide_eq_false hc))
 refine Qam fun K9 hK9 => ?_
 refine Qbm ?_
 refine st (v := Value.slice (some (⟨b, off, none⟩ : Addr)) n c) rfl (Qu (v := Value.slice (some (⟨b, off, none⟩ : Addr)) n c) (Qj (v := Value.slice (some (⟨b, off, none⟩ : Addr)) n c) rfl rfl)) ?_
 refine st (v := Value.slice (some ⟨vb, voff, none⟩) 1 vc) rfl (Qu (v := Value.slice (some ⟨vb, voff, none⟩) 1 vc) (Qj (v := Value.slice (some ⟨vb, voff, none⟩) 1 vc) rfl rfl)) ?_
 refine st (v := Value.slice (some (⟨b, off, none⟩ : Addr)) (n + 1) c) rfl (x_appR (te := te52) (n := n) (m := 1) (cs := vs) hu he (Qj (v := Value.slice (some (⟨b, off, none⟩ : Addr)) n c) rfl rfl) (Qj (v := Value.slice (some ⟨vb, voff, none⟩) 1 vc) rfl rfl) hvl hv htv h1v (by omega)) ?_
 refine st (v := Value.slice (some (⟨b, off, none⟩ : Addr)) (n + 1) c) rfl (Qak (v := Value.slice (some (⟨b, off, none⟩ : Addr)) (n + 1) c) (Qj (v := Value.slice (some (⟨b, off, none⟩ : Addr)) (n + 1) c) rfl rfl)) ?_
 refine Qbl ?_
 refine hK9 _ _ ?_
 refine c_ret ?_
 refine hT _ _ ?_
 refine r1 rfl (Qj (v := Value.slice (some (⟨b, off, none⟩ : Addr)) (n + 1) c) rfl rfl) ?_
 exact hpost
set_option maxHeartbeats 4000000 in
set_option maxRecDepth 20000 in
theorem ins_eg {A : Option Addr} (hnc : n ≤ c) (hn : c < n + 1) (hfit : Qbk (n + 1) te52 = true) (hold : (Builtin.firstCells te52.size n (.slice A n c)).run Try.prog w.drew = .ok cs.toArray w.drew) (hvl : vs.length = 1 * te52.size) (hv : w.rangeAt vb voff vs)
  (hpost : ∀ c1 rest, n + 1 ≤ c1 → c1 ≤ maxLen → rest.size = (c1 - (n + 1)) * te52.size → R (.returned (.slice (some ⟨w.heap.size, 0, none⟩) (n + 1) c1)) (w.drew.alloc (.cells ((cs ++ vs).toArray ++ rest) 52))) :
  Calls Try.prog 64 #[.slice A n c, .int .i64 ((n : Nat) : Int), .slice (some ⟨vb, voff, none⟩) 1 vc] w R := by
 have hu := in_hu; have he := in_he; have hi3 := in_i3; have mixed := in_mixed
 refine W.enter (args := [Value.slice A n c, Value.int .i64 ((n : Nat) : Int), Value.slice (some ⟨vb, voff, none⟩) 1 vc]) Try.func64 rfl (n := 95) rfl rfl fun T hT => ?_
 refine Qam fun K1 hK1 => ?_
 refine Qbm ?_
 refine st (v := Value.slice none 0 0) rfl (Qak (v := Value.slice none 0 0) rfl) ?_
 refine Qbl ?_
 refine hK1 _ _ ?_
 refine Qam fun K2 hK2 => ?_
 refine Qbm ?_
 refine st (v := Value.slice A n c) rfl (Qu (v := Value.slice A n c) (Qj (v := Value.slice A n c) rfl rfl)) ?_
 refine st (v := Value.int .i64 ((n : Nat) : Int)) rfl (Qu (v := Value.int .i64 ((n : Nat) : Int)) (Qj (v := Value.int .i64 ((n : Nat) : Int)) rfl rfl)) ?_
 refine st (v := Value.slice (if c = n then A else A.map (·.add (n * te52.size))) (n - n) (c - n)) rfl (x_slA hu he (Qj (v := Value.slice A n c) rfl rfl) (Qj (v := Value.int .i64 ((n : Nat) : Int)) rfl rfl) (by omega) (by omega)) ?_
 refine Qbl ?_
 refine hK2 _ _ ?_
 refine Qam fun K3 hK3 => ?_
 refine Qbm ?_
 refine st (v := Value.slice (some ⟨vb, voff, none⟩) 1 vc) rfl (Qu (v := Value.slice (some ⟨vb, voff, none⟩) 1 vc) (Qj (v := Value.slice (some ⟨vb, voff, none⟩) 1 vc) rfl rfl)) ?_
 refine st (v := Value.int .i64 ((1 : Nat) : Int)) rfl (x_lensl hu (Qj (v := Value.slice (some ⟨vb, voff, none⟩) 1 vc) rfl rfl)) ?_
 refine st (v := Value.int .i64 ((1 : Nat) : Int)) rfl (Qak (v := Value.int .i64 ((1 : Nat) : Int)) (Qj (v := Value.int .i64 ((1 : Nat) : Int)) rfl rfl)) ?_
 refine Qbl ?_
 refine hK3 _ _ ?_
 refine Qam fun K4 hK4 => ?_
 refine Qam fun K5 hK5 => ?_
 refine Qbm ?_
 refine st (v := Value.int .i64 ((1 : Nat) : Int)) rfl (Qu (v := Value.int .i64 ((1 : Nat) : Int)) (Qj (v := Value.int .i64 ((1 : Nat) : Int)) rfl rfl)) ?_
 refine st (v := Value.bool (decide (((1 : Nat) : Int) = 0))) rfl (x_eql (k := .i64) (p := ((1 : Nat) : Int)) (q := 0) (Qj (v := Value.int .i64 ((1 : Nat) : Int)) rfl rfl) rfl) ?_
 refine Qbl ?_
 refine hK5 _ _ ?_
 refine c_cond (b := decide (((1 : Nat) : Int) = 0)) (Qj rfl rfl) (fun hc => absurd (of_decide_eq_true hc) (by omega)) (fun hc => ?_)
 refine c_skip ?_
 refine hK4 _ _ ?_
 refine Qam fun K6 hK6 => ?_
 refine Qbm ?_
 refine st (v := Value.slice A n c) rfl (Qu (v := Value.slice A n c) (Qj (v := Value.slice A n c) rfl rfl)) ?_
 refine st (v := Value.int .i64 ((n : Nat) : Int)) rfl (x_lensl hu (Qj (v := Value.slice A n c) rfl rfl)) ?_
 refine st (v := Value.int .i64 ((n : Nat) : Int)) rfl (Qak (v := Value.int .i64 ((n : Nat) : Int)) (Qj (v := Value.int .i64 ((n : Nat) : Int)) rfl rfl)) ?_
 refine Qbl ?_
 refine hK6 _ _ ?_
 refine Qam fun K7 hK7 => ?_
 refine Qam fun K8 hK8 => ?_
 refine Qbm ?_
 refine st (v := Value.int .i64 ((n : Nat) : Int)) rfl (Qu (v := Value.int .i64 ((n : Nat) : Int)) (Qj (v := Value.int .i64 ((n : Nat) : Int)) rfl rfl)) ?_
 refine st (v := Value.int .i64 ((n : Nat) : Int)) rfl (Qu (v := Value.int .i64 ((n : Nat) : Int)) (Qj (v := Value.int .i64 ((n : Nat) : Int)) rfl rfl)) ?_
 refine st (v := Value.bool (decide (((n : Nat) : Int) = ((n : Nat) : Int)))) rfl (x_eql (k := .i64) (p := ((n : Nat) : Int)) (q := ((n : Nat) : Int)) (Qj (v := Value.int .i64 ((n : Nat) : Int)) rfl rfl) (Qj (v := Value.int .i64 ((n : Nat) : Int)) rfl rfl)) ?_
 refine Qbl ?_
 refine hK8 _ _ ?_
 refine c_cond (b := decide (((n : Nat) : Int) = ((n : Nat) : Int))) (Qj rfl rfl) (fun hc => ?_) (fun hc => absurd rfl (of_decide_eq_false hc))
 refine Qam fun K9 hK9 => ?_
 obtain ⟨c1, rest, hc1, hc2, hrs, hrun⟩ := run_appG (te := te52) (A := A) (n := n) (c := c) (m := 1) (cs := vs) (olds := cs) (mc := vc) hu he hvl hv (by omega) hfit hold
 refine Qbm ?_
 refine st (v := Value.slice A n c) rfl (Qu (v := Value.slice A n c) (Qj (v := Value.slice A n c) rfl rfl)) ?_
 refine st (v := Value.slice (some ⟨vb, voff, none⟩) 1 vc) rfl (Qu (v := Value.slice (some ⟨vb, voff, none⟩) 1 vc) (Qj (v := Value.slice (some ⟨vb, voff, none⟩) 1 vc) rfl rfl)) ?_
 refine st (v := Value.slice (some ⟨w.heap.size, 0, none⟩) (n + 1) c1) rfl (x_app2 (Qj (v := Value.slice A n c) rfl rfl) (Qj (v := Value.slice (some ⟨vb, voff, none⟩) 1 vc) rfl rfl) (hrun _)) ?_
 refine st (v := Value.slice (some ⟨w.heap.size, 0, none⟩) (n + 1) c1) rfl (Qak (v := Value.slice (some ⟨w.heap.size, 0, none⟩) (n + 1) c1) (Qj (v := Value.slice (some ⟨w.heap.size, 0, none⟩) (n + 1) c1) rfl rfl)) ?_
 refine Qbl ?_
 refine hK9 _ _ ?_
 refine c_ret ?_
 refine hT _ _ ?_
 refine r1 rfl (Qj (v := Value.slice (some ⟨w.heap.size, 0, none⟩) (n + 1) c1) rfl rfl) ?_
 exact hpost _ _ hc1 hc2 hrs
set_option maxHeartbeats 4000000 in
set_option maxRecDepth 20000 in
theorem ins_g (hi : i < n) (hnc : n ≤ c) (hn : c < n + 1) (hfit : Qbk (i + (n + 1 - i)) te52 = true) (hb : b < w.heap.size) (hal : ca.length = i * te52.size) (hdl : cd.length = (n - i) * te52.size) (hvl : vs.length = 1 * te52.size)
  (ha : w.rangeAt b off ca) (hd : w.rangeAt b (off + i * te52.size) cd) (hv : w.rangeAt vb voff vs) (h1v : ∀ u ∈ vs, u.oneCell' = true) (h1d : ∀ u ∈ cd, u.oneCell' = true)
  (hpost : ∀ c1 rest, i + (n + 1 - i) ≤ c1 → c1 ≤ maxLen → rest.size = (n + 1 - i + (c1 - (i + (n + 1 - i)))) * te52.size →
   R (.returned (.slice (some ⟨w.heap.size, 0, none⟩) (i + (n + 1 - i)) c1)) ((((w.drew.alloc (.cells (ca.toArray ++ rest) 52)).setCells w.heap.size (0 + i * te52.size) vs).drew).setCells w.heap.size (0 + (i + 1) * te52.size) cd)) :
  Calls Try.prog 64 #[.slice (some ⟨b, off, none⟩) n c, .int .i64 ((i : Nat) : Int), .slice (some ⟨vb, voff, none⟩) 1 vc] w R := by
 have hu := in_hu; have he := in_he; have hi3 := in_i3; have mixed := in_mixed
 have hn63 : n + 1 ≤ 9223372036854775807 := by have := (fits_of hfit).2; unfold maxLen at this; omega
 have hold : (Builtin.firstCells te52.size i (.slice (some ⟨b, off, none⟩) i c)).run Try.prog w.drew = .ok ca.toArray w.drew := run_first hal (by simpa using ha)
 have hfacts : ∀ c1 rest, i + (n + 1 - i) ≤ c1 → c1 ≤ maxLen → rest.size = (n + 1 - i + (c1 - (i + (n + 1 - i)))) * te52.size →
   (w.drew.alloc (.cells (ca.toArray ++ rest) 52)).rangeAt vb voff vs ∧ (w.drew.alloc (.cells (ca.toArray ++ rest) 52)).there w.heap.size (0 + i * te52.size) vs.length ∧
   (((w.drew.alloc (.cells (ca.toArray ++ rest) 52)).setCells w.heap.size (0 + i * te52.size) vs).drew).rangeAt b (off + i * te52.size) cd ∧ (((w.drew.alloc (.cells (ca.toArray ++ rest) 52)).setCells w.heap.size (0 + i * te52.size) vs).drew).there w.heap.size (0 + (i + 1) * te52.size) cd.length := by
  intro c1 rest k1 k2 k3
  have hsz : (ca.toArray ++ rest).size = c1 * te52.size := by
   rw [Array.size_append, List.size_toArray, hal, k3, ← Nat.add_mul]; congr 1; omega
  have m1 : (i + 1) * te52.size ≤ c1 * te52.size := Nat.mul_le_mul_right _ (by omega)
  have m2 : (i + 1) * te52.size + (n - i) * te52.size ≤ c1 * te52.size := by rw [← Nat.add_mul]; exact Nat.mul_le_mul_right _ (by omega)
  have m3 : (i + 1) * te52.size = i * te52.size + 1 * te52.size := Nat.add_mul _ _ _
  refine ⟨World.rangeAt_alloc (by simpa using hv) _, there_new (w := w.drew) (by rw [hsz]; omega), ?_, ?_⟩
  ·rw [World.rangeAt_drew]
   exact World.rangeAt_setCells_apart (World.rangeAt_alloc (by simpa using hd) _) _ _ _ (.inl (by omega))
  ·rw [World.there_drew]
   exact World.there_setCells (there_new (w := w.drew) (by rw [hsz]; omega)) _ _ _
 refine W.enter (args := [Value.slice (some (⟨b, off, none⟩ : Addr)) n c, Value.int .i64 ((i : Nat) : Int), Value.slice (some ⟨vb, voff, none⟩) 1 vc]) Try.func64 rfl (n := 95) rfl rfl fun T hT => ?_
 refine Qam fun K1 hK1 => ?_
 refine Qbm ?_
 refine st (v := Value.slice none 0 0) rfl (Qak (v := Value.slice none 0 0) rfl) ?_
 refine Qbl ?_
 refine hK1 _ _ ?_
 refine Qam fun K2 hK2 => ?_
 refine Qbm ?_
 refine st (v := Value.slice (some (⟨b, off, none⟩ : Addr)) n c) rfl (Qu (v := Value.slice (some (⟨b, off, none⟩ : Addr)) n c) (Qj (v := Value.slice (some (⟨b, off, none⟩ : Addr)) n c) rfl rfl)) ?_
 refine st (v := Value.int .i64 ((i : Nat) : Int)) rfl (Qu (v := Value.int .i64 ((i : Nat) : Int)) (Qj (v := Value.int .i64 ((i : Nat) : Int)) rfl rfl)) ?_
 refine st (v := Value.slice (if c = i then (some (⟨b, off, none⟩ : Addr)) else (some (⟨b, off, none⟩ : Addr)).map (·.add (i * te52.size))) (n - i) (c - i)) rfl (x_slA hu he (Qj (v := Value.slice (some (⟨b, off, none⟩ : Addr)) n c) rfl rfl) (Qj (v := Value.int .i64 ((i : Nat) : Int)) rfl rfl) (by omega) (by omega)) ?_
 refine Qbl ?_
 refine hK2 _ _ ?_
 refine Qam fun K3 hK3 => ?_
 refine Qbm ?_
 refine st (v := Value.slice (some ⟨vb, voff, none⟩) 1 vc) rfl (Qu (v := Value.slice (some ⟨vb, voff, none⟩) 1 vc) (Qj (v := Value.slice (some ⟨vb, voff, none⟩) 1 vc) rfl rfl)) ?_
 refine st (v := Value.int .i64 ((1 : Nat) : Int)) rfl (x_lensl hu (Qj (v := Value.slice (some ⟨vb, voff, none⟩) 1 vc) rfl rfl)) ?_
 refine st (v := Value.int .i64 ((1 : Nat) : Int)) rfl (Qak (v := Value.int .i64 ((1 : Nat) : Int)) (Qj (v := Value.int .i64 ((1 : Nat) : Int)) rfl rfl)) ?_
 refine Qbl ?_
 refine hK3 _ _ ?_
 refine Qam fun K4 hK4 => ?_
 refine Qam fun K5 hK5 => ?_
 refine Qbm ?_
 refine st (v := Value.int .i64 ((1 : Nat) : Int)) rfl (Qu (v := Value.int .i64 ((1 : Nat) : Int)) (Qj (v := Value.int .i64 ((1 : Nat) : Int)) rfl rfl)) ?_
 refine st (v := Value.bool (decide (((1 : Nat) : Int) = 0))) rfl (x_eql (k := .i64) (p := ((1 : Nat) : Int)) (q := 0) (Qj (v := Value.int .i64 ((1 : Nat) : Int)) rfl rfl) rfl) ?_
 refine Qbl ?_
 refine hK5 _ _ ?_
 refine c_cond (b := decide (((1 : Nat) : Int) = 0)) (Qj rfl rfl) (fun hc => absurd (of_decide_eq_true hc) (by omega)) (fun hc => ?_)
 refine c_skip ?_
 refine hK4 _ _ ?_
 refine Qam fun K6 hK6 => ?_
 refine Qbm ?_
 refine st (v := Value.slice (some (⟨b, off, none⟩ : Addr)) n c) rfl (Qu (v := Value.slice (some (⟨b, off, none⟩ : Addr)) n c) (Qj (v := Value.slice (some (⟨b, off, none⟩ : Addr)) n c) rfl rfl)) ?_
 refine st (v := Value.int .i64 ((n : Nat) : Int)) rfl (x_lensl hu (Qj (v := Value.slice (some (⟨b, off, none⟩ : Addr)) n c) rfl rfl)) ?_
 refine st (v := Value.int .i64 ((n : Nat) : Int)) rfl (Qak (v := Value.int .i64 ((n : Nat) : Int)) (Qj (v := Value.int .i64 ((n : Nat) : Int)) rfl rfl)) ?_
 refine Qbl ?_
 refine hK6 _ _ ?_
 refine Qam fun K7 hK7 => ?_
 refine Qam fun K8 hK8 => ?_
 refine Qbm ?_
 refine st (v := Value.int .i64 ((i : Nat) : Int)) rfl (Qu (v := Value.int .i64 ((i : Nat) : Int)) (Qj (v := Value.int .i64 ((i : Nat) : Int)) rfl rfl)) ?_
 refine st (v := Value.int .i64 ((n : Nat) : Int)) rfl (Qu (v := Value.int .i64 ((n : Nat) : Int)) (Qj (v := Value.int .i64 ((n : Nat) : Int)) rfl rfl)) ?_
 refine st (v := Value.bool (decide (((i : Nat) : Int) = ((n : Nat) : Int)))) rfl (x_eql (k := .i64) (p := ((i : Nat) : Int)) (q := ((n : Nat) : Int)) (Qj (v := Value.int .i64 ((i : Nat) : Int)) rfl rfl) (Qj (v := Value.int .i64 ((n : Nat) : Int)) rfl rfl)) ?_
 refine Qbl ?_
 refine hK8 _ _ ?_
 refine c_cond (b := decide (((i : Nat) : Int) = ((n : Nat) : Int))) (Qj rfl rfl) (fun hc => absurd (of_decide_eq_true hc) (by omega)) (fun hc => ?_)
 refine c_skip ?_
 refine hK7 _ _ ?_
 refine Qam fun K9 hK9 => ?_
 refine Qam fun K10 hK10 => ?_
 refine Qbm ?_
 refine st (v := Value.int .i64 ((n : Nat) : Int)) rfl (Qu (v := Value.int .i64 ((n : Nat) : Int)) (Qj (v := Value.int .i64 ((n : Nat) : Int)) rfl rfl)) ?_
 refine st (v := Value.int .i64 ((1 : Nat) : Int)) rfl (Qu (v := Value.int .i64 ((1 : Nat) : Int)) (Qj (v := Value.int .i64 ((1 : Nat) : Int)) rfl rfl)) ?_
 refine st (v := Value.int .i64 ((n + 1 : Nat) : Int)) rfl (x_addE (k := .i64) (p := ((n : Nat) : Int)) (q := ((1 : Nat) : Int)) (r := ((n + 1 : Nat) : Int)) (Qj (v := Value.int .i64 ((n : Nat) : Int)) rfl rfl) (Qj (v := Value.int .i64 ((1 : Nat) : Int)) rfl rfl) (w64 (by omega) (by omega) (by omega))) ?_
 refine st (v := Value.slice (some (⟨b, off, none⟩ : Addr)) n c) rfl (Qu (v := Value.slice (some (⟨b, off, none⟩ : Addr)) n c) (Qj (v := Value.slice (some (⟨b, off, none⟩ : Addr)) n c) rfl rfl)) ?_
 refine st (v := Value.int .i64 ((c : Nat) : Int)) rfl (x_cap hu (Qj (v := Value.slice (some (⟨b, off, none⟩ : Addr)) n c) rfl rfl)) ?_
 refine st (v := Value.bool (decide (((c : Nat) : Int) < ((n + 1 : Nat) : Int)))) rfl (x_gtr (k := .i64) (p := ((n + 1 : Nat) : Int)) (q := ((c : Nat) : Int)) (Qj (v := Value.int .i64 ((n + 1 : Nat) : Int)) rfl rfl) (Qj (v := Value.int .i64 ((c : Nat) : Int)) rfl rfl)) ?_
 refine Qbl ?_
 refine hK10 _ _ ?_
 refine c_cond (b := decide (((c : Nat) : Int) < ((n + 1 : Nat) : Int))) (Qj rfl rfl) (fun hc => ?_) (fun hc => absurd (of_decide_eq_false hc) (by omega))
 refine Qam fun K11 hK11 => ?_
 obtain ⟨c1, rest, hc1, hc2, hrs, hrun⟩ := run_appZ (te := te52) (A := (some (⟨b, off, none⟩ : Addr))) (n := i) (c := c) (k := n + 1 - i) (olds := ca) hu hi3 he (by omega) (by decide) (by omega) hfit hold
 refine Qbm ?_
 refine st (v := Value.slice (some (⟨b, off, none⟩ : Addr)) n c) rfl (Qu (v := Value.slice (some (⟨b, off, none⟩ : Addr)) n c) (Qj (v := Value.slice (some (⟨b, off, none⟩ : Addr)) n c) rfl rfl)) ?_
 refine st (v := Value.int .i64 ((i : Nat) : Int)) rfl (Qu (v := Value.int .i64 ((i : Nat) : Int)) (Qj (v := Value.int .i64 ((i : Nat) : Int)) rfl rfl)) ?_
 refine st (v := Value.slice (some (⟨b, off, none⟩ : Addr)) i c) rfl (x_slH hu he (Qj (v := Value.slice (some (⟨b, off, none⟩ : Addr)) n c) rfl rfl) (.inr ⟨_, _, rfl⟩) (Qj (v := Value.int .i64 ((i : Nat) : Int)) rfl rfl) (by omega)) ?_
 refine st (v := Value.int .i64 ((n : Nat) : Int)) rfl (Qu (v := Value.int .i64 ((n : Nat) : Int)) (Qj (v := Value.int .i64 ((n : Nat) : Int)) rfl rfl)) ?_
 refine st (v := Value.int .i64 ((1 : Nat) : Int)) rfl (Qu (v := Value.int .i64 ((1 : Nat) : Int)) (Qj (v := Value.int .i64 ((1 : Nat) : Int)) rfl rfl)) ?_
 refine st (v := Value.int .i64 ((n + 1 : Nat) : Int)) rfl (x_addE (k := .i64) (p := ((n : Nat) : Int)) (q := ((1 : Nat) : Int)) (r := ((n + 1 : Nat) : Int)) (Qj (v := Value.int .i64 ((n : Nat) : Int)) rfl rfl) (Qj (v := Value.int .i64 ((1 : Nat) : Int)) rfl rfl) (w64 (by omega) (by omega) (by omega))) ?_
 refine st (v := Value.int .i64 ((i : Nat) : Int)) rfl (Qu (v := Value.int .i64 ((i : Nat) : Int)) (Qj (v := Value.int .i64 ((i : Nat) : Int)) rfl rfl)) ?_
 refine st (v := Value.int .i64 ((n + 1 - i : Nat) : Int)) rfl (x_subE (k := .i64) (p := ((n + 1 : Nat) : Int)) (q := ((i : Nat) : Int)) (r := ((n + 1 - i : Nat) : Int)) (Qj (v := Value.int .i64 ((n + 1 : Nat) : Int)) rfl rfl) (Qj (v := Value.int .i64 ((i : Nat) : Int)) rfl rfl) (w64 (by omega) (by omega) (by omega))) ?_
 refine st (v := Value.slice (some ⟨w.heap.size, 0, none⟩) (i + (n + 1 - i)) c1) rfl (x_app2 (Qj (v := Value.slice (some (⟨b, off, none⟩ : Addr)) i c) rfl rfl) (Qj (v := Value.int .i64 ((n + 1 - i : Nat) : Int)) rfl rfl) (hrun _)) ?_
 refine st (v := Value.slice (some ⟨w.heap.size, 0, none⟩) (i + (n + 1 - i)) c1) rfl (Qak (v := Value.slice (some ⟨w.heap.size, 0, none⟩) (i + (n + 1 - i)) c1) (Qj (v := Value.slice (some ⟨w.heap.size, 0, none⟩) (i + (n + 1 - i)) c1) rfl rfl)) ?_
 refine Qbl ?_
 refine hK11 _ _ ?_
 obtain ⟨hW1a, hW1b, hW1c, hW1d⟩ := hfacts c1 rest hc1 hc2 hrs
 refine Qam fun K12 hK12 => ?_
 refine Qbm ?_
 refine st (v := Value.slice (some ⟨w.heap.size, 0, none⟩) (i + (n + 1 - i)) c1) rfl (Qu (v := Value.slice (some ⟨w.heap.size, 0, none⟩) (i + (n + 1 - i)) c1) (Qj (v := Value.slice (some ⟨w.heap.size, 0, none⟩) (i + (n + 1 - i)) c1) rfl rfl)) ?_
 refine st (v := Value.int .i64 ((i : Nat) : Int)) rfl (Qu (v := Value.int .i64 ((i : Nat) : Int)) (Qj (v := Value.int .i64 ((i : Nat) : Int)) rfl rfl)) ?_
 refine st (v := Value.slice (some ⟨w.heap.size, 0 + i * te52.size, none⟩) (i + (n + 1 - i) - i) (c1 - i)) rfl (x_slL hu he (Qj (v := Value.slice (some ⟨w.heap.size, 0, none⟩) (i + (n + 1 - i)) c1) rfl rfl) (Qj (v := Value.int .i64 ((i : Nat) : Int)) rfl rfl) (by omega) (by omega) (by omega)) ?_
 refine st (v := Value.slice (some ⟨vb, voff, none⟩) 1 vc) rfl (Qu (v := Value.slice (some ⟨vb, voff, none⟩) 1 vc) (Qj (v := Value.slice (some ⟨vb, voff, none⟩) 1 vc) rfl rfl)) ?_
 refine st (v := Value.int .i64 ((1 : Nat) : Int)) rfl (x_cp (te := te52) (m := 1) (cs := vs) hu he (Qj (v := Value.slice (some ⟨w.heap.size, 0 + i * te52.size, none⟩) (i + (n + 1 - i) - i) (c1 - i)) rfl rfl) (Qj (v := Value.slice (some ⟨vb, voff, none⟩) 1 vc) rfl rfl) (nmin (by omega)) hvl hW1a hW1b h1v) ?_
 refine Qbl ?_
 refine hK12 _ _ ?_
 refine Qam fun K13 hK13 => ?_
 refine c_drawn (fun _ => True) mixed ?_
 refine dT (i := 0) (v := Value.slice (some ⟨w.heap.size, 0, none⟩) (i + (n + 1 - i)) c1) rfl (by kernel_rfl) (by kernel_rfl) rfl trivial (fun _ _ => Qu (v := Value.slice (some ⟨w.heap.size, 0, none⟩) (i + (n + 1 - i)) c1) (Qj (v := Value.slice (some ⟨w.heap.size, 0, none⟩) (i + (n + 1 - i)) c1) rfl rfl)) ?_
 refine dT (i := 1) (v := Value.int .i64 ((i : Nat) : Int)) rfl (by kernel_rfl) (by kernel_rfl) rfl trivial (fun _ _ => Qu (v := Value.int .i64 ((i : Nat) : Int)) (Qj (v := Value.int .i64 ((i : Nat) : Int)) rfl rfl)) ?_
 refine dT (i := 2) (v := Value.int .i64 ((1 : Nat) : Int)) rfl (by kernel_rfl) (by kernel_rfl) rfl trivial (fun _ _ => Qu (v := Value.int .i64 ((1 : Nat) : Int)) (Qj (v := Value.int .i64 ((1 : Nat) : Int)) rfl rfl)) ?_
 refine dT (i := 3) (v := Value.int .i64 ((i + 1 : Nat) : Int)) rfl (by kernel_rfl) (by kernel_rfl) rfl trivial (fun _ _ => x_addE (k := .i64) (p := ((i : Nat) : Int)) (q := ((1 : Nat) : Int)) (r := ((i + 1 : Nat) : Int)) (Qj (v := Value.int .i64 ((i : Nat) : Int)) rfl rfl) (Qj (v := Value.int .i64 ((1 : Nat) : Int)) rfl rfl) (w64 (by omega) (by omega) (by omega))) ?_
 refine dT (i := 4) (v := Value.slice (some ⟨w.heap.size, 0 + (i + 1) * te52.size, none⟩) (i + (n + 1 - i) - (i + 1)) (c1 - (i + 1))) rfl (by kernel_rfl) (by kernel_rfl) rfl trivial (fun _ _ => x_slL hu he (Qj (v := Value.slice (some ⟨w.heap.size, 0, none⟩) (i + (n + 1 - i)) c1) rfl rfl) (Qj (v := Value.int .i64 ((i + 1 : Nat) : Int)) rfl rfl) (by omega) (by omega) (by omega)) ?_
 refine dT (i := 5) (v := Value.slice (some (⟨b, off, none⟩ : Addr)) n c) rfl (by kernel_rfl) (by kernel_rfl) rfl trivial (fun _ _ => Qu (v := Value.slice (some (⟨b, off, none⟩ : Addr)) n c) (Qj (v := Value.slice (some (⟨b, off, none⟩ : Addr)) n c) rfl rfl)) ?_
 refine dT (i := 6) (v := Value.int .i64 ((i : Nat) : Int)) rfl (by kernel_rfl) (by kernel_rfl) rfl trivial (fun _ _ => Qu (v := Value.int .i64 ((i : Nat) : Int)) (Qj (v := Value.int .i64 ((i : Nat) : Int)) rfl rfl)) ?_
 refine dT (i := 7) (v := Value.slice (some ⟨b, off + i * te52.size, none⟩) (n - i) (c - i)) rfl (by kernel_rfl) (by kernel_rfl) rfl trivial (fun _ _ => x_slL hu he (Qj (v := Value.slice (some (⟨b, off, none⟩ : Addr)) n c) rfl rfl) (Qj (v := Value.int .i64 ((i : Nat) : Int)) rfl rfl) (by omega) (by omega) (by omega)) ?_
 refine dA (rs := [8]) (by kernel_rfl) rfl (dC (dst (v := Value.int .i64 ((n - i : Nat) : Int)) rfl rfl (x_cp (te := te52) (m := n - i) (cs := cd) hu he (Qj (v := Value.slice (some ⟨w.heap.size, 0 + (i + 1) * te52.size, none⟩) (i + (n + 1 - i) - (i + 1)) (c1 - (i + 1))) rfl rfl) (Qj (v := Value.slice (some ⟨b, off + i * te52.size, none⟩) (n - i) (c - i)) rfl rfl) (nmin (by omega)) hdl hW1c hW1d h1d) ⟨trivial, ?_⟩) dN)
 refine dE (by kernel_rfl) ?_
 refine hK13 _ _ ?_
 refine Qam fun K14 hK14 => ?_
 refine Qbm ?_
 refine st (v := Value.slice (some ⟨w.heap.size, 0, none⟩) (i + (n + 1 - i)) c1) rfl (Qu (v := Value.slice (some ⟨w.heap.size, 0, none⟩) (i + (n + 1 - i)) c1) (Qj (v := Value.slice (some ⟨w.heap.size, 0, none⟩) (i + (n + 1 - i)) c1) rfl rfl)) ?_
 refine st (v := Value.slice (some ⟨w.heap.size, 0, none⟩) (i + (n + 1 - i)) c1) rfl (Qak (v := Value.slice (some ⟨w.heap.size, 0, none⟩) (i + (n + 1 - i)) c1) (Qj (v := Value.slice (some ⟨w.heap.size, 0, none⟩) (i + (n + 1 - i)) c1) rfl rfl)) ?_
 refine Qbl ?_
 refine hK14 _ _ ?_
 refine c_ret ?_
 refine hT _ _ ?_
 refine r1 rfl (Qj (v := Value.slice (some ⟨w.heap.size, 0, none⟩) (i + (n + 1 - i)) c1) rfl rfl) ?_
 exact hpost c1 rest hc1 hc2 hrs
set_option maxHeartbeats 4000000 in
set_option maxRecDepth 20000 in
theorem ins_r {C Cv : Array Value} {t tv : Nat} (hi : i < n) (hn : n + 1 ≤ c) (hc : c ≤ 9223372036854775807) (hdl : cd.length = (n - i) * te52.size) (hvl : vs.length = 1 * te52.size) (hvb : vb ≠ b)
  (hb : w.heap[b]? = some (.cells C t (0, 0))) (hC : off + c * te52.size ≤ C.size) (hvh : w.heap[vb]? = some (.cells Cv tv (0, 0)))
  (hd : w.rangeAt b (off + i * te52.size) cd) (hv : w.rangeAt vb voff vs) (h1v : ∀ u ∈ vs, u.oneCell' = true) (h1d : ∀ u ∈ cd, u.oneCell' = true)
  (hpost : R (.returned (.slice (some ⟨b, off, none⟩) (n + 1) c)) ((w.drew.setCells b (off + (i + 1) * te52.size) cd).setCells b (off + i * te52.size) vs)) :
  Calls Try.prog 64 #[.slice (some ⟨b, off, none⟩) n c, .int .i64 ((i : Nat) : Int), .slice (some ⟨vb, voff, none⟩) 1 vc] w R := by
 have hu := in_hu; have he := in_he; have hi3 := in_i3; have mixed := in_mixed
 have m2 : (i + 1) * te52.size + (n - i) * te52.size ≤ c * te52.size := by rw [← Nat.add_mul]; exact Nat.mul_le_mul_right _ (by omega)
 have m3 : (i + 1) * te52.size = i * te52.size + 1 * te52.size := Nat.add_mul _ _ _
 have thereb : ∀ o k, o + k ≤ C.size → w.there b o k := fun o k h j hj => ⟨by simp [World.cell?, hb, show o + j < C.size by omega], by simp [World.frozen?, hb]⟩
 have htd : w.drew.there b (off + (i + 1) * te52.size) cd.length := by rw [World.there_drew]; exact thereb _ _ (by omega)
 have hv1 : (w.drew.setCells b (off + (i + 1) * te52.size) cd).rangeAt vb voff vs := World.rangeAt_setCells_apart (by simpa using hv) _ _ _ (.inl hvb)
 have hth1 : (w.drew.setCells b (off + (i + 1) * te52.size) cd).there b (off + i * te52.size) vs.length := World.there_setCells (by rw [World.there_drew]; exact thereb _ _ (by omega)) _ _ _
 replace hd : w.drew.rangeAt b (off + i * te52.size) cd := by simpa using hd
 have hov : ∀ lb cb, (callFunc 77 #[.slice (some ⟨vb, voff, none⟩) 1 vc, .slice (some ⟨b, off + (i + 1) * te52.size, none⟩) lb cb]).run Try.prog w = .ok (.value (.bool false)) w := fun lb cb => by
  rw [run_callFunc_extern Try.func77 (by kernel_rfl) (by kernel_rfl) (by kernel_rfl) (e := Extern.SlicesOverlaps.overlaps #[25, 25] #[4]) (by kernel_rfl),
   Lib.run_overlaps_apart w 25 4 52 in_hu te52.size (fun w => Qcz in_he) ⟨vb, voff, none⟩ ⟨b, off + (i + 1) * te52.size, none⟩ 1 vc lb cb hvb tv t Cv.size C.size (by simp [World.shape?, hvh]) (by simp [World.shape?, hb]) (by have : 1 * te52.size = 4 := rfl; omega) (by simp [World.frozen?, hvh]) (by simp [World.frozen?, hvh])]
  rfl
 refine W.enter (args := [Value.slice (some (⟨b, off, none⟩ : Addr)) n c, Value.int .i64 ((i : Nat) : Int), Value.slice (some ⟨vb, voff, none⟩) 1 vc]) Try.func64 rfl (n := 95) rfl rfl fun T hT => ?_
 refine Qam fun K1 hK1 => ?_
 refine Qbm ?_
 refine st (v := Value.slice none 0 0) rfl (Qak (v := Value.slice none 0 0) rfl) ?_
 refine Qbl ?_
 refine hK1 _ _ ?_
 refine Qam fun K2 hK2 => ?_
 refine Qbm ?_
 refine st (v := Value.slice (some (⟨b, off, none⟩ : Addr)) n c) rfl (Qu (v := Value.slice (some (⟨b, off, none⟩ : Addr)) n c) (Qj (v := Value.slice (some (⟨b, off, none⟩ : Addr)) n c) rfl rfl)) ?_
 refine st (v := Value.int .i64 ((i : Nat) : Int)) rfl (Qu (v := Value.int .i64 ((i : Nat) : Int)) (Qj (v := Value.int .i64 ((i : Nat) : Int)) rfl rfl)) ?_
 refine st (v := Value.slice (if c = i then (some (⟨b, off, none⟩ : Addr)) else (some (⟨b, off, none⟩ : Addr)).map (·.add (i * te52.size))) (n - i) (c - i)) rfl (x_slA hu he (Qj (v := Value.slice (some (⟨b, off, none⟩ : Addr)) n c) rfl rfl) (Qj (v := Value.int .i64 ((i : Nat) : Int)) rfl rfl) (by omega) (by omega)) ?_
 refine Qbl ?_
 refine hK2 _ _ ?_
 refine Qam fun K3 hK3 => ?_
 refine Qbm ?_
 refine st (v := Value.slice (some ⟨vb, voff, none⟩) 1 vc) rfl (Qu (v := Value.slice (some ⟨vb, voff, none⟩) 1 vc) (Qj (v := Value.slice (some ⟨vb, voff, none⟩) 1 vc) rfl rfl)) ?_
 refine st (v := Value.int .i64 ((1 : Nat) : Int)) rfl (x_lensl hu (Qj (v := Value.slice (some ⟨vb, voff, none⟩) 1 vc) rfl rfl)) ?_
 refine st (v := Value.int .i64 ((1 : Nat) : Int)) rfl (Qak (v := Value.int .i64 ((1 : Nat) : Int)) (Qj (v := Value.int .i64 ((1 : Nat) : Int)) rfl rfl)) ?_
 refine Qbl ?_
 refine hK3 _ _ ?_
 refine Qam fun K4 hK4 => ?_
 refine Qam fun K5 hK5 => ?_
 refine Qbm ?_
 refine st (v := Value.int .i64 ((1 : Nat) : Int)) rfl (Qu (v := Value.int .i64 ((1 : Nat) : Int)) (Qj (v := Value.int .i64 ((1 : Nat) : Int)) rfl rfl)) ?_
 refine st (v := Value.bool (decide (((1 : Nat) : Int) = 0))) rfl (x_eql (k := .i64) (p := ((1 : Nat) : Int)) (q := 0) (Qj (v := Value.int .i64 ((1 : Nat) : Int)) rfl rfl) rfl) ?_
 refine Qbl ?_
 refine hK5 _ _ ?_
 refine c_cond (b := decide (((1 : Nat) : Int) = 0)) (Qj rfl rfl) (fun hc => absurd (of_decide_eq_true hc) (by omega)) (fun hc => ?_)
 refine c_skip ?_
 refine hK4 _ _ ?_
 refine Qam fun K6 hK6 => ?_
 refine Qbm ?_
 refine st (v := Value.slice (some (⟨b, off, none⟩ : Addr)) n c) rfl (Qu (v := Value.slice (some (⟨b, off, none⟩ : Addr)) n c) (Qj (v := Value.slice (some (⟨b, off, none⟩ : Addr)) n c) rfl rfl)) ?_
 refine st (v := Value.int .i64 ((n : Nat) : Int)) rfl (x_lensl hu (Qj (v := Value.slice (some (⟨b, off, none⟩ : Addr)) n c) rfl rfl)) ?_
 refine st (v := Value.int .i64 ((n : Nat) : Int)) rfl (Qak (v := Value.int .i64 ((n : Nat) : Int)) (Qj (v := Value.int .i64 ((n : Nat) : Int)) rfl rfl)) ?_
 refine Qbl ?_
 refine hK6 _ _ ?_
 refine Qam fun K7 hK7 => ?_
 refine Qam fun K8 hK8 => ?_
 refine Qbm ?_
 refine st (v := Value.int .i64 ((i : Nat) : Int)) rfl (Qu (v := Value.int .i64 ((i : Nat) : Int)) (Qj (v := Value.int .i64 ((i : Nat) : Int)) rfl rfl)) ?_
 refine st (v := Value.int .i64 ((n : Nat) : Int)) rfl (Qu (v := Value.int .i64 ((n : Nat) : Int)) (Qj (v := Value.int .i64 ((n : Nat) : Int)) rfl rfl)) ?_
 refine st (v := Value.bool (decide (((i : Nat) : Int) = ((n : Nat) : Int)))) rfl (x_eql (k := .i64) (p := ((i : Nat) : Int)) (q := ((n : Nat) : Int)) (Qj (v := Value.int .i64 ((i : Nat) : Int)) rfl rfl) (Qj (v := Value.int .i64 ((n : Nat) : Int)) rfl rfl)) ?_
 refine Qbl ?_
 refine hK8 _ _ ?_
 refine c_cond (b := decide (((i : Nat) : Int) = ((n : Nat) : Int))) (Qj rfl rfl) (fun hc => absurd (of_decide_eq_true hc) (by omega)) (fun hc => ?_)
 refine c_skip ?_
 refine hK7 _ _ ?_
 refine Qam fun K9 hK9 => ?_
 refine Qam fun K10 hK10 => ?_
 refine Qbm ?_
 refine st (v := Value.int .i64 ((n : Nat) : Int)) rfl (Qu (v := Value.int .i64 ((n : Nat) : Int)) (Qj (v := Value.int .i64 ((n : Nat) : Int)) rfl rfl)) ?_
 refine st (v := Value.int .i64 ((1 : Nat) : Int)) rfl (Qu (v := Value.int .i64 ((1 : Nat) : Int)) (Qj (v := Value.int .i64 ((1 : Nat) : Int)) rfl rfl)) ?_
 refine st (v := Value.int .i64 ((n + 1 : Nat) : Int)) rfl (x_addE (k := .i64) (p := ((n : Nat) : Int)) (q := ((1 : Nat) : Int)) (r := ((n + 1 : Nat) : Int)) (Qj (v := Value.int .i64 ((n : Nat) : Int)) rfl rfl) (Qj (v := Value.int .i64 ((1 : Nat) : Int)) rfl rfl) (w64 (by omega) (by omega) (by omega))) ?_
 refine st (v := Value.slice (some (⟨b, off, none⟩ : Addr)) n c) rfl (Qu (v := Value.slice (some (⟨b, off, none⟩ : Addr)) n c) (Qj (v := Value.slice (some (⟨b, off, none⟩ : Addr)) n c) rfl rfl)) ?_
 refine st (v := Value.int .i64 ((c : Nat) : Int)) rfl (x_cap hu (Qj (v := Value.slice (some (⟨b, off, none⟩ : Addr)) n c) rfl rfl)) ?_
 refine st (v := Value.bool (decide (((c : Nat) : Int) < ((n + 1 : Nat) : Int)))) rfl (x_gtr (k := .i64) (p := ((n + 1 : Nat) : Int)) (q := ((c : Nat) : Int)) (Qj (v := Value.int .i64 ((n + 1 : Nat) : Int)) rfl rfl) (Qj (v := Value.int .i64 ((c : Nat) : Int)) rfl rfl)) ?_
 refine Qbl ?_
 refine hK10 _ _ ?_
 refine c_cond (b := decide (((c : Nat) : Int) < ((n + 1 : Nat) : Int))) (Qj rfl rfl) (fun hc => absurd (of_decide_eq_true hc) (by omega)) (fun hc => ?_)
 refine c_skip ?_
 refine hK9 _ _ ?_
 refine Qam fun K11 hK11 => ?_
 refine Qbm ?_
 refine st (v := Value.slice (some (⟨b, off, none⟩ : Addr)) n c) rfl (Qu (v := Value.slice (some (⟨b, off, none⟩ : Addr)) n c) (Qj (v := Value.slice (some (⟨b, off, none⟩ : Addr)) n c) rfl rfl)) ?_
 refine st (v := Value.int .i64 ((n : Nat) : Int)) rfl (Qu (v := Value.int .i64 ((n : Nat) : Int)) (Qj (v := Value.int .i64 ((n : Nat) : Int)) rfl rfl)) ?_
 refine st (v := Value.int .i64 ((1 : Nat) : Int)) rfl (Qu (v := Value.int .i64 ((1 : Nat) : Int)) (Qj (v := Value.int .i64 ((1 : Nat) : Int)) rfl rfl)) ?_
 refine st (v := Value.int .i64 ((n + 1 : Nat) : Int)) rfl (x_addE (k := .i64) (p := ((n : Nat) : Int)) (q := ((1 : Nat) : Int)) (r := ((n + 1 : Nat) : Int)) (Qj (v := Value.int .i64 ((n : Nat) : Int)) rfl rfl) (Qj (v := Value.int .i64 ((1 : Nat) : Int)) rfl rfl) (w64 (by omega) (by omega) (by omega))) ?_
 refine st (v := Value.slice (some (⟨b, off, none⟩ : Addr)) (n + 1) c) rfl (x_slH hu he (Qj (v := Value.slice (some (⟨b, off, none⟩ : Addr)) n c) rfl rfl) (.inr ⟨_, _, rfl⟩) (Qj (v := Value.int .i64 ((n + 1 : Nat) : Int)) rfl rfl) (by omega)) ?_
 refine st (v := Value.slice (some (⟨b, off, none⟩ : Addr)) (n + 1) c) rfl (Qak (v := Value.slice (some (⟨b, off, none⟩ : Addr)) (n + 1) c) (Qj (v := Value.slice (some (⟨b, off, none⟩ : Addr)) (n + 1) c) rfl rfl)) ?_
 refine Qbl ?_
 refine hK11 _ _ ?_
 refine Qam fun K12 hK12 => ?_
 refine Qam fun K13 hK13 => ?_
 refine Qbm ?_
 refine st (v := Value.slice (some ⟨vb, voff, none⟩) 1 vc) rfl (Qu (v := Value.slice (some ⟨vb, voff, none⟩) 1 vc) (Qj (v := Value.slice (some ⟨vb, voff, none⟩) 1 vc) rfl rfl)) ?_
 refine st (v := Value.slice (some (⟨b, off, none⟩ : Addr)) (n + 1) c) rfl (Qu (v := Value.slice (some (⟨b, off, none⟩ : Addr)) (n + 1) c) (Qj (v := Value.slice (some (⟨b, off, none⟩ : Addr)) (n + 1) c) rfl rfl)) ?_
 refine st (v := Value.int .i64 ((i : Nat) : Int)) rfl (Qu (v := Value.int .i64 ((i : Nat) : Int)) (Qj (v := Value.int .i64 ((i : Nat) : Int)) rfl rfl)) ?_
 refine st (v := Value.int .i64 ((1 : Nat) : Int)) rfl (Qu (v := Value.int .i64 ((1 : Nat) : Int)) (Qj (v := Value.int .i64 ((1 : Nat) : Int)) rfl rfl)) ?_
 refine st (v := Value.int .i64 ((i + 1 : Nat) : Int)) rfl (x_addE (k := .i64) (p := ((i : Nat) : Int)) (q := ((1 : Nat) : Int)) (r := ((i + 1 : Nat) : Int)) (Qj (v := Value.int .i64 ((i : Nat) : Int)) rfl rfl) (Qj (v := Value.int .i64 ((1 : Nat) : Int)) rfl rfl) (w64 (by omega) (by omega) (by omega))) ?_
 refine st (v := Value.slice (some ⟨b, off + (i + 1) * te52.size, none⟩) (n + 1 - (i + 1)) (c - (i + 1))) rfl (x_slL hu he (Qj (v := Value.slice (some (⟨b, off, none⟩ : Addr)) (n + 1) c) rfl rfl) (Qj (v := Value.int .i64 ((i + 1 : Nat) : Int)) rfl rfl) (by omega) (by omega) (by omega)) ?_
 refine st (v := Value.bool false) rfl (x_callV2 (hov _ _) rfl (Qj (v := Value.slice (some ⟨vb, voff, none⟩) 1 vc) rfl rfl) (Qj (v := Value.slice (some ⟨b, off + (i + 1) * te52.size, none⟩) (n + 1 - (i + 1)) (c - (i + 1))) rfl rfl)) ?_
 refine st (v := Value.bool (!false)) rfl (x_not (b := false) (Qj (v := Value.bool false) rfl rfl)) ?_
 refine Qbl ?_
 refine hK13 _ _ ?_
 refine c_cond (b := !false) (Qj rfl rfl) (fun hc => ?_) (fun hc => by cases hc)
 refine Qam fun K14 hK14 => ?_
 refine c_drawn (fun _ => True) mixed ?_
 refine dT (i := 0) (v := Value.slice (some (⟨b, off, none⟩ : Addr)) (n + 1) c) rfl (by kernel_rfl) (by kernel_rfl) rfl trivial (fun _ _ => Qu (v := Value.slice (some (⟨b, off, none⟩ : Addr)) (n + 1) c) (Qj (v := Value.slice (some (⟨b, off, none⟩ : Addr)) (n + 1) c) rfl rfl)) ?_
 refine dT (i := 1) (v := Value.int .i64 ((i : Nat) : Int)) rfl (by kernel_rfl) (by kernel_rfl) rfl trivial (fun _ _ => Qu (v := Value.int .i64 ((i : Nat) : Int)) (Qj (v := Value.int .i64 ((i : Nat) : Int)) rfl rfl)) ?_
 refine dT (i := 2) (v := Value.int .i64 ((1 : Nat) : Int)) rfl (by kernel_rfl) (by kernel_rfl) rfl trivial (fun _ _ => Qu (v := Value.int .i64 ((1 : Nat) : Int)) (Qj (v := Value.int .i64 ((1 : Nat) : Int)) rfl rfl)) ?_
 refine dT (i := 3) (v := Value.int .i64 ((i + 1 : Nat) : Int)) rfl (by kernel_rfl) (by kernel_rfl) rfl trivial (fun _ _ => x_addE (k := .i64) (p := ((i : Nat) : Int)) (q := ((1 : Nat) : Int)) (r := ((i + 1 : Nat) : Int)) (Qj (v := Value.int .i64 ((i : Nat) : Int)) rfl rfl) (Qj (v := Value.int .i64 ((1 : Nat) : Int)) rfl rfl) (w64 (by omega) (by omega) (by omega))) ?_
 refine dT (i := 4) (v := Value.slice (some ⟨b, off + (i + 1) * te52.size, none⟩) (n + 1 - (i + 1)) (c - (i + 1))) rfl (by kernel_rfl) (by kernel_rfl) rfl trivial (fun _ _ => x_slL hu he (Qj (v := Value.slice (some (⟨b, off, none⟩ : Addr)) (n + 1) c) rfl rfl) (Qj (v := Value.int .i64 ((i + 1 : Nat) : Int)) rfl rfl) (by omega) (by omega) (by omega)) ?_
 refine dT (i := 5) (v := Value.slice (some (⟨b, off, none⟩ : Addr)) (n + 1) c) rfl (by kernel_rfl) (by kernel_rfl) rfl trivial (fun _ _ => Qu (v := Value.slice (some (⟨b, off, none⟩ : Addr)) (n + 1) c) (Qj (v := Value.slice (some (⟨b, off, none⟩ : Addr)) (n + 1) c) rfl rfl)) ?_
 refine dT (i := 6) (v := Value.int .i64 ((i : Nat) : Int)) rfl (by kernel_rfl) (by kernel_rfl) rfl trivial (fun _ _ => Qu (v := Value.int .i64 ((i : Nat) : Int)) (Qj (v := Value.int .i64 ((i : Nat) : Int)) rfl rfl)) ?_
 refine dT (i := 7) (v := Value.slice (some ⟨b, off + i * te52.size, none⟩) (n + 1 - i) (c - i)) rfl (by kernel_rfl) (by kernel_rfl) rfl trivial (fun _ _ => x_slL hu he (Qj (v := Value.slice (some (⟨b, off, none⟩ : Addr)) (n + 1) c) rfl rfl) (Qj (v := Value.int .i64 ((i : Nat) : Int)) rfl rfl) (by omega) (by omega) (by omega)) ?_
 refine dA (rs := [8]) (by kernel_rfl) rfl (dC (dst (v := Value.int .i64 ((n - i : Nat) : Int)) rfl rfl (x_cp (te := te52) (m := n - i) (cs := cd) hu he (Qj (v := Value.slice (some ⟨b, off + (i + 1) * te52.size, none⟩) (n + 1 - (i + 1)) (c - (i + 1))) rfl rfl) (Qj (v := Value.slice (some ⟨b, off + i * te52.size, none⟩) (n + 1 - i) (c - i)) rfl rfl) (nmin (by omega)) hdl hd htd h1d) ⟨trivial, ?_⟩) dN)
 refine dE (by kernel_rfl) ?_
 refine hK14 _ _ ?_
 refine Qam fun K15 hK15 => ?_
 refine Qbm ?_
 refine st (v := Value.slice (some (⟨b, off, none⟩ : Addr)) (n + 1) c) rfl (Qu (v := Value.slice (some (⟨b, off, none⟩ : Addr)) (n + 1) c) (Qj (v := Value.slice (some (⟨b, off, none⟩ : Addr)) (n + 1) c) rfl rfl)) ?_
 refine st (v := Value.int .i64 ((i : Nat) : Int)) rfl (Qu (v := Value.int .i64 ((i : Nat) : Int)) (Qj (v := Value.int .i64 ((i : Nat) : Int)) rfl rfl)) ?_
 refine st (v := Value.slice (some ⟨b, off + i * te52.size, none⟩) (n + 1 - i) (c - i)) rfl (x_slL hu he (Qj (v := Value.slice (some (⟨b, off, none⟩ : Addr)) (n + 1) c) rfl rfl) (Qj (v := Value.int .i64 ((i : Nat) : Int)) rfl rfl) (by omega) (by omega) (by omega)) ?_
 refine st (v := Value.slice (some ⟨vb, voff, none⟩) 1 vc) rfl (Qu (v := Value.slice (some ⟨vb, voff, none⟩) 1 vc) (Qj (v := Value.slice (some ⟨vb, voff, none⟩) 1 vc) rfl rfl)) ?_
 refine st (v := Value.int .i64 ((1 : Nat) : Int)) rfl (x_cp (te := te52) (m := 1) (cs := vs) hu he (Qj (v := Value.slice (some ⟨b, off + i * te52.size, none⟩) (n + 1 - i) (c - i)) rfl rfl) (Qj (v := Value.slice (some ⟨vb, voff, none⟩) 1 vc) rfl rfl) (nmin (by omega)) hvl hv1 hth1 h1v) ?_
 refine Qbl ?_
 refine hK15 _ _ ?_
 refine Qam fun K16 hK16 => ?_
 refine Qbm ?_
 refine st (v := Value.slice (some (⟨b, off, none⟩ : Addr)) (n + 1) c) rfl (Qu (v := Value.slice (some (⟨b, off, none⟩ : Addr)) (n + 1) c) (Qj (v := Value.slice (some (⟨b, off, none⟩ : Addr)) (n + 1) c) rfl rfl)) ?_
 refine st (v := Value.slice (some (⟨b, off, none⟩ : Addr)) (n + 1) c) rfl (Qak (v := Value.slice (some (⟨b, off, none⟩ : Addr)) (n + 1) c) (Qj (v := Value.slice (some (⟨b, off, none⟩ : Addr)) (n + 1) c) rfl rfl)) ?_
 refine Qbl ?_
 refine hK16 _ _ ?_
 refine c_ret ?_
 refine hT _ _ ?_
 refine r1 rfl (Qj (v := Value.slice (some (⟨b, off, none⟩ : Addr)) (n + 1) c) rfl rfl) ?_
 exact hpost
set_option maxHeartbeats 4000000 in
set_option maxRecDepth 20000 in
theorem del_w {zs : List Value} (hi : i < n) (hnc : n ≤ c) (hc : c ≤ 9223372036854775807) (hdl : cd.length = (n - (i + 1)) * te52.size)
  (hzl : zs.length = te52.size) (hz : ∀ (w : World) (b o m mc : Nat) (ty : TypeId), m = 1 → w.there b o te52.size → (Builtin.clear_ #[25] ty #[.slice (some ⟨b, o, none⟩) m mc]).run Try.prog w = .ok (.tuple #[]) (w.setCells b o zs))
  (hd : w.rangeAt b (off + (i + 1) * te52.size) cd) (h1d : ∀ u ∈ cd, u.oneCell' = true) (htb : ∀ o k, o + k ≤ off + c * te52.size → w.there b o k)
  (hpost : R (.returned (.slice (some ⟨b, off, none⟩) (i + (n - (i + 1))) c)) ((w.drew.setCells b (off + i * te52.size) cd).setCells b (off + (i + (n - (i + 1))) * te52.size) zs)) :
  Calls Try.prog 65 #[.slice (some ⟨b, off, none⟩) n c, .int .i64 ((i : Nat) : Int), .int .i64 ((i + 1 : Nat) : Int)] w R := by
 have hu := in_hu; have he := in_he; have hi3 := in_i3; have mixed := in_mixed
 have m1 : (i + (n - (i + 1))) * te52.size = i * te52.size + (n - (i + 1)) * te52.size := Nat.add_mul _ _ _
 have m2 : (i + (n - (i + 1))) * te52.size + te52.size ≤ c * te52.size := by rw [← Nat.succ_mul]; exact Nat.mul_le_mul_right _ (by omega)
 have hfd : (Builtin.firstCells te52.size (n - (i + 1)) (.slice (if c = i + 1 then some (⟨b, off, none⟩ : Addr) else (some (⟨b, off, none⟩ : Addr)).map (·.add ((i + 1) * te52.size))) (n - (i + 1)) (c - (i + 1)))).run Try.prog w.drew = .ok cd.toArray w.drew := by
  split
  ·have h0 : n - (i + 1) = 0 := by omega
   have : cd = [] := List.length_eq_zero_iff.1 (by rw [hdl, h0]; simp)
   subst this
   exact run_first hdl (fun j v hj => by simp at hj)
  ·rw [Option.map_some, Addr.add_mid]
   exact run_first hdl (by simpa using hd)
 have htd : w.drew.there b (off + i * te52.size) cd.length := by rw [World.there_drew]; exact htb _ _ (by omega)
 have hcl : ∀ ty, (Builtin.clear_ #[25] ty #[.slice (some ⟨b, off + (i + (n - (i + 1))) * te52.size, none⟩) (n - (i + (n - (i + 1)))) (c - (i + (n - (i + 1))))]).run Try.prog (w.drew.setCells b (off + i * te52.size) cd) = .ok (.tuple #[]) ((w.drew.setCells b (off + i * te52.size) cd).setCells b (off + (i + (n - (i + 1))) * te52.size) zs) := fun ty =>
  hz _ _ _ _ _ _ (by omega) (World.there_setCells (by rw [World.there_drew]; exact htb _ _ (by omega)) _ _ _)
 refine W.enter (args := [Value.slice (some (⟨b, off, none⟩ : Addr)) n c, Value.int .i64 ((i : Nat) : Int), Value.int .i64 ((i + 1 : Nat) : Int)]) Try.func65 rfl (n := 33) rfl rfl fun T hT => ?_
 refine Qam fun K1 hK1 => ?_
 refine Qbm ?_
 refine st (v := Value.slice none 0 0) rfl (Qak (v := Value.slice none 0 0) rfl) ?_
 refine Qbl ?_
 refine hK1 _ _ ?_
 refine Qam fun K2 hK2 => ?_
 refine Qbm ?_
 refine st (v := Value.slice (some (⟨b, off, none⟩ : Addr)) n c) rfl (Qu (v := Value.slice (some (⟨b, off, none⟩ : Addr)) n c) (Qj (v := Value.slice (some (⟨b, off, none⟩ : Addr)) n c) rfl rfl)) ?_
 refine st (v := Value.int .i64 ((i : Nat) : Int)) rfl (Qu (v := Value.int .i64 ((i : Nat) : Int)) (Qj (v := Value.int .i64 ((i : Nat) : Int)) rfl rfl)) ?_
 refine st (v := Value.int .i64 ((i + 1 : Nat) : Int)) rfl (Qu (v := Value.int .i64 ((i + 1 : Nat) : Int)) (Qj (v := Value.int .i64 ((i + 1 : Nat) : Int)) rfl rfl)) ?_
 refine st (v := Value.slice (some (⟨b, off, none⟩ : Addr)) n c) rfl (Qu (v := Value.slice (some (⟨b, off, none⟩ : Addr)) n c) (Qj (v := Value.slice (some (⟨b, off, none⟩ : Addr)) n c) rfl rfl)) ?_
 refine st (v := Value.int .i64 ((n : Nat) : Int)) rfl (x_lensl hu (Qj (v := Value.slice (some (⟨b, off, none⟩ : Addr)) n c) rfl rfl)) ?_
 refine st (v := Value.slice (if n = i then (some (⟨b, off, none⟩ : Addr)) else (some (⟨b, off, none⟩ : Addr)).map (·.add (i * te52.size))) (i + 1 - i) (n - i)) rfl (x_slLHM hu he (Qj (v := Value.slice (some (⟨b, off, none⟩ : Addr)) n c) rfl rfl) (Qj (v := Value.int .i64 ((i : Nat) : Int)) rfl rfl) (Qj (v := Value.int .i64 ((i + 1 : Nat) : Int)) rfl rfl) (Qj (v := Value.int .i64 ((n : Nat) : Int)) rfl rfl) (by omega) (by omega) (by omega)) ?_
 refine Qbl ?_
 refine hK2 _ _ ?_
 refine Qam fun K3 hK3 => ?_
 refine Qam fun K4 hK4 => ?_
 refine Qbm ?_
 refine st (v := Value.int .i64 ((i : Nat) : Int)) rfl (Qu (v := Value.int .i64 ((i : Nat) : Int)) (Qj (v := Value.int .i64 ((i : Nat) : Int)) rfl rfl)) ?_
 refine st (v := Value.int .i64 ((i + 1 : Nat) : Int)) rfl (Qu (v := Value.int .i64 ((i + 1 : Nat) : Int)) (Qj (v := Value.int .i64 ((i + 1 : Nat) : Int)) rfl rfl)) ?_
 refine st (v := Value.bool (decide (((i : Nat) : Int) = ((i + 1 : Nat) : Int)))) rfl (x_eql (k := .i64) (p := ((i : Nat) : Int)) (q := ((i + 1 : Nat) : Int)) (Qj (v := Value.int .i64 ((i : Nat) : Int)) rfl rfl) (Qj (v := Value.int .i64 ((i + 1 : Nat) : Int)) rfl rfl)) ?_
 refine Qbl ?_
 refine hK4 _ _ ?_
 refine c_cond (b := decide (((i : Nat) : Int) = ((i + 1 : Nat) : Int))) (Qj rfl rfl) (fun hc => absurd (of_decide_eq_true hc) (by omega)) (fun hc => ?_)
 refine c_skip ?_
 refine hK3 _ _ ?_
 refine Qam fun K5 hK5 => ?_
 refine Qbm ?_
 refine st (v := Value.slice (some (⟨b, off, none⟩ : Addr)) n c) rfl (Qu (v := Value.slice (some (⟨b, off, none⟩ : Addr)) n c) (Qj (v := Value.slice (some (⟨b, off, none⟩ : Addr)) n c) rfl rfl)) ?_
 refine st (v := Value.int .i64 ((n : Nat) : Int)) rfl (x_lensl hu (Qj (v := Value.slice (some (⟨b, off, none⟩ : Addr)) n c) rfl rfl)) ?_
 refine st (v := Value.int .i64 ((n : Nat) : Int)) rfl (Qak (v := Value.int .i64 ((n : Nat) : Int)) (Qj (v := Value.int .i64 ((n : Nat) : Int)) rfl rfl)) ?_
 refine Qbl ?_
 refine hK5 _ _ ?_
 refine Qam fun K6 hK6 => ?_
 refine c_drawn (fun _ => True) mixed ?_
 refine dT (i := 0) (v := Value.slice (some (⟨b, off, none⟩ : Addr)) n c) rfl (by kernel_rfl) (by kernel_rfl) rfl trivial (fun _ _ => Qu (v := Value.slice (some (⟨b, off, none⟩ : Addr)) n c) (Qj (v := Value.slice (some (⟨b, off, none⟩ : Addr)) n c) rfl rfl)) ?_
 refine dT (i := 1) (v := Value.int .i64 ((i : Nat) : Int)) rfl (by kernel_rfl) (by kernel_rfl) rfl trivial (fun _ _ => Qu (v := Value.int .i64 ((i : Nat) : Int)) (Qj (v := Value.int .i64 ((i : Nat) : Int)) rfl rfl)) ?_
 refine dT (i := 2) (v := Value.slice (some (⟨b, off, none⟩ : Addr)) i c) rfl (by kernel_rfl) (by kernel_rfl) rfl trivial (fun _ _ => x_slH hu he (Qj (v := Value.slice (some (⟨b, off, none⟩ : Addr)) n c) rfl rfl) (.inr ⟨_, _, rfl⟩) (Qj (v := Value.int .i64 ((i : Nat) : Int)) rfl rfl) (by omega)) ?_
 refine dT (i := 3) (v := Value.slice (some (⟨b, off, none⟩ : Addr)) n c) rfl (by kernel_rfl) (by kernel_rfl) rfl trivial (fun _ _ => Qu (v := Value.slice (some (⟨b, off, none⟩ : Addr)) n c) (Qj (v := Value.slice (some (⟨b, off, none⟩ : Addr)) n c) rfl rfl)) ?_
 refine dT (i := 4) (v := Value.int .i64 ((i + 1 : Nat) : Int)) rfl (by kernel_rfl) (by kernel_rfl) rfl trivial (fun _ _ => Qu (v := Value.int .i64 ((i + 1 : Nat) : Int)) (Qj (v := Value.int .i64 ((i + 1 : Nat) : Int)) rfl rfl)) ?_
 refine dT (i := 5) (v := Value.slice (if c = i + 1 then (some (⟨b, off, none⟩ : Addr)) else (some (⟨b, off, none⟩ : Addr)).map (·.add ((i + 1) * te52.size))) (n - (i + 1)) (c - (i + 1))) rfl (by kernel_rfl) (by kernel_rfl) rfl trivial (fun _ _ => x_slA hu he (Qj (v := Value.slice (some (⟨b, off, none⟩ : Addr)) n c) rfl rfl) (Qj (v := Value.int .i64 ((i + 1 : Nat) : Int)) rfl rfl) (by omega) (by omega)) ?_
 refine dA (rs := [6]) (by kernel_rfl) rfl (dC (dst (v := Value.slice (some (⟨b, off, none⟩ : Addr)) (i + (n - (i + 1))) c) rfl rfl (x_appR2 (te := te52) (n := i) (m := n - (i + 1)) (cs := cd) hu he (Qj (v := Value.slice (some (⟨b, off, none⟩ : Addr)) i c) rfl rfl) (Qj (v := Value.slice (if c = i + 1 then (some (⟨b, off, none⟩ : Addr)) else (some (⟨b, off, none⟩ : Addr)).map (·.add ((i + 1) * te52.size))) (n - (i + 1)) (c - (i + 1))) rfl rfl) hfd htd h1d (by omega)) ⟨trivial, ?_⟩) dN)
 refine dT (i := 7) (v := Value.slice (some (⟨b, off, none⟩ : Addr)) (i + (n - (i + 1))) c) rfl (by kernel_rfl) (by kernel_rfl) rfl trivial (fun _ _ => Qak (v := Value.slice (some (⟨b, off, none⟩ : Addr)) (i + (n - (i + 1))) c) (Qj (v := Value.slice (some (⟨b, off, none⟩ : Addr)) (i + (n - (i + 1))) c) rfl rfl)) ?_
 refine dE (by kernel_rfl) ?_
 refine hK6 _ _ ?_
 refine Qam fun K7 hK7 => ?_
 refine Qbm ?_
 refine st (v := Value.slice (some (⟨b, off, none⟩ : Addr)) (i + (n - (i + 1))) c) rfl (Qu (v := Value.slice (some (⟨b, off, none⟩ : Addr)) (i + (n - (i + 1))) c) (Qj (v := Value.slice (some (⟨b, off, none⟩ : Addr)) (i + (n - (i + 1))) c) rfl rfl)) ?_
 refine st (v := Value.slice (some (⟨b, off, none⟩ : Addr)) (i + (n - (i + 1))) c) rfl (Qu (v := Value.slice (some (⟨b, off, none⟩ : Addr)) (i + (n - (i + 1))) c) (Qj (v := Value.slice (some (⟨b, off, none⟩ : Addr)) (i + (n - (i + 1))) c) rfl rfl)) ?_
 refine st (v := Value.int .i64 ((i + (n - (i + 1)) : Nat) : Int)) rfl (x_lensl hu (Qj (v := Value.slice (some (⟨b, off, none⟩ : Addr)) (i + (n - (i + 1))) c) rfl rfl)) ?_
 refine st (v := Value.int .i64 ((n : Nat) : Int)) rfl (Qu (v := Value.int .i64 ((n : Nat) : Int)) (Qj (v := Value.int .i64 ((n : Nat) : Int)) rfl rfl)) ?_
 refine st (v := Value.slice (some ⟨b, off + (i + (n - (i + 1))) * te52.size, none⟩) (n - (i + (n - (i + 1)))) (c - (i + (n - (i + 1))))) rfl (x_slLH2 hu he (Qj (v := Value.slice (some (⟨b, off, none⟩ : Addr)) (i + (n - (i + 1))) c) rfl rfl) (Qj (v := Value.int .i64 ((i + (n - (i + 1)) : Nat) : Int)) rfl rfl) (Qj (v := Value.int .i64 ((n : Nat) : Int)) rfl rfl) (by omega) (by omega) (by omega)) ?_
 refine su2 (v := .tuple #[]) (w' := ((w.drew.setCells b (off + i * te52.size) cd).setCells b (off + (i + (n - (i + 1))) * te52.size) zs)) (x_clear (by rw [show _ = Value.slice (some ⟨b, off + (i + (n - (i + 1))) * te52.size, none⟩) (n - (i + (n - (i + 1)))) (c - (i + (n - (i + 1)))) from (Qj (v := Value.slice (some ⟨b, off + (i + (n - (i + 1))) * te52.size, none⟩) (n - (i + (n - (i + 1)))) (c - (i + (n - (i + 1))))) rfl rfl)]; exact hcl _)) ?_
 refine Qbl ?_
 refine hK7 _ _ ?_
 refine Qam fun K8 hK8 => ?_
 refine Qbm ?_
 refine st (v := Value.slice (some (⟨b, off, none⟩ : Addr)) (i + (n - (i + 1))) c) rfl (Qu (v := Value.slice (some (⟨b, off, none⟩ : Addr)) (i + (n - (i + 1))) c) (Qj (v := Value.slice (some (⟨b, off, none⟩ : Addr)) (i + (n - (i + 1))) c) rfl rfl)) ?_
 refine st (v := Value.slice (some (⟨b, off, none⟩ : Addr)) (i + (n - (i + 1))) c) rfl (Qak (v := Value.slice (some (⟨b, off, none⟩ : Addr)) (i + (n - (i + 1))) c) (Qj (v := Value.slice (some (⟨b, off, none⟩ : Addr)) (i + (n - (i + 1))) c) rfl rfl)) ?_
 refine Qbl ?_
 refine hK8 _ _ ?_
 refine c_ret ?_
 refine hT _ _ ?_
 refine r1 rfl (Qj (v := Value.slice (some (⟨b, off, none⟩ : Addr)) (i + (n - (i + 1))) c) rfl rfl) ?_
 exact hpost
end
theorem cells_there {w : World} {b t : Nat} {C : Array Value} (hb : w.heap[b]? = some (.cells C t (0, 0))) (o k : Nat) (h : o + k ≤ C.size) : w.there b o k := fun j hj => ⟨by simp [World.cell?, hb, show o + j < C.size by omega], by simp [World.frozen?, hb]⟩
theorem row_loc {w : World} {X : Nat → Prop} {φ : Phi} {H : Hp} (hH : HR X φ H w) {o sz : Nat} {es : List (List PV)} (ho : hget H o = some (.row false sz es)) : ∃ l, φ o = .at false l ∧ l.n = es.length ∧ l.sz = sz ∧ l.n ≤ l.c ∧ l.c ≤ maxLen ∧
  ((l.A = none ∧ l.c = 0) ∨ ∃ b p t cs, l.A = some (b, p) ∧ w.heap[b]? = some (.cells cs t (0, 0)) ∧ p + l.c * sz ≤ cs.size ∧ PRE w (YOf X φ) b sz p es) := by
 obtain ⟨z, l, hl, hO⟩ := hH.ob _ _ ho
 simp only [OR] at hO
 obtain ⟨rfl, h1, h2, h3, h4, h5⟩ := hO
 refine ⟨l, hl, h1, h2, h3, h4, ?_⟩
 rcases h5 with h5 | ⟨b, p, t, cs, k1, k2, k3, k4, _⟩
 ·exact .inl h5
 ·exact .inr ⟨b, p, t, cs, k1, k2, k3, k4⟩
set_option maxHeartbeats 4000000 in
set_option maxRecDepth 20000 in
theorem ins_callS (es : List (List PV)) (e : List PV) (i : Nat) (hi : i ≤ es.length) (hfit : Qbk (es.length + 1) te52 = true) :
  Qq Try.prog true 64 [.own 0, .pl (.int .i64 ((i : Nat) : Int)), .own 1] [some (.row false te52.size es), some (.row false te52.size [e])] (.own 2) [none, some (.row false te52.size [e]), some (.row false te52.size (es.take i ++ e :: es.drop i))] := by
 refine ⟨enters_of Try.func64 (by kernel_rfl) rfl, ⟨(fun (h : true = false) => by cases h), fun _ X φ w vs hH hvs => ?_⟩⟩
 simp only [VRT] at hvs
 obtain ⟨v0, _, rfl, hv0, v1, _, rfl, hv1, v2, _, rfl, hv2, rfl⟩ := hvs
 obtain ⟨l, hl, h1, h2, h3, h4, h5⟩ := row_loc hH (o := 0) rfl
 obtain ⟨m, hm, k1, k2, k3, k4, k5⟩ := row_loc hH (o := 1) rfl
 simp only [VR, PR] at hv0 hv1 hv2
 have hv0 := hv0.2.2 _ _ hl
 have hv2 := hv2.2.2 _ _ hm
 subst hv0; subst hv1; subst hv2
 simp only [List.length_singleton] at k1
 have hS : (0 : Nat) < te52.size := by decide
 obtain ⟨vb, voff, tv, Cv, hmA, hvh, hvC, hvP⟩ : ∃ b p t cs, m.A = some (b, p) ∧ w.heap[b]? = some (.cells cs t (0, 0)) ∧ p + m.c * te52.size ≤ cs.size ∧ PRE w (YOf X φ) b te52.size p [e] := by
  rcases k5 with ⟨_, h0⟩ | h
  ·omega
  ·exact h
 obtain ⟨vv, hvl, hvr⟩ := hvP.flat
 have e1 := Qar hvl.size
 rw [hvl.length] at e1
 have hvlen : vv.flatten.length = 1 * te52.size := by rw [e1]; rfl
 have a1 : m.addr 0 = some ⟨vb, voff, none⟩ := by simp [Loc.addr, hmA]
 rw [a1, k1, h1]
 have fin : ∀ {b' o' c' b0 : Nat} {w' : World} {va vd : List (List Value)}, es.length + 1 ≤ c' → c' ≤ maxLen → Far b0 w w' → (b0 < w.heap.size → ∃ p, l.A = some (b0, p)) → ((∃ p, l.A = some (b', p)) ∨ (w.heap.size ≤ b' ∧ b' < w'.heap.size)) →
   (∃ t cs, w'.heap[b']? = some (.cells cs t (0, 0)) ∧ o' + c' * te52.size ≤ cs.size) → PRLL w (YOf X φ) te52.size (es.take i) va → PRLL w (YOf X φ) te52.size (es.drop i) vd → w'.rangeAt b' o' va.flatten → w'.rangeAt b' (o' + i * te52.size) vv.flatten → w'.rangeAt b' (o' + (i + 1) * te52.size) vd.flatten →
   Ret X φ [some (.row false te52.size es), some (.row false te52.size [e])] w [(.own 2, [none, some (.row false te52.size [e]), some (.row false te52.size (es.take i ++ e :: es.drop i))])] (.returned (.slice (some ⟨b', o', none⟩) (es.length + 1) c')) w' := by
  intro b' o' c' b0 w' va vd q1 q2 q3 q4 q5 q6 q7 q8 q9 q10 q11
  have hlen : (es.take i ++ e :: es.drop i).length = es.length + 1 := by simp; omega
  have ea := Qar q7.size
  rw [q7.length, List.length_take, Nat.min_eq_left hi] at ea
  have := moved (k := 2) (sz := te52.size) (b' := b') (o' := o') (c' := c') (es' := es.take i ++ e :: es.drop i) (vss := va ++ (vv ++ vd)) hH rfl hl (by rw [hlen]; exact q1) q2 q3 q4 q5 q6
   (q7.append (by have := hvl.append q8; simpa using this)) (by
    rw [List.flatten_append, List.flatten_append]
    have m3 : (i + 1) * te52.size = i * te52.size + 1 * te52.size := Nat.add_mul _ _ _
    exact rangeAt_app q9 (by rw [ea]; exact rangeAt_app q10 (by rw [hvlen, Nat.add_assoc, ← m3]; exact q11)))
  rw [hlen] at this
  exact this
 have hsplitA : ∀ {b p : Nat}, PRE w (YOf X φ) b te52.size p es → ∃ va vd, PRLL w (YOf X φ) te52.size (es.take i) va ∧ w.rangeAt b p va.flatten ∧ va.flatten.length = i * te52.size ∧ PRLL w (YOf X φ) te52.size (es.drop i) vd ∧ w.rangeAt b (p + i * te52.size) vd.flatten ∧ vd.flatten.length = (es.length - i) * te52.size := by
  intro b p hP
  obtain ⟨va, x1, x2⟩ := (hP.take i).flat
  obtain ⟨vd, y1, y2⟩ := (hP.drop i).flat
  have ea := Qar x1.size
  rw [x1.length, List.length_take, Nat.min_eq_left hi] at ea
  have ed := Qar y1.size
  rw [y1.length, List.length_drop] at ed
  exact ⟨va, vd, x1, x2, ea, y1, y2, ed⟩
 have hfree : ∀ {C : Array Value} {t : Nat}, ∃ t' cs, (w.drew.alloc (.cells C t)).heap[w.heap.size]? = some (.cells cs t' (0, 0)) ∧ C.size ≤ cs.size := fun {C t} => ⟨t, C, heap_alloc_new w.drew _, Nat.le_refl _⟩
 have hlt : ∀ {C : Array Value} {t : Nat}, w.heap.size < (w.drew.alloc (.cells C t)).heap.size := fun {C t} => by show _ < (w.heap.push _).size; rw [Array.size_push]; omega
 have hmax : maxLen = 9223372036854775807 := rfl
 have hcel : ∀ (C : Array Value) (j : Nat), (w.drew.alloc (.cells C 52)).cell? ⟨w.heap.size, j, none⟩ = C[j]? := fun C j => World.cell?_alloc_at (w := w.drew) _ _ _ _ rfl
 rcases h5 with ⟨hA, hc0⟩ | ⟨b, p, t, C, hA, hb, hC, hP⟩
 ·have hes : es = [] := List.length_eq_zero_iff.1 (by omega)
  subst hes
  have hi0 : i = 0 := by simpa using hi
  subst hi0
  have a0 : l.addr 0 = none := by simp [Loc.addr, hA]
  rw [a0]
  refine ins_eg (n := 0) (cs := []) (vs := vv.flatten) (Nat.zero_le _) (by omega) hfit (by simp [Builtin.firstCells]) hvlen hvr fun c1 rest q1 q2 q3 => ?_
  have hn : (w.drew.alloc (.cells (([] ++ vv.flatten).toArray ++ rest) 52)).rangeAt w.heap.size (0 + 0 * te52.size) vv.flatten := fun j v hj => by
   rw [show 0 + 0 * te52.size + j = j by omega, hcel, Array.getElem?_append_left (by have := (List.getElem?_eq_some_iff.1 hj).1; simpa using this)]
   simpa using hj
  refine fin (va := []) (vd := []) (b0 := w.heap.size) q1 q2 (Far.refl.drew.alloc _) (fun h => by omega) (.inr ⟨Nat.le_refl _, hlt⟩) ?_ (by simp [PRLL]) (by simp [PRLL]) (fun j v hj => by simp at hj) hn (fun j v hj => by simp at hj)
  obtain ⟨t', cs, z1, z2⟩ := hfree (C := ([] ++ vv.flatten).toArray ++ rest) (t := 52)
  refine ⟨t', cs, z1, ?_⟩
  have : (([] ++ vv.flatten).toArray ++ rest).size = c1 * te52.size := by
   rw [Array.size_append, List.nil_append, List.size_toArray, hvlen, q3, ← Nat.add_mul]; congr 1; omega
  omega
 ·obtain ⟨va, vd, x1, x2, x3, y1, y2, y3⟩ := hsplitA hP
  have a0 : l.addr 0 = some ⟨b, p, none⟩ := by simp [Loc.addr, hA]
  rw [a0]
  have hbw : b < w.heap.size := (Array.getElem?_eq_some_iff.1 hb).1
  have hvb : vb ≠ b := fun e => by subst e; exact absurd (hH.inj 0 1 l m vb p voff hl hm hA hmA) (by decide)
  have m3 : (i + 1) * te52.size = i * te52.size + 1 * te52.size := Nat.add_mul _ _ _
  have m4 : (i + 1) * te52.size + (es.length - i) * te52.size = (es.length + 1) * te52.size := by rw [← Nat.add_mul]; congr 1; omega
  rw [h1] at h3
  by_cases hroom : es.length + 1 ≤ l.c
  ·have m5 : (es.length + 1) * te52.size ≤ l.c * te52.size := Nat.mul_le_mul_right _ hroom
   by_cases hin : i = es.length
   ·subst hin
    have hd0 : vd.flatten = [] := List.length_eq_zero_iff.1 (by rw [y3]; simp)
    refine ins_er (n := es.length) (vs := vv.flatten) hroom (by omega) hvlen hvr (cells_there hb _ _ (by omega)) (PRLL.one hvl) ?_
    refine fin (va := va) (vd := vd) (b0 := b) hroom h4 (Far.refl.put _ _) (fun _ => ⟨p, hA⟩) (.inl ⟨p, hA⟩) (Qbx ⟨t, C, hb, hC⟩ (by omega)) x1 y1 (World.rangeAt_setCells_apart x2 _ _ _ (.inr (.inl (by omega)))) (World.rangeAt_setCells_same _ _ _ _ (cells_there hb _ _ (by omega))) (by rw [hd0]; exact fun j v hj => by simp at hj)
   ·refine ins_r (n := es.length) (cd := vd.flatten) (vs := vv.flatten) (by omega) hroom (by omega) y3 hvlen hvb hb hC hvh y2 hvr (PRLL.one hvl) (PRLL.one y1) ?_
    have hw1 : w.drew.heap[b]? = some (.cells C t (0, 0)) := hb
    have hs1 := Qbx (o := p + (i + 1) * te52.size) (vs := vd.flatten) ⟨t, C, hw1, hC⟩ (by omega)
    have ht1 : w.drew.there b (p + (i + 1) * te52.size) vd.flatten.length := cells_there hw1 _ _ (by omega)
    refine fin (va := va) (vd := vd) (b0 := b) hroom h4 ((Far.refl.drew.put _ _).put _ _) (fun _ => ⟨p, hA⟩) (.inl ⟨p, hA⟩) (Qbx hs1 (by omega)) x1 y1 ?_ ?_ ?_
    ·exact World.rangeAt_setCells_apart (World.rangeAt_setCells_apart (by simpa using x2) _ _ _ (.inr (.inl (by omega)))) _ _ _ (.inr (.inl (by omega)))
    ·exact World.rangeAt_setCells_same _ _ _ _ (World.there_setCells (cells_there hw1 _ _ (by omega)) _ _ _)
    ·exact World.rangeAt_setCells_apart (World.rangeAt_setCells_same _ _ _ _ ht1) _ _ _ (.inr (.inr (by omega)))
  ·by_cases hin : i = es.length
   ·subst hin
    have hd0 : vd.flatten = [] := List.length_eq_zero_iff.1 (by rw [y3]; simp)
    refine ins_eg (n := es.length) (cs := va.flatten) (vs := vv.flatten) h3 (by omega) hfit (run_first x3 (by simpa using x2)) hvlen hvr fun c1 rest q1 q2 q3 => ?_
    refine fin (va := va) (vd := vd) (b0 := w.heap.size) q1 q2 (Far.refl.drew.alloc _) (fun h => by omega) (.inr ⟨Nat.le_refl _, hlt⟩) ?_ x1 y1 ?_ ?_ (by rw [hd0]; exact fun j v hj => by simp at hj)
    ·obtain ⟨t', cs, z1, z2⟩ := hfree (C := (va.flatten ++ vv.flatten).toArray ++ rest) (t := 52)
     refine ⟨t', cs, z1, ?_⟩
     have : ((va.flatten ++ vv.flatten).toArray ++ rest).size = c1 * te52.size := by
      rw [Array.size_append, List.size_toArray, List.length_append, x3, hvlen, q3, ← Nat.add_mul, ← Nat.add_mul]; congr 1; omega
     omega
    ·intro j v hj
     have := (List.getElem?_eq_some_iff.1 hj).1
     rw [Nat.zero_add, hcel, Array.getElem?_append_left (by rw [List.size_toArray, List.length_append]; omega), List.getElem?_toArray, List.getElem?_append_left this]; exact hj
    ·intro j v hj
     have := (List.getElem?_eq_some_iff.1 hj).1
     rw [Nat.zero_add, hcel, Array.getElem?_append_left (by rw [List.size_toArray, List.length_append, x3]; omega), List.getElem?_toArray, List.getElem?_append_right (by rw [x3]; omega), x3, Nat.add_sub_cancel_left]; exact hj
   ·have hfit' : Qbk (i + (es.length + 1 - i)) te52 = true := by rw [show i + (es.length + 1 - i) = es.length + 1 by omega]; exact hfit
    refine ins_g (n := es.length) (ca := va.flatten) (cd := vd.flatten) (vs := vv.flatten) (by omega) h3 (by omega) hfit' hbw x3 y3 hvlen x2 y2 hvr (PRLL.one hvl) (PRLL.one y1) fun c1 rest q1 q2 q3 => ?_
    rw [show i + (es.length + 1 - i) = es.length + 1 by omega] at q1 q3 ⊢
    have hcsz : (va.flatten.toArray ++ rest).size = c1 * te52.size := by
     rw [Array.size_append, List.size_toArray, x3, q3, ← Nat.add_mul]; congr 1; omega
    have m5 : (es.length + 1) * te52.size ≤ c1 * te52.size := Nat.mul_le_mul_right _ q1
    obtain ⟨t', cs, z1, z2⟩ := hfree (C := va.flatten.toArray ++ rest) (t := 52)
    have hg0 : ∃ t cs, (w.drew.alloc (.cells (va.flatten.toArray ++ rest) 52)).heap[w.heap.size]? = some (.cells cs t (0, 0)) ∧ 0 + c1 * te52.size ≤ cs.size := ⟨t', cs, z1, by omega⟩
    have hg1 := Qbx (o := 0 + i * te52.size) (vs := vv.flatten) hg0 (by omega)
    have th0 : ∀ o k, o + k ≤ c1 * te52.size → (w.drew.alloc (.cells (va.flatten.toArray ++ rest) 52)).there w.heap.size o k := fun o k h => there_new (w := w.drew) (by rw [hcsz]; exact h)
    refine fin (va := va) (vd := vd) (b0 := w.heap.size) (o' := 0) q1 q2 ((((Far.refl.drew.alloc _).put _ _).drew).put _ _) (fun h => by omega) (.inr ⟨Nat.le_refl _, ?_⟩) (Qbx hg1 (by omega)) x1 y1 ?_ ?_ ?_
    ·rw [(Qaz _ _ _ _).2.2.2.1]
     show _ < (World.setCells _ _ _ _).heap.size
     rw [(Qaz _ _ _ _).2.2.2.1]
     exact hlt
    ·refine World.rangeAt_setCells_apart ?_ _ _ _ (.inr (.inl (by omega)))
     rw [World.rangeAt_drew]
     refine World.rangeAt_setCells_apart ?_ _ _ _ (.inr (.inl (by omega)))
     intro j v hj
     have := (List.getElem?_eq_some_iff.1 hj).1
     rw [Nat.zero_add, hcel, Array.getElem?_append_left (by simpa using this), List.getElem?_toArray]; exact hj
    ·refine World.rangeAt_setCells_apart ?_ _ _ _ (.inr (.inl (by omega)))
     rw [World.rangeAt_drew]
     exact World.rangeAt_setCells_same _ _ _ _ (th0 _ _ (by omega))
    ·exact World.rangeAt_setCells_same _ _ _ _ (by rw [World.there_drew]; exact World.there_setCells (th0 _ _ (by omega)) _ _ _)
theorem del_callS (es : List (List PV)) (i : Nat) (hi : i < es.length) :
  Qq Try.prog true 65 [.own 0, .pl (.int .i64 ((i : Nat) : Int)), .pl (.int .i64 ((i + 1 : Nat) : Int))] [some (.row false te52.size es)] (.own 1) [none, some (.row false te52.size (es.take i ++ es.drop (i + 1)))] := by
 refine ⟨enters_of Try.func65 (by kernel_rfl) rfl, ⟨(fun (h : true = false) => by cases h), fun _ X φ w vs hH hvs => ?_⟩⟩
 simp only [VRT] at hvs
 obtain ⟨v0, _, rfl, hv0, v1, _, rfl, hv1, v2, _, rfl, hv2, rfl⟩ := hvs
 obtain ⟨l, hl, h1, h2, h3, h4, h5⟩ := row_loc hH (o := 0) rfl
 simp only [VR, PR] at hv0 hv1 hv2
 have hv0 := hv0.2.2 _ _ hl
 subst hv0; subst hv1; subst hv2
 rw [h1] at h3 ⊢
 obtain ⟨b, p, t, C, hA, hb, hC, hP⟩ : ∃ b p t cs, l.A = some (b, p) ∧ w.heap[b]? = some (.cells cs t (0, 0)) ∧ p + l.c * te52.size ≤ cs.size ∧ PRE w (YOf X φ) b te52.size p es := by
  rcases h5 with ⟨_, h0⟩ | h
  ·omega
  ·exact h
 have a0 : l.addr 0 = some ⟨b, p, none⟩ := by simp [Loc.addr, hA]
 rw [a0]
 obtain ⟨zs, hzl, hz⟩ := run_clr (P := Try.prog) in_hu in_he
 obtain ⟨va, x1, x2⟩ := (hP.take i).flat
 obtain ⟨vd, y1, y2⟩ := (hP.drop (i + 1)).flat
 have x3 := Qar x1.size
 rw [x1.length, List.length_take, Nat.min_eq_left (by omega)] at x3
 have y3 := Qar y1.size
 rw [y1.length, List.length_drop] at y3
 have hS : (0 : Nat) < te52.size := by decide
 have hmax : maxLen = 9223372036854775807 := rfl
 have m1 : (i + (es.length - (i + 1))) * te52.size = i * te52.size + (es.length - (i + 1)) * te52.size := Nat.add_mul _ _ _
 have m2 : (i + (es.length - (i + 1))) * te52.size + te52.size ≤ l.c * te52.size := by rw [← Nat.succ_mul]; exact Nat.mul_le_mul_right _ (by omega)
 refine del_w (n := es.length) (cd := vd.flatten) (zs := zs) hi h3 (by omega) y3 hzl hz y2 (PRLL.one y1) (fun o k h => cells_there hb o k (by omega)) ?_
 have hw1 : w.drew.heap[b]? = some (.cells C t (0, 0)) := hb
 have hs1 := Qbx (o := p + i * te52.size) (vs := vd.flatten) ⟨t, C, hw1, hC⟩ (by omega)
 have hlen : (es.take i ++ es.drop (i + 1)).length = i + (es.length - (i + 1)) := by simp; omega
 have := moved (k := 1) (sz := te52.size) (b' := b) (o' := p) (c' := l.c) (b0 := b) (es' := es.take i ++ es.drop (i + 1)) (vss := va ++ vd) hH rfl hl (by rw [hlen]; omega) h4 (((Far.refl (w := w) (b := b)).drew.put (p + i * te52.size) vd.flatten).put (p + (i + (es.length - (i + 1))) * te52.size) zs) (fun _ => ⟨p, hA⟩) (.inl ⟨p, hA⟩)
  (Qbx hs1 (by omega)) (x1.append y1) (by
   rw [List.flatten_append]
   refine rangeAt_app ?_ ?_
   ·exact World.rangeAt_setCells_apart (World.rangeAt_setCells_apart (by simpa using x2) _ _ _ (.inr (.inl (by omega)))) _ _ _ (.inr (.inl (by omega)))
   ·rw [x3]
    exact World.rangeAt_setCells_apart (World.rangeAt_setCells_same _ _ _ _ (cells_there hw1 _ _ (by omega))) _ _ _ (.inr (.inl (by omega))))
 rw [hlen] at this
 exact this
end Go.Proofs.Ytelblamgfbkhbaa
