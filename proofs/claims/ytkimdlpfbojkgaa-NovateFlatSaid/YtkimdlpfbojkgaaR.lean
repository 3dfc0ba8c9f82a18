/- Rows of the call's own, append, results handed on; pieces of a caller's memory. No condition. -/
import Derived.Test.YtkimdlpfbojkgaaM
import Derived.Maps.AppendAt
namespace Go.Proofs.Ytkimdlpfbojkgaa
open Go.RowKit

section
variable {α : Type} {E : α → List Value} {sz : Nat}
theorem flat_get {β : Type} {E : α → List β} (hE : ∀ x, (E x).length = sz) : ∀ (l : List α) (k j : Nat), j < sz → (l.flatMap E)[k * sz + j]? = (l[k]?).bind fun x => (E x)[j]?
  | [], k, j, _ => by simp
  | x :: l, 0, j, hj => by
    rw [List.flatMap_cons, Nat.zero_mul, Nat.zero_add, List.getElem?_append_left (by rw [hE]; exact hj)]; simp
  | x :: l, k + 1, j, hj => by
    rw [List.flatMap_cons, List.getElem?_append_right (by rw [hE, Nat.add_mul]; omega), hE]
    have : (k + 1) * sz + j - sz = k * sz + j := by rw [Nat.add_mul]; omega
    rw [this, flat_get hE l k j hj]; simp
theorem flat_len (hE : ∀ x, (E x).length = sz) (l : List α) : (l.flatMap E).length = l.length * sz := by
  induction l with
  | nil => simp
  | cons x l ih => rw [List.flatMap_cons, List.length_append, hE, ih, List.length_cons, Nat.add_mul]; omega
theorem flat_one (hE1 : ∀ x, OneL (E x)) : ∀ (l : List α), ∀ u ∈ l.flatMap E, u.oneCell' = true := by
  intro l u hu
  obtain ⟨x, _, h⟩ := List.mem_flatMap.1 hu
  exact oneL_all (hE1 x) u h
theorem addr_add (g o j : Nat) : (⟨g, o, none⟩ : Addr).add j = ⟨g, o + j, none⟩ := Addr.add_mid g o j

theorem SlB.news {lo hi c : Nat} {w : World} {a : Addr} {l : List α} (h : SlB lo hi w (some a) c sz E l) (hE : ∀ x, (E x).length = sz) (hs : 0 < sz) : ∀ j u, (l.flatMap E)[j]? = some u → w.cell? (a.add j) = some u := by
  intro j u hu
  have hj : j = j / sz * sz + j % sz := by have := Nat.div_add_mod j sz; rw [Nat.mul_comm] at this; omega
  rw [hj, flat_get hE l _ _ (Nat.mod_lt _ hs)] at hu
  obtain ⟨x, hx, hu⟩ := Option.bind_eq_some_iff.1 hu
  obtain ⟨g, o, hA, _, hc⟩ := h.2.2.2 _ x hx
  injection hA with hA
  subst hA
  have := hc _ u hu
  rw [addr_add]
  rwa [show o + j / sz * sz + j % sz = o + j from by omega] at this

theorem SlB.of_row {base e n c : Nat} {w : World} {A : Option Addr} {l : List α} (h : w.ownsRow base e sz (.slice A n c) n (l.flatMap E)) (hn : l.length = n) (hE : ∀ x, (E x).length = sz) : SlB base w.heap.size w A c sz E l := by
  rcases h.2 with ⟨hv, h0⟩ | ⟨g, cap, cur, hv, hb, hg, hnc, hcm, hcs, htake⟩
  · injection hv with h1 h2 h3
    subst h1; subst h0; subst h3
    have : l = [] := List.eq_nil_of_length_eq_zero hn
    subst this
    exact SlB.nil _ _ _ _ _
  · injection hv with h1 h2 h3
    subst h1; subst h3
    refine ⟨by omega, hcm, by simp, fun k x hx => ⟨g, 0, rfl, ⟨hb, lt_of_get hg⟩, fun j u hu => ?_⟩⟩
    have hjl : j < sz := by
      have := (List.getElem?_eq_some_iff.1 hu).1
      rwa [hE] at this
    have hf := flat_get hE l k j hjl
    rw [hx, Option.bind_some, hu] at hf
    rw [Nat.zero_add, cell_of_row w g (k * sz + j) cur e (0, 0) hg]
    have hlt := (List.getElem?_eq_some_iff.1 hf).1
    rw [← htake, List.getElem?_take] at hf
    split at hf
    · simpa using hf
    · cases hf
end

section
variable {w w' w0 : World} {G : List Nat} {L L' : List Own} {R : List Ro} {α : Type} {E : α → List Value} {l : List α} {lo hi c sz : Nat} {A : Option Addr}
theorem Mem.slw (h : Mem w0 G w L R) {i : Nat} (hi' : R[i]? = some (Ro.sl lo hi A c sz E l)) : SlB 0 w.heap.size w A c sz E l :=
  (h.sl hi').wide (Nat.zero_le _) (h.ro _ (List.mem_of_getElem? hi')).2
theorem Mem.row (h : Mem w0 G w L R) {i e n : Nat} {v : Value} {xs : List Value} (hi' : L[i]? = some (Own.row e sz v n xs)) : w.ownsRow 0 e sz v n xs := h.own _ (List.mem_of_getElem? hi')
theorem Mem.rowsl (h : Mem w0 G w L R) {i e n : Nat} (hi' : L[i]? = some (Own.row e sz (.slice A n c) n (l.flatMap E))) (hn : l.length = n) (hE : ∀ x, (E x).length = sz) : SlB 0 w.heap.size w A c sz E l := SlB.of_row (h.row hi') hn hE
/-- A row of the call's own, to be handed back: it is new memory. -/
theorem Mem.rownew (h : Mem w0 [] w L R) {i e n : Nat} {v : Value} {xs : List Value} (hi' : L[i]? = some (Own.row e sz v n xs)) : w.ownsRow w0.heap.size e sz v n xs := by
  obtain ⟨h1, h2⟩ := h.row hi'
  refine ⟨h1, ?_⟩
  rcases h2 with h2 | ⟨g, cap, cur, hv, _, hg, r⟩
  · exact .inl h2
  · refine .inr ⟨g, cap, cur, hv, ?_, hg, r⟩
    rcases h.base _ (List.mem_of_getElem? hi') g (by subst hv; rfl) with hb | hb
    · exact hb
    · simp at hb
theorem Mem.nilRow (h : Mem w0 G w L R) (e sz : Nat) : Mem w0 G w (Own.row e sz (.slice none 0 0) 0 [] :: L) R :=
  h.make (Below.refl _ _) _ (World.ownsRow_nil w 0 e sz) fun g hg => by simp [Own.row, Value.ownBlock] at hg
theorem ownsRow_mono {w : World} {b b' e sz n : Nat} {v : Value} {xs : List Value} (h : w.ownsRow b e sz v n xs) (hb : b' ≤ b) : w.ownsRow b' e sz v n xs := by
  refine ⟨h.1, ?_⟩
  rcases h.2 with h2 | ⟨g, cap, cur, hv, hg, r⟩
  · exact .inl h2
  · exact .inr ⟨g, cap, cur, hv, Nat.le_trans hb hg, r⟩
/-- A new row that a callee hands back. -/
theorem Mem.gotRow (h : Mem w0 G w L R) (hb : Below w.heap.size w w') {e n : Nat} {v : Value} {xs : List Value} (hr : w'.ownsRow w.heap.size e sz v n xs) : Mem w0 G w' (Own.row e sz v n xs :: L) R :=
  h.make hb _ (ownsRow_mono hr (Nat.zero_le _)) fun g hg => (hr.lt g hg).1
/-- A new slice that a callee hands back, for reading. -/
theorem Mem.gotSl (h : Mem w0 G w L R) (hb : Below w.heap.size w w') (hs : SlB w.heap.size w'.heap.size w' A c sz E l) : Mem w0 G w' L (Ro.sl w.heap.size w'.heap.size A c sz E l :: R) :=
  h.made hb (Ro.sl w.heap.size w'.heap.size A c sz E l) hs (Nat.le_refl _) (Nat.le_refl _)
end

/-! ### append -/
structure AppT (P : Program) (t e sz bytes : Nat) : Prop where
  ht : P.underlying t = some (.slice e)
  all : ∃ i z, P.info? e = some i ∧ i.zero = some z ∧ i.size = sz ∧ i.bytes = bytes ∧ z.cells.size = sz ∧ 0 < sz
theorem appT_of {P : Program} {t e sz bytes : Nat} (ht : P.underlying t = some (.slice e)) (h : (P.info? e).bind (fun i => i.zero.map fun z => (i.size, i.bytes, z.cells.size)) = some (sz, bytes, sz)) (hsz : Nat.blt 0 sz = true) : AppT P t e sz bytes := by
  refine ⟨ht, ?_⟩
  cases hi : P.info? e with
  | none => simp [hi] at h
  | some i =>
    cases hz : i.zero with
    | none => simp [hi, hz] at h
    | some z =>
      simp [hi, hz] at h
      exact ⟨i, z, rfl, hz, h.1, h.2.1, h.2.2, by simpa [Nat.blt_eq] using hsz⟩
section
variable {P : Program} {ops : Array Oper} {Q : Exit → Act → World → Prop} {K : Act → World → Prop} {rest : List Oper} {o : Oper} {n : Nat} {l : List (Nat × Value)} {w w' w0 : World} {G : List Nat} {L L' : List Own} {R : List Ro} {t : Nat}
theorem x_append {ρ : Operand → Value} {d : Option Tmp} {ty : TypeId} {pos : String} {af : Array Edge} {g : Option (Nat × Bool)} {x y : Operand} {vx vy v : Value} (hx : ρ x = vx) (hy : ρ y = vy) (hr : (Builtin.append_ #[t, t] ty #[vx, vy]).run P w = .ok v w') :
    (execOp ρ ⟨d, .call { callee := .builtin .append, args := #[x, y], argTypes := #[t, t] }, ty, pos, af, g⟩).run P w = .ok (.value v) w' := by
  subst hx; subst hy
  rw [BigFrame.execOp_builtin, BigFrame.builtin_append]
  simp [hr]
theorem sapp {d : Nat} {ty : TypeId} {pos : String} {af : Array Edge} {x y : Operand} {k e sz bytes m m' c' : Nat} {v : Value} {xs news : List Value} {a : Addr} (M : Mem w0 G w L R) (hk : L[k]? = some (Own.row e sz v m xs)) (hT : AppT P t e sz bytes)
    (hd : Nat.blt d n = true) (hx : (fr n l).eval x = v) (hy : (fr n l).eval y = .slice (some a) m' c') (hl : news.length = m' * sz) (hnews : ∀ j u, news[j]? = some u → w.cell? (a.add j) = some u) (h1 : ∀ u ∈ news, u.oneCell' = true)
    (h63 : m + m' ≤ maxLen) (hbytes : (m + m') * bytes ≤ 140737488355328)
    (h : ∀ A c w', Mem w0 G w' (L.set k (Own.row e sz (.slice A (m + m') c) (m + m') (xs ++ news))) R → wpS P ops Q rest K (fr n ((d, .slice A (m + m') c) :: l)) w') :
    wpS P ops Q (⟨some d, .call { callee := .builtin .append, args := #[x, y], argTypes := #[t, t] }, ty, pos, af, none⟩ :: rest) K (fr n l) w := by
  obtain ⟨i, z, hi, hz, hs1, hs2, hs3, hs4⟩ := hT.all
  obtain ⟨v', w', hr, hown, hg, _, hat⟩ := run_append_own_at (P := P) w 0 t ty e i z sz bytes hT.ht hi hz hs1 hs2 hs3 hs4 v m xs (M.row hk) a m' c' news hl hnews h1 h63 hbytes (Nat.zero_le _)
  have hform : ∃ A c, v' = .slice A (m + m') c := by
    rcases hown.2 with ⟨h1, h2⟩ | ⟨g, cap, cur, h1, _⟩
    · exact ⟨none, 0, by rw [h1, h2]⟩
    · exact ⟨_, _, h1⟩
  obtain ⟨A, c, rfl⟩ := hform
  refine st hd (x_append hx hy hr) (h A c w' ?_)
  refine M.write (x := Own.row e sz v m xs) (y := Own.row e sz (.slice A (m + m') c) (m + m') (xs ++ news)) hk hg.size hg.os hg.tape hg.output (fun g hlt hne => hg.block g hlt fun he => hne he.symm) hown fun g hgb => ?_
  rcases hat with h2 | h2
  · exact .inl (h2.symm.trans hgb)
  · have : (Value.slice A (m + m') c).ownBlock = some g := hgb
    rw [h2] at this
    injection this with this
    exact .inr (Nat.le_of_eq this)
theorem Mem.block_news (M : Mem w0 G w L R) {i b e : Nat} {cs : Array Value} (hi : L[i]? = some (Own.cells b e cs)) : ∀ j u, cs.toList[j]? = some u → w.cell? ((⟨b, 0, none⟩ : Addr).add j) = some u := by
  intro j u hu
  rw [addr_add, Nat.zero_add]
  exact M.cell hi (by simpa using hu)
end

/-! ### a piece of a block that came in, which is written -/
def Own.seg (g e o : Nat) (pre : List Value) (cs : Array Value) (post : List Value) : Own where
  blk := some g
  ok w := w.heap[g]? = some (.cells (pre ++ cs.toList ++ post).toArray e (0, 0)) ∧ pre.length = o
  loc := fun _ _ h hk => ⟨(hk g rfl).trans h.1, h.2⟩
  lt := fun _ h x hx => by injection hx with hx; subst hx; exact lt_of_get h.1
section
variable {w w' w0 : World} {G : List Nat} {L L' : List Own} {R : List Ro} {i g e o : Nat} {pre post : List Value} {cs : Array Value}
theorem Mem.segcell (h : Mem w0 G w L R) (hi : L[i]? = some (Own.seg g e o pre cs post)) {j : Nat} {v : Value} (hv : cs[j]? = some v) : w.cell? ⟨g, o + j, none⟩ = some v := by
  obtain ⟨h1, h2⟩ := h.own _ (List.mem_of_getElem? hi)
  rw [cell_of_row w g (o + j) _ e (0, 0) h1]
  subst h2
  have hj : j < cs.size := (Array.getElem?_eq_some_iff.1 hv).1
  simp only [List.getElem?_toArray]
  rw [List.append_assoc, List.getElem?_append_right (by omega), Nat.add_sub_cancel_left, List.getElem?_append_left (by simpa using hj)]
  simpa using hv
theorem Mem.segfree (h : Mem w0 G w L R) (hi : L[i]? = some (Own.seg g e o pre cs post)) {q : Nat} : w.frozen? ⟨g, q, none⟩ = false := by
  obtain ⟨h1, _⟩ := h.own _ (List.mem_of_getElem? hi)
  simp [World.frozen?, h1]
theorem Mem.segset (h : Mem w0 G w L R) (hi : L[i]? = some (Own.seg g e o pre cs post)) (j : Nat) (hj : j < cs.size) (v : Value) : Mem w0 G (w.setCell ⟨g, o + j, none⟩ v) (L.set i (Own.seg g e o pre (cs.setIfInBounds j v) post)) R := by
  obtain ⟨h1, h2⟩ := h.own _ (List.mem_of_getElem? hi)
  refine h.write hi (by simp [World.setCell]) rfl rfl rfl (fun q _ hne => Below.heap_setCell w _ v q (fun e => hne (by rw [e]; rfl))) ⟨?_, h2⟩ fun q hq => .inl hq
  rw [setCell_heap w v h1]
  congr 2
  apply Array.ext'
  subst h2
  simp [hj]
end
section
variable {P : Program} {ops : Array Oper} {Q : Exit → Act → World → Prop} {K : Act → World → Prop} {rest : List Oper} {n : Nat} {l : List (Nat × Value)} {w w' w0 : World} {G : List Nat} {L L' : List Own} {R : List Ro}
theorem sseg {op : Op} {ty : TypeId} {pos : String} {af : Array Edge} {k g e o j : Nat} {pre post : List Value} {cs : Array Value} {v : Value} (M : Mem w0 G w L R) (hk : L[k]? = some (Own.seg g e o pre cs post)) (hj : Nat.blt j cs.size = true)
    (hrun : (execOp (fr n l).eval ⟨none, op, ty, pos, af, none⟩).run P w = .ok .skip (w.setCell ⟨g, o + j, none⟩ v))
    (h : ∀ w', Mem w0 G w' (L.set k (Own.seg g e o pre (cs.setIfInBounds j v) post)) R → wpS P ops Q rest K (fr n l) w') : wpS P ops Q (⟨none, op, ty, pos, af, none⟩ :: rest) K (fr n l) w :=
  su hrun (h _ (M.segset hk j (by simpa [Nat.blt_eq] using hj) v))
end
theorem flat_split {α : Type} {E : α → List Value} {l : List α} {k : Nat} (hk : k < l.length) (x : α) : (l.set k x).flatMap E = (l.take k).flatMap E ++ E x ++ (l.drop (k + 1)).flatMap E := by
  rw [List.set_eq_take_append_cons_drop, if_pos hk, List.flatMap_append, List.flatMap_cons, List.append_assoc]
/-- What a slice of the call's own holds at one place: the row taken apart there, and put together again. -/
theorem row_open {α : Type} {E : α → List Value} {sz e n c k : Nat} {w : World} {A : Option Addr} {l : List α} {x : α} (hE : ∀ x, (E x).length = sz) (hn : l.length = n) (h : w.ownsRow 0 e sz (.slice A n c) n (l.flatMap E)) (hx : l[k]? = some x) :
    ∃ g pre post, A = some ⟨g, 0, none⟩ ∧ w.heap[g]? = some (.cells (pre ++ E x ++ post).toArray e (0, 0)) ∧ pre.length = k * sz ∧
      ∀ (x' : α) (w' : World), w'.heap[g]? = some (.cells (pre ++ E x' ++ post).toArray e (0, 0)) → w'.ownsRow 0 e sz (.slice A n c) n ((l.set k x').flatMap E) := by
  have hk : k < l.length := (List.getElem?_eq_some_iff.1 hx).1
  have hlx : l[k] = x := (List.getElem?_eq_some_iff.1 hx).2
  have hset : l.set k x = l := by rw [← hlx]; exact List.set_getElem_self hk
  rcases h.2 with ⟨_, h0⟩ | ⟨g, cap, cur, hv, hb, hg, hnc, hcm, hcs, htake⟩
  · omega
  · injection hv with h1 _ h3
    subst h1; subst h3
    have hsp := flat_split (E := E) hk x
    rw [hset] at hsp
    have hcur : cur.toList = (l.take k).flatMap E ++ E x ++ ((l.drop (k + 1)).flatMap E ++ cur.toList.drop (n * sz)) := by
      rw [← List.append_assoc, ← hsp, ← htake, List.take_append_drop]
    refine ⟨g, (l.take k).flatMap E, (l.drop (k + 1)).flatMap E ++ cur.toList.drop (n * sz), rfl, ?_, ?_, fun x' w' hw => ?_⟩
    · rw [← hcur]; exact hg
    · rw [flat_len hE, List.length_take]; congr 1; omega
    · have hl' : (l.set k x').length = n := by rw [List.length_set, hn]
      refine ⟨by rw [flat_len hE, hl'], .inr ⟨g, c, _, rfl, hb, hw, hnc, hcm, ?_, ?_⟩⟩
      · have h1 := congrArg List.length hcur
        rw [Array.length_toList, hcs] at h1
        rw [h1, List.size_toArray]
        simp only [List.length_append, hE]
      · rw [← List.append_assoc, ← flat_split hk x']
        have h2 : ((l.set k x').flatMap E).length = n * sz := by rw [flat_len hE, hl']
        rw [← h2]
        exact List.take_left
section
variable {w w' w0 : World} {G : List Nat} {L L' : List Own} {R : List Ro}
theorem Mem.emptyRow (h : Mem w0 G w L R) {i b e : Nat} (hi : L[i]? = some (Own.cells b e #[])) (sz : Nat) : Mem w0 G w (L.set i (Own.row e sz (.slice (some ⟨b, 0, none⟩) 0 0) 0 [])) R :=
  h.write hi (Nat.le_refl _) rfl rfl rfl (fun _ _ _ => rfl) ⟨by simp, .inr ⟨b, 0, #[], rfl, Nat.zero_le _, h.cells_at hi, Nat.le_refl _, by simp [maxLen], by simp, by simp⟩⟩ fun _ hg => .inl hg
theorem Mem.rexs (h : Mem w0 G w L R) {i e sz n : Nat} {v : Value} {xs : List Value} (hi : L[i]? = some (Own.row e sz v n xs)) {xs' : List Value} (hx : xs = xs') : Mem w0 G w (L.set i (Own.row e sz v n xs')) R := by
  subst hx
  have h1 : L.set i (Own.row e sz v n xs) = L := by
    obtain ⟨hl, he⟩ := List.getElem?_eq_some_iff.1 hi
    rw [← he]; exact List.set_getElem_self hl
  rw [h1]; exact h
theorem Mem.rerow (h : Mem w0 G w L R) {i e sz n : Nat} {A : Option Addr} {c : Nat} {xs : List Value} (hi : L[i]? = some (Own.row e sz (.slice A n c) n xs)) {n' : Nat} {xs' : List Value} (hn : n = n') (hx : xs = xs') : Mem w0 G w (L.set i (Own.row e sz (.slice A n' c) n' xs')) R := by
  subst hn
  exact h.rexs hi hx
end
section
variable {w w' w0 : World} {G : List Nat} {L L' : List Own} {R : List Ro} {α : Type} {E : α → List Value} {l : List α} {sz e n c i k : Nat} {A : Option Addr}
theorem Mem.openRow (h : Mem w0 G w L R) (hi : L[i]? = some (Own.row e sz (.slice A n c) n (l.flatMap E))) (hn : l.length = n) (hE : ∀ x, (E x).length = sz) {x : α} (hx : l[k]? = some x) :
    ∃ g pre post, A = some ⟨g, 0, none⟩ ∧ Mem w0 G w (L.set i (Own.seg g e (0 + k * sz) pre (E x).toArray post)) R ∧
      ∀ (x' : α) (w' : World), (Own.seg g e (0 + k * sz) pre (E x').toArray post).ok w' → w'.ownsRow 0 e sz (.slice A n c) n ((l.set k x').flatMap E) := by
  obtain ⟨g, pre, post, hA, hg, hp, hback⟩ := row_open hE hn (h.row hi) hx
  refine ⟨g, pre, post, hA, ?_, fun x' w' hw => hback x' w' hw.1⟩
  exact h.write hi (Nat.le_refl _) rfl rfl rfl (fun _ _ _ => rfl) ⟨hg, by rw [Nat.zero_add]; exact hp⟩ fun q hq => .inl (by
    have : q = g := by injection hq with hq; exact hq.symm
    subst this; subst hA; rfl)
theorem Mem.closeRow (h : Mem w0 G w L R) {g o : Nat} {pre post : List Value} {cs : Array Value} (hi : L[i]? = some (Own.seg g e o pre cs post)) (hA : A = some ⟨g, 0, none⟩) {l' : List α}
    (hback : (Own.seg g e o pre cs post).ok w → w.ownsRow 0 e sz (.slice A n c) n (l'.flatMap E)) : Mem w0 G w (L.set i (Own.row e sz (.slice A n c) n (l'.flatMap E))) R := by
  refine h.write hi (Nat.le_refl _) rfl rfl rfl (fun _ _ _ => rfl) (hback (h.own _ (List.mem_of_getElem? hi))) fun q hq => .inl ?_
  subst hA
  exact hq
/-- A callee has written one piece of the call's own. -/
theorem Mem.callW (h : Mem w0 G w L R) {g : Nat} {x y : Own} (hi : L[i]? = some x) (hb : Kept w w' [g]) (hx : x.blk = some g) (hy : y.ok w') (hyb : y.blk = some g) : Mem w0 G w' (L.set i y) R :=
  h.write hi hb.size hb.os hb.tape hb.output (fun q hq hne => hb.block q hq (by simp; rintro rfl; exact hne hx)) hy fun q hq => .inl (by rw [hyb] at hq; injection hq with hq; subst hq; exact hx)
theorem Mem.segok (h : Mem w0 G w L R) {g o : Nat} {pre post : List Value} {cs : Array Value} (hi : L[i]? = some (Own.seg g e o pre cs post)) : (Own.seg g e o pre cs post).ok w := h.own _ (List.mem_of_getElem? hi)
theorem Mem.segnew (h : Mem w0 [] w L R) {g o : Nat} {pre post : List Value} {cs : Array Value} (hi : L[i]? = some (Own.seg g e o pre cs post)) : w0.heap.size ≤ g := by
  rcases h.base _ (List.mem_of_getElem? hi) g rfl with hb | hb
  · exact hb
  · simp at hb
end
theorem set_list (cs vs : List Value) (v : Value) (j : Nat) (hj : j < cs.length) : (cs.set j v).take (j + 1) ++ vs ++ (cs.set j v).drop (j + 1 + vs.length) = cs.take j ++ (v :: vs) ++ cs.drop (j + (vs.length + 1)) := by
  have h1 : (cs.set j v).take (j + 1) = cs.take j ++ [v] := by
    rw [List.take_succ_eq_append_getElem (by simpa using hj), List.take_set, List.set_eq_of_length_le (by simp; omega), List.getElem_set_self]
  have h2 : (cs.set j v).drop (j + 1 + vs.length) = cs.drop (j + (vs.length + 1)) := by
    rw [List.drop_set, if_pos (by omega)]
    congr 1; omega
  rw [h1, h2]; simp
theorem setCells_seg {g e : Nat} {pre post : List Value} : ∀ (vs cs : List Value) (j : Nat) (w : World), w.heap[g]? = some (.cells (pre ++ cs ++ post).toArray e (0, 0)) → j + vs.length ≤ cs.length →
    (w.setCells g (pre.length + j) vs).heap[g]? = some (.cells (pre ++ (cs.take j ++ vs ++ cs.drop (j + vs.length)) ++ post).toArray e (0, 0))
  | [], cs, j, w, h, _ => by
    simp only [World.setCells, List.append_nil, List.length_nil, Nat.add_zero, List.take_append_drop]
    exact h
  | v :: vs, cs, j, w, h, hl => by
    have hj : j < cs.length := by simp at hl; omega
    have h1 : (w.setCell ⟨g, pre.length + j, none⟩ v).heap[g]? = some (.cells (pre ++ cs.set j v ++ post).toArray e (0, 0)) := by
      rw [setCell_heap w v h]
      congr 2
      apply Array.ext'
      simp [hj]
    have h2 := setCells_seg vs (cs.set j v) (j + 1) _ h1 (by simp at hl ⊢; omega)
    rw [World.setCells]
    rw [show pre.length + j + 1 = pre.length + (j + 1) from by omega, h2]
    rw [set_list cs vs v j hj]
    rfl
theorem setCells_kept (g : Nat) : ∀ (vs : List Value) (o : Nat) (w : World), Kept w (w.setCells g o vs) [g]
  | [], _, w => Kept.refl w _
  | v :: vs, o, w => by
    rw [World.setCells]
    have h1 : Kept w (w.setCell ⟨g, o, none⟩ v) [g] := ⟨rfl, rfl, rfl, by simp [World.setCell], fun k _ hk => Below.heap_setCell w _ v k (by simpa using hk)⟩
    exact h1.then_ (setCells_kept g vs (o + 1) _)
section
variable {P : Program} {ops : Array Oper} {Q : Exit → Act → World → Prop} {K : Act → World → Prop} {rest : List Oper} {n : Nat} {l : List (Nat × Value)} {w w' w0 : World} {G : List Nat} {L L' : List Own} {R : List Ro}
/-- A whole struct is stored into a piece. -/
theorem ssegw {ty t : TypeId} {pos : String} {af : Array Edge} {x y : Operand} {k g e o : Nat} {pre post : List Value} {old : Array Value} {cs : List Value} (M : Mem w0 G w L R) (hk : L[k]? = some (Own.seg g e o pre old post)) (hi : (P.info? t).map (·.size) = some cs.length)
    (hx : (fr n l).eval x = .pointer (some ⟨g, o, none⟩)) (hy : (fr n l).eval y = .agg cs.toArray) (ho : old.size = cs.length) (h1 : OneL cs)
    (h : ∀ w', Mem w0 G w' (L.set k (Own.seg g e o pre cs.toArray post)) R → wpS P ops Q rest K (fr n l) w') : wpS P ops Q (⟨none, .store t x y, ty, pos, af, none⟩ :: rest) K (fr n l) w := by
  obtain ⟨hg, hp⟩ := M.segok hk
  have hrun : (execOp (fr n l).eval ⟨none, .store t x y, ty, pos, af, none⟩).run P w = .ok .skip (w.setCells g o cs) := by
    have hs := run_storeAt_mid (P := P) w g o t cs.toArray (fun j hj => ⟨by
      have hj' : j < old.size := by simp at hj; omega
      rw [M.segcell hk (Array.getElem?_eq_getElem hj')]; rfl, M.segfree hk⟩) (by simpa using hi) (all_oneCell_toArray (oneL_all h1))
    simp [execOp, hx, hy, hs]
  refine su hrun (h _ ?_)
  have hset := setCells_seg (g := g) (e := e) (pre := pre) (post := post) cs old.toList 0 w hg (by simp; omega)
  rw [hp, Nat.add_zero] at hset
  have hk' := setCells_kept g cs o w
  refine M.write hk hk'.size hk'.os hk'.tape hk'.output (fun q hq hne => hk'.block q hq (by simp; rintro rfl; exact hne rfl)) ⟨?_, hp⟩ fun q hq => .inl hq
  rw [hset]
  have : old.toList.drop (0 + cs.length) = [] := List.drop_eq_nil_of_le (by simp; omega)
  rw [this]; simp
end
/-! ### a piece that is read through a pointer -/
def Pt (w : World) (g o : Nat) (cs : List Value) : Prop := g < w.heap.size ∧ ∀ j u, cs[j]? = some u → w.cell? ⟨g, o + j, none⟩ = some u
def Ro.pt (g o : Nat) (cs : List Value) : Ro where
  lo := g
  hi := g + 1
  ok w := Pt w g o cs
  loc := fun w w' h hk => by
    have hg := hk g (Nat.le_refl _) (Nat.lt_succ_self _)
    refine ⟨?_, fun j u hu => by rw [World.cell?_of_block (w := w) hg]; exact h.2 j u hu⟩
    rcases Nat.lt_or_ge g w'.heap.size with h1 | h1
    · exact h1
    · rw [Array.getElem?_eq_none h1, Array.getElem?_eq_getElem h.1] at hg; cases hg
section
variable {w w' w0 : World} {G : List Nat} {L L' : List Own} {R : List Ro} {i g e o : Nat} {pre post cs : List Value}
theorem Mem.pt (h : Mem w0 G w L R) (hi : R[i]? = some (Ro.pt g o cs)) : Pt w g o cs := (h.ro _ (List.mem_of_getElem? hi)).1
theorem Mem.ptcell (h : Mem w0 G w L R) (hi : R[i]? = some (Ro.pt g o cs)) {j : Nat} {v : Value} (hv : cs[j]? = some v) : w.cell? ⟨g, o + j, none⟩ = some v := (h.pt hi).2 j v hv
theorem Mem.segpt (h : Mem w0 G w L R) (hi : L[i]? = some (Own.seg g e o pre cs.toArray post)) : Pt w g o cs :=
  ⟨lt_of_get (h.segok hi).1, fun j u hu => h.segcell hi (by simpa using hu)⟩
theorem Mem.cellspt (h : Mem w0 G w L R) (hi : L[i]? = some (Own.cells g e cs.toArray)) : Pt w g 0 cs :=
  ⟨lt_of_get (h.cells_at hi), fun j u hu => by rw [Nat.zero_add]; exact h.cell hi (by simpa using hu)⟩
theorem Pt.below (h : Pt w g o cs) (hb : Below w.heap.size w w') : Pt w' g o cs :=
  ⟨by have := h.1; have := hb.size; omega, fun j u hu => by rw [hb.cell (p := ⟨g, o + j, none⟩) h.1]; exact h.2 j u hu⟩
end
section
variable {P : Program} {ops : Array Oper} {Q : Exit → Act → World → Prop} {K : Act → World → Prop} {rest : List Oper} {n : Nat} {l : List (Nat × Value)} {w w' w0 : World} {G : List Nat} {L L' : List Own} {R : List Ro} {t : Nat}
theorem sapp0 {d : Nat} {ty : TypeId} {pos : String} {af : Array Edge} {x y : Operand} {k e sz bytes m c' : Nat} {v : Value} {xs : List Value} (M : Mem w0 G w L R) (hk : L[k]? = some (Own.row e sz v m xs)) (hT : AppT P t e sz bytes)
    (hd : Nat.blt d n = true) (hx : (fr n l).eval x = v) (hy : (fr n l).eval y = .slice none 0 c') (h : wpS P ops Q rest K (fr n ((d, v) :: l)) w) :
    wpS P ops Q (⟨some d, .call { callee := .builtin .append, args := #[x, y], argTypes := #[t, t] }, ty, pos, af, none⟩ :: rest) K (fr n l) w := by
  obtain ⟨i, z, hi, hz, hs1, hs2, hs3, hs4⟩ := hT.all
  have hr : (Builtin.append_ #[t, t] ty #[v, .slice none 0 c']).run P w = .ok v w := by
    rcases (M.row hk).2 with ⟨rfl, rfl⟩ | ⟨g, cap, cur, rfl, _, _, hnc, _⟩
    · simp [Builtin.append_, run_underlying hT.ht, sizeOf, typeInfo, hi, Builtin.lenOf, Builtin.firstCells]
    · simp [Builtin.append_, run_underlying hT.ht, sizeOf, typeInfo, hi, Builtin.lenOf, Builtin.firstCells, hnc, storeCells]
  exact st hd (x_append hx hy hr) h
end
theorem Mem.slout {α : Type} {w w0 : World} {G : List Nat} {L : List Own} {R : List Ro} {lo hi c sz i : Nat} {A : Option Addr} {E : α → List Value} {l : List α} (h : Mem w0 G w L R) (hi' : R[i]? = some (Ro.sl lo hi A c sz E l)) (hlo : w0.heap.size ≤ lo) : SlB w0.heap.size w.heap.size w A c sz E l :=
  (h.sl hi').wide hlo (h.ro _ (List.mem_of_getElem? hi')).2
theorem flat_snoc {α : Type} {E : α → List Value} (l : List α) (x : α) : l.flatMap E ++ E x = (l ++ [x]).flatMap E := by simp
section
variable {P : Program} {ops : Array Oper} {Q : Exit → Act → World → Prop} {K : Act → World → Prop} {n : Nat} {l : List (Nat × Value)} {w w' w0 : World} {G : List Nat} {L L' : List Own} {R : List Ro} {t : Nat}
theorem dapp {i d : Nat} {ty : TypeId} {pos : String} {af : Array Edge} {x y : Operand} {k e sz bytes m m' c' : Nat} {v : Value} {xs news : List Value} {a : Addr}
    (hi : ops[i]? = some ⟨some d, .call { callee := .builtin .append, args := #[x, y], argTypes := #[t, t] }, ty, pos, af, none⟩) (M : Mem w0 G w L R) (hk : L[k]? = some (Own.row e sz v m xs)) (hT : AppT P t e sz bytes)
    (hd : Nat.blt d n = true) (hx : (fr n l).eval x = v) (hy : (fr n l).eval y = .slice (some a) m' c') (hl : news.length = m' * sz) (hnews : ∀ j u, news[j]? = some u → w.cell? (a.add j) = some u) (h1 : ∀ u ∈ news, u.oneCell' = true)
    (h63 : m + m' ≤ maxLen) (hbytes : (m + m') * bytes ≤ 140737488355328)
    (h : ∀ A c w', Mem w0 G w' (L.set k (Own.row e sz (.slice A (m + m') c) (m + m') (xs ++ news))) R → K (fr n ((d, .slice A (m + m') c) :: l)) w') : wpOp P ops Q i K (fr n l) w := by
  have hs := sapp (P := P) (ops := ops) (Q := Q) (K := K) (rest := []) (ty := ty) (pos := pos) (af := af) M hk hT hd hx hy hl hnews h1 h63 hbytes (fun A c w' M' => s_nil (h A c w' M'))
  unfold wpS at hs
  rw [if_pos (by simp [Region.wanted])] at hs
  unfold wpOp
  rw [hi]
  simp only [Region.wanted, if_true]
  exact hs
end
theorem Mem.blksl {α : Type} {w w0 : World} {G : List Nat} {L : List Own} {R : List Ro} {b e n sz i : Nat} {cs : List Value} {E : α → List Value} {l : List α} (h : Mem w0 G w L R) (hi : L[i]? = some (Own.cells b e cs.toArray)) (hcs : cs = l.flatMap E) (hn : l.length = n) (hm : n ≤ maxLen) (hE : ∀ x, (E x).length = sz) : SlB 0 w.heap.size w (some ⟨b, 0, none⟩) n sz E l := by
  subst hn; subst hcs
  refine ⟨Nat.le_refl _, hm, by simp, fun k x hx => ⟨b, 0, rfl, ⟨Nat.zero_le _, lt_of_get (h.cells_at hi)⟩, fun j u hu => ?_⟩⟩
  have hj : j < sz := by have := (List.getElem?_eq_some_iff.1 hu).1; rwa [hE] at this
  rw [Nat.zero_add]
  refine h.cell hi ?_
  have := flat_get hE l k j hj
  rw [hx, Option.bind_some, hu] at this
  simpa using this
theorem Mem.perm {w w0 : World} {G : List Nat} {L L' : List Own} {R : List Ro} (h : Mem w0 G w L R) (hp : L.Perm L') : Mem w0 G w L' R :=
  ⟨h.kept, fun x hx => h.own x (hp.mem_iff.2 hx), fun x hx => h.base x (hp.mem_iff.2 hx),
    (hp.pairwise_iff (fun hxy g hy hx => hxy g hx hy)).1 h.dist, h.ro, fun x hx => h.sep x (hp.mem_iff.2 hx)⟩
theorem Mem.swap {w w0 : World} {G : List Nat} {L : List Own} {R : List Ro} {x y : Own} (h : Mem w0 G w (x :: y :: L) R) : Mem w0 G w (y :: x :: L) R := h.perm (List.Perm.swap _ _ _)
theorem same_t {α : Type} [DecidableEq α] (a : α) : decide (a = a) = true := decide_eq_true rfl
theorem same_f {α : Type} [DecidableEq α] (a : α) : (!decide (a = a)) = false := by rw [same_t]; rfl
theorem x_rem_eq {P : Program} {ρ : Operand → Value} {w : World} {d : Option Tmp} {ty : TypeId} {pos : String} {af : Array Edge} {g : Option (Nat × Bool)} {t t' : TypeId} {k : IntKind} {x y : Operand} {p q r : Int} (hx : ρ x = .int k p) (hy : ρ y = .int k q) (hq : q ≠ 0) (h : Int.tmod p q = r) :
    (execOp ρ ⟨d, .binOp .rem t x y t', ty, pos, af, g⟩).run P w = .ok (.value (.int k r)) w := by
  subst h; simp [execOp, hx, hy, eqGuard, binOp, Op.intDiv, hq]
theorem flat_len' {α β : Type} {E : α → List β} {sz : Nat} (hE : ∀ x, (E x).length = sz) (l : List α) : (l.flatMap E).length = l.length * sz := by
  induction l with
  | nil => simp
  | cons x l ih => rw [List.flatMap_cons, List.length_append, hE, ih, List.length_cons, Nat.add_mul]; omega
end Go.Proofs.Ytkimdlpfbojkgaa
