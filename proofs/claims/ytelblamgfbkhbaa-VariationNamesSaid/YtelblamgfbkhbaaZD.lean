/- The clean machine is sound, second part: variables and structs. No condition. -/
import Derived.Test.YtelblamgfbkhbaaZC
namespace Go.Proofs.Ytelblamgfbkhbaa
set_option linter.unusedSimpArgs false
set_option linter.unusedVariables false
open Go.RowKit
section
variable {P : Program} {C : Cfg} {w w' : World} {Y X : Nat → Prop} {φ : Phi} {H : Hp}
theorem pr_one {p : PV} {v : Value} (ho : oneP p = true) (h : PR w Y p v) : v.oneCell' = true ∧ v.cells = #[v] := by
  cases p <;> simp only [PR] at h <;> first
    | (simp [oneP] at ho; done)
    | (subst h; exact ⟨rfl, rfl⟩)
    | (obtain ⟨A, c, rfl, _⟩ := h; exact ⟨rfl, rfl⟩)
    | (obtain ⟨y, rfl, _⟩ := h; exact ⟨rfl, rfl⟩)
theorem vr_one {a : AV} {v : Value} (ho : oneA a = true) (h : VR w Y φ a v) : v.oneCell' = true ∧ v.cells = #[v] := by
  have key : v.oneCell' = true → v.oneCell' = true ∧ v.cells = #[v] := fun h1 => ⟨h1, by cases v <;> first | rfl | (simp [Value.oneCell'] at h1)⟩
  cases a <;> simp only [VR] at h <;> first
    | (simp [oneA] at ho; done)
    | exact key h.1
    | skip
  · exact pr_one (by rename_i p; cases p <;> simp_all [oneA, oneP]) h
  · obtain ⟨vs, rfl, _⟩ := h; exact ⟨rfl, rfl⟩
  · obtain ⟨b, o, rfl, _⟩ := h; exact ⟨rfl, rfl⟩
theorem VRL.one : ∀ {cs : List AV} {vs : List Value}, VRL w Y φ cs vs → ∀ v ∈ vs, v.oneCell' = true
  | [], vs, h, v, hv => by simp only [VRL] at h; subst h; cases hv
  | c :: cs, vs, h, v, hv => by
    simp only [VRL] at h
    obtain ⟨u, r, rfl, ho, hc, hr⟩ := h
    rcases List.mem_cons.1 hv with rfl | hv
    · exact (vr_one ho hc).1
    · exact VRL.one hr v hv
theorem vr_cells {a : AV} {v : Value} (ha : a.cells.all oneA = true) (h : VR w Y φ a v) : VRL w Y φ a.cells v.cells.toList := by
  have key : oneA a = true → a.cells = [a] → VRL w Y φ a.cells v.cells.toList := fun ho hc => by
    rw [hc, (vr_one ho h).2]
    simp only [VRL]
    exact ⟨v, [], rfl, ho, h, rfl⟩
  cases a with
  | agg cs => simp only [VR] at h; obtain ⟨vs, rfl, hl⟩ := h; exact hl
  | tup vs => simp [AV.cells, oneA] at ha
  | un => simp [AV.cells, oneA] at ha
  | pl p =>
    cases p with
    | agg cs => simp only [VR, PR] at h; obtain ⟨vs, rfl, hl⟩ := h; exact hl.vrl
    | _ => exact key rfl rfl
  | _ => exact key rfl rfl
theorem pr_cells_of {p : PV} {v : Value} (h : PR w Y p v) : PRL w Y p.cells v.cells.toList := by
  have key : oneP p = true → p.cells = [p] → PRL w Y p.cells v.cells.toList := fun ho hc => by
    rw [hc, (pr_one ho h).2]; exact pr_cells ho h
  cases p with
  | agg cs => simp only [PR] at h; obtain ⟨vs, rfl, hl⟩ := h; exact hl
  | _ => exact key rfl rfl

/-! ### cells that lie in memory -/
theorem PRC.at {b : Nat} : ∀ {cs : List PV} {o : Nat}, PRC w Y b o cs → ∀ {i : Nat} {c : PV}, cs[i]? = some c → ∃ v, w.cell? ⟨b, o + i, none⟩ = some v ∧ oneP c = true ∧ PR w Y c v
  | [], _, _, i, c, hi => by simp at hi
  | x :: cs, o, h, i, c, hi => by
    simp only [PRC] at h
    cases i with
    | zero => simp at hi; subst hi; exact h.1
    | succ i =>
      simp at hi
      have := PRC.at h.2 hi
      rwa [show o + 1 + i = o + (i + 1) from by omega] at this
theorem PRC.vals {b : Nat} : ∀ {cs : List PV} {o : Nat}, PRC w Y b o cs → ∃ vs, PRL w Y cs vs ∧ w.rangeAt b o vs
  | [], _, _ => ⟨[], by simp only [PRL], fun j v hj => by simp at hj⟩
  | x :: cs, o, h => by
    simp only [PRC] at h
    obtain ⟨⟨v, hv, ho, hx⟩, hr⟩ := h
    obtain ⟨vs, h1, h2⟩ := PRC.vals hr
    refine ⟨v :: vs, by simp only [PRL]; exact ⟨v, vs, rfl, ho, hx, h1⟩, fun j u hj => ?_⟩
    cases j with
    | zero => simp at hj; subst hj; exact hv
    | succ j =>
      simp at hj
      have := h2 j u hj
      rwa [show o + 1 + j = o + (j + 1) from by omega] at this
theorem PRC.of_vals {b : Nat} : ∀ {cs : List PV} {vs : List Value} {o : Nat}, PRL w Y cs vs → w.rangeAt b o vs → PRC w Y b o cs
  | [], _, _, _, _ => by simp only [PRC]
  | x :: cs, vs, o, h, hr => by
    simp only [PRL] at h
    obtain ⟨v, r, rfl, ho, hx, hl⟩ := h
    simp only [PRC]
    refine ⟨⟨v, hr 0 v rfl, ho, hx⟩, PRC.of_vals hl fun j u hj => ?_⟩
    have := hr (j + 1) u (by simpa using hj)
    rwa [show o + (j + 1) = o + 1 + j from by omega] at this
theorem rangeAt_sub {b o : Nat} {vs : List Value} (h : w.rangeAt b o vs) (k n : Nat) : w.rangeAt b (o + k) ((vs.drop k).take n) := fun j v hj => by
  have hj' : vs[k + j]? = some v := by
    rw [List.getElem?_take] at hj
    split at hj
    · simpa [List.getElem?_drop] using hj
    · cases hj
  have := h (k + j) v hj'
  rwa [show o + (k + j) = o + k + j from by omega] at this
theorem PRE.at {b sz : Nat} : ∀ {es : List (List PV)} {o : Nat}, PRE w Y b sz o es → ∀ {i : Nat} {e : List PV}, es[i]? = some e → e.length = sz ∧ PRC w Y b (o + i * sz) e
  | [], _, _, i, e, hi => by simp at hi
  | x :: es, o, h, i, e, hi => by
    simp only [PRE] at h
    cases i with
    | zero => simp at hi; subst hi; simpa using ⟨h.1, h.2.1⟩
    | succ i =>
      simp at hi
      have := PRE.at h.2.2 hi
      rwa [show o + sz + i * sz = o + (i + 1) * sz from by rw [Nat.succ_mul]; omega] at this
theorem PRE.of {b sz : Nat} : ∀ {es : List (List PV)} {o : Nat}, (∀ i e, es[i]? = some e → e.length = sz ∧ PRC w Y b (o + i * sz) e) → PRE w Y b sz o es
  | [], _, _ => by simp only [PRE]
  | x :: es, o, h => by
    simp only [PRE]
    have h0 := h 0 x rfl
    refine ⟨h0.1, by simpa using h0.2, PRE.of fun i e hi => ?_⟩
    have := h (i + 1) e (by simpa using hi)
    rwa [show o + (i + 1) * sz = o + sz + i * sz from by rw [Nat.succ_mul]; omega] at this
theorem PRE.append {b sz : Nat} {es ds : List (List PV)} {o : Nat} (h : PRE w Y b sz o es) (k : PRE w Y b sz (o + es.length * sz) ds) : PRE w Y b sz o (es ++ ds) := PRE.of fun i e hi => by
  rcases Nat.lt_or_ge i es.length with hlt | hge
  · rw [List.getElem?_append_left hlt] at hi; exact h.at hi
  · rw [List.getElem?_append_right hge] at hi
    have := k.at hi
    rwa [show o + es.length * sz + (i - es.length) * sz = o + i * sz from by rw [Nat.add_assoc, ← Nat.add_mul]; congr 2; omega] at this
theorem PRE.drop {b sz : Nat} {es : List (List PV)} {o : Nat} (h : PRE w Y b sz o es) (n : Nat) : PRE w Y b sz (o + n * sz) (es.drop n) := PRE.of fun i e hi => by
  rw [List.getElem?_drop] at hi
  have := h.at hi
  rwa [show o + (n + i) * sz = o + n * sz + i * sz from by rw [Nat.add_mul]; omega] at this
theorem PRE.take {b sz : Nat} {es : List (List PV)} {o : Nat} (h : PRE w Y b sz o es) (n : Nat) : PRE w Y b sz o (es.take n) := PRE.of fun i e hi => by
  rw [List.getElem?_take] at hi
  split at hi
  · exact h.at hi
  · cases hi

/-! ### a new variable -/
variable {nid : Nat} {ρ : Operand → Value} {d : Option Tmp} {ty : TypeId} {pos : String} {af : Array Edge} {g : Option (Nat × Bool)}
theorem good_new {r : Result Next} {n t : Nat} {cs : Array Value} {as : List AV} (hH : HR X φ H w) (hf : Free φ H n) (hr : r = .ok (.value (.pointer (some ⟨w.heap.size, 0, none⟩))) (w.alloc (.cells cs t)))
    (hv : VRL w (YOf X φ) φ as cs.toList) : Good n H X φ w (.bp n 0) (hput H n (.box as)) r := by
  let l : Loc := ⟨some (w.heap.size, 0), 0, 0, 0⟩
  have ev : Ev φ w (φ.set n (.at false l)) (w.alloc (.cells cs t)) := Ev.new hf.fr _ l (fun b p e => by cases e; exact Nat.le_refl _)
  refine ⟨_, _, _, φ.set n (.at false l), hr, .inl rfl, ?_, hH.new hf _ l (.box as) (fun b p e => by cases e; rfl) ?_, ev, (length_put' hf.le).1, fun k hk h => by rw [Phi.set_ne hk]; exact h⟩
  · simp only [VR]
    refine ⟨rfl, (by rw [Phi.set_self]; intro h; cases h), fun _ l' hl' => ?_⟩
    rw [Phi.set_self] at hl'; cases hl'
    exact ⟨_, rfl, rfl⟩
  · simp only [OR]
    exact ⟨trivial, w.heap.size, t, cs.toList, rfl, heap_alloc_new w _, VRL.stay ev X as cs.toList hv⟩
theorem g_alloc {n e : Nat} {ti : TI} (hC : CfgOK P C) (hH : HR X φ H w) (hf : Free φ H n) (hti : C.ty e = some ti) : Good n H X φ w (.bp n 0) (hput H n (.box (ti.zero.map .pl))) ((execOp ρ ⟨d, .alloc e, ty, pos, af, g⟩).run P w) := by
  obtain ⟨i, z, hi, _, _, hz, hl⟩ := tyOK_info (hC.ty e ti hti)
  exact good_new hH hf (x_alloc hi hz) (hl w _).vrl
theorem g_box {n e : Nat} {x : Operand} {a : AV} (hH : HR X φ H w) (hf : Free φ H n) (hx : VR w (YOf X φ) φ a (ρ x)) (ha : a.cells.all oneA = true) : Good n H X φ w (.bp n 0) (hput H n (.box a.cells)) ((execOp ρ ⟨d, .box e x, ty, pos, af, g⟩).run P w) :=
  good_new hH hf (x_box rfl) (vr_cells ha hx)

/-! ### a load -/
theorem load_cells {t b o : Nat} {ti : TI} {x : Operand} {vs : List Value} (hT : tyOKB P t ti = true) (hr : ti.k.row = true) (hl : vs.length = ti.size) (hx : ρ x = .pointer (some ⟨b, o, none⟩)) (hc : w.rangeAt b o vs) :
    (execOp ρ ⟨d, .load t x, ty, pos, af, g⟩).run P w = .ok (.value (.agg vs.toArray)) w := by
  obtain ⟨i, z, hi, hs, _⟩ := tyOK_info hT
  obtain ⟨u, hu, hrow⟩ := und_row hT
  exact x_loadn hu (by rw [hrow, hr]) (by simp [hi, hs, hl]) hx hc
theorem load_cell {t : Nat} {ti : TI} {a : Addr} {x : Operand} {v : Value} (hT : tyOKB P t ti = true) (hr : ti.k.row = false) (hx : ρ x = .pointer (some a)) (hc : w.cell? a = some v) :
    (execOp ρ ⟨d, .load t x, ty, pos, af, g⟩).run P w = .ok (.value v) w := by
  obtain ⟨u, hu, hrow⟩ := und_row hT
  exact x_load1 hu (by rw [hrow, hr]) hx hc
/-- A load out of plain cells. -/
theorem load_plain {t b o off : Nat} {ti : TI} {x : Operand} {c : List PV} {v : AV} (hT : tyOKB P t ti = true) (hx : ρ x = .pointer (some ⟨b, o + off, none⟩)) (hc : PRC w (YOf X φ) b o c)
    (h : (bif ti.k.row then (bif Nat.ble (off + ti.size) c.length then some (AV.pl (.agg ((c.drop off).take ti.size))) else none) else (c[off]?).map .pl) = some v) :
    ∃ u, (execOp ρ ⟨d, .load t x, ty, pos, af, g⟩).run P w = .ok (.value u) w ∧ VR w (YOf X φ) φ v u := by
  cases hr : ti.k.row with
  | true =>
    simp only [hr, cond_true] at h
    cases hb : Nat.ble (off + ti.size) c.length with
    | false => simp [hb] at h
    | true =>
      simp only [hb, cond_true, Option.some.injEq] at h; subst h
      obtain ⟨vs, h1, h2⟩ := PRC.vals hc
      have hlen : ((vs.drop off).take ti.size).length = ti.size := by
        have := h1.length; simp at hb; simp; omega
      refine ⟨_, load_cells hT hr hlen hx (rangeAt_sub h2 off ti.size), ?_⟩
      simp only [VR, PR]
      exact ⟨_, rfl, (h1.drop off).take ti.size⟩
  | false =>
    simp only [hr, cond_false, Option.map_eq_some_iff] at h
    obtain ⟨p, hp, rfl⟩ := h
    obtain ⟨u, h1, _, h2⟩ := PRC.at hc hp
    exact ⟨u, load_cell hT hr hx h1, by simpa only [VR] using h2⟩
theorem g_load {t : Nat} {x : Operand} {a v : AV} (hC : CfgOK P C) (hH : HR X φ H w) (h : evLoad C H t a = some v) (hx : VR w (YOf X φ) φ a (ρ x)) :
    ∃ u, (execOp ρ ⟨d, .load t x, ty, pos, af, g⟩).run P w = .ok (.value u) w ∧ VR w (YOf X φ) φ v u := by
  unfold evLoad at h
  cases hti : C.ty t with
  | none => simp [hti] at h
  | some ti =>
    simp only [hti] at h
    have hT := hC.ty t ti hti
    split at h
    · rename_i o off
      split at h
      · rename_i cs ho
        obtain ⟨z, l, hl, hO⟩ := hH.ob _ _ ho
        simp only [VR] at hx
        obtain ⟨b, hA, hx⟩ := hx.2.2 _ l hl
        simp only [OR] at hO
        obtain ⟨rfl, b', t', vs, hA', hg, hv⟩ := hO
        rw [hA] at hA'; cases hA'
        have hra : w.rangeAt b 0 vs := fun j u hj => by simp [World.cell?, hg, hj]
        cases hr : ti.k.row with
        | true =>
          simp only [hr, cond_true] at h
          cases hb : Nat.ble (off + ti.size) cs.length with
          | false => simp [hb] at h
          | true =>
            simp only [hb, cond_true, Option.some.injEq] at h; subst h
            have hlen : ((vs.drop off).take ti.size).length = ti.size := by
              have := hv.length; simp at hb; simp; omega
            have hra' := rangeAt_sub hra off ti.size
            rw [Nat.zero_add] at hra'
            exact ⟨_, load_cells hT hr hlen hx hra', VR.mkAgg ((hv.drop off).take ti.size)⟩
        | false =>
          simp only [hr, cond_false] at h
          obtain ⟨u, h1, _, h2⟩ := VRL.at hv h
          refine ⟨u, load_cell hT hr hx ?_, h2⟩
          have := hra off u h1
          rwa [Nat.zero_add] at this
      · cases h
    · rename_i o i off
      split at h
      · rename_i fz sz es ho
        obtain ⟨z, l, hl, hO⟩ := hH.ob _ _ ho
        simp only [VR] at hx
        obtain ⟨b, p, hA, hx⟩ := hx.2.2 _ l hl
        simp only [OR] at hO
        obtain ⟨_, _, hsz, _, _, h5⟩ := hO
        rcases h5 with ⟨h6, _⟩ | ⟨b', p', t', cs, hA', hg, _, hE, _⟩
        · rw [hA] at h6; cases h6
        · rw [hA] at hA'; cases hA'
          split at h
          · rename_i c hc
            have hE' := (hE.at hc).2
            rw [hsz] at hx
            exact load_plain hT hx hE' h
          · cases h
      · cases h
    · simp only [VR] at hx
      obtain ⟨b, o, hx, _, _, hc⟩ := hx
      exact load_plain hT hx hc h
    · cases h

/-! ### a store -/
theorem setCell_heap (w : World) {b t o : Nat} {cs : Array Value} (v : Value) (h : w.heap[b]? = some (.cells cs t (0, 0))) : (w.setCell ⟨b, o, none⟩ v).heap[b]? = some (.cells (cs.setIfInBounds o v) t (0, 0)) := by
  simp [World.setCell, Array.getElem?_modify, h]
theorem set_list (cs vs : List Value) (v : Value) (j : Nat) (hj : j < cs.length) : (cs.set j v).take (j + 1) ++ vs ++ (cs.set j v).drop (j + 1 + vs.length) = cs.take j ++ (v :: vs) ++ cs.drop (j + (vs.length + 1)) := by
  have h1 : (cs.set j v).take (j + 1) = cs.take j ++ [v] := by
    rw [List.take_succ_eq_append_getElem (by simpa using hj), List.take_set, List.set_eq_of_length_le (by simp; omega), List.getElem_set_self]
  have h2 : (cs.set j v).drop (j + 1 + vs.length) = cs.drop (j + (vs.length + 1)) := by
    rw [List.drop_set, if_pos (by omega)]
    congr 1; omega
  rw [h1, h2]; simp
theorem setCells_at {b t : Nat} : ∀ (vs cs : List Value) (j : Nat) (w : World), w.heap[b]? = some (.cells cs.toArray t (0, 0)) → j + vs.length ≤ cs.length →
    (w.setCells b j vs).heap[b]? = some (.cells (cs.take j ++ vs ++ cs.drop (j + vs.length)).toArray t (0, 0))
  | [], cs, j, w, h, _ => by
    simp only [World.setCells, List.append_nil, List.length_nil, Nat.add_zero, List.take_append_drop]
    exact h
  | v :: vs, cs, j, w, h, hl => by
    have hj : j < cs.length := by simp at hl; omega
    have h1 : (w.setCell ⟨b, j, none⟩ v).heap[b]? = some (.cells (cs.set j v).toArray t (0, 0)) := by
      rw [setCell_heap w v h]
      congr 2
      apply Array.ext'
      simp
    have h2 := setCells_at vs (cs.set j v) (j + 1) _ h1 (by simp at hl ⊢; omega)
    rw [World.setCells, h2, set_list cs vs v j hj]
    rfl
theorem setCells_far (b : Nat) : ∀ (vs : List Value) (o : Nat) (w : World), (w.setCells b o vs).os = w.os ∧ (w.setCells b o vs).tape = w.tape ∧ ((w.setCells b o vs).output = w.output ∧ w.drawn ≤ (w.setCells b o vs).drawn) ∧ (w.setCells b o vs).heap.size = w.heap.size ∧ ∀ k, k ≠ b → (w.setCells b o vs).heap[k]? = w.heap[k]?
  | [], _, w => ⟨rfl, rfl, ⟨rfl, Nat.le_refl _⟩, rfl, fun _ _ => rfl⟩
  | v :: vs, o, w => by
    rw [World.setCells]
    obtain ⟨h1, h2, h3, h4, h5⟩ := setCells_far b vs (o + 1) (w.setCell ⟨b, o, none⟩ v)
    exact ⟨h1, h2, h3, h4.trans (by simp [World.setCell]), fun k hk => (h5 k hk).trans (Below.heap_setCell w _ v k (by simpa using hk))⟩
theorem run_store_at {t b o : Nat} {v : Value} {n : Nat} (hi : (P.info? t).map (·.size) = some n) (hn : v.cells.size = n) (ht : w.there b o n) (h1 : ∀ u ∈ v.cells.toList, u.oneCell' = true) :
    (Instr.storeAt t (.pointer (some ⟨b, o, none⟩)) v).run P w = .ok () (w.setCells b o v.cells.toList) := by
  have := run_storeCells_cells (P := P) b o v.cells.toList 0 w (fun j hj => by simpa using (ht j (by simp at hj; omega)).1) (fun j hj => by simpa using (ht j (by simp at hj; omega)).2) h1
  cases hq : P.info? t with
  | none => simp [hq] at hi
  | some i =>
    have hs : v.cells.size = i.size := by simp [hq] at hi; omega
    simp only [Nat.add_zero] at this
    simp only [Instr.storeAt, Instr.sureAddr, Sem.run_bind, Sem.run_pure, Result.andThen_ok]
    simp [storeVar, sizeOf, typeInfo, hq, hs, this]
theorem putAt_eq {α : Type} {l xs l' : List α} {off : Nat} (h : putAt l off xs = some l') : off + xs.length ≤ l.length ∧ l' = l.take off ++ xs ++ l.drop (off + xs.length) := by
  unfold putAt at h
  cases hb : Nat.ble (off + xs.length) l.length with
  | false => simp [hb] at h
  | true => simp only [hb, cond_true, Option.some.injEq] at h; exact ⟨by simpa using hb, h.symm⟩
theorem good_write {r : Result Next} {o b p : Nat} {l : Loc} {x : Ob} (hH : HR X φ H w) (hl : φ o = .at false l) (hA : l.A = some (b, p)) (hr : r = .ok .skip w') (hos : w'.os = w.os) (htape : w'.tape = w.tape) (hout : w'.output = w.output ∧ w.drawn ≤ w'.drawn) (hsize : w'.heap.size = w.heap.size)
    (hg : ∀ k, k ≠ b → w'.heap[k]? = w.heap[k]?) (hO : Ev φ w φ w' → OR w' (YOf X φ) φ false l x) : Good nid H X φ w (.tup []) (hset H o (some x)) r := by
  have ev := Ev.write (w := w) (w' := w') hl hA hos htape hout hsize hg
  exact ⟨_, undef, w', φ, hr, .inr ⟨rfl, rfl⟩, by simp only [VR]; exact ⟨[], rfl, by simp only [VRT]⟩, hH.write hl hA hos htape hout hsize hg (hO ev), ev, by rw [length_set]; exact Nat.le_refl _, fun _ _ h => h⟩
/-- The free numbers stay free. -/
def Kp (φ : Phi) (H : Hp) (φ1 : Phi) (H1 : Hp) : Prop := (∀ n, φ n = .fresh → φ1 n = .fresh) ∧ H1.length = H.length
theorem Kp.refl (φ : Phi) (H : Hp) : Kp φ H φ H := ⟨fun _ h => h, rfl⟩
theorem Kp.trans {φ1 φ2 : Phi} {H1 H2 : Hp} (h : Kp φ H φ1 H1) (k : Kp φ1 H1 φ2 H2) : Kp φ H φ2 H2 := ⟨fun n e => k.1 n (h.1 n e), k.2.trans h.2⟩
theorem Kp.free {φ1 : Phi} {H1 : Hp} {n : Nat} (h : Kp φ H φ1 H1) (hf : Free φ H n) : Free φ1 H1 n := ⟨h.1 n hf.fr, by rw [h.2]; exact hf.le⟩
theorem Kp.set {o : Nat} {p : Pl} {y : Option Ob} (ho : φ o ≠ .fresh) : Kp φ H (φ.set o p) (hset H o y) :=
  ⟨fun n e => by rw [Phi.set_ne (fun h => ho (by rw [← h]; exact e))]; exact e, length_set⟩
theorem Good.pre {φ1 : Phi} {w1 : World} {v : AV} {H' H1 : Hp} {r : Result Next} (ev : Ev φ w φ1 w1) (kp : Kp φ H φ1 H1) (h : Good nid H1 X φ1 w1 v H' r) : Good nid H X φ w v H' r := by
  obtain ⟨nx, v', w', φ', hr, h1, h2, h3, h4, h6, h5⟩ := h
  exact ⟨nx, v', w', φ', hr, h1, h2, h3, ev.trans h4, by rw [← kp.2]; exact h6, fun k hk e => h5 k hk (kp.1 k e)⟩

/-! ### what is made plain -/
theorem PRL.map_pl : ∀ {ps : List PV} {vs : List Value}, PRL w Y ps vs → VRT w Y φ (ps.map .pl) vs
  | [], vs, h => by simp only [PRL] at h; subst h; simp [VRT]
  | c :: cs, vs, h => by
    simp only [PRL] at h
    obtain ⟨v, r, rfl, ho, hc, hr⟩ := h
    simp only [List.map_cons, VRT]
    exact ⟨v, r, rfl, by simpa only [VR] using hc, PRL.map_pl hr⟩
/-- What lies at a row that is given up for writing stands as a plain slice. -/
theorem row_plain {o sz : Nat} {z : Bool} {es : List (List PV)} {l : Loc} (hO : OR w Y φ true l (.row z sz es)) (off len : Nat) (hle : off + len ≤ es.length) {A : Option Addr} {c : Nat}
    (hc : c + off = l.c) (hA : 0 < c → A = l.addr off ∧ A ≠ none) : PR w Y (.sl .any sz ((es.drop off).take len)) (.slice A len c) := by
  simp only [OR] at hO
  obtain ⟨_, h1, h2, h3, h4, h5⟩ := hO
  simp only [PR]
  have hlen : ((es.drop off).take len).length = len := by simp; omega
  refine ⟨A, c, by rw [hlen], by omega, by omega, trivial, ?_⟩
  rw [hlen]
  rcases Nat.eq_zero_or_pos len with h0 | hpos
  · exact .inl h0
  · rcases h5 with ⟨_, h6⟩ | ⟨b, p, t, cs, hAl, hg, hs, hE, hY⟩
    · omega
    · obtain ⟨hA1, hA2⟩ := hA (by omega)
      have hlt : b < w.heap.size := by
        rcases Nat.lt_or_ge b w.heap.size with hlt | hge
        · exact hlt
        · rw [Array.getElem?_eq_none hge] at hg; cases hg
      exact .inr ⟨b, p + off * sz, by rw [hA1]; simp [Loc.addr, hAl, h2], hY trivial, hlt, (hE.drop off).take len⟩
theorem set_same {x : Ob} {o : Nat} (h : hget H o = some x) : hset H o (some x) = H := by
  unfold hget at h
  unfold hset
  apply List.ext_getElem?
  intro i
  by_cases e : i = o
  · subst e
    have hlt : i < H.length := hget_lt (x := x) (by unfold hget; exact h)
    rw [List.getElem?_set_self hlt]
    cases hg : H[i]? with
    | none => rw [hg] at h; cases h
    | some y =>
      rw [hg] at h
      cases y with
      | none => cases h
      | some y => simp only [Option.some.injEq] at h; rw [h]
  · rw [List.getElem?_set_ne (fun k => e k.symm)]
theorem set_phi {o : Nat} {p : Pl} (h : φ o = p) : φ.set o p = φ := by
  funext k
  by_cases e : k = o
  · subst e; rw [Phi.set_self, h]
  · rw [Phi.set_ne e]
/-- A row is given up for writing, if it is not yet. -/
theorem row_freeze (hH : HR X φ H w) {o sz : Nat} {z z' : Bool} {es : List (List PV)} {l : Loc} (ho : hget H o = some (.row z' sz es)) (hl : φ o = .at z l) (hO : OR w (YOf X φ) φ z l (.row z' sz es)) :
    HR X (φ.set o (.at true l)) (hset H o (some (.row true sz es))) w ∧ Ev φ w (φ.set o (.at true l)) w ∧ OR w (YOf X (φ.set o (.at true l))) (φ.set o (.at true l)) true l (.row true sz es) := by
  have hz : z = z' := by simp only [OR] at hO; exact hO.1
  subst hz
  cases z with
  | true =>
    rw [set_same ho, set_phi hl]
    exact ⟨hH, Ev.refl _ _, hO⟩
  | false =>
    have h1 := hH.freeze hl hO
    refine ⟨h1, Ev.freeze hl, ?_⟩
    obtain ⟨z2, l2, hl2, hO2⟩ := h1.ob o (.row true sz es) (by rw [hget_set (hget_lt ho), if_pos rfl])
    rw [Phi.set_self] at hl2; cases hl2
    exact hO2
theorem plain1_ok (hH : HR X φ H w) {a : AV} {p : PV} {H1 : Hp} {v : Value} (h : plain1 H a = some (p, H1)) (hv : VR w (YOf X φ) φ a v) :
    ∃ φ1, HR X φ1 H1 w ∧ Ev φ w φ1 w ∧ Kp φ H φ1 H1 ∧ PR w (YOf X φ1) p v := by
  unfold plain1 at h
  split at h
  · simp only [Option.some.injEq, Prod.mk.injEq] at h; obtain ⟨rfl, rfl⟩ := h
    exact ⟨φ, hH, Ev.refl _ _, Kp.refl _ _, by simpa only [VR] using hv⟩
  · rename_i o
    split at h
    · rename_i z' sz es ho
      simp only [Option.some.injEq, Prod.mk.injEq] at h; obtain ⟨rfl, rfl⟩ := h
      obtain ⟨z, l, hl, hO⟩ := hH.ob _ _ ho
      simp only [VR] at hv
      have hv := hv.2.2 _ l hl; subst hv
      obtain ⟨g1, g2, g3⟩ := row_freeze hH ho hl hO
      refine ⟨_, g1, g2, Kp.set (by rw [hl]; intro h; cases h), ?_⟩
      have hO' := hO
      simp only [OR] at hO'
      obtain ⟨_, h1, h2, h3, h4, h5⟩ := hO'
      have := row_plain (o := o) g3 0 es.length (by omega) (A := l.addr 0) (c := l.c) (by omega) (fun hc => ⟨rfl, by
        rcases h5 with ⟨_, h6⟩ | ⟨b, p, t, cs, hAl, _⟩
        · omega
        · simp [Loc.addr, hAl]⟩)
      rw [h1]
      simpa using this
    · cases h
  · rename_i o off len
    split at h
    · rename_i z' sz es ho
      cases hb : Nat.ble (off + len) es.length with
      | false => simp [hb] at h
      | true =>
        simp only [hb, cond_true, Option.some.injEq, Prod.mk.injEq] at h; obtain ⟨rfl, rfl⟩ := h
        obtain ⟨z, l, hl, hO⟩ := hH.ob _ _ ho
        simp only [VR] at hv
        obtain ⟨A, c, rfl, _, hc, hA⟩ := hv.2.2 _ l hl
        obtain ⟨g1, g2, g3⟩ := row_freeze hH ho hl hO
        exact ⟨_, g1, g2, Kp.set (by rw [hl]; intro h; cases h), row_plain (o := o) g3 off len (by simpa using hb) hc hA⟩
    · cases h
  · simp only [Option.some.injEq, Prod.mk.injEq] at h; obtain ⟨rfl, rfl⟩ := h
    simp only [VR] at hv
    obtain ⟨vs, rfl, hvs⟩ := hv
    simp only [VRT] at hvs; subst hvs
    exact ⟨φ, hH, Ev.refl _ _, Kp.refl _ _, by simp only [PR]⟩
  · cases h
theorem plain1_one {a : AV} {p : PV} {H1 : Hp} (h : plain1 H a = some (p, H1)) (ho : oneA a = true) : oneP p = true := by
  unfold plain1 at h
  split at h
  · simp only [Option.some.injEq, Prod.mk.injEq] at h; obtain ⟨rfl, rfl⟩ := h
    rename_i p; cases p <;> simp_all [oneA, oneP]
  · split at h
    · simp only [Option.some.injEq, Prod.mk.injEq] at h; obtain ⟨rfl, rfl⟩ := h; rfl
    · cases h
  · split at h
    · rename_i off len _ _ _ _
      revert h
      cases Nat.ble _ _ with
      | false => intro h; simp at h
      | true => intro h; simp only [cond_true, Option.some.injEq, Prod.mk.injEq] at h; obtain ⟨rfl, rfl⟩ := h; rfl
    · cases h
  · simp only [Option.some.injEq, Prod.mk.injEq] at h; obtain ⟨rfl, rfl⟩ := h; rfl
  · cases h
theorem plainL_ok : ∀ {as : List AV} {φ : Phi} {H : Hp} (_ : HR X φ H w) {ps : List PV} {H1 : Hp} {vs : List Value}, plainL H as = some (ps, H1) → VRL w (YOf X φ) φ as vs →
    ∃ φ1, HR X φ1 H1 w ∧ Ev φ w φ1 w ∧ Kp φ H φ1 H1 ∧ PRL w (YOf X φ1) ps vs
  | [], φ, H, hH, ps, H1, vs, h, hv => by
    simp only [plainL, Option.some.injEq, Prod.mk.injEq] at h; obtain ⟨rfl, rfl⟩ := h
    exact ⟨φ, hH, Ev.refl _ _, Kp.refl _ _, by simpa only [VRL, PRL] using hv⟩
  | a :: as, φ, H, hH, ps, H1, vs, h, hv => by
    simp only [VRL] at hv
    obtain ⟨v, r, rfl, ho, hva, hr⟩ := hv
    simp only [plainL] at h
    split at h
    · rename_i p H2 hp
      obtain ⟨φ2, hH2, ev2, kp2, hpr⟩ := plain1_ok hH hp hva
      split at h
      · rename_i ps' H3 hps
        simp only [Option.some.injEq, Prod.mk.injEq] at h; obtain ⟨rfl, rfl⟩ := h
        obtain ⟨φ3, hH3, ev3, kp3, hprs⟩ := plainL_ok hH2 hps (VRL.stay ev2 X _ _ hr)
        refine ⟨φ3, hH3, ev2.trans ev3, kp2.trans kp3, ?_⟩
        simp only [PRL]
        exact ⟨v, r, rfl, plain1_one hp ho, PR.stay (ev3.stay X) p v hpr, hprs⟩
      · cases h
    · cases h
theorem plain_ok (hH : HR X φ H w) {a : AV} {p : PV} {H1 : Hp} {v : Value} (h : plain H a = some (p, H1)) (hv : VR w (YOf X φ) φ a v) :
    ∃ φ1, HR X φ1 H1 w ∧ Ev φ w φ1 w ∧ Kp φ H φ1 H1 ∧ PR w (YOf X φ1) p v := by
  unfold plain at h
  split at h
  · split at h
    · rename_i ps H2 hp
      simp only [Option.some.injEq, Prod.mk.injEq] at h; obtain ⟨rfl, rfl⟩ := h
      simp only [VR] at hv
      obtain ⟨vs, rfl, hvs⟩ := hv
      obtain ⟨φ1, h1, h2, hk, h3⟩ := plainL_ok hH hp hvs
      exact ⟨φ1, h1, h2, hk, by simp only [PR]; exact ⟨vs, rfl, h3⟩⟩
    · cases h
  · exact plain1_ok hH h hv
theorem plains_ok : ∀ {as : List AV} {φ : Phi} {H : Hp} (_ : HR X φ H w) {ps : List PV} {H1 : Hp} {vs : List Value}, plains H as = some (ps, H1) → VRT w (YOf X φ) φ as vs →
    ∃ φ1, HR X φ1 H1 w ∧ Ev φ w φ1 w ∧ Kp φ H φ1 H1 ∧ ∀ φ0 : Phi, VRT w (YOf X φ1) φ0 (ps.map .pl) vs
  | [], φ, H, hH, ps, H1, vs, h, hv => by
    simp only [plains, Option.some.injEq, Prod.mk.injEq] at h; obtain ⟨rfl, rfl⟩ := h
    exact ⟨φ, hH, Ev.refl _ _, Kp.refl _ _, fun φ0 => by simpa only [VRT, List.map_nil] using hv⟩
  | a :: as, φ, H, hH, ps, H1, vs, h, hv => by
    simp only [VRT] at hv
    obtain ⟨v, r, rfl, hva, hr⟩ := hv
    simp only [plains] at h
    split at h
    · rename_i p H2 hp
      obtain ⟨φ2, hH2, ev2, kp2, hpr⟩ := plain_ok hH hp hva
      split at h
      · rename_i ps' H3 hps
        simp only [Option.some.injEq, Prod.mk.injEq] at h; obtain ⟨rfl, rfl⟩ := h
        obtain ⟨φ3, hH3, ev3, kp3, hprs⟩ := plains_ok hH2 hps (VRT.stay ev2 X _ _ hr)
        refine ⟨φ3, hH3, ev2.trans ev3, kp2.trans kp3, fun φ0 => ?_⟩
        simp only [List.map_cons, VRT]
        exact ⟨v, r, rfl, by simp only [VR]; exact PR.stay (ev3.stay X) p v hpr, hprs φ0⟩
      · cases h
    · cases h

theorem x_store_of {t : Nat} {x y : Operand} {b o : Nat} (hx : ρ x = .pointer (some ⟨b, o, none⟩)) (h : (Instr.storeAt t (.pointer (some ⟨b, o, none⟩)) (ρ y)).run P w = .ok () w') :
    (execOp ρ ⟨d, .store t x y, ty, pos, af, g⟩).run P w = .ok .skip w' := by
  simp [execOp, hx, h]
theorem g_store {t : Nat} {x y : Operand} {a v : AV} {H1 : Hp} (hC : CfgOK P C) (hH : HR X φ H w) (h : evStore C H t a v = some H1) (hx : VR w (YOf X φ) φ a (ρ x)) (hy : VR w (YOf X φ) φ v (ρ y)) :
    Good nid H X φ w (.tup []) H1 ((execOp ρ ⟨d, .store t x y, ty, pos, af, g⟩).run P w) := by
  unfold evStore at h
  cases hti : C.ty t with
  | none => simp [hti] at h
  | some ti =>
    simp only [hti] at h
    have hT := hC.ty t ti hti
    obtain ⟨i, z, hi, hs, _⟩ := tyOK_info hT
    have hsz : (P.info? t).map (·.size) = some ti.size := by simp [hi, hs]
    split at h
    · rename_i o off
      split at h
      · rename_i cs ho
        cases hb : (Nat.beq v.cells.length ti.size && v.cells.all oneA) with
        | false => simp [hb] at h
        | true =>
          simp only [hb, cond_true] at h
          rw [Bool.and_eq_true] at hb
          obtain ⟨hb1, hb2⟩ := hb
          simp only [Nat.beq_eq] at hb1
          split at h
          · rename_i cs' hput
            simp only [Option.some.injEq] at h; subst h
            obtain ⟨hle, rfl⟩ := putAt_eq hput
            obtain ⟨z, l, hl, hO⟩ := hH.ob _ _ ho
            simp only [VR] at hx
            obtain ⟨b, hA, hx⟩ := hx.2.2 _ l hl
            simp only [OR] at hO
            obtain ⟨rfl, b', t', vs, hA', hg, hv⟩ := hO
            rw [hA] at hA'; cases hA'
            have hvc := vr_cells hb2 hy
            have hlen := hv.length
            have hlen2 := hvc.length
            have hth : w.there b off ti.size := fun j hj => by
              have hj' : off + j < vs.length := by omega
              constructor
              · simp [World.cell?, hg, hj']
              · simp [World.frozen?, hg]
            have hrun := run_store_at (P := P) (w := w) (b := b) (o := off) hsz (by rw [← hb1, ← hlen2]; simp) hth (VRL.one hvc)
            obtain ⟨f1, f2, f3, f4, f5⟩ := setCells_far b (ρ y).cells.toList off w
            refine good_write hH hl hA (x_store_of hx hrun) f1 f2 f3 f4 f5 fun ev => ?_
            simp only [OR]
            have hset := setCells_at (b := b) (ρ y).cells.toList vs off w hg (by omega)
            refine ⟨trivial, b, t', _, hA, hset, ?_⟩
            have hv' := VRL.stay ev X _ _ hv
            have hvc' := VRL.stay ev X _ _ hvc
            have := ((hv'.take off).append hvc').append (hv'.drop (off + v.cells.length))
            rw [hlen2]; exact this
          · cases h
      · cases h
    · rename_i o k off
      split at h
      · rename_i q H2 hq
        obtain ⟨φ1, hH1, ev1, kp1, hpr⟩ := plain_ok hH hq hy
        refine Good.pre ev1 kp1 ?_
        have hx := VR.stay ev1 X _ _ hx
        split at h
        · rename_i sz es ho
          split at h
          · rename_i c hc
            cases hb : Nat.beq q.cells.length ti.size with
            | false => simp [hb] at h
            | true =>
              simp only [hb, cond_true] at h
              simp only [Nat.beq_eq] at hb
              split at h
              · rename_i c' hput
                simp only [Option.some.injEq] at h; subst h
                obtain ⟨hle, rfl⟩ := putAt_eq hput
                obtain ⟨z, l, hl, hO⟩ := hH1.ob _ _ ho
                simp only [VR] at hx
                obtain ⟨b, p, hA, hx⟩ := hx.2.2 _ l hl
                simp only [OR] at hO
                obtain ⟨rfl, h1, h2, h3, h4, h5⟩ := hO
                rcases h5 with ⟨h6, _⟩ | ⟨b', p', t', cs, hA', hg, hcs, hE, _⟩
                · rw [hA] at h6; cases h6
                · rw [hA] at hA'; cases hA'
                  have hki : k < es.length := (List.getElem?_eq_some_iff.1 hc).1
                  obtain ⟨hcl, hcc⟩ := hE.at hc
                  rw [h2] at hx
                  have hqc := pr_cells_of hpr
                  have hlen2 := hqc.length
                  have hfit : p + k * sz + off + ti.size ≤ cs.size := by
                    have : (k + 1) * sz ≤ l.c * sz := Nat.mul_le_mul_right sz (by omega)
                    rw [Nat.succ_mul] at this; omega
                  have hth : w.there b (p + k * sz + off) ti.size := fun j hj => by
                    have hj' : p + k * sz + off + j < cs.size := by omega
                    constructor
                    · simp [World.cell?, hg, hj']
                    · simp [World.frozen?, hg]
                  have hone : ∀ u ∈ (ρ y).cells.toList, u.oneCell' = true := VRL.one (φ := φ1) hqc.vrl
                  have hrun := run_store_at (P := P) (w := w) (b := b) (o := p + k * sz + off) hsz (by rw [← hb, ← hlen2]; simp) hth hone
                  obtain ⟨f1, f2, f3, f4, f5⟩ := setCells_far b (ρ y).cells.toList (p + k * sz + off) w
                  have hgl : w.heap[b]? = some (.cells cs.toList.toArray t' (0, 0)) := by simpa using hg
                  have hset := setCells_at (b := b) (ρ y).cells.toList cs.toList (p + k * sz + off) w hgl (by simp at hlen2 ⊢; omega)
                  refine good_write hH1 hl hA (x_store_of hx hrun) f1 f2 f3 f4 f5 fun ev => ?_
                  simp only [OR]
                  refine ⟨trivial, by simpa using h1, h2, h3, h4, .inr ⟨b, p, t', _, hA, hset, ?_, ?_, fun h => by cases h⟩⟩
                  · simp at hlen2 ⊢; omega
                  · have hE' : ∀ (o : Nat) (v : Value), w.cell? ⟨b, o, none⟩ = some v → (o < p + k * sz + off ∨ p + k * sz + off + ti.size ≤ o) → (w.setCells b (p + k * sz + off) (ρ y).cells.toList).cell? ⟨b, o, none⟩ = some v := by
                      intro o v hv ho
                      simp only [World.cell?, hset] at hv ⊢
                      rw [hg] at hv
                      simp only [Option.isSome_none, Bool.false_eq_true, if_false] at hv ⊢
                      have hov : cs.toList[o]? = some v := by simpa using hv
                      have hol : o < cs.toList.length := (List.getElem?_eq_some_iff.1 hov).1
                      rw [List.getElem?_toArray]
                      rcases ho with ho | ho
                      · rw [List.append_assoc, List.getElem?_append_left (by simp at hol ⊢; omega), List.getElem?_take, if_pos ho]; exact hov
                      · rw [List.getElem?_append_right (by simp at hlen2 hol ⊢; omega), List.getElem?_drop]
                        rw [← hov]; congr 1; simp at hlen2 hol ⊢; omega
                    refine PRE.of fun m e he => ?_
                    by_cases hmk : m = k
                    · subst hmk
                      rw [List.getElem?_set_self hki] at he; cases he
                      refine ⟨by simp; omega, ?_⟩
                      obtain ⟨us, hus, hra⟩ := PRC.vals hcc
                      have hul := hus.length
                      have hst := ev.stay X
                      have e1 : PRL (w.setCells b (p + m * sz + off) (ρ y).cells.toList) (YOf X φ1) (c.take off ++ q.cells ++ c.drop (off + q.cells.length)) (us.take off ++ (ρ y).cells.toList ++ us.drop (off + (ρ y).cells.toList.length)) := by
                        have a1 := PRL.stay hst _ _ (hus.take off)
                        have a2 := PRL.stay hst _ _ hqc
                        have a3 := PRL.stay hst _ _ (hus.drop (off + q.cells.length))
                        rw [hlen2]; exact (a1.append a2).append a3
                      refine PRC.of_vals e1 fun j u hj => ?_
                      rcases Nat.lt_or_ge j off with hj1 | hj1
                      · rw [List.append_assoc, List.getElem?_append_left (by simp; omega), List.getElem?_take, if_pos hj1] at hj
                        exact hE' _ _ (hra j u hj) (.inl (by omega))
                      · rcases Nat.lt_or_ge j (off + (ρ y).cells.toList.length) with hj2 | hj2
                        · rw [List.append_assoc, List.getElem?_append_right (by simp; omega), List.getElem?_append_left (by simp; simp at hj2; omega)] at hj
                          simp only [World.cell?, hset]
                          simp only [Option.isSome_none, Bool.false_eq_true, if_false, List.getElem?_toArray]
                          rw [List.append_assoc, List.getElem?_append_right (by simp; omega), List.getElem?_append_left (by simp at hj2 ⊢; omega)]
                          rw [← hj]; congr 1; simp; omega
                        · rw [List.getElem?_append_right (by simp at hj2 ⊢; omega), List.getElem?_drop] at hj
                          refine hE' _ _ (hra j u ?_) (.inr (by simp at hj2 hlen2; omega))
                          rw [← hj]; congr 1; simp at hj2 ⊢; omega
                    · rw [List.getElem?_set_ne (fun e => hmk e.symm)] at he
                      obtain ⟨g1, g2⟩ := hE.at he
                      refine ⟨g1, ?_⟩
                      obtain ⟨us, hus, hra⟩ := PRC.vals g2
                      have hul := hus.length
                      refine PRC.of_vals (PRL.stay (ev.stay X) _ _ hus) fun j u hj => hE' _ _ (hra j u hj) ?_
                      have hjl : j < sz := by have := (List.getElem?_eq_some_iff.1 hj).1; omega
                      rcases Nat.lt_or_gt_of_ne hmk with hm | hm
                      · left
                        have : (m + 1) * sz ≤ k * sz := Nat.mul_le_mul_right sz hm
                        rw [Nat.succ_mul] at this; omega
                      · right
                        have : (k + 1) * sz ≤ m * sz := Nat.mul_le_mul_right sz hm
                        rw [Nat.succ_mul] at this; omega
              · cases h
          · cases h
        · cases h
      · cases h
    · cases h
end
end Go.Proofs.Ytelblamgfbkhbaa
