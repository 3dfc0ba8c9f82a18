/- The clean machine is sound, eighth part: append, copy, clear. No condition. -/
import Derived.Test.YtelblamgfbkhbaaZI
namespace Go.Proofs.Ytelblamgfbkhbaa
set_option linter.unusedSimpArgs false
set_option linter.unusedVariables false
open Go.RowKit
section
variable {P : Program} {C : Cfg} {w w' : World} {Y Y' X : Nat → Prop} {φ : Phi} {H : Hp}
variable {nid : Nat} {ρ : Operand → Value} {ra : Operand → AV} {d : Option Tmp} {ty : TypeId} {pos : String} {af : Array Edge} {g : Option (Nat × Bool)}
theorem PRLL.at {sz : Nat} : ∀ {es : List (List PV)} {vss : List (List Value)}, PRLL w Y sz es vss → ∀ {i : Nat} {e : List PV}, es[i]? = some e → ∃ vs, vss[i]? = some vs ∧ e.length = sz ∧ PRL w Y e vs
  | [], vss, h, i, e, hi => by simp at hi
  | x :: es, vss, h, i, e, hi => by
    simp only [PRLL] at h
    obtain ⟨vs, r, rfl, hl, hp, hr⟩ := h
    cases i with
    | zero => simp at hi; subst hi; exact ⟨vs, by simp, hl, hp⟩
    | succ i => simp at hi; simpa using PRLL.at hr hi
theorem flat_at {sz : Nat} : ∀ {vss : List (List Value)} {i : Nat} {vs : List Value}, (∀ vs ∈ vss, vs.length = sz) → vss[i]? = some vs → (vss.flatten.drop (i * sz)).take sz = vs
  | [], i, vs, _, h => by simp at h
  | us :: r, 0, vs, hs, h => by
    simp at h; subst h
    have := hs us (by simp)
    rw [Nat.zero_mul, List.drop_zero, List.flatten_cons, List.take_append_of_le_length (by omega), List.take_of_length_le (by omega)]
  | us :: r, i + 1, vs, hs, h => by
    have h1 := hs us (by simp)
    have h2 := flat_at (i := i) (fun v hv => hs v (List.mem_cons_of_mem _ hv)) (by simpa using h)
    rw [List.flatten_cons, List.drop_append, List.drop_eq_nil_of_le (by rw [Nat.succ_mul]; omega), List.nil_append, ← h2]
    rw [show (i + 1) * sz - us.length = i * sz from by rw [Nat.succ_mul, h1]; omega]
theorem heap_lt {b : Nat} {ob : Obj} (h : w.heap[b]? = some ob) : b < w.heap.size := by
  rcases Nat.lt_or_ge b w.heap.size with hlt | hge
  · exact hlt
  · rw [Array.getElem?_eq_none hge] at h; cases h
/-- Elements stored into a row. -/
theorem PRE_store {b p sz i t : Nat} {cs : Array Value} {es news : List (List PV)} {vss : List (List Value)} (hg : w.heap[b]? = some (.cells cs t (0, 0))) (hE : PRE w Y b sz p es) (hv : PRLL w Y sz news vss) (hi : i ≤ es.length)
    (hfit : p + (i + news.length) * sz ≤ cs.size) (st : Stay w Y (w.setCells b (p + i * sz) vss.flatten) Y') : PRE (w.setCells b (p + i * sz) vss.flatten) Y' b sz p (es.take i ++ news ++ es.drop (i + news.length)) := by
  have hfl := flat_size hv.size
  rw [hv.length] at hfl
  have hmul : (i + news.length) * sz = i * sz + news.length * sz := Nat.add_mul _ _ _
  have hth : w.there b (p + i * sz) vss.flatten.length := fun j hj => by
    have hj' : p + i * sz + j < cs.size := by omega
    constructor
    · simp [World.cell?, hg, hj']
    · simp [World.frozen?, hg]
  have hsame := World.rangeAt_setCells_same w b (p + i * sz) vss.flatten hth
  have old : ∀ {m : Nat} {e : List PV}, es[m]? = some e → (m < i ∨ i + news.length ≤ m) → e.length = sz ∧ PRC (w.setCells b (p + i * sz) vss.flatten) Y' b (p + m * sz) e := fun {m e} he hm => by
    obtain ⟨h1, h2⟩ := hE.at he
    obtain ⟨us, hus, hra⟩ := PRC.vals h2
    refine ⟨h1, PRC.of_vals (PRL.stay st _ _ hus) (World.rangeAt_setCells_apart hra b (p + i * sz) vss.flatten (.inr ?_))⟩
    have hul := hus.length
    rcases hm with hm | hm
    · left
      have : (m + 1) * sz ≤ i * sz := Nat.mul_le_mul_right sz hm
      rw [Nat.succ_mul] at this; omega
    · right
      have : (i + news.length) * sz ≤ m * sz := Nat.mul_le_mul_right sz hm
      omega
  refine PRE.of fun m e he => ?_
  rcases Nat.lt_or_ge m i with hm | hm
  · rw [List.append_assoc, List.getElem?_append_left (by simp; omega), List.getElem?_take, if_pos hm] at he
    exact old he (.inl hm)
  · rcases Nat.lt_or_ge m (i + news.length) with hm2 | hm2
    · rw [List.append_assoc, List.getElem?_append_right (by simp; omega), List.getElem?_append_left (by simp; omega)] at he
      have hti : (es.take i).length = i := by simp; omega
      rw [hti] at he
      obtain ⟨us, h1, h2, h3⟩ := hv.at he
      have hra := rangeAt_sub hsame ((m - i) * sz) sz
      rw [flat_at hv.size h1] at hra
      refine ⟨h2, PRC.of_vals (PRL.stay st _ _ h3) ?_⟩
      have e1 : p + i * sz + (m - i) * sz = p + m * sz := by
        rw [Nat.add_assoc, ← Nat.add_mul]; congr 2; omega
      rwa [e1] at hra
    · rw [List.getElem?_append_right (by simp; omega), List.getElem?_drop] at he
      have e1 : i + news.length + (m - (es.take i ++ news).length) = m := by simp; omega
      rw [e1] at he
      exact old he (.inr hm2)
theorem setCells_size {b t o : Nat} {cs : Array Value} {vs : List Value} (hg : w.heap[b]? = some (.cells cs t (0, 0))) (hle : o + vs.length ≤ cs.size) : ∃ cs', (w.setCells b o vs).heap[b]? = some (.cells cs' t (0, 0)) ∧ cs'.size = cs.size := by
  have := setCells_at (b := b) vs cs.toList o w (by simpa using hg) (by simpa using hle)
  exact ⟨_, this, by simp; omega⟩
theorem length_move {H : Hp} {o n : Nat} {y : Option Ob} {x : Ob} (h : n ≤ H.length) : H.length ≤ (hput (hset H o y) n x).length := by
  have := length_put' (H := hset H o y) (x := x) (n := n) (by rw [length_set]; exact h)
  rw [length_set] at this; exact this.1
/-- A piece of own memory is replaced by one that lies in its block, or in a new one. -/
theorem HR.move {n : Nat} (h : HR X φ H w) (hf : Free φ H n) {o : Nat} {l : Loc} (hl : φ o = .at false l) (l' : Loc) (x : Ob) (hos : w'.os = w.os) (htape : w'.tape = w.tape) (hout : w'.output = w.output ∧ w.drawn ≤ w'.drawn) (hsize : w.heap.size ≤ w'.heap.size)
    (hblk : ∀ k, k < w.heap.size → (∀ p, l.A ≠ some (k, p)) → w'.heap[k]? = w.heap[k]?) (hA : ∀ b p', l'.A = some (b, p') → (∃ p, l.A = some (b, p)) ∨ (w.heap.size ≤ b ∧ b < w'.heap.size))
    (hO : Ev φ w ((φ.set o .dead).set n (.at false l')) w' → OR w' (YOf X ((φ.set o .dead).set n (.at false l'))) ((φ.set o .dead).set n (.at false l')) false l' x) :
    HR X ((φ.set o .dead).set n (.at false l')) (hput (hset H o none) n x) w' ∧ Ev φ w ((φ.set o .dead).set n (.at false l')) w' := by
  have hlt := h.lt hl
  have hne : o ≠ n := fun e => by rw [e, hf.fr] at hl; cases hl
  have ev : Ev φ w ((φ.set o .dead).set n (.at false l')) w' := by
    refine ⟨hos, htape, hout, hsize, fun b hb hn => hblk b hb fun p hp => hn ⟨o, l, p, hl, hp⟩, fun b hb hc => ?_, fun k hf' => ?_⟩
    · obtain ⟨k, l2, p, hk, hA2⟩ := hc
      by_cases e : k = n
      · subst e; rw [Phi.set_self] at hk; cases hk
        rcases hA b p hA2 with ⟨p', hp'⟩ | ⟨hge, _⟩
        · exact ⟨o, l, p', hl, hp'⟩
        · omega
      · rw [Phi.set_ne e] at hk
        by_cases e2 : k = o
        · subst e2; rw [Phi.set_self] at hk; cases hk
        · rw [Phi.set_ne e2] at hk; exact ⟨k, l2, p, hk, hA2⟩
    · have e : k ≠ n := fun e => hf' (by rw [e]; exact hf.fr)
      rw [Phi.set_ne e]
      by_cases e2 : k = o
      · subst e2; rw [Phi.set_self]; exact .inr (.inl rfl)
      · rw [Phi.set_ne e2]; exact .inl rfl
  refine ⟨?_, ev⟩
  have hlen : (hset H o none).length = H.length := length_set
  have hle : n ≤ (hset H o none).length := by rw [hlen]; exact hf.le
  have hlen2 := length_put' (x := x) hle
  refine h.next ev (fun k => ?_) (fun k z l2 hk => ?_) (fun k y hy => ?_) (fun k l2 b p hk hA2 => ?_)
  · intro hk
    rw [Phi.set_ne (by omega), Phi.set_ne (by omega)]; exact h.fresh k (by omega)
  · by_cases e : k = n
    · exact ⟨x, by rw [hget_put hle, if_pos e]⟩
    · rw [Phi.set_ne e] at hk
      by_cases e2 : k = o
      · subst e2; rw [Phi.set_self] at hk; cases hk
      · rw [Phi.set_ne e2] at hk
        obtain ⟨y, hy⟩ := h.live k z l2 hk
        exact ⟨y, by rw [hget_put hle, if_neg e, hget_set hlt, if_neg e2]; exact hy⟩
  · by_cases e : k = n
    · rw [hget_put hle, if_pos e] at hy; cases hy
      exact .inr ⟨false, l', by rw [e, Phi.set_self], hO ev⟩
    · rw [hget_put hle, if_neg e] at hy
      by_cases e2 : k = o
      · rw [hget_set hlt, if_pos e2] at hy; cases hy
      · rw [hget_set hlt, if_neg e2] at hy
        refine .inl ⟨hy, by rw [Phi.set_ne e, Phi.set_ne e2], fun l2 b p hk hA2 => hblk b (h.out k l2 b p hk hA2).2 fun p' hp' => e2 (h.inj k o l2 l b p p' hk hl hA2 hp')⟩
  · by_cases e : k = n
    · subst e; rw [Phi.set_self] at hk; cases hk
      rcases hA b p hA2 with ⟨p', hp'⟩ | ⟨hge, hlt2⟩
      · have := h.out o l b p' hl hp'
        refine .inr ⟨this.1, Nat.lt_of_lt_of_le this.2 hsize, fun o' l2 p2 ho' hA' => ?_⟩
        by_cases e3 : o' = k
        · exact e3
        · rw [Phi.set_ne e3] at ho'
          by_cases e4 : o' = o
          · subst e4; rw [Phi.set_self] at ho'; cases ho'
          · rw [Phi.set_ne e4] at ho'
            exact absurd (h.inj o' o l2 l b p2 p' ho' hl hA' hp') e4
      · refine .inr ⟨fun hx => by have := h.xlt b hx; omega, hlt2, fun o' l2 p2 ho' hA' => ?_⟩
        by_cases e3 : o' = k
        · exact e3
        · rw [Phi.set_ne e3] at ho'
          by_cases e4 : o' = o
          · subst e4; rw [Phi.set_self] at ho'; cases ho'
          · rw [Phi.set_ne e4] at ho'
            have := (h.out o' l2 b p2 ho' hA').2; omega
    · rw [Phi.set_ne e] at hk
      by_cases e2 : k = o
      · subst e2; rw [Phi.set_self] at hk; cases hk
      · rw [Phi.set_ne e2] at hk; exact .inl hk

/-! ### where the new elements come from -/
theorem src_ok (hC : CfgOK P C) (hH : HR X φ H w) {t1 : Nat} {te : TI} {a : AV} {news : List (List PV)} {v : Value} (ht : srcTy C t1 a = true) (h : srcElems H a = some news) (hn : news.all (fun c => Nat.beq c.length te.size) = true) (hv : VR w (YOf X φ) φ a v) :
    (∃ u, P.underlying t1 = some u ∧ (∀ k, u ≠ .int k)) ∧ (Builtin.lenOf v).run P w = .ok news.length w ∧
    ∃ vss, PRLL w (YOf X φ) te.size news vss ∧ ∀ (n : Nat) (w2 : World), n ≤ news.length → w2.heap = w.heap → (Builtin.firstCells te.size n v).run P w2 = .ok (vss.take n).flatten.toArray w2 := by
  have slc : ∀ {sz : Nat} {es : List (List PV)}, elems H a = some (sz, es) → news = es → ((Builtin.lenOf v).run P w = .ok news.length w ∧
    ∃ vss, PRLL w (YOf X φ) te.size news vss ∧ ∀ (n : Nat) (w2 : World), n ≤ news.length → w2.heap = w.heap → (Builtin.firstCells te.size n v).run P w2 = .ok (vss.take n).flatten.toArray w2) := by
    intro sz es he hes
    subst hes
    obtain ⟨A, c, hv, _, _, hA⟩ := elems_ok hH he hv
    subst hv
    refine ⟨by simp [Builtin.lenOf], ?_⟩
    rcases hA with h0 | ⟨b, o, rfl, hE⟩
    · have hnil : news = [] := List.length_eq_zero_iff.1 h0
      subst hnil
      refine ⟨[], by simp only [PRLL], fun n w2 hn _ => ?_⟩
      have : n = 0 := by simpa using hn
      subst this
      cases A with
      | none => simp [Builtin.firstCells]
      | some a => rw [run_firstCells_some w2 te.size 0 a _ c [] (by simp) (fun j v h => by simp at h)]; rfl
    · cases news with
      | nil =>
        refine ⟨[], by simp only [PRLL], fun n w2 hn _ => ?_⟩
        have : n = 0 := by simpa using hn
        subst this
        rw [run_firstCells_some w2 te.size 0 _ _ c [] (by simp) (fun j v h => by simp at h)]; rfl
      | cons e0 es =>
        have hsz : sz = te.size := by
          have h1 := (hE.at (i := 0) (e := e0) rfl).1
          have h2 : e0.length = te.size := by simp only [List.all_cons, Bool.and_eq_true, Nat.beq_eq] at hn; exact hn.1
          omega
        subst hsz
        obtain ⟨vss, h1, h2⟩ := hE.flat
        refine ⟨vss, h1, fun n w2 hn hw => ?_⟩
        have hl := h1.length
        refine run_firstCells_some w2 te.size n _ _ c (vss.take n).flatten ?_ fun j u hj => ?_
        · rw [flat_size fun vs hvs => h1.size vs (List.mem_of_mem_take hvs)]
          simp at hn ⊢; congr 1; simp at hl; omega
        · rw [Addr.add_mid, World.cell?_of_block (w := w) (a := ⟨b, o + j, none⟩) (by rw [hw])]
          refine h2 j u ?_
          rw [← List.take_append_drop n vss, List.flatten_append, List.getElem?_append_left (List.getElem?_eq_some_iff.1 hj).1]; exact hj
  have slty : (match C.ty t1 with | some ti => (match ti.k with | .sl _ => true | _ => false) | none => false) = true → ∃ u, P.underlying t1 = some u ∧ (∀ k, u ≠ .int k) := by
    intro h
    cases hti : C.ty t1 with
    | none => simp [hti] at h
    | some ti =>
      simp only [hti] at h
      split at h
      · rename_i e hk
        exact ⟨_, und_sl (hC.ty t1 ti hti) hk, fun k h => by cases h⟩
      · cases h
  unfold srcElems at h
  split at h
  · rename_i s
    simp only [Option.some.injEq] at h
    simp only [VR, PR] at hv
    subst hv
    refine ⟨?_, by rw [← h]; simp [Builtin.lenOf], s.data.toList.map fun b => [.int .u8 (b.toNat : Int)], ?_, fun n w2 hn _ => ?_⟩
    · unfold srcTy at ht
      cases hti : C.ty t1 with
      | none => simp [hti] at ht
      | some ti =>
        simp only [hti] at ht
        split at ht
        · rename_i hk
          exact ⟨_, und_str (hC.ty t1 ti hti) hk, fun k h => by cases h⟩
        · cases ht
    · subst h
      generalize s.data.toList = l at hn
      induction l with
      | nil => simp [PRLL]
      | cons b l ih =>
        simp only [List.map_cons, List.all_cons, Bool.and_eq_true, Nat.beq_eq] at hn
        simp only [List.map_cons, PRLL]
        exact ⟨_, _, rfl, hn.1, by simp only [PRL]; exact ⟨_, [], rfl, rfl, by simp only [PR], rfl⟩, ih hn.2⟩
    · subst h
      have e1 : ∀ l : List UInt8, ((l.map fun b => [Value.int .u8 (b.toNat : Int)]).take n).flatten = (l.take n).map fun b => Value.int .u8 (b.toNat : Int) := by
        intro l
        rw [← List.map_take]
        induction l.take n with
        | nil => rfl
        | cons b l ih => simp [ih]
      rw [e1]
      simp only [Builtin.firstCells, Sem.run_pure]
      congr 1
      apply Array.ext'
      simp [ByteArray.data_extract]
  · rename_i hns
    simp only [Option.map_eq_some_iff] at h
    obtain ⟨⟨sz, es⟩, he, rfl⟩ := h
    have ht2 : ∃ u, P.underlying t1 = some u ∧ (∀ k, u ≠ .int k) := by
      unfold srcTy at ht
      split at ht
      · exact absurd rfl (hns _)
      · exact slty ht
    exact ⟨ht2, slc he rfl⟩

/-! ### append -/
theorem run_cells {b o : Nat} {vs : List Value} (ht : w.there b o vs.length) (h1 : ∀ u ∈ vs, u.oneCell' = true) : (storeCells ⟨b, o, none⟩ vs).run P w = .ok () (w.setCells b o vs) := by
  have := run_storeCells_cells (P := P) b o vs 0 w (fun j hj => by simpa using (ht j hj).1) (fun j hj => by simpa using (ht j hj).2) h1
  simpa using this
theorem run_app_room {t t1 e n len cap : Nat} {te : TI} {u1 : TypeDesc} {vy : Value} {flat : List Value} {A : Option Addr} (hu : P.underlying t = some (.slice e)) (hE : tyOKB P e te = true) (hu1 : P.underlying t1 = some u1) (hn1 : ∀ k, u1 ≠ .int k)
    (hl : (Builtin.lenOf vy).run P w = .ok n w) (hf : (Builtin.firstCells te.size n vy).run P w = .ok flat.toArray w) (hroom : len + n ≤ cap)
    (hA : (A = none ∧ w' = w) ∨ ∃ b o, A = some ⟨b, o, none⟩ ∧ w.there b (o + len * te.size) flat.length ∧ (∀ u ∈ flat, u.oneCell' = true) ∧ w' = w.setCells b (o + len * te.size) flat) :
    (Builtin.append_ #[t, t1] ty #[.slice A len cap, vy]).run P w = .ok (.slice A (len + n) cap) w' := by
  have hs := run_size (w := w) hE
  rcases hA with ⟨rfl, rfl⟩ | ⟨b, o, rfl, hth, h1, rfl⟩
  · simp [Builtin.append_, run_underlying hu, hs, run_underlying hu1, hl, hroom, hf]
  · have hst := run_cells (P := P) hth h1
    simp [Builtin.append_, run_underlying hu, hs, run_underlying hu1, hl, hroom, hf, Addr.add_mid, hst]
theorem run_app_grow {t t1 e n len cap : Nat} {te : TI} {u1 : TypeDesc} {vy : Value} {flat olds : List Value} {A : Option Addr} (hu : P.underlying t = some (.slice e)) (hE : tyOKB P e te = true) (hu1 : P.underlying t1 = some u1) (hn1 : ∀ k, u1 ≠ .int k)
    (hl : (Builtin.lenOf vy).run P w = .ok n w) (hf : (Builtin.firstCells te.size n vy).run P w.drew = .ok flat.toArray w.drew) (hroom : cap < len + n) (hfit : fitsB (len + n) te = true)
    (ho : (Builtin.firstCells te.size len (.slice A len cap)).run P w.drew = .ok olds.toArray w.drew) :
    ∃ (c : Nat) (rest : Array Value), len + n ≤ c ∧ c ≤ maxLen ∧ rest.size = (c - (len + n)) * te.size ∧
      (Builtin.append_ #[t, t1] ty #[.slice A len cap, vy]).run P w = .ok (.slice (some ⟨w.heap.size, 0, none⟩) (len + n) c) (w.drew.alloc (.cells ((olds ++ flat).toArray ++ rest) e)) := by
  obtain ⟨hf1, hf2⟩ := fits_of hfit
  obtain ⟨ie, ze, hie, hse, hbe, hze, hzl⟩ := tyOK_info hE
  have hs := run_size (w := w) hE
  have hzs : ze.cells.size = te.size := by rw [← tyOK_len hE, ← (hzl w (fun _ => False)).length, Array.length_toList]
  have hn : ¬ (len + n ≤ cap) := by omega
  have hgf := growslice_fits (bytes := te.bytes) hroom hf1
  have h48 : ¬ (281474976710656 < Builtin.nextslicecap (len + n) cap * ie.bytes) := by rw [hbe]; omega
  have hzv : (zeroValue e).run P w.drew = .ok ze w.drew := by simp [zeroValue, typeInfo, hie, hze]
  refine ⟨grownCap w (len + n) cap e, Builtin.zeroCells ze.cells (grownCap w (len + n) cap e - (len + n)), grownCap_ge w _ _ e, grownCap_le_maxLen w _ _ e hf2, by rw [size_zeroCells, hzs], ?_⟩
  have h63 : ¬ (9223372036854775807 < (len : Int) + (n : Int)) := by unfold maxLen at hf2; omega
  simp [Builtin.append_, run_underlying hu, hs, run_underlying hu1, hl, hn, h48, Question.forced, ho, hf, newRow, grownCap, hzv, typeInfo, hie, h63]
  congr 2
  apply Array.ext'
  simp [List.append_assoc]

theorem Ev.drew : Ev φ w φ w.drew := ⟨rfl, rfl, ⟨rfl, Nat.le_succ _⟩, Nat.le_refl _, fun _ _ _ => rfl, fun _ _ h => h, fun _ _ => .inl rfl⟩
theorem HR.drew (h : HR X φ H w) : HR X φ H w.drew := by
  refine h.next Ev.drew h.fresh h.live (fun o x hx => .inl ⟨hx, rfl, fun _ _ _ _ _ => rfl⟩) (fun o l b p ho _ => .inl ho)
theorem x_append {t t1 : Nat} {x y : Operand} {v : Value} (h : (Builtin.append_ #[t, t1] ty #[ρ x, ρ y]).run P w = .ok v w') :
    (execOp ρ ⟨d, .call { callee := .builtin .append, args := #[x, y], argTypes := #[t, t1] }, ty, pos, af, g⟩).run P w = .ok (.value v) w' := by
  rw [BigFrame.execOp_builtin, BigFrame.builtin_append]
  simp [h]
/-- The new cells of a row that was laid anew. -/
theorem PRE_new {t sz n c : Nat} {es news : List (List PV)} {ess vss : List (List Value)} {rest : Array Value} {w0 : World} (h1 : PRLL w0 Y sz es ess) (h2 : PRLL w0 Y sz news vss) (hn : es.length + news.length = n) (hc : n ≤ c) (hr : rest.size = (c - n) * sz)
    (st : Stay w0 Y (w.alloc (.cells ((ess.flatten ++ vss.flatten).toArray ++ rest) t)) Y') :
    PRE (w.alloc (.cells ((ess.flatten ++ vss.flatten).toArray ++ rest) t)) Y' w.heap.size sz 0 (es ++ news) ∧ ((ess.flatten ++ vss.flatten).toArray ++ rest).size = c * sz := by
  have e1 := flat_size h1.size
  have e2 := flat_size h2.size
  rw [h1.length] at e1; rw [h2.length] at e2
  refine ⟨PRE.of_flat (PRLL.stay st (h1.append h2)) fun j v hj => ?_, ?_⟩
  · simp only [World.cell?, heap_alloc_new]
    simp only [Nat.zero_add, Option.isSome_none, Bool.false_eq_true, if_false]
    rw [List.flatten_append] at hj
    rw [Array.getElem?_append_left (by have := (List.getElem?_eq_some_iff.1 hj).1; simpa using this)]
    simpa using hj
  · simp only [Array.size_append, List.size_toArray, List.length_append]
    rw [e1, e2, hr, ← Nat.add_mul, hn, ← Nat.add_mul]; congr 1; omega
theorem PRL.one : ∀ {cs : List PV} {vs : List Value}, PRL w Y cs vs → ∀ v ∈ vs, v.oneCell' = true
  | [], vs, h, v, hv => by simp only [PRL] at h; subst h; cases hv
  | c :: cs, vs, h, v, hv => by
    simp only [PRL] at h
    obtain ⟨u, r, rfl, ho, hc, hr⟩ := h
    rcases List.mem_cons.1 hv with rfl | hv
    · exact (pr_one ho hc).1
    · exact PRL.one hr v hv
theorem PRLL.one {sz : Nat} : ∀ {es : List (List PV)} {vss : List (List Value)}, PRLL w Y sz es vss → ∀ v ∈ vss.flatten, v.oneCell' = true
  | [], vss, h, v, hv => by simp only [PRLL] at h; subst h; simp at hv
  | e :: es, vss, h, v, hv => by
    simp only [PRLL] at h
    obtain ⟨vs, r, rfl, _, hp, hr⟩ := h
    rw [List.flatten_cons, List.mem_append] at hv
    rcases hv with hv | hv
    · exact hp.one v hv
    · exact PRLL.one hr v hv
theorem olds_of {te_size len cap : Nat} {A : Option Addr} {es : List (List PV)} (hle : es.length = len) (hA : len = 0 ∨ ∃ b o, A = some ⟨b, o, none⟩ ∧ PRE w Y b te_size o es) :
    ∃ ess, PRLL w Y te_size es ess ∧ (Builtin.firstCells te_size len (.slice A len cap)).run P w.drew = .ok ess.flatten.toArray w.drew := by
  rcases hA with h0 | ⟨b, o, rfl, hE⟩
  · subst h0
    have : es = [] := List.length_eq_zero_iff.1 hle
    subst this
    refine ⟨[], by simp only [PRLL], ?_⟩
    cases A with
    | none => simp [Builtin.firstCells]
    | some a => rw [run_firstCells_some w.drew te_size 0 a _ cap [] (by simp) (fun j v h => by simp at h)]; rfl
  · obtain ⟨ess, h1, h2⟩ := hE.flat
    refine ⟨ess, h1, run_firstCells_some w.drew te_size len _ _ cap ess.flatten (by rw [flat_size h1.size, h1.length, hle]) fun j u hj => ?_⟩
    rw [Addr.add_mid]
    exact h2 j u hj
theorem g_append {t t1 : Nat} {x y : Operand} {v : AV} {H' : Hp} (hC : CfgOK P C) (hH : HR X φ H w) (hfr : Free φ H nid) (h : evAppend C nid H t t1 (ra x) (ra y) = some (v, H')) (hx : VR w (YOf X φ) φ (ra x) (ρ x)) (hy : VR w (YOf X φ) φ (ra y) (ρ y)) :
    Good nid H X φ w v H' ((execOp ρ ⟨d, .call { callee := .builtin .append, args := #[x, y], argTypes := #[t, t1] }, ty, pos, af, g⟩).run P w) := by
  unfold evAppend at h
  split at h
  · rename_i ti news hti hsrc
    cases hst : srcTy C t1 (ra y) with
    | false => simp [hst] at hsrc
    | true =>
      simp only [hst, cond_true] at hsrc
      split at h
      · rename_i e hk
        have hu := und_sl (hC.ty t ti hti) hk
        split at h
        · cases h
        · rename_i te hte
          have hE := hC.ty e te hte
          cases hg1 : (!(news.all fun c => Nat.beq c.length te.size) || Nat.beq te.size 0) with
          | true => simp [hg1] at h
          | false =>
            simp only [hg1, cond_false] at h
            rw [Bool.or_eq_false_iff] at hg1
            have hall : news.all (fun c => Nat.beq c.length te.size) = true := by simpa using hg1.1
            have hpos : te.size ≠ 0 := fun e => by rw [e] at hg1; simp at hg1
            obtain ⟨⟨u1, hu1, hn1⟩, hlen, vss, hvss, hfc⟩ := src_ok hC hH hst hsrc hall hy
            have hvl := hvss.length
            have hfcw : (Builtin.firstCells te.size news.length (ρ y)).run P w = .ok vss.flatten.toArray w := by
              have := hfc news.length w (Nat.le_refl _) rfl
              rwa [List.take_of_length_le (by omega)] at this
            have hfcd : (Builtin.firstCells te.size news.length (ρ y)).run P w.drew = .ok vss.flatten.toArray w.drew := by
              have := hfc news.length w.drew (Nat.le_refl _) rfl
              rwa [List.take_of_length_le (by omega)] at this
            -- nothing is appended
            have none_case : news = [] → ∀ {A : Option Addr} {n c : Nat}, ρ x = .slice A n c → n ≤ c → (execOp ρ ⟨d, .call { callee := .builtin .append, args := #[x, y], argTypes := #[t, t1] }, ty, pos, af, g⟩).run P w = .ok (.value (.slice A n c)) w := by
              intro hnil A n c hv hle
              subst hnil
              refine x_append ?_
              rw [hv]
              have hvn : vss = [] := List.length_eq_zero_iff.1 (by simpa using hvl)
              subst hvn
              have hs := run_size (w := w) hE
              cases A with
              | none =>
                have := run_app_room (ty := ty) (w' := w) hu hE hu1 hn1 hlen hfcw (A := none) (len := n) (cap := c) (by simpa using hle) (.inl ⟨rfl, rfl⟩)
                simpa using this
              | some a =>
                have hl' : (Builtin.lenOf (ρ y)).run P w = .ok 0 w := hlen
                have hf' : (Builtin.firstCells te.size 0 (ρ y)).run P w = .ok #[] w := hfcw
                simp [Builtin.append_, run_underlying hu, hs, run_underlying hu1, hl', hf', hle, storeCells]
            -- a new row
            have grow : ∀ {A : Option Addr} {cap : Nat} {es : List (List PV)}, ρ x = .slice A es.length cap → cap < es.length + news.length → fitsB (es.length + news.length) te = true → (es.length = 0 ∨ ∃ b o, A = some ⟨b, o, none⟩ ∧ PRE w (YOf X φ) b te.size o es) →
                ∃ c ess rest, PRLL w (YOf X φ) te.size es ess ∧ es.length + news.length ≤ c ∧ c ≤ maxLen ∧ rest.size = (c - (es.length + news.length)) * te.size ∧
                (execOp ρ ⟨d, .call { callee := .builtin .append, args := #[x, y], argTypes := #[t, t1] }, ty, pos, af, g⟩).run P w = .ok (.value (.slice (some ⟨w.heap.size, 0, none⟩) (es.length + news.length) c)) (w.drew.alloc (.cells ((ess.flatten ++ vss.flatten).toArray ++ rest) e)) := by
              intro A cap es hv hroom hfit hA
              obtain ⟨ess, h1, h2⟩ := olds_of (P := P) (cap := cap) rfl hA
              obtain ⟨c, rest, h3, h4, h5, h6⟩ := run_app_grow (ty := ty) hu hE hu1 hn1 hlen hfcd hroom hfit h2
              exact ⟨c, ess, rest, h1, h3, h4, h5, x_append (by rw [hv]; exact h6)⟩
            split at h
            · -- []
              split at h
              · rename_i f sz es hv
                simp only [Option.some.injEq, Prod.mk.injEq] at h; obtain ⟨rfl, rfl⟩ := h
                rw [hv] at hx
                have hx' := hx
                simp only [VR, PR] at hx
                obtain ⟨A, c, he, h1, _⟩ := hx
                exact good_val (none_case rfl he h1) (by rw [← he]; exact hx') hH
              · rename_i o hv
                split at h
                · rename_i fz sz es ho
                  simp only [Option.some.injEq, Prod.mk.injEq] at h; obtain ⟨rfl, rfl⟩ := h
                  obtain ⟨z, l, hl, hO⟩ := hH.ob _ _ ho
                  rw [hv] at hx
                  have hx' := hx
                  simp only [VR] at hx
                  have he := hx.2.2 _ l hl
                  simp only [OR] at hO
                  exact good_val (none_case rfl he hO.2.2.2.1) (by rw [← he]; exact hx') hH
                · cases h
              · rename_i o off len hv
                split at h
                · rename_i fz sz es ho
                  simp only [Option.some.injEq, Prod.mk.injEq] at h; obtain ⟨rfl, rfl⟩ := h
                  obtain ⟨z, l, hl, hO⟩ := hH.ob _ _ ho
                  rw [hv] at hx
                  have hx' := hx
                  simp only [VR] at hx
                  obtain ⟨A, c, he, h1, h2, _⟩ := hx.2.2 _ l hl
                  simp only [OR] at hO
                  have := hO.2.2.2.1
                  exact good_val (none_case rfl he (by omega)) (by rw [← he]; exact hx') hH
                · cases h
              · cases h
            · rename_i e0 es0
              have hmpos : 0 < (e0 :: es0).length := by simp
              generalize hnews : e0 :: es0 = news at *
              -- a new piece of own memory beside the others
              have fresh_case : ∀ {A : Option Addr}, ρ x = .slice A 0 0 → fitsB news.length te = true → Good nid H X φ w (.own nid) (hput H nid (.row false te.size news)) ((execOp ρ ⟨d, .call { callee := .builtin .append, args := #[x, y], argTypes := #[t, t1] }, ty, pos, af, g⟩).run P w) := by
                intro A hv hfit
                obtain ⟨c, ess, rest, h1, h2, h3, h4, h5⟩ := grow (A := A) (cap := 0) (es := []) hv (by simp; omega) (by simpa using hfit) (.inl rfl)
                have hd := hH.drew
                let l : Loc := ⟨some (w.heap.size, 0), news.length, c, te.size⟩
                have ev : Ev φ w.drew (φ.set nid (.at false l)) _ := Ev.new hfr.fr (.cells ((ess.flatten ++ vss.flatten).toArray ++ rest) e) l (fun b p he => by cases he; exact Nat.le_refl _)
                have hdr : PRLL w.drew (YOf X φ) te.size news vss := PRLL.stay ((Ev.drew (φ := φ) (w := w)).stay X) hvss
                have hdr1 : PRLL w.drew (YOf X φ) te.size [] ess := PRLL.stay ((Ev.drew (φ := φ) (w := w)).stay X) h1
                obtain ⟨k1, k2⟩ := PRE_new (w := w.drew) (n := news.length) (t := e) hdr1 hdr (by simp) (by simpa using h2) (by simpa using h4) (ev.stay X)
                refine ⟨_, _, _, φ.set nid (.at false l), h5, .inl rfl, ?_, hd.new hfr _ l (.row false te.size news) (fun b p he => by cases he; rfl) ?_, Ev.drew.trans ev, (length_put' hfr.le).1, fun k hk h => by rw [Phi.set_ne hk]; exact h⟩
                · simp only [VR]
                  refine ⟨rfl, (by rw [Phi.set_self]; intro h; cases h), fun _ l' hl' => ?_⟩
                  rw [Phi.set_self] at hl'; cases hl'
                  simp [Loc.addr, l]
                · simp only [OR]
                  refine ⟨trivial, rfl, rfl, by simpa using h2, h3, .inr ⟨w.heap.size, 0, e, _, rfl, heap_alloc_new w.drew _, ?_, by simpa using k1, fun h => by cases h⟩⟩
                  show 0 + c * te.size ≤ _
                  rw [k2]; omega
              -- own memory, laid anew
              have move_grow : ∀ {o : Nat} {l : Loc} {A : Option Addr} {cap : Nat} {es : List (List PV)}, φ o = .at false l → ρ x = .slice A es.length cap → cap < es.length + news.length → fitsB (es.length + news.length) te = true → (es.length = 0 ∨ ∃ b o, A = some ⟨b, o, none⟩ ∧ PRE w (YOf X φ) b te.size o es) →
                  Good nid H X φ w (.own nid) (hput (hset H o none) nid (.row false te.size (es ++ news))) ((execOp ρ ⟨d, .call { callee := .builtin .append, args := #[x, y], argTypes := #[t, t1] }, ty, pos, af, g⟩).run P w) := by
                intro o l A cap es hl hv hroom hfit hA
                obtain ⟨c, ess, rest, h1, h2, h3, h4, h5⟩ := grow hv hroom hfit hA
                let l' : Loc := ⟨some (w.heap.size, 0), es.length + news.length, c, te.size⟩
                obtain ⟨m1, m2⟩ := hH.move hfr (w' := w.drew.alloc (.cells ((ess.flatten ++ vss.flatten).toArray ++ rest) e)) hl l' (.row false te.size (es ++ news)) rfl rfl ⟨rfl, Nat.le_succ _⟩ (by simp) (fun k hk _ => Below.heap_alloc w.drew _ k hk) (fun b p' he => by cases he; exact .inr ⟨Nat.le_refl _, by simp⟩) (fun ev => by
                  obtain ⟨k1, k2⟩ := PRE_new (w := w.drew) (w0 := w) (n := es.length + news.length) (t := e) h1 hvss rfl h2 h4 (ev.stay X)
                  simp only [OR]
                  refine ⟨trivial, by simp [l'], rfl, h2, h3, .inr ⟨w.heap.size, 0, e, _, rfl, heap_alloc_new w.drew _, ?_, k1, fun h => by cases h⟩⟩
                  show 0 + c * te.size ≤ _
                  rw [k2]; omega)
                refine ⟨_, _, _, _, h5, .inl rfl, ?_, m1, m2, length_move hfr.le, fun k hk h => by rw [Phi.set_ne hk, Phi.set_ne (fun e => by rw [← e, h] at hl; cases hl)]; exact h⟩
                simp only [VR]
                refine ⟨rfl, (by rw [Phi.set_self]; intro h; cases h), fun _ l2 hl2 => ?_⟩
                rw [Phi.set_self] at hl2; cases hl2
                simp [Loc.addr, l']
              split at h
              · rename_i sz hv
                cases hfit : fitsB news.length te with
                | false => simp [hfit] at h
                | true =>
                  simp only [hfit, cond_true, Option.some.injEq, Prod.mk.injEq] at h; obtain ⟨rfl, rfl⟩ := h
                  rw [hv] at hx
                  simp only [VR, PR, flOk] at hx
                  obtain ⟨A, c, he, _, _, ⟨rfl, rfl⟩, _⟩ := hx
                  exact fresh_case he hfit
              · rename_i sz hv
                cases hfit : fitsB news.length te with
                | false => simp [hfit] at h
                | true =>
                  simp only [hfit, cond_true, Option.some.injEq, Prod.mk.injEq] at h; obtain ⟨rfl, rfl⟩ := h
                  rw [hv] at hx
                  simp only [VR, PR, flOk] at hx
                  obtain ⟨A, c, he, _, _, rfl, _⟩ := hx
                  exact fresh_case he hfit
              · rename_i o hv
                split at h
                · rename_i sz es ho
                  cases hb : (fitsB (es.length + news.length) te && Nat.beq sz te.size) with
                  | false => simp [hb] at h
                  | true =>
                    simp only [hb, cond_true, Option.some.injEq, Prod.mk.injEq] at h; obtain ⟨rfl, rfl⟩ := h
                    rw [Bool.and_eq_true, Nat.beq_eq] at hb
                    obtain ⟨hfit, rfl⟩ := hb
                    obtain ⟨z, l, hl, hO⟩ := hH.ob _ _ ho
                    have hel := elems_ok hH (a := .own o) (sz := te.size) (es := es) (by simp [elems, ho]) (by rw [← hv]; exact hx)
                    rw [hv] at hx
                    simp only [VR] at hx
                    have he := hx.2.2 _ l hl
                    have hO2 := hO
                    simp only [OR] at hO
                    obtain ⟨rfl, h1, h2, h3, h4, h5⟩ := hO
                    rw [h1] at he
                    rcases Nat.lt_or_ge l.c (es.length + news.length) with hroom | hroom
                    · obtain ⟨A, c, he2, _, _, hA⟩ := hel
                      rw [he] at he2
                      injection he2 with q1 q2 q3
                      exact move_grow hl he hroom hfit (by rw [← q1] at hA; exact hA)
                    · rcases h5 with ⟨_, h6⟩ | ⟨b, p, t', cs, hA, hg, hcs, hPE, _⟩
                      · omega
                      · have hmul : (es.length + news.length) * te.size ≤ l.c * te.size := Nat.mul_le_mul_right _ hroom
                        have hfl := flat_size hvss.size
                        rw [hvl] at hfl
                        have hmul2 : (es.length + news.length) * te.size = es.length * te.size + news.length * te.size := Nat.add_mul _ _ _
                        have hth : w.there b (p + es.length * te.size) vss.flatten.length := fun j hj => by
                          have hj' : p + es.length * te.size + j < cs.size := by omega
                          constructor
                          · simp [World.cell?, hg, hj']
                          · simp [World.frozen?, hg]
                        have hrun := run_app_room (ty := ty) hu hE hu1 hn1 hlen hfcw (A := some ⟨b, p, none⟩) (len := es.length) (cap := l.c) hroom (.inr ⟨b, p, rfl, hth, hvss.one, rfl⟩)
                        have hvx : ρ x = .slice (some ⟨b, p, none⟩) es.length l.c := by rw [he]; simp [Loc.addr, hA]
                        obtain ⟨f1, f2, f3, f4, f5⟩ := setCells_far b vss.flatten (p + es.length * te.size) w
                        let l' : Loc := ⟨some (b, p), es.length + news.length, l.c, te.size⟩
                        obtain ⟨cs', hg', hcs'⟩ := setCells_size (vs := vss.flatten) (o := p + es.length * te.size) hg (by omega)
                        obtain ⟨m1, m2⟩ := hH.move hfr (w' := w.setCells b (p + es.length * te.size) vss.flatten) hl l' (.row false te.size (es ++ news)) f1 f2 f3 (by omega) (fun k _ hk => f5 k fun e => hk p (by rw [hA, e])) (fun b' p' he => by cases he; exact .inl ⟨p, hA⟩) (fun ev => by
                          have hst := PRE_store (i := es.length) hg hPE hvss (Nat.le_refl _) (by omega) (ev.stay X)
                          simp only [List.take_length] at hst
                          rw [List.drop_eq_nil_of_le (by omega), List.append_nil] at hst
                          simp only [OR]
                          exact ⟨trivial, by simp [l'], rfl, hroom, h4, .inr ⟨b, p, t', cs', rfl, hg', by rw [hcs']; exact hcs, hst, fun h => by cases h⟩⟩)
                        refine ⟨_, _, _, _, x_append (by rw [hvx]; exact hrun), .inl rfl, ?_, m1, m2, length_move hfr.le, fun k hk h => by rw [Phi.set_ne hk, Phi.set_ne (fun e => by rw [← e, h] at hl; cases hl)]; exact h⟩
                        simp only [VR]
                        refine ⟨rfl, (by rw [Phi.set_self]; intro h; cases h), fun _ l2 hl2 => ?_⟩
                        rw [Phi.set_self] at hl2; cases hl2
                        simp [Loc.addr, l']
                · cases h
              · rename_i o off len hv
                split at h
                · rename_i sz es ho
                  cases hb : (fitsB (len + news.length) te && Nat.beq sz te.size) with
                  | false => simp [hb] at h
                  | true =>
                    simp only [hb, Bool.not_true, cond_false] at h
                    rw [Bool.and_eq_true, Nat.beq_eq] at hb
                    obtain ⟨hfit, rfl⟩ := hb
                    obtain ⟨z, l, hl, hO⟩ := hH.ob _ _ ho
                    rw [hv] at hx
                    simp only [VR] at hx
                    obtain ⟨A, c0, he, hle, hc0, hA0⟩ := hx.2.2 _ l hl
                    simp only [OR] at hO
                    obtain ⟨rfl, h1, h2, h3, h4, h5⟩ := hO
                    have hfl := flat_size hvss.size
                    rw [hvl] at hfl
                    -- what room there is
                    have room : len + news.length ≤ c0 → ∃ b p t' cs, l.A = some (b, p) ∧ w.heap[b]? = some (.cells cs t' (0, 0)) ∧ p + l.c * te.size ≤ cs.size ∧ PRE w (YOf X φ) b te.size p es ∧ A = some ⟨b, p + off * te.size, none⟩ ∧ p + (off + len + news.length) * te.size ≤ cs.size ∧
                        (execOp ρ ⟨d, .call { callee := .builtin .append, args := #[x, y], argTypes := #[t, t1] }, ty, pos, af, g⟩).run P w = .ok (.value (.slice A (len + news.length) c0)) (w.setCells b (p + (off + len) * te.size) vss.flatten) := by
                      intro hroom
                      rcases h5 with ⟨_, h6⟩ | ⟨b, p, t', cs, hA, hg, hcs, hPE, _⟩
                      · omega
                      · obtain ⟨hA1, _⟩ := hA0 (by omega)
                        simp only [Loc.addr, hA, Option.map_some, h2] at hA1
                        have hmul : (off + len + news.length) * te.size ≤ l.c * te.size := Nat.mul_le_mul_right _ (by omega)
                        have hmul2 : (off + len + news.length) * te.size = (off + len) * te.size + news.length * te.size := Nat.add_mul _ _ _
                        have hmul3 : (off + len) * te.size = off * te.size + len * te.size := Nat.add_mul _ _ _
                        have hth : w.there b (p + (off + len) * te.size) vss.flatten.length := fun j hj => by
                          have hj' : p + (off + len) * te.size + j < cs.size := by omega
                          constructor
                          · simp [World.cell?, hg, hj']
                          · simp [World.frozen?, hg]
                        refine ⟨b, p, t', cs, hA, hg, hcs, hPE, hA1, by omega, x_append ?_⟩
                        rw [he, hA1]
                        refine run_app_room (ty := ty) hu hE hu1 hn1 hlen hfcw hroom (.inr ⟨b, p + off * te.size, rfl, ?_, hvss.one, ?_⟩)
                        · rw [show p + off * te.size + len * te.size = p + (off + len) * te.size from by omega]; exact hth
                        · rw [show p + off * te.size + len * te.size = p + (off + len) * te.size from by omega]
                    cases hb2 : Nat.ble (off + len + news.length) es.length with
                    | true =>
                      simp only [hb2, cond_true, Option.some.injEq, Prod.mk.injEq] at h; obtain ⟨rfl, rfl⟩ := h
                      have hb2 := ble_t hb2
                      obtain ⟨b, p, t', cs, hA, hg, hcs, hPE, hA1, hfitc, hrun⟩ := room (by omega)
                      obtain ⟨f1, f2, f3, f4, f5⟩ := setCells_far b vss.flatten (p + (off + len) * te.size) w
                      have ev := Ev.write (w := w) (w' := w.setCells b (p + (off + len) * te.size) vss.flatten) hl hA f1 f2 f3 f4 f5
                      have hmul2 : (off + len + news.length) * te.size = (off + len) * te.size + news.length * te.size := Nat.add_mul _ _ _
                      obtain ⟨cs', hg', hcs'⟩ := setCells_size (vs := vss.flatten) (o := p + (off + len) * te.size) hg (by omega)
                      have hst := PRE_store (i := off + len) hg hPE hvss (by omega) (by omega) (ev.stay X)
                      refine ⟨_, _, _, φ, hrun, .inl rfl, ?_, hH.write hl hA f1 f2 f3 f4 f5 ?_, ev, by rw [length_set]; exact Nat.le_refl _, fun _ _ h => h⟩
                      · simp only [VR]
                        refine ⟨rfl, hx.2.1, fun _ l2 hl2 => ?_⟩
                        rw [hl] at hl2; cases hl2
                        exact ⟨A, c0, rfl, by omega, hc0, hA0⟩
                      · simp only [OR]
                        exact ⟨trivial, by simp <;> omega, h2, h3, h4, .inr ⟨b, p, t', cs', hA, hg', by rw [hcs']; exact hcs, hst, fun h => by cases h⟩⟩
                    | false =>
                      simp only [hb2, cond_false] at h
                      cases hb3 : Nat.beq (off + len) es.length with
                      | false => simp [hb3] at h
                      | true =>
                        simp only [hb3, cond_true, Option.some.injEq, Prod.mk.injEq] at h; obtain ⟨rfl, rfl⟩ := h
                        rw [Nat.beq_eq] at hb3
                        have hdl : (es.drop off).length = len := by simp; omega
                        rcases Nat.lt_or_ge c0 (len + news.length) with hroom | hroom
                        · refine move_grow (es := es.drop off) (A := A) (cap := c0) hl (by rw [hdl]; exact he) (by rw [hdl]; exact hroom) (by rw [hdl]; exact hfit) ?_
                          rw [hdl]
                          rcases Nat.eq_zero_or_pos len with h0 | hpl
                          · exact .inl h0
                          · rcases h5 with ⟨_, h6⟩ | ⟨b, p, t', cs, hA, hg, hcs, hPE, _⟩
                            · omega
                            · obtain ⟨hA1, _⟩ := hA0 (by omega)
                              exact .inr ⟨b, p + off * te.size, by rw [hA1]; simp [Loc.addr, hA, h2], hPE.drop off⟩
                        · obtain ⟨b, p, t', cs, hA, hg, hcs, hPE, hA1, hfitc, hrun⟩ := room hroom
                          obtain ⟨f1, f2, f3, f4, f5⟩ := setCells_far b vss.flatten (p + (off + len) * te.size) w
                          have hmul2 : (off + len + news.length) * te.size = (off + len) * te.size + news.length * te.size := Nat.add_mul _ _ _
                          have hmul3 : l.c * te.size = c0 * te.size + off * te.size := by rw [← hc0, Nat.add_mul]
                          let l' : Loc := ⟨some (b, p + off * te.size), len + news.length, c0, te.size⟩
                          obtain ⟨cs', hg', hcs'⟩ := setCells_size (vs := vss.flatten) (o := p + (off + len) * te.size) hg (by omega)
                          obtain ⟨m1, m2⟩ := hH.move hfr (w' := w.setCells b (p + (off + len) * te.size) vss.flatten) hl l' (.row false te.size (es.drop off ++ news)) f1 f2 f3 (by omega) (fun k _ hk => f5 k fun e => hk p (by rw [hA, e])) (fun b' p' he => by cases he; exact .inl ⟨p, hA⟩) (fun ev => by
                            have hst := PRE_store (i := off + len) hg hPE hvss (by omega) (by omega) (ev.stay X)
                            rw [List.take_of_length_le (by omega), List.drop_eq_nil_of_le (by omega), List.append_nil] at hst
                            have hst2 := hst.drop off
                            rw [List.drop_append_of_le_length (by omega)] at hst2
                            simp only [OR]
                            refine ⟨trivial, by simp [l', hdl] <;> omega, rfl, hroom, by show c0 ≤ maxLen; omega, .inr ⟨b, p + off * te.size, t', cs', rfl, hg', ?_, hst2, fun h => by cases h⟩⟩
                            show p + off * te.size + c0 * te.size ≤ cs'.size
                            omega)
                          refine ⟨_, _, _, _, hrun, .inl rfl, ?_, m1, m2, length_move hfr.le, fun k hk h => by rw [Phi.set_ne hk, Phi.set_ne (fun e => by rw [← e, h] at hl; cases hl)]; exact h⟩
                          simp only [VR]
                          refine ⟨rfl, (by rw [Phi.set_self]; intro h; cases h), fun _ l2 hl2 => ?_⟩
                          rw [Phi.set_self] at hl2; cases hl2
                          simp [Loc.addr, l', hA1]
                · cases h
              · cases h
      · cases h
  · cases h
end
end Go.Proofs.Ytelblamgfbkhbaa
