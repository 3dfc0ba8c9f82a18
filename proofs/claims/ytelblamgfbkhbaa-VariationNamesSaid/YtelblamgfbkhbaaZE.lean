/- The clean machine is sound, third part: literals, slices made, slices read. No condition. -/
import Derived.Test.YtelblamgfbkhbaaZD
namespace Go.Proofs.Ytelblamgfbkhbaa
set_option linter.unusedSimpArgs false
set_option linter.unusedVariables false
open Go.RowKit
section
variable {P : Program} {C : Cfg} {w w' : World} {Y X : Nat → Prop} {φ : Phi} {H : Hp}
variable {nid : Nat} {ρ : Operand → Value} {ra : Operand → AV} {d : Option Tmp} {ty : TypeId} {pos : String} {af : Array Edge} {g : Option (Nat × Bool)}

/-! ### literals -/
theorem fill_fold : ∀ (us : List Value) (k off : Nat) (cs : List Value), off + k + us.length ≤ cs.length →
    (us.zipIdx k).foldl (fun (a : Array Value) (p : Value × Nat) => a.setIfInBounds (off + p.2) p.1) cs.toArray = (cs.take (off + k) ++ us ++ cs.drop (off + k + us.length)).toArray
  | [], k, off, cs, _ => by simp
  | u :: us, k, off, cs, h => by
    have hj : off + k < cs.length := by simp at h; omega
    rw [List.zipIdx_cons, List.foldl_cons]
    rw [show (cs.toArray.setIfInBounds (off + k) u) = (cs.set (off + k) u).toArray from by apply Array.ext'; simp]
    rw [fill_fold us (k + 1) off _ (by simp at h ⊢; omega)]
    rw [show off + (k + 1) = off + k + 1 from by omega, set_list cs us u (off + k) hj]
    rfl
/-- The values of parts, index by index. -/
def VRI (w : World) (Y : Nat → Prop) (φ : Phi) : List (Nat × AV) → List (Nat × Value) → Prop
  | [], l => l = []
  | (i, a) :: r, l => ∃ v l', l = (i, v) :: l' ∧ VR w Y φ a v ∧ VRI w Y φ r l'
theorem vri_of (hρ : ∀ x, VR w Y φ (ra x) (ρ x)) : ∀ ps : List (Nat × Operand), VRI w Y φ (ps.map fun p => (p.1, ra p.2)) (ps.map fun p => (p.1, ρ p.2))
  | [] => by simp [VRI]
  | p :: ps => by simp only [List.map_cons, VRI]; exact ⟨_, _, rfl, hρ p.2, vri_of hρ ps⟩
theorem VRI.stay {φ' : Phi} (h : Ev φ w φ' w') (X : Nat → Prop) : ∀ {as : List (Nat × AV)} {vs : List (Nat × Value)}, VRI w (YOf X φ) φ as vs → VRI w' (YOf X φ') φ' as vs
  | [], _, h' => by simpa only [VRI] using h'
  | (i, a) :: r, l, h' => by
    simp only [VRI] at h' ⊢
    obtain ⟨v, l', e, hv, hr⟩ := h'
    exact ⟨v, l', e, VR.stay h X a v hv, VRI.stay h X hr⟩
theorem fillA_ok {pl : List (Nat × Nat)} {place : Nat → Option (Nat × Nat)} (hpl : ∀ i o s, pl[i]? = some (o, s) → place i = some (o, s)) :
    ∀ {parts : List (Nat × AV)} {vparts : List (Nat × Value)} {cs cs' : List AV} {vs : List Value}, fillA pl cs parts = some cs' → VRI w Y φ parts vparts → VRL w Y φ cs vs →
      ∃ vs' : List Value, Instr.fill place vs.toArray vparts = some vs'.toArray ∧ VRL w Y φ cs' vs'
  | [], vparts, cs, cs', vs, h, hp, hc => by
    simp only [VRI] at hp; subst hp
    simp only [fillA, Option.some.injEq] at h; subst h
    exact ⟨vs, rfl, hc⟩
  | (i, a) :: r, vparts, cs, cs', vs, h, hp, hc => by
    simp only [VRI] at hp
    obtain ⟨v, l', rfl, hv, hr⟩ := hp
    simp only [fillA] at h
    split at h
    · rename_i off size hi
      cases hb : (Nat.beq a.cells.length size && a.cells.all oneA) with
      | false => simp [hb] at h
      | true =>
        simp only [hb, cond_true] at h
        rw [Bool.and_eq_true, Nat.beq_eq] at hb
        split at h
        · rename_i cs1 hput
          obtain ⟨hle, rfl⟩ := putAt_eq hput
          have hvc := vr_cells hb.2 hv
          have hl1 := hvc.length
          have hl2 := hc.length
          have hnew := ((hc.take off).append hvc).append (hc.drop (off + a.cells.length))
          obtain ⟨vs', h1, h2⟩ := fillA_ok hpl h hr hnew
          refine ⟨vs', ?_, h2⟩
          simp only [Instr.fill, hpl i off size hi]
          rw [if_neg (by simp at hl1 ⊢; omega)]
          rw [← h1]
          congr 1
          have := fill_fold v.cells.toList 0 off vs (by omega)
          rw [← Array.foldl_toList, Array.toList_zipIdx]
          rw [Nat.add_zero] at this
          rw [← hl1]
          exact this
        · cases h
    · cases h
theorem mapM_pl (hC : CfgOK P C) : ∀ {fs : List (Nat × Nat)} {gs : List Field} {pl : List (Nat × Nat)}, fieldsOK fs gs = true → (fs.mapM fun f => (C.ty f.1).map fun tf => (f.2, tf.size)) = some pl →
    gs.mapM (fun f => (P.info? f.type).map fun i => (f.offset, i.size)) = some pl
  | [], [], pl, _, h => by simpa using h
  | (t, o) :: fs, g :: gs, pl, hf, h => by
    simp only [fieldsOK, Bool.and_eq_true, Nat.beq_eq] at hf
    obtain ⟨⟨⟨rfl, rfl⟩, _⟩, hf⟩ := hf
    simp only [List.mapM_cons, Option.bind_eq_bind, Option.pure_def] at h ⊢
    cases hti : C.ty g.type with
    | none => simp [hti] at h
    | some ti =>
      obtain ⟨i, z, hi, hs, _⟩ := tyOK_info (hC.ty _ ti hti)
      cases hr : (fs.mapM fun f => (C.ty f.1).map fun tf => (f.2, tf.size)) with
      | none => simp [hti, hr] at h
      | some rest =>
        simp [hti, hr] at h; subst h
        have := mapM_pl hC hf hr
        simp only [this, hi]
        simp [hs]
  | [], _ :: _, _, hf, _ => by simp [fieldsOK] at hf
  | _ :: _, [], _, hf, _ => by simp [fieldsOK] at hf
theorem g_build {t : Nat} {ps : Array (Nat × Operand)} {v : AV} {H' : Hp} (hC : CfgOK P C) (hρ : ∀ x, VR w (YOf X φ) φ (ra x) (ρ x)) (h : evPure C nid ra H (.build t ps) = some (v, H')) :
    H' = H ∧ ∃ u, (execOp ρ ⟨d, .build t ps, ty, pos, af, g⟩).run P w = .ok (.value u) w ∧ VR w (YOf X φ) φ v u := by
  simp only [evPure] at h
  cases hti : C.ty t with
  | none => simp [hti] at h
  | some ti =>
    simp only [hti] at h
    have hT := hC.ty t ti hti
    obtain ⟨i, z, hi, hs, _, hz, hzl⟩ := tyOK_info hT
    have hparts := vri_of (w := w) (Y := YOf X φ) (φ := φ) hρ ps.toList
    have hmap : (ps.map fun (i, x) => (i, ρ x)).toList = ps.toList.map fun p => (p.1, ρ p.2) := by simp
    split at h
    · rename_i fs hk
      obtain ⟨gs, hu, hf⟩ := und_struct hT hk
      split at h
      · rename_i pl hpl
        simp only [Option.map_eq_some_iff, Prod.mk.injEq] at h
        obtain ⟨cs, hfill, rfl, rfl⟩ := h
        obtain ⟨vs', h1, h2⟩ := fillA_ok (place := (pl.toArray[·]?)) (fun i o s h => by simpa using h) hfill hparts (hzl w (YOf X φ)).vrl
        refine ⟨rfl, .agg vs'.toArray, x_build ?_, VR.mkAgg h2⟩
        rw [hmap]
        simp only [Program.built, hi, hu, hz, mapM_pl hC hf hpl]
        simpa using h1
      · cases h
    · rename_i n e hk
      have hu := und_arr hT hk
      split at h
      · rename_i te hte
        obtain ⟨ie, ze, hie, hse, _⟩ := tyOK_info (hC.ty e te hte)
        simp only [Option.map_eq_some_iff, Prod.mk.injEq] at h
        obtain ⟨cs, hfill, rfl, rfl⟩ := h
        obtain ⟨vs', h1, h2⟩ := fillA_ok (place := fun i => some (i * ie.size, ie.size)) (fun i o s h => by
          simp only [List.getElem?_map, Option.map_eq_some_iff, Prod.mk.injEq] at h
          obtain ⟨a, ha, rfl, rfl⟩ := h
          obtain ⟨_, ha⟩ := List.getElem?_eq_some_iff.1 ha
          rw [List.getElem_range] at ha
          rw [← ha, hse]) hfill hparts (hzl w (YOf X φ)).vrl
        refine ⟨rfl, .agg vs'.toArray, x_build ?_, VR.mkAgg h2⟩
        rw [hmap]
        simp only [Program.built, hi, hu, hz, hie]
        simpa using h1
      · cases h
    · cases h

/-! ### rows -/
/-- Elements and their values, one list each. -/
def PRLL (w : World) (Y : Nat → Prop) (sz : Nat) : List (List PV) → List (List Value) → Prop
  | [], vss => vss = []
  | e :: es, vss => ∃ vs r, vss = vs :: r ∧ e.length = sz ∧ PRL w Y e vs ∧ PRLL w Y sz es r
theorem PRLL.length {sz : Nat} : ∀ {es : List (List PV)} {vss : List (List Value)}, PRLL w Y sz es vss → vss.length = es.length
  | [], vss, h => by simp only [PRLL] at h; subst h; rfl
  | e :: es, vss, h => by
    simp only [PRLL] at h
    obtain ⟨vs, r, rfl, _, _, hr⟩ := h
    simp [PRLL.length hr]
theorem PRLL.size {sz : Nat} : ∀ {es : List (List PV)} {vss : List (List Value)}, PRLL w Y sz es vss → ∀ vs ∈ vss, vs.length = sz
  | [], vss, h, vs, hv => by simp only [PRLL] at h; subst h; cases hv
  | e :: es, vss, h, vs, hv => by
    simp only [PRLL] at h
    obtain ⟨us, r, rfl, hl, hp, hr⟩ := h
    rcases List.mem_cons.1 hv with rfl | hv
    · rw [hp.length, hl]
    · exact PRLL.size hr vs hv
theorem PRLL.stay {Y' : Nat → Prop} (h : Stay w Y w' Y') {sz : Nat} : ∀ {es : List (List PV)} {vss : List (List Value)}, PRLL w Y sz es vss → PRLL w' Y' sz es vss
  | [], vss, hp => by simpa only [PRLL] using hp
  | e :: es, vss, hp => by
    simp only [PRLL] at hp ⊢
    obtain ⟨vs, r, e1, hl, hp, hr⟩ := hp
    exact ⟨vs, r, e1, hl, PRL.stay h _ _ hp, PRLL.stay h hr⟩
theorem flat_size {sz : Nat} : ∀ {vss : List (List Value)}, (∀ vs ∈ vss, vs.length = sz) → vss.flatten.length = vss.length * sz
  | [], _ => by simp
  | vs :: r, h => by
    rw [List.flatten_cons, List.length_append, h vs (by simp), flat_size fun v hv => h v (List.mem_cons_of_mem _ hv), List.length_cons, Nat.succ_mul]; omega
theorem PRE.of_flat {b sz : Nat} : ∀ {es : List (List PV)} {vss : List (List Value)} {o : Nat}, PRLL w Y sz es vss → w.rangeAt b o vss.flatten → PRE w Y b sz o es
  | [], _, _, _, _ => by simp only [PRE]
  | e :: es, vss, o, h, hr => by
    simp only [PRLL] at h
    obtain ⟨vs, r, rfl, hl, hp, hq⟩ := h
    have hvl : vs.length = sz := by rw [hp.length, hl]
    simp only [PRE]
    refine ⟨hl, PRC.of_vals hp fun j v hj => hr j v ?_, PRE.of_flat hq fun j v hj => ?_⟩
    · rw [List.flatten_cons, List.getElem?_append_left (List.getElem?_eq_some_iff.1 hj).1]; exact hj
    · have := hr (sz + j) v (by rw [List.flatten_cons, List.getElem?_append_right (by omega), hvl]; rw [← hj]; congr 1; omega)
      rwa [show o + (sz + j) = o + sz + j from by omega] at this
theorem PRE.flat {b sz : Nat} : ∀ {es : List (List PV)} {o : Nat}, PRE w Y b sz o es → ∃ vss, PRLL w Y sz es vss ∧ w.rangeAt b o vss.flatten
  | [], _, _ => ⟨[], by simp only [PRLL], fun j v hj => by simp at hj⟩
  | e :: es, o, h => by
    simp only [PRE] at h
    obtain ⟨hl, hc, hr⟩ := h
    obtain ⟨vs, h1, h2⟩ := PRC.vals hc
    obtain ⟨vss, h3, h4⟩ := PRE.flat hr
    have hvl : vs.length = sz := by rw [h1.length, hl]
    refine ⟨vs :: vss, by simp only [PRLL]; exact ⟨vs, vss, rfl, hl, h1, h3⟩, fun j v hj => ?_⟩
    rw [List.flatten_cons] at hj
    rcases Nat.lt_or_ge j vs.length with hlt | hge
    · rw [List.getElem?_append_left hlt] at hj; exact h2 j v hj
    · rw [List.getElem?_append_right hge] at hj
      have := h4 (j - vs.length) v hj
      rwa [show o + sz + (j - vs.length) = o + j from by omega] at this
theorem flatten_set {sz : Nat} : ∀ {vss : List (List Value)} {i : Nat} {us : List Value}, (∀ vs ∈ vss, vs.length = sz) → i < vss.length → (vss.set i us).flatten = vss.flatten.take (i * sz) ++ us ++ vss.flatten.drop (i * sz + sz)
  | [], i, us, _, h => by simp at h
  | vs :: r, 0, us, hs, _ => by
    have := hs vs (by simp)
    simp [← this]
  | vs :: r, i + 1, us, hs, h => by
    have h1 := hs vs (by simp)
    have h2 := flatten_set (i := i) (us := us) (fun v hv => hs v (List.mem_cons_of_mem _ hv)) (by simpa using h)
    rw [List.set_cons_succ, List.flatten_cons, h2, List.flatten_cons]
    rw [show (i + 1) * sz = vs.length + i * sz from by rw [Nat.succ_mul, h1]; omega]
    have e1 : vs.take (vs.length + i * sz) = vs := List.take_of_length_le (Nat.le_add_right _ _)
    have e2 : vs.drop (vs.length + i * sz + sz) = [] := List.drop_eq_nil_of_le (by rw [Nat.add_assoc]; exact Nat.le_add_right _ _)
    have e3 : vs.length + i * sz - vs.length = i * sz := Nat.add_sub_cancel_left _ _
    have e4 : vs.length + i * sz + sz - vs.length = i * sz + sz := by rw [Nat.add_assoc]; exact Nat.add_sub_cancel_left _ _
    rw [List.take_append, List.drop_append, e1, e2, e3, e4]
    simp
theorem PRLL.set {sz : Nat} : ∀ {es : List (List PV)} {vss : List (List Value)} {i : Nat} {e : List PV} {vs : List Value}, PRLL w Y sz es vss → e.length = sz → PRL w Y e vs → PRLL w Y sz (es.set i e) (vss.set i vs)
  | [], vss, i, e, vs, h, _, _ => by simp only [PRLL] at h; subst h; simp [PRLL]
  | e0 :: es, vss, 0, e, vs, h, hl, hp => by
    simp only [PRLL] at h
    obtain ⟨us, r, rfl, _, _, hr⟩ := h
    simp only [List.set_cons_zero, PRLL]
    exact ⟨vs, r, rfl, hl, hp, hr⟩
  | e0 :: es, vss, i + 1, e, vs, h, hl, hp => by
    simp only [PRLL] at h
    obtain ⟨us, r, rfl, hl0, hp0, hr⟩ := h
    simp only [List.set_cons_succ, PRLL]
    exact ⟨us, _, rfl, hl0, hp0, PRLL.set hr hl hp⟩
theorem PRLL.append {sz : Nat} : ∀ {es ds : List (List PV)} {vss uss : List (List Value)}, PRLL w Y sz es vss → PRLL w Y sz ds uss → PRLL w Y sz (es ++ ds) (vss ++ uss)
  | [], ds, vss, uss, h, k => by simp only [PRLL] at h; subst h; exact k
  | e :: es, ds, vss, uss, h, k => by
    simp only [PRLL] at h
    obtain ⟨vs, r, rfl, hl, hp, hr⟩ := h
    simp only [List.cons_append, PRLL]
    exact ⟨vs, r ++ uss, rfl, hl, hp, PRLL.append hr k⟩
theorem PRLL.replicate {sz n : Nat} {e : List PV} {vs : List Value} (hl : e.length = sz) (hp : PRL w Y e vs) : PRLL w Y sz (List.replicate n e) (List.replicate n vs) := by
  induction n with
  | zero => simp [PRLL]
  | succ n ih => simp only [List.replicate_succ, PRLL]; exact ⟨vs, _, rfl, hl, hp, ih⟩
/-- Zero cells, one element after the other. -/
theorem zeros_flat (z : List Value) (hz : 0 < z.length) : ∀ n : Nat, (List.range (n * z.length)).map (fun i => z.toArray[i % z.length]!) = (List.replicate n z).flatten
  | 0 => by simp
  | n + 1 => by
    rw [Nat.succ_mul, List.range_add, List.map_append, zeros_flat z hz n, List.replicate_succ', List.flatten_append]
    congr 1
    rw [List.map_map]
    simp only [List.flatten_cons, List.flatten_nil, List.append_nil]
    apply List.ext_getElem (by simp)
    intro i h1 h2
    have hi : i < z.length := by simpa using h1
    simp only [List.getElem_map, List.getElem_range, Function.comp]
    rw [show (n * z.length + i) % z.length = i from by rw [Nat.mul_comm, Nat.mul_add_mod, Nat.mod_eq_of_lt hi]]
    simp [hi]
theorem zeros_eq {z : Array Value} {n s : Nat} (hs : z.size = s) (hz : 0 < s) : (Array.range (n * s)).map (fun i => z[i % z.size]!) = (List.replicate n z.toList).flatten.toArray := by
  subst hs
  apply Array.ext'
  have := zeros_flat z.toList (by simpa using hz) n
  simpa using this
/-- A new row. -/
theorem good_row {r : Result Next} {i t n sz : Nat} {cs : Array Value} {es : List (List PV)} {vss : List (List Value)} (hH : HR X φ H w) (hf : Free φ H i) (hr : r = .ok (.value (.slice (some ⟨w.heap.size, 0, none⟩) n n)) (w.alloc (.cells cs t)))
    (hn : n = es.length) (hm : n ≤ maxLen) (hcs : cs.toList = vss.flatten) (hv : PRLL w (YOf X φ) sz es vss) : Good i H X φ w (.own i) (hput H i (.row false sz es)) r := by
  let l : Loc := ⟨some (w.heap.size, 0), n, n, sz⟩
  have ev : Ev φ w (φ.set i (.at false l)) (w.alloc (.cells cs t)) := Ev.new hf.fr _ l (fun b p e => by cases e; exact Nat.le_refl _)
  refine ⟨_, _, _, φ.set i (.at false l), hr, .inl rfl, ?_, hH.new hf _ l (.row false sz es) (fun b p e => by cases e; rfl) ?_, ev, (length_put' hf.le).1, fun k hk h => by rw [Phi.set_ne hk]; exact h⟩
  · simp only [VR]
    refine ⟨rfl, (by rw [Phi.set_self]; intro h; cases h), fun _ l' hl' => ?_⟩
    rw [Phi.set_self] at hl'; cases hl'
    simp [Loc.addr, l]
  · simp only [OR]
    have hfl := flat_size hv.size
    refine ⟨trivial, hn, rfl, Nat.le_refl _, hm, .inr ⟨w.heap.size, 0, t, cs, rfl, heap_alloc_new w _, ?_, ?_, fun h => by cases h⟩⟩
    · have : cs.size = n * sz := by rw [← Array.length_toList, hcs, hfl, hv.length, hn]
      show 0 + n * sz ≤ cs.size
      omega
    · refine PRE.of_flat (PRLL.stay (ev.stay X) hv) fun j v hj => ?_
      simp only [World.cell?, heap_alloc_new]
      simp only [Nat.zero_add, Option.isSome_none, Bool.false_eq_true, if_false]
      rw [← hcs] at hj
      simpa using hj
theorem PRLL.getD {sz : Nat} {es : List (List PV)} {vss : List (List Value)} (h : PRLL w Y sz es vss) : es.length = vss.length := h.length.symm
theorem fillE_ok {sz : Nat} : ∀ {parts : List (Nat × AV)} {vparts : List (Nat × Value)} {φ : Phi} {H H1 : Hp} {es es' : List (List PV)} {vss : List (List Value)}, HR X φ H w → fillE sz H es parts = some (es', H1) → VRI w (YOf X φ) φ parts vparts → PRLL w (YOf X φ) sz es vss →
      ∃ φ1 vss', HR X φ1 H1 w ∧ Ev φ w φ1 w ∧ Kp φ H φ1 H1 ∧ es'.length = es.length ∧ PRLL w (YOf X φ1) sz es' vss' ∧ Instr.fill (fun i => some (i * sz, sz)) vss.flatten.toArray vparts = some vss'.flatten.toArray
  | [], vparts, φ, H, H1, es, es', vss, hH, h, hp, hv => by
    simp only [VRI] at hp; subst hp
    simp only [fillE, Option.some.injEq, Prod.mk.injEq] at h; obtain ⟨rfl, rfl⟩ := h
    exact ⟨φ, vss, hH, Ev.refl _ _, Kp.refl _ _, rfl, hv, rfl⟩
  | (i, a) :: r, vparts, φ, H, H1, es, es', vss, hH, h, hp, hv => by
    simp only [VRI] at hp
    obtain ⟨v, l', rfl, hva, hr⟩ := hp
    simp only [fillE] at h
    split at h
    · rename_i p H2 hpl
      obtain ⟨φ2, hH2, ev2, kp2, hpr⟩ := plain_ok hH hpl hva
      cases hb : (Nat.beq p.cells.length sz && Nat.blt i es.length) with
      | false => simp [hb] at h
      | true =>
        simp only [hb, cond_true] at h
        rw [Bool.and_eq_true, Nat.beq_eq, Nat.blt_eq] at hb
        have hpc := pr_cells_of hpr
        have hv2 := PRLL.stay (ev2.stay X) hv
        have hi : i < vss.length := by rw [hv.length]; exact hb.2
        have hv3 := hv2.set (i := i) hb.1 hpc
        obtain ⟨φ3, vss', h1, h2, hk, h3, h4, h5⟩ := fillE_ok hH2 h (VRI.stay ev2 X hr) hv3
        refine ⟨φ3, vss', h1, ev2.trans h2, kp2.trans hk, by simpa using h3, h4, ?_⟩
        have hfl := flat_size hv.size
        have hcl := hpc.length
        have hle : i * sz + sz ≤ vss.flatten.length := by
          rw [hfl]
          have : (i + 1) * sz ≤ vss.length * sz := Nat.mul_le_mul_right sz hi
          rw [Nat.succ_mul] at this; exact this
        have hcs : v.cells.size = sz := by rw [← Array.length_toList, hcl, hb.1]
        rw [← h5, flatten_set hv.size hi]
        generalize vss.flatten = F at hle
        have := fill_fold v.cells.toList 0 (i * sz) F (by rw [Array.length_toList, hcs]; omega)
        simp only [Instr.fill]
        rw [if_neg (by simp [hcs]; omega)]
        congr 1
        rw [← Array.foldl_toList, Array.toList_zipIdx]
        rw [Nat.add_zero, Array.length_toList, hcs] at this
        rw [this]
    · cases h
theorem g_buildSlice {t n : Nat} {ps : Array (Nat × Operand)} {v : AV} {H' : Hp} (hC : CfgOK P C) (hH : HR X φ H w) (hf : Free φ H nid) (hρ : ∀ x, VR w (YOf X φ) φ (ra x) (ρ x)) (h : evPure C nid ra H (.buildSlice t n ps) = some (v, H')) :
    Good nid H X φ w v H' ((execOp ρ ⟨d, .buildSlice t n ps, ty, pos, af, g⟩).run P w) := by
  simp only [evPure] at h
  cases hti : C.ty t with
  | none => simp [hti] at h
  | some ti =>
    simp only [hti] at h
    have hT := hC.ty t ti hti
    split at h
    · rename_i e hk
      have hu := und_sl hT hk
      split at h
      · rename_i te hte
        obtain ⟨ie, ze, hie, hse, _, hze, hzl⟩ := tyOK_info (hC.ty e te hte)
        cases hb : (Nat.ble (n * te.size) 16777216 && !Nat.beq te.size 0) with
        | false => simp [hb] at h
        | true =>
          simp only [hb, cond_true] at h
          rw [Bool.and_eq_true] at hb
          have hb1 : n * te.size ≤ 16777216 := by simpa using hb.1
          have hb2 : te.size ≠ 0 := fun e => by rw [e] at hb; simp at hb
          split at h
          · rename_i es H1 hfill
            simp only [Option.some.injEq, Prod.mk.injEq] at h; obtain ⟨rfl, rfl⟩ := h
            have hzl2 := tyOK_len (hC.ty e te hte)
            have hzs : ze.cells.size = te.size := by rw [← hzl2, ← (hzl w (YOf X φ)).length, Array.length_toList]
            have hrep : PRLL w (YOf X φ) te.size (List.replicate n te.zero) (List.replicate n ze.cells.toList) := PRLL.replicate hzl2 (hzl w (YOf X φ))
            obtain ⟨φ1, vss', h1, h2, hk', h3, h4, h5⟩ := fillE_ok hH hfill (vri_of hρ ps.toList) hrep
            refine Good.pre h2 hk' ?_
            have hlen : n = es.length := by simpa using h3.symm
            have hmx : n ≤ maxLen := by
              have : n * 1 ≤ n * te.size := Nat.mul_le_mul_left n (by omega)
              unfold maxLen; omega
            refine good_row h1 (hk'.free hf) (cs := vss'.flatten.toArray) (t := e) ?_ hlen hmx (by simp) h4
            rcases Nat.eq_zero_or_pos n with h0 | hpos
            · subst h0
              have hps : ps = #[] := by
                rcases ps with ⟨l⟩
                cases l with
                | nil => rfl
                | cons q l =>
                  simp only [List.map_cons, fillE, List.replicate_zero, List.length_nil] at hfill
                  split at hfill
                  · rw [show Nat.blt q.1 0 = false from by rw [Bool.eq_false_iff]; simp [Nat.blt_eq]] at hfill
                    simp at hfill
                  · cases hfill
              subst hps
              have : vss'.flatten.toArray = #[] := by
                have h6 : vss'.length = 0 := by rw [h4.length]; omega
                rw [List.length_eq_zero_iff.1 h6]; rfl
              rw [this]
              exact x_buildSlice0 hu hie
            · refine x_buildSlice hu ?_
              unfold builtSlice
              simp only [hie, hze]
              rw [if_neg]
              · rw [hse, zeros_eq hzs (by omega)]
                have hmap : (ps.map fun (i, x) => (i, ρ x)).toList = ps.toList.map fun p => (p.1, ρ p.2) := by simp
                rw [hmap]; exact h5
              · rw [hse]
                rintro (h | h)
                · omega
                · rcases Nat.mul_eq_zero.1 h with h | h <;> omega
          · cases h
      · cases h
    · cases h
end
end Go.Proofs.Ytelblamgfbkhbaa
