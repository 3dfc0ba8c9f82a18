/- States changed without a step; runs with hints; functions entered. No condition. -/
import Derived.Test.YtelblamgfbkhbaaTC
namespace Go.Proofs.Ytelblamgfbkhbaa
set_option linter.unusedSimpArgs false
set_option linter.unusedVariables false
open Go.RowKit
inductive Td where
  | mat (t sz : Nat)          -- a slot's nil slice becomes an own row
  | matA (t i sz : Nat)       -- that in a cell of a slot's struct
  | matC (o i sz : Nat)       -- that in a cell of a variable
  | frz (t : Nat)             -- a slot's own rows are given up
  | frzC (o i : Nat)          -- that of a cell of a variable
  | frzO (o : Nat)            -- an own row is given up
  | wk (t : Nat) (v : AV)     -- less is known
  | mov (t : Nat)             -- a slot's own row gets a new number
  | kil (o : Nat)             -- own memory is given up
def newRow' (sz : Nat) : Ob := .row false sz []
def isNilS : AV → Bool
  | .pl (.sl .nil _ []) => true
  | _ => false
def tdStep (st : Tr × Hp) : Td → Option ((Tr × Hp) × List Prop)
  | .mat t sz => bif isNilS (st.1.get 12 t) then some ((st.1.put 12 t (.own st.2.length), hput st.2 st.2.length (newRow' sz)), []) else none
  | .matA t i sz => bif isAggA (st.1.get 12 t) then (match (st.1.get 12 t).cells[i]? with
      | some c => bif isNilS c then some ((st.1.put 12 t (.agg ((st.1.get 12 t).cells.set i (.own st.2.length))), hput st.2 st.2.length (newRow' sz)), []) else none
      | none => none) else none
  | .matC o i sz => match hget st.2 o with
    | some (.box cs) => (match cs[i]? with
      | some c => bif isNilS c then some ((st.1, hput (hset st.2 o (some (.box (cs.set i (.own st.2.length))))) st.2.length (newRow' sz)), []) else none
      | none => none)
    | _ => none
  | .frz t => match plain st.2 (st.1.get 12 t) with
    | some (p, H1) => some ((st.1.put 12 t (.pl p), H1), [])
    | none => none
  | .frzC o i => match hget st.2 o with
    | some (.box cs) => (match cs[i]? with
      | some c => (match plain1 st.2 c with
        | some (p, H1) => (match hget H1 o with
          | some (.box cs1) => some ((st.1, hset H1 o (some (.box (cs1.set i (.pl p))))), [])
          | _ => none)
        | none => none)
      | none => none)
    | _ => none
  | .frzO o => match hget st.2 o with
    | some (.row false sz es) => some ((st.1, hset st.2 o (some (.row true sz es))), [])
    | _ => none
  | .wk t v => some ((st.1.put 12 t v, st.2), [Wk (st.1.get 12 t) v])
  | .mov t => match st.1.get 12 t with
    | .own o => (match hget st.2 o with
      | some (.row false sz es) => some ((st.1.put 12 t (.own st.2.length), hput (hset st.2 o none) st.2.length (.row false sz es)), [])
      | _ => none)
    | _ => none
  | .kil o => match hget st.2 o with
    | some _ => some ((st.1, hset st.2 o none), [])
    | none => none
def tdSteps : List Td → Tr × Hp → Option ((Tr × Hp) × List Prop)
  | [], st => some (st, [])
  | d :: r, st => match tdStep st d with
    | some (st1, cs) => (match tdSteps r st1 with | some (st2, cs2) => some (st2, cs ++ cs2) | none => none)
    | none => none
section
variable {P : Program} {C : Cfg} {w w' : World} {X : Nat → Prop} {φ φ' : Phi} {H H' : Hp} {nid n base : Nat} {s : Tr} {a : Act} {D : List Deferred} {st st' : Tr × Hp}
theorem put_slots {Y : Nat → Prop} {s : Tr} {t : Nat} {v : AV} {f : Nat → Value} (h : ∀ k, VR w Y φ (s.get 12 k) (f k)) (hv : VR w Y φ v (f t)) : ∀ k, VR w Y φ ((s.put 12 t v).get 12 k) (f k) := by
  intro k
  by_cases e : k = t
  · subst e
    rcases get_put_self 12 s k v with h1 | h1
    · rw [h1]; exact hv
    · rw [h1]; simp only [VR]
  · rw [get_put_ne 12 s t k v e]; exact h k
theorem nil_slice {v : AV} {u : Value} {Y : Nat → Prop} (h : isNilS v = true) (hv : VR w Y φ v u) : u = .slice none 0 0 := by
  unfold isNilS at h
  split at h
  · simp only [VR, PR, flOk] at hv
    obtain ⟨A, c, rfl, _, _, ⟨rfl, rfl⟩, _⟩ := hv
    rfl
  · cases h
/-- A new row that is a nil slice. -/
theorem mat_ok (hH : HR X φ H w) (sz : Nat) : Ev φ w (φ.set H.length (.at false ⟨none, 0, 0, sz⟩)) w ∧ HR X (φ.set H.length (.at false ⟨none, 0, 0, sz⟩)) (hput H H.length (newRow' sz)) w ∧
    VR w (YOf X (φ.set H.length (.at false ⟨none, 0, 0, sz⟩))) (φ.set H.length (.at false ⟨none, 0, 0, sz⟩)) (.own H.length) (.slice none 0 0) := by
  have hf := hH.free
  have ev : Ev φ w (φ.set H.length (.at false ⟨none, 0, 0, sz⟩)) w := by
    refine ⟨rfl, rfl, ⟨rfl, Nat.le_refl _⟩, Nat.le_refl _, fun _ _ _ => rfl, fun b _ hb => ?_, fun o ho => .inl (Phi.set_ne fun e => ho (by rw [e]; exact hf.fr))⟩
    obtain ⟨o, l, p, ho, hA⟩ := hb
    by_cases e : o = H.length
    · subst e; rw [Phi.set_self] at ho; cases ho; cases hA
    · rw [Phi.set_ne e] at ho; exact ⟨o, l, p, ho, hA⟩
  have hlen := length_put' (x := newRow' sz) hf.le
  refine ⟨ev, hH.next ev (fun o ho => ?_) (fun o z l ho => ?_) (fun o y hy => ?_) (fun o l b p ho hA => ?_), ?_⟩
  · rw [Phi.set_ne (by omega)]; exact hH.fresh o (by omega)
  · by_cases e : o = H.length
    · exact ⟨_, by rw [hget_put hf.le, if_pos e]⟩
    · rw [Phi.set_ne e] at ho
      obtain ⟨y, hy⟩ := hH.live o z l ho
      exact ⟨y, by rw [hget_put hf.le, if_neg e]; exact hy⟩
  · by_cases e : o = H.length
    · rw [hget_put hf.le, if_pos e] at hy; cases hy
      refine .inr ⟨false, ⟨none, 0, 0, sz⟩, by rw [e, Phi.set_self], ?_⟩
      simp only [newRow', OR]
      exact ⟨trivial, rfl, trivial, Nat.le_refl _, Nat.zero_le _, .inl ⟨trivial, trivial⟩⟩
    · rw [hget_put hf.le, if_neg e] at hy
      exact .inl ⟨hy, Phi.set_ne e, fun _ _ _ _ _ => rfl⟩
  · by_cases e : o = H.length
    · subst e; rw [Phi.set_self] at ho; cases ho; cases hA
    · rw [Phi.set_ne e] at ho; exact .inl ho
  · simp only [VR]
    refine ⟨rfl, (by rw [Phi.set_self]; intro h; cases h), fun z l hl => ?_⟩
    rw [Phi.set_self] at hl; cases hl
    simp [Loc.addr]
theorem VRL.set {Y : Nat → Prop} : ∀ {cs : List AV} {vs : List Value} {i : Nat} {c : AV} {u : Value}, VRL w Y φ cs vs → vs[i]? = some u → oneA c = true → VR w Y φ c u → VRL w Y φ (cs.set i c) vs
  | [], vs, i, c, u, h, _, _, _ => by simpa using h
  | x :: cs, vs, 0, c, u, h, hu, hc, hv => by
    simp only [VRL] at h
    obtain ⟨v, r, rfl, h1, h2, h3⟩ := h
    simp at hu; subst hu
    simp only [List.set_cons_zero, VRL]
    exact ⟨v, r, rfl, hc, hv, h3⟩
  | x :: cs, vs, i + 1, c, u, h, hu, hc, hv => by
    simp only [VRL] at h
    obtain ⟨v, r, rfl, h1, h2, h3⟩ := h
    simp only [List.set_cons_succ, VRL]
    exact ⟨v, r, rfl, h1, h2, VRL.set h3 (by simpa using hu) hc hv⟩
theorem td_ok {d : Td} {cs : List Prop} (h : tdStep st d = some (st', cs)) (hp : AllP cs) (hS : SR D X n st.1 st.2 φ a w) (hb : base ≤ st.2.length) : ∃ φ', SR D X n st'.1 st'.2 φ' a w ∧ EvB base φ w φ' w ∧ base ≤ st'.2.length := by
  have low : ∀ {φ' : Phi}, Ev φ w φ' w → (∀ k, k < st.2.length → φ k = .fresh → φ' k = .fresh) → EvB base φ w φ' w := fun ev hf => ev.b fun o ho e => hf o (by omega) e
  cases d with
  | mat t sz =>
    simp only [tdStep] at h
    cases hn : isNilS (st.1.get 12 t) with
    | false => simp [hn] at h
    | true =>
      simp only [hn, cond_true, Option.some.injEq, Prod.mk.injEq] at h; obtain ⟨rfl, rfl⟩ := h
      obtain ⟨ev, hH, hv⟩ := mat_ok hS.hr sz
      have hu := nil_slice hn (hS.slots t)
      refine ⟨_, ⟨hS.defers, hS.size, put_slots (fun k => VR.stay ev X _ _ (hS.slots k)) (by rw [hu]; exact hv), hH⟩, low ev fun k hk e => by rw [Phi.set_ne (by omega)]; exact e, ?_⟩
      have := (length_put' (x := newRow' sz) (Nat.le_refl st.2.length)).1
      exact Nat.le_trans hb this
  | matA t i sz =>
    simp only [tdStep] at h
    cases ha : isAggA (st.1.get 12 t) with
    | false => simp [ha] at h
    | true =>
      simp only [ha, cond_true] at h
      split at h
      · rename_i c hc
        cases hn : isNilS c with
        | false => simp [hn] at h
        | true =>
          simp only [hn, cond_true, Option.some.injEq, Prod.mk.injEq] at h; obtain ⟨rfl, rfl⟩ := h
          obtain ⟨ev, hH, hv⟩ := mat_ok hS.hr sz
          obtain ⟨vs, hu, hl⟩ := agg_cells ha (hS.slots t)
          obtain ⟨u, h1, _, h2⟩ := hl.at hc
          have h3 := nil_slice hn h2
          refine ⟨_, ⟨hS.defers, hS.size, put_slots (fun k => VR.stay ev X _ _ (hS.slots k)) ?_, hH⟩, low ev fun k hk e => by rw [Phi.set_ne (by omega)]; exact e, ?_⟩
          · rw [hu]
            simp only [VR]
            exact ⟨vs, rfl, (VRL.stay ev X _ _ hl).set h1 rfl (by rw [h3]; exact hv)⟩
          · have := (length_put' (x := newRow' sz) (Nat.le_refl st.2.length)).1
            exact Nat.le_trans hb this
      · cases h
  | matC o i sz =>
    simp only [tdStep] at h
    split at h
    · rename_i cs0 ho
      split at h
      · rename_i c hc
        cases hn : isNilS c with
        | false => simp [hn] at h
        | true =>
          simp only [hn, cond_true, Option.some.injEq, Prod.mk.injEq] at h; obtain ⟨rfl, rfl⟩ := h
          obtain ⟨ev, hH, hv⟩ := mat_ok hS.hr sz
          have hlt := hget_lt ho
          have ho2 : hget (hput st.2 st.2.length (newRow' sz)) o = some (.box cs0) := by rw [hget_put (Nat.le_refl _), if_neg (by omega)]; exact ho
          obtain ⟨z, l, hl, hO⟩ := hH.ob _ _ ho2
          simp only [OR] at hO
          obtain ⟨rfl, b, t, vs, hA, hg, hvs⟩ := hO
          obtain ⟨u, h1, _, h2⟩ := hvs.at hc
          have h3 := nil_slice hn h2
          have hwr := hH.write (x := .box (cs0.set i (.own st.2.length))) hl hA rfl rfl ⟨rfl, Nat.le_refl _⟩ rfl (fun _ _ => rfl) (by
            simp only [OR]
            exact ⟨trivial, b, t, vs, hA, hg, hvs.set h1 rfl (by rw [h3]; exact hv)⟩)
          have heq : hset (hput st.2 st.2.length (newRow' sz)) o (some (.box (cs0.set i (.own st.2.length)))) = hput (hset st.2 o (some (.box (cs0.set i (.own st.2.length))))) st.2.length (newRow' sz) := by
            unfold hput
            rw [show Nat.blt st.2.length st.2.length = false from by rw [Bool.eq_false_iff]; simp, show Nat.blt st.2.length (hset st.2 o (some (.box (cs0.set i (.own st.2.length))))).length = false from by rw [length_set, Bool.eq_false_iff]; simp]
            simp only [cond_false, hset]
            rw [List.set_append_left _ _ hlt]
          rw [heq] at hwr
          refine ⟨_, ⟨hS.defers, hS.size, fun k => VR.stay ev X _ _ (hS.slots k), hwr⟩, low ev fun k hk e => by rw [Phi.set_ne (by omega)]; exact e, ?_⟩
          have := (length_put' (x := newRow' sz) (H := hset st.2 o (some (.box (cs0.set i (.own st.2.length))))) (n := st.2.length) (by rw [length_set]; exact Nat.le_refl _)).1
          rw [length_set] at this
          exact Nat.le_trans hb this
      · cases h
    · cases h
  | frz t =>
    simp only [tdStep] at h
    split at h
    · rename_i p H1 hpl
      simp only [Option.some.injEq, Prod.mk.injEq] at h; obtain ⟨rfl, rfl⟩ := h
      obtain ⟨φ1, hH, ev, kp, hv⟩ := plain_ok hS.hr hpl (hS.slots t)
      refine ⟨φ1, ⟨hS.defers, hS.size, put_slots (fun k => VR.stay ev X _ _ (hS.slots k)) (by simp only [VR]; exact hv), hH⟩, low ev fun k _ e => kp.1 k e, ?_⟩
      show base ≤ H1.length
      rw [kp.2]; exact hb
    · cases h
  | frzC o i =>
    simp only [tdStep] at h
    split at h
    · rename_i cs0 ho
      split at h
      · rename_i c hc
        split at h
        · rename_i p H1 hpl
          split at h
          · rename_i cs1 ho1
            simp only [Option.some.injEq, Prod.mk.injEq] at h; obtain ⟨rfl, rfl⟩ := h
            obtain ⟨z, l, hl, hO⟩ := hS.hr.ob _ _ ho
            simp only [OR] at hO
            obtain ⟨rfl, b, t, vs, hA, hg, hvs⟩ := hO
            obtain ⟨u, h1, h1o, h2⟩ := hvs.at hc
            obtain ⟨φ1, hH, ev, kp, hv⟩ := plain1_ok hS.hr hpl h2
            obtain ⟨z1, l1, hl1, hO1⟩ := hH.ob _ _ ho1
            simp only [OR] at hO1
            obtain ⟨rfl, b1, t1, vs1, hA1, hg1, hvs1⟩ := hO1
            have hll : l1 = l := by
              rcases ev.ids o (by rw [hl]; intro h; cases h) with h | h | ⟨l2, _, h⟩
              · rw [hl1, hl] at h; cases h; rfl
              · rw [hl1] at h; cases h
              · rw [hl1] at h; cases h
            subst hll
            rw [hA] at hA1; cases hA1
            rw [hg] at hg1
            simp only [Option.some.injEq, Obj.cells.injEq] at hg1
            obtain ⟨hvv, rfl, _⟩ := hg1
            have hvv : vs = vs1 := by have := congrArg Array.toList hvv; simpa using this
            subst hvv
            have hwr := hH.write (x := .box (cs1.set i (.pl p))) hl1 hA rfl rfl ⟨rfl, Nat.le_refl _⟩ rfl (fun _ _ => rfl) (by
              simp only [OR]
              exact ⟨trivial, b, t, vs, hA, hg, hvs1.set h1 (by have := plain1_one hpl h1o; cases p <;> first | rfl | (simp [oneP] at this)) (by simp only [VR]; exact hv)⟩)
            refine ⟨φ1, ⟨hS.defers, hS.size, fun k => VR.stay ev X _ _ (hS.slots k), hwr⟩, low ev fun k _ e => kp.1 k e, ?_⟩
            show base ≤ (hset H1 o _).length
            rw [length_set, kp.2]; exact hb
          · cases h
        · cases h
      · cases h
    · cases h
  | frzO o =>
    simp only [tdStep] at h
    split at h
    · rename_i sz es ho
      simp only [Option.some.injEq, Prod.mk.injEq] at h; obtain ⟨rfl, rfl⟩ := h
      obtain ⟨z, l, hl, hO⟩ := hS.hr.ob _ _ ho
      have hv : VR w (YOf X φ) φ (.own o) (.slice (l.addr 0) l.n l.c) := by
        simp only [VR]
        exact ⟨rfl, (by rw [hl]; intro h; cases h), fun z' l' h' => by rw [hl] at h'; cases h'; rfl⟩
      obtain ⟨φ1, hH, ev, kp, _⟩ := plain1_ok hS.hr (show plain1 st.2 (.own o) = some (.sl .any sz es, hset st.2 o (some (.row true sz es))) by simp only [plain1, ho]) hv
      refine ⟨φ1, ⟨hS.defers, hS.size, fun k => VR.stay ev X _ _ (hS.slots k), hH⟩, low ev fun k _ e => kp.1 k e, ?_⟩
      show base ≤ (hset st.2 o _).length
      rw [length_set]; exact hb
    · cases h
  | wk t v =>
    simp only [tdStep, Option.some.injEq, Prod.mk.injEq] at h; obtain ⟨rfl, rfl⟩ := h
    exact ⟨φ, ⟨hS.defers, hS.size, put_slots hS.slots (hp.1 _ _ _ _ (hS.slots t)), hS.hr⟩, EvB.refl _ _ _, hb⟩
  | mov t =>
    simp only [tdStep] at h
    split at h
    · rename_i o ht
      split at h
      · rename_i sz es ho
        simp only [Option.some.injEq, Prod.mk.injEq] at h; obtain ⟨rfl, rfl⟩ := h
        obtain ⟨z, l, hl, hO⟩ := hS.hr.ob _ _ ho
        have hz : z = false := by simp only [OR] at hO; exact hO.1
        subst hz
        have hv := hS.slots t
        rw [ht] at hv
        obtain ⟨m1, m2⟩ := hS.hr.move hS.hr.free (w' := w) hl l (.row false sz es) rfl rfl ⟨rfl, Nat.le_refl _⟩ (Nat.le_refl _) (fun _ _ _ => rfl) (fun b p he => .inl ⟨p, he⟩) (fun ev => by
          have := OR.stay ev X (fun _ _ _ _ => rfl) hO
          exact this)
        have hlt := hget_lt ho
        refine ⟨_, ⟨hS.defers, hS.size, put_slots (fun k => VR.stay m2 X _ _ (hS.slots k)) ?_, m1⟩, low m2 fun k hk e => ?_, Nat.le_trans hb (length_move (Nat.le_refl _))⟩
        · simp only [VR] at hv ⊢
          rw [Phi.set_self]
          exact ⟨hv.1, fun h => (by cases h), fun z' l' h' => (by cases h'; exact hv.2.2 _ _ hl)⟩
        · rw [Phi.set_ne (by omega), Phi.set_ne (fun e2 => by rw [e2] at e; rw [e] at hl; cases hl)]; exact e
      · cases h
    · cases h
  | kil o =>
    simp only [tdStep] at h
    split at h
    · rename_i x ho
      simp only [Option.some.injEq, Prod.mk.injEq] at h; obtain ⟨rfl, rfl⟩ := h
      obtain ⟨z, l, hl, hO⟩ := hS.hr.ob _ _ ho
      have ev : Ev φ w (φ.set o .dead) w := Ev.kill o (by rw [hl]; intro h; cases h)
      refine ⟨_, ⟨hS.defers, hS.size, fun k => VR.stay ev X _ _ (hS.slots k), hS.hr.kill hl⟩, low ev fun k hk e => ?_, ?_⟩
      · rw [Phi.set_ne (fun e2 => by rw [e2] at e; rw [e] at hl; cases hl)]; exact e
      · show base ≤ (hset st.2 o none).length
        rw [length_set]; exact hb
    · cases h
theorem tds_ok : ∀ {l : List Td} {st st' : Tr × Hp} {φ : Phi} {cs : List Prop}, tdSteps l st = some (st', cs) → AllP cs → SR D X n st.1 st.2 φ a w → base ≤ st.2.length → ∃ φ', SR D X n st'.1 st'.2 φ' a w ∧ EvB base φ w φ' w ∧ base ≤ st'.2.length
  | [], st, st', φ, cs, h, _, hS, hb => by
    simp only [tdSteps, Option.some.injEq, Prod.mk.injEq] at h; obtain ⟨rfl, _⟩ := h
    exact ⟨φ, hS, EvB.refl _ _ _, hb⟩
  | d :: l, st, st', φ, cs, h, hp, hS, hb => by
    simp only [tdSteps] at h
    split at h
    · rename_i st1 cs1 h1
      split at h
      · rename_i st2 cs2 h2
        simp only [Option.some.injEq, Prod.mk.injEq] at h; obtain ⟨rfl, rfl⟩ := h
        rw [allP_append] at hp
        obtain ⟨φ1, k1, k2, k3⟩ := td_ok h1 hp.1 hS hb
        obtain ⟨φ2, m1, m2, m3⟩ := tds_ok h2 hp.2 k1 k3
        exact ⟨φ2, m1, k2.trans m2, m3⟩
      · cases h
    · cases h
/-- Steps of the second kind, then the state made tidy. -/
def norm (base : Nat) (tds : List Td) (m keep : List Nat) (st : Tr × Hp) : Option ((Tr × Hp) × List Prop) :=
  match tdSteps tds st with
  | some (st1, cs) => (match tidy base m keep st1 with | some st2 => some (st2, cs) | none => none)
  | none => none
theorem norm_ok {tds : List Td} {m keep : List Nat} {cs : List Prop} (h : norm base tds m keep st = some (st', cs)) (hp : AllP cs) (hS : SR D X n st.1 st.2 φ a w) (hb : base ≤ st.2.length) : ∃ φ', SR D X n st'.1 st'.2 φ' a w ∧ EvB base φ w φ' w ∧ base ≤ st'.2.length := by
  unfold norm at h
  split at h
  · rename_i st1 cs1 h1
    split at h
    · rename_i st2 h2
      simp only [Option.some.injEq, Prod.mk.injEq] at h; obtain ⟨rfl, rfl⟩ := h
      obtain ⟨φ1, k1, k2, k3⟩ := tds_ok h1 hp hS hb
      obtain ⟨φ2, m1, m2, m3⟩ := tidy_ok h2 k1
      exact ⟨φ2, m1, k2.trans m2, m3⟩
    · cases h
  · cases h
theorem T.pre {tds : List Td} {m keep : List Nat} {cs : List Prop} {c : Code} {Q : Ex × Tr × Hp → Prop} (h : norm base tds m keep st = some (st', cs)) (hp : AllP cs) (hT : T P n base c st' Q) : T P n base c st Q := by
  intro hc D X φ a w hS hb
  obtain ⟨φ1, k1, k2, k3⟩ := norm_ok h hp hS hb
  exact wp_from k2 (hT hc X φ1 a w k1 k3)
theorem T.post {tds : List Td} {m keep : List Nat} {cs : List Prop} {c : Code} {ex : Ex} {st0 : Tr × Hp} (hT : T P n base c st fun r => r = (ex, st0)) (h : norm base tds m keep st0 = some (st', cs)) (hp : AllP cs) : T P n base c st fun r => r = (ex, st') := by
  intro hc D X φ a w hS hb
  refine Code.wp_mono ?_ (hT hc X φ a w hS hb)
  rintro e a' w' ⟨r, rfl, he, φ1, k1, k2, k3⟩
  obtain ⟨φ2, m1, m2, m3⟩ := norm_ok h hp k1 k3
  exact ⟨_, rfl, he, φ2, m1, k2.trans m2, m3⟩
/-- A run of code without loops, with hints; its end made tidy. -/
def hRun (P : Program) (C : Cfg) (n base : Nat) (c : Code) (rs : List RH) (ps : List (Option Bool)) (tds : List Td) (m keep : List Nat) (st : Tr × Hp) : Option ((Ex × Tr × Hp) × List Prop) :=
  match hC P C n c rs ps st with
  | some ((ex, st1), cs, [], []) => (match norm base tds m keep st1 with
    | some (st2, cs2) => some ((ex, st2), cs ++ cs2)
    | none => none)
  | _ => none
theorem run_ok (hC' : CfgOK P C) {c : Code} {rs : List RH} {ps : List (Option Bool)} {tds : List Td} {m keep : List Nat} {r : Ex × Tr × Hp} {cs : List Prop} (h : hRun P C n base c rs ps tds m keep st = some (r, cs)) (hp : AllP cs) : T P n base c st fun x => x = r := by
  unfold hRun at h
  split at h
  · rename_i ex st1 cs1 h1
    split at h
    · rename_i st2 cs2 h2
      simp only [Option.some.injEq, Prod.mk.injEq] at h; obtain ⟨rfl, rfl⟩ := h
      rw [allP_append] at hp
      exact T.post (hC_ok hC' c h1 hp.1) h2 hp.2
    · cases h
  · cases h
/-! ### parts of code -/
def cL : Code → Code
  | .seq a _ => a
  | .cond _ a _ => a
  | .block _ a => a
  | .loop a => a
  | c => c
def cR : Code → Code
  | .seq _ b => b
  | .cond _ _ b => b
  | c => c
def isSeq : Code → Bool
  | .seq _ _ => true
  | _ => false
def isLoop : Code → Bool
  | .loop _ => true
  | _ => false
def isBlk : Code → Option Nat
  | .block i _ => some i
  | _ => none
def isCond : Code → Option Operand
  | .cond c _ _ => some c
  | _ => none
theorem T.seq' {c : Code} {Q1 Q : Ex × Tr × Hp → Prop} (hs : isSeq c = true) (h1 : T P n base (cL c) st Q1) (h2 : ∀ r, Q1 r → match r.1 with | .norm => T P n base (cR c) r.2 Q | _ => Q r) : T P n base c st Q := by
  cases c <;> first | (simp [isSeq] at hs; done) | skip
  exact T.seq h1 h2
theorem T.loop' {f : Nat} {c : Code} {Q : Ex × Tr × Hp → Prop} (hs : isLoop c = true) (h : TL P n base f (cL c) st Q) : T P n base c st Q := by
  cases c <;> first | (simp [isLoop] at hs; done) | skip
  exact T.loop h
theorem T.block' {i : Nat} {c : Code} {Q : Ex × Tr × Hp → Prop} (hs : isBlk c = some i) (h : T P n base (cL c) st fun r => Q (blkEx i r.1, r.2)) : T P n base c st Q := by
  cases c <;> first | (simp [isBlk] at hs; done) | skip
  simp only [isBlk, Option.some.injEq] at hs; subst hs
  exact T.block h
theorem T.cond' {o : Operand} {c : Code} {b : Bool} {Q : Ex × Tr × Hp → Prop} (hs : isCond c = some o) (hv : val st.1 o = .pl (.bool b)) (h1 : b = true → T P n base (cL c) st Q) (h2 : b = false → T P n base (cR c) st Q) : T P n base c st Q := by
  cases c <;> first | (simp [isCond] at hs; done) | skip
  simp only [isCond, Option.some.injEq] at hs; subst hs
  exact T.cond hv h1 h2
/-! ### functions -/
/-- What a function gives where its body ends. -/
def RetQ (C : Cfg) (rs : List ResultVar) (v : AV) (r : Ex × Tr × Hp) : Prop := (r.1 = .ret ∨ r.1 = .norm) ∧ ∃ u u', evRet C r.2.1 r.2.2 rs = some u ∧ plainR r.2.2 u = some u' ∧ Wk u' v
def RetS (C : Cfg) (rs : List ResultVar) (v : AV) (H' : Hp) (r : Ex × Tr × Hp) : Prop := (r.1 = .ret ∨ r.1 = .norm) ∧ evRet C r.2.1 r.2.2 rs = some v ∧ r.2.2 = H'
theorem enter_ok (hC : CfgOK P C) {k : Nat} {f : Func} {c : Code} {args : List AV} {vs : List Value} (hf : C.fn k = some f) (hb : f.body = some c) (hle : args.length ≤ f.ntmps) (hH : HR X φ H w) (hv : VRT w (YOf X φ) φ args vs) {Q : Ex × Tr × Hp → Prop} {R : Ending → World → Prop}
    (hT : T P f.ntmps H.length c (initS args 0 .leaf, H) Q) (hQ : ∀ r a' w' φ', Q r → SR [] X f.ntmps r.2.1 r.2.2 φ' a' w' → Ev φ w φ' w' → H.length ≤ r.2.2.length → (∀ k, k < H.length → φ k = .fresh → φ' k = .fresh) → (r.1 = .ret ∨ r.1 = .norm) ∧ ∃ u, (results f a'.tmps).run P w' = .ok u w' ∧ R (.returned u) w') :
    Calls P k vs.toArray w R := by
  have hfn := hC.fn k f hf
  refine calls_of_wp hfn hb ?_
  have hlen := hv.length
  have hle' : vs.length ≤ f.ntmps := by rw [hlen]; exact hle
  have hS : SR [] X f.ntmps (initS args 0 .leaf) H φ { tmps := vs.toArray ++ Array.replicate (f.ntmps - vs.toArray.size) undef, defers := [] } w := by
    refine ⟨rfl, by simp; omega, fun t => ?_, hH⟩
    have := initS_ok 0 .leaf (fun _ => undef) hv (fun t => by rw [get_leaf]; simp only [VR]) t
    have he : (vs.toArray ++ Array.replicate (f.ntmps - vs.toArray.size) undef).getD t undef = if 0 ≤ t ∧ t < 0 + vs.length then (vs[t - 0]?).getD undef else undef := by
      rw [Array.getD_eq_getD_getElem?, Array.getElem?_append]
      by_cases ht : t < vs.length
      · simp [ht]
      · simp only [List.size_toArray, ht, if_false, Array.getElem?_replicate]
        have hn : ¬ (0 ≤ t ∧ t < 0 + vs.length) := by omega
        rw [if_neg hn]
        split <;> rfl
    rw [he]; exact this
  refine Code.wp_mono ?_ (hT (hC.code k f c hf hb) X φ _ w hS (Nat.le_refl _))
  rintro e a' w' ⟨r, hq, he, φ', h1, h2, h3⟩
  have hids : ∀ o, φ o ≠ .fresh → o < H.length := fun o ho => by
    rcases Nat.lt_or_ge o H.length with h | h
    · exact h
    · exact absurd (hH.fresh o h) ho
  obtain ⟨hex, u, hu, hr⟩ := hQ r a' w' φ' hq h1 ⟨h2.os, h2.tape, h2.output, h2.size, h2.heap, h2.blk, fun o ho => h2.ids o (hids o ho) ho⟩ h3 (fun k hk hf => h2.fr k hk hf)
  have fin : bodyPost P f R .normal a' w' := ⟨h1.defers, u, hu, hr⟩
  subst he
  rcases hex with e | e <;> rw [e] <;> exact fin
theorem CallS.plain (hC : CfgOK P C) {k : Nat} {f : Func} {c : Code} {args : List AV} {v : AV} (hf : C.fn k = some f) (hb : f.body = some c) (hle : Nat.ble args.length f.ntmps = true) (hv : plRes v = true)
    (hT : T P f.ntmps 0 c (initS args 0 .leaf, []) (RetQ C f.results.toList v)) : CallS P false k args [] v [] := by
  refine ⟨enters_of (hC.fn k f hf) (hC.name k f hf) (by rw [hb]; rfl), fun _ => hv, fun _ X φ w vs hH hvs => ?_⟩
  have hφ : φ = noPhi := funext fun o => hH.fresh o (Nat.zero_le _)
  subst hφ
  refine enter_ok hC hf hb (ble_t hle) hH hvs hT fun r a' w' φ' ⟨hex, u, u', hr, hp, hw⟩ hS ev _ _ => ⟨hex, ?_⟩
  obtain ⟨x, hx1, hx2⟩ := results_ok hC hS hr
  obtain ⟨φ1, H1, k1, k2, k3, k4⟩ := plainR_ok hS.hr hp hx2
  refine ⟨x, hx1, _, List.mem_singleton.2 rfl, x, noPhi, rfl, ?_, HR.empty hS.hr.xlt, ?_, Nat.le_refl _, fun _ _ _ => rfl⟩
  · exact plRes_vr hv (fun b hb => hb.imp id fun hc => absurd hc (noBlk b)) (hw _ _ _ _ k4)
  · exact ⟨ev.os, ev.tape, ev.output, ev.size, ev.heap, fun b hb hc => absurd hc (noBlk b), fun o ho => absurd rfl ho⟩
theorem CallS.shared (hC : CfgOK P C) {k : Nat} {f : Func} {c : Code} {args : List AV} {v : AV} {H' : Hp} (hf : C.fn k = some f) (hb : f.body = some c) (hle : Nat.ble args.length f.ntmps = true)
    (hT : T P f.ntmps H.length c (initS args 0 .leaf, H) (RetS C f.results.toList v H')) : CallS P true k args H v H' := by
  refine ⟨enters_of (hC.fn k f hf) (hC.name k f hf) (by rw [hb]; rfl), fun h => by (cases h), fun _ X φ w vs hH hvs => ?_⟩
  refine enter_ok hC hf hb (ble_t hle) hH hvs hT fun r a' w' φ' ⟨hex, hr, hh⟩ hS ev h1 h2 => ⟨hex, ?_⟩
  obtain ⟨x, hx1, hx2⟩ := results_ok hC hS hr
  subst hh
  exact ⟨x, hx1, _, List.mem_singleton.2 rfl, x, φ', rfl, hx2, hS.hr, ev, h1, h2⟩
/-- A call that the machine carries out. -/
theorem CallS.eval (hC : CfgOK P C) {N : Nat} {br : Bool} {k : Nat} {args : List AV} {v : AV} {H' : Hp} (h : evCall C N br k args H = some [(v, H')]) : CallS P br k args H v H' := by
  obtain ⟨h1, h2, h3⟩ := call_ok hC N _ _ _ _ _ h
  exact ⟨h1, fun hb => h2 hb _ (List.mem_singleton.2 rfl), h3⟩
/-- What is known of the arguments may be more, of the result less. -/
theorem CallS.wk {k : Nat} {args args' : List AV} {v v' : AV} (h : CallS P false k args [] v []) (ha : WkL args' args) (hv : Wk v v') (hp : plRes v' = true) : CallS P false k args' [] v' [] := by
  obtain ⟨h1, h2, h3⟩ := h
  refine ⟨h1, fun _ => hp, fun hb X φ w vs hH hvs => (h3 hb X φ w vs hH (ha.vrt hvs)).mono fun e w' hr => ?_⟩
  obtain ⟨r, hm, u, φ', he, k1, k2⟩ := hr
  rw [List.mem_singleton] at hm; subst hm
  exact ⟨_, List.mem_singleton.2 rfl, u, φ', he, hv _ _ _ _ k1, k2⟩
end
end Go.Proofs.Ytelblamgfbkhbaa
