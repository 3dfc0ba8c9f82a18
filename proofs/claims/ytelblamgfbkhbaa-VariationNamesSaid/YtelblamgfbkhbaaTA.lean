/- Triples over the states of the clean machine: rules; states made tidy. No condition. -/
import Derived.Test.YtelblamgfbkhbaaZW
namespace Go.Proofs.Ytelblamgfbkhbaa
set_option linter.unusedSimpArgs false
set_option linter.unusedVariables false
open Go.RowKit
def AllP : List Prop → Prop
  | [] => True
  | p :: l => p ∧ AllP l
theorem allP_append : ∀ {a b : List Prop}, AllP (a ++ b) ↔ AllP a ∧ AllP b
  | [], b => by simp [AllP]
  | p :: a, b => by simp only [List.cons_append, AllP, allP_append (a := a), and_assoc]

/-- As Ev, but what own numbers from 'base' on stand for may change. -/
structure EvB (base : Nat) (φ : Phi) (w : World) (φ' : Phi) (w' : World) : Prop where
  os : w'.os = w.os
  tape : w'.tape = w.tape
  output : w'.output = w.output ∧ w.drawn ≤ w'.drawn
  size : w.heap.size ≤ w'.heap.size
  heap : ∀ b, b < w.heap.size → ¬ blkOf φ b → w'.heap[b]? = w.heap[b]?
  blk : ∀ b, b < w.heap.size → blkOf φ' b → blkOf φ b
  ids : ∀ o, o < base → φ o ≠ .fresh → φ' o = φ o ∨ φ' o = .dead ∨ ∃ l, φ o = .at false l ∧ φ' o = .at true l
  fr : ∀ o, o < base → φ o = .fresh → φ' o = .fresh
section
variable {P : Program} {C : Cfg} {w w' w'' : World} {Y Y' X : Nat → Prop} {φ φ' φ'' : Phi} {H H' H'' : Hp}
variable {nid n base : Nat} {s s' : Tr} {a : Act} {D : List Deferred} {st : Tr × Hp}
theorem EvB.refl (base : Nat) (φ : Phi) (w : World) : EvB base φ w φ w := ⟨rfl, rfl, ⟨rfl, Nat.le_refl _⟩, Nat.le_refl _, fun _ _ _ => rfl, fun _ _ h => h, fun _ _ _ => .inl rfl, fun _ _ h => h⟩
theorem EvB.trans (h : EvB base φ w φ' w') (k : EvB base φ' w' φ'' w'') : EvB base φ w φ'' w'' where
  os := k.os.trans h.os
  tape := k.tape.trans h.tape
  output := ⟨k.output.1.trans h.output.1, Nat.le_trans h.output.2 k.output.2⟩
  size := Nat.le_trans h.size k.size
  heap b hb hn := (k.heap b (Nat.lt_of_lt_of_le hb h.size) (fun hc => hn (h.blk b hb hc))).trans (h.heap b hb hn)
  blk b hb hc := h.blk b hb (k.blk b (Nat.lt_of_lt_of_le hb h.size) hc)
  ids o ho hf := by
    rcases h.ids o ho hf with h1 | h1 | ⟨l, h0, h1⟩
    · rcases k.ids o ho (by rw [h1]; exact hf) with h2 | h2 | ⟨l, h2, h3⟩
      · exact .inl (h2.trans h1)
      · exact .inr (.inl h2)
      · exact .inr (.inr ⟨l, h1.symm.trans h2, h3⟩)
    · rcases k.ids o ho (by rw [h1]; intro h; cases h) with h2 | h2 | ⟨l, h2, _⟩
      · exact .inr (.inl (h2.trans h1))
      · exact .inr (.inl h2)
      · rw [h1] at h2; cases h2
    · rcases k.ids o ho (by rw [h1]; intro h; cases h) with h2 | h2 | ⟨l', h2, _⟩
      · exact .inr (.inr ⟨l, h0, h2.trans h1⟩)
      · exact .inr (.inl h2)
      · rw [h1] at h2; cases h2
  fr o ho hf := k.fr o ho (h.fr o ho hf)
theorem Ev.b (h : Ev φ w φ' w') (hf : ∀ o, o < base → φ o = .fresh → φ' o = .fresh) : EvB base φ w φ' w' := ⟨h.os, h.tape, h.output, h.size, h.heap, h.blk, fun o _ => h.ids o, hf⟩
/-- Where a piece of code ends, as the predicate says. -/
def PostB (D : List Deferred) (X : Nat → Prop) (n base : Nat) (φ : Phi) (w : World) (Q : Ex × Tr × Hp → Prop) (e : Exit) (a' : Act) (w' : World) : Prop :=
  ∃ r, Q r ∧ exOf r.1 = e ∧ ∃ φ', SR D X n r.2.1 r.2.2 φ' a' w' ∧ EvB base φ w φ' w' ∧ base ≤ r.2.2.length
theorem PostB.from {Q : Ex × Tr × Hp → Prop} {e : Exit} {a' : Act} {w2 : World} (ev : EvB base φ w φ' w') (h : PostB D X n base φ' w' Q e a' w2) : PostB D X n base φ w Q e a' w2 := by
  obtain ⟨r, hq, he, φ'', h1, h2, h3⟩ := h
  exact ⟨r, hq, he, φ'', h1, ev.trans h2, h3⟩
theorem PostB.mono {Q Q' : Ex × Tr × Hp → Prop} {e : Exit} {a' : Act} (hq : ∀ r, Q r → Q' r) (h : PostB D X n base φ w Q e a' w') : PostB D X n base φ w Q' e a' w' := by
  obtain ⟨r, h0, h1⟩ := h
  exact ⟨r, hq r h0, h1⟩
/-- From a state the code ends as the predicate says. -/
def T (P : Program) (n base : Nat) (c : Code) (st : Tr × Hp) (Q : Ex × Tr × Hp → Prop) : Prop :=
  codeOK c = true → ∀ {D : List Deferred} X φ a w, SR D X n st.1 st.2 φ a w → base ≤ st.2.length → c.wp P (PostB D X n base φ w Q) a w
/-- The loop's body, at most f times. -/
def TL (P : Program) (n base f : Nat) (c : Code) (st : Tr × Hp) (Q : Ex × Tr × Hp → Prop) : Prop :=
  codeOK c = true → ∀ {D : List Deferred} X φ a w, SR D X n st.1 st.2 φ a w → base ≤ st.2.length → Code.rounds P c (PostB D X n base φ w Q) f a w
def thenQ (Q1 Q : Ex × Tr × Hp → Prop) (r : Ex × Tr × Hp) : Prop := match r.1 with | .norm => Q1 r | _ => Q r
theorem T.mono {c : Code} {Q Q' : Ex × Tr × Hp → Prop} (h : T P n base c st Q) (hq : ∀ r, Q r → Q' r) : T P n base c st Q' := fun hc D X φ a w hS hb => Code.wp_mono (fun _ _ _ h => h.mono hq) (h hc X φ a w hS hb)
theorem wp_from {c : Code} {Q : Ex × Tr × Hp → Prop} (ev : EvB base φ w φ' w') (h : c.wp P (PostB D X n base φ' w' Q) a w') : c.wp P (PostB D X n base φ w Q) a w' := Code.wp_mono (fun _ _ _ h => h.from ev) h
theorem T.skip {Q : Ex × Tr × Hp → Prop} (h : Q (.norm, st)) : T P n base .skip st Q := fun _ D X φ a w hS hb => wp_skip ⟨_, h, rfl, φ, hS, EvB.refl _ _ _, hb⟩
theorem T.exit {i : Nat} {Q : Ex × Tr × Hp → Prop} (h : Q (.exit i, st)) : T P n base (.exit i) st Q := fun _ D X φ a w hS hb => wp_exit ⟨_, h, rfl, φ, hS, EvB.refl _ _ _, hb⟩
theorem T.ret {Q : Ex × Tr × Hp → Prop} (h : Q (.ret, st)) : T P n base .ret st Q := fun _ D X φ a w hS hb => wp_ret ⟨_, h, rfl, φ, hS, EvB.refl _ _ _, hb⟩
theorem T.seq {x y : Code} {Q1 Q : Ex × Tr × Hp → Prop} (h1 : T P n base x st Q1) (h2 : ∀ r, Q1 r → match r.1 with | .norm => T P n base y r.2 Q | _ => Q r) : T P n base (.seq x y) st Q := by
  intro hc D X φ a w hS hb
  simp only [codeOK, Bool.and_eq_true] at hc
  refine wp_seq (Code.wp_mono ?_ (h1 hc.1 X φ a w hS hb))
  rintro e a' w' ⟨⟨ex, st'⟩, hq, he, φ', k1, k2, k3⟩
  have := h2 _ hq
  cases ex with
  | norm =>
    simp only [exOf] at he; subst he
    exact wp_from k2 (this hc.2 X φ' a' w' k1 k3)
  | exit i => simp only [exOf] at he; subst he; exact ⟨_, this, rfl, φ', k1, k2, k3⟩
  | ret => simp only [exOf] at he; subst he; exact ⟨_, this, rfl, φ', k1, k2, k3⟩
  | pan ch => simp only [exOf] at he; subst he; exact ⟨_, this, rfl, φ', k1, k2, k3⟩
theorem T.cond {c : Operand} {x y : Code} {b : Bool} {Q : Ex × Tr × Hp → Prop} (hc : val st.1 c = .pl (.bool b)) (h1 : b = true → T P n base x st Q) (h2 : b = false → T P n base y st Q) : T P n base (.cond c x y) st Q := by
  intro hk D X φ a w hS hb
  simp only [codeOK, Bool.and_eq_true] at hk
  have hv := hS.val c
  rw [hc] at hv
  simp only [VR, PR] at hv
  refine wp_cond hv ?_
  cases b with
  | true => simpa using h1 rfl hk.1 X φ a w hS hb
  | false => simpa using h2 rfl hk.2 X φ a w hS hb
def blkEx (i : Nat) : Ex → Ex
  | .exit j => bif Nat.beq j i then .norm else .exit j
  | e => e
theorem T.block {i : Nat} {c : Code} {Q : Ex × Tr × Hp → Prop} (h : T P n base c st fun r => Q (blkEx i r.1, r.2)) : T P n base (.block i c) st Q := by
  intro hk D X φ a w hS hb
  simp only [codeOK] at hk
  refine wp_block (Code.wp_mono ?_ (h hk X φ a w hS hb))
  rintro e a' w' ⟨⟨ex, st'⟩, hq, he, φ', k1, k2, k3⟩
  cases ex with
  | norm => simp only [exOf] at he; subst he; exact ⟨_, hq, rfl, φ', k1, k2, k3⟩
  | ret => simp only [exOf] at he; subst he; exact ⟨_, hq, rfl, φ', k1, k2, k3⟩
  | pan ch => simp only [exOf] at he; subst he; exact ⟨_, hq, rfl, φ', k1, k2, k3⟩
  | exit j =>
    simp only [exOf] at he; subst he
    simp only [Exit.inBlock]
    rcases beq_cases j i with ⟨hbq, e⟩ | ⟨hbq, e⟩
    · rw [if_pos e]
      exact ⟨_, hq, by simp [blkEx, hbq, exOf], φ', k1, k2, k3⟩
    · rw [if_neg e]
      exact ⟨_, hq, by simp [blkEx, hbq, exOf], φ', k1, k2, k3⟩
theorem T.loop {f : Nat} {c : Code} {Q : Ex × Tr × Hp → Prop} (h : TL P n base f c st Q) : T P n base (.loop c) st Q := by
  intro hk D X φ a w hS hb
  simp only [codeOK] at hk
  exact wp_loop_rounds f (h hk X φ a w hS hb)
theorem rounds_from {c : Code} {Q : Ex × Tr × Hp → Prop} {f : Nat} (ev : EvB base φ w φ' w') : ∀ {f : Nat} {a : Act} {w2 : World}, Code.rounds P c (PostB D X n base φ' w' Q) f a w2 → Code.rounds P c (PostB D X n base φ w Q) f a w2
  | 0, _, _, h => h
  | f + 1, a, w2, h => by
    rw [rounds_succ] at h ⊢
    refine Code.wp_mono ?_ h
    intro e a' w3 hq
    cases e <;> first | exact PostB.from ev hq | exact rounds_from (f := f) ev hq
theorem TL.step {f : Nat} {c : Code} {Q1 Q : Ex × Tr × Hp → Prop} (h1 : T P n base c st Q1) (h2 : ∀ r, Q1 r → match r.1 with | .norm => TL P n base f c r.2 Q | _ => Q r) : TL P n base (f + 1) c st Q := by
  intro hk D X φ a w hS hb
  rw [rounds_succ]
  refine Code.wp_mono ?_ (h1 hk X φ a w hS hb)
  rintro e a' w' ⟨⟨ex, st'⟩, hq, he, φ', k1, k2, k3⟩
  have := h2 _ hq
  cases ex with
  | norm =>
    simp only [exOf] at he; subst he
    exact rounds_from (f := f) k2 (this hk X φ' a' w' k1 k3)
  | exit i => simp only [exOf] at he; subst he; exact ⟨_, this, rfl, φ', k1, k2, k3⟩
  | ret => simp only [exOf] at he; subst he; exact ⟨_, this, rfl, φ', k1, k2, k3⟩
  | pan ch => simp only [exOf] at he; subst he; exact ⟨_, this, rfl, φ', k1, k2, k3⟩

/-! ### what is known of a value is made less -/
def Wk (x y : AV) : Prop := ∀ (w : World) (Y : Nat → Prop) (φ : Phi) (v : Value), VR w Y φ x v → VR w Y φ y v
def WkP (x y : PV) : Prop := (oneP x = true → oneP y = true) ∧ ∀ (w : World) (Y : Nat → Prop) (v : Value), PR w Y x v → PR w Y y v
theorem Wk.refl (x : AV) : Wk x x := fun _ _ _ _ h => h
theorem Wk.un (x : AV) : Wk x .un := fun _ _ _ _ _ => by simp only [VR]
theorem WkP.refl (x : PV) : WkP x x := ⟨id, fun _ _ _ h => h⟩
theorem WkP.any {f : Fl} {sz : Nat} {es : List (List PV)} : WkP (.sl f sz es) (.sl .any sz es) := ⟨id, fun w Y v h => by
  simp only [PR] at h ⊢
  obtain ⟨A, c, h1, h2, h3, _, h5⟩ := h
  exact ⟨A, c, h1, h2, h3, trivial, h5⟩⟩
theorem WkP.nil {f : Fl} {sz sz' : Nat} : WkP (.sl f sz []) (.sl .any sz' []) := ⟨id, fun w Y v h => by
  simp only [PR] at h ⊢
  obtain ⟨A, c, h1, h2, h3, _, h5⟩ := h
  exact ⟨A, c, h1, h2, h3, trivial, .inl rfl⟩⟩
def WkPL : List PV → List PV → Prop
  | [], [] => True
  | a :: x, b :: y => WkP a b ∧ WkPL x y
  | _, _ => False
theorem WkPL.refl : ∀ x : List PV, WkPL x x
  | [] => trivial
  | a :: x => ⟨WkP.refl a, WkPL.refl x⟩
theorem WkPL.prl {Y : Nat → Prop} : ∀ {x y : List PV} {vs : List Value}, WkPL x y → PRL w Y x vs → PRL w Y y vs
  | [], [], _, _, h => h
  | a :: x, b :: y, vs, hw, h => by
    simp only [PRL] at h ⊢
    obtain ⟨v, r, e, h0, h1, h2⟩ := h
    exact ⟨v, r, e, hw.1.1 h0, hw.1.2 _ _ _ h1, WkPL.prl hw.2 h2⟩
  | [], _ :: _, _, h, _ => h.elim
  | _ :: _, [], _, h, _ => h.elim
theorem WkP.agg {x y : List PV} (h : WkPL x y) : WkP (.agg x) (.agg y) := ⟨fun h => (by cases h), fun w Y v hv => by
  simp only [PR] at hv ⊢
  obtain ⟨vs, e, hl⟩ := hv
  exact ⟨vs, e, h.prl hl⟩⟩
theorem Wk.pl {x y : PV} (h : WkP x y) : Wk (.pl x) (.pl y) := fun w Y φ v hv => by simp only [VR] at hv ⊢; exact h.2 _ _ _ hv
def WkL : List AV → List AV → Prop
  | [], [] => True
  | a :: x, b :: y => Wk a b ∧ WkL x y
  | _, _ => False
theorem WkL.vrt : ∀ {x y : List AV} {vs : List Value}, WkL x y → VRT w Y φ x vs → VRT w Y φ y vs
  | [], [], _, _, h => h
  | a :: x, b :: y, vs, hw, h => by
    simp only [VRT] at h ⊢
    obtain ⟨v, r, e, h1, h2⟩ := h
    exact ⟨v, r, e, hw.1 _ _ _ _ h1, WkL.vrt hw.2 h2⟩
  | [], _ :: _, _, h, _ => h.elim
  | _ :: _, [], _, h, _ => h.elim
theorem Wk.tup {x y : List AV} (h : WkL x y) : Wk (.tup x) (.tup y) := fun w Y φ v hv => by
  simp only [VR] at hv ⊢
  obtain ⟨vs, e, hl⟩ := hv
  exact ⟨vs, e, h.vrt hl⟩

/-! ### own numbers changed -/
def idxN (o : Nat) : List Nat → Nat → Option Nat
  | [], _ => none
  | x :: r, j => bif Nat.beq x o then some j else idxN o r (j + 1)
def renO (base : Nat) (m : List Nat) (o : Nat) : Option Nat := bif Nat.blt o base then some o else idxN o m base
mutual
def renA (f : Nat → Option Nat) : AV → AV
  | .pl p => .pl p
  | .un => .un
  | .ip cs i => .ip cs i
  | .own o => match f o with | some k => .own k | none => .un
  | .vw o i j => match f o with | some k => .vw k i j | none => .un
  | .bp o i => match f o with | some k => .bp k i | none => .un
  | .ep o i j => match f o with | some k => .ep k i j | none => .un
  | .mp o => match f o with | some k => .mp k | none => .un
  | .it o => match f o with | some k => .it k | none => .un
  | .tup cs => .tup (renL f cs)
  | .clo k cs => .clo k (renL f cs)
  | .agg cs => bif (renL f cs).all oneA then .agg (renL f cs) else .un
def renL (f : Nat → Option Nat) : List AV → List AV
  | [] => []
  | c :: r => renA f c :: renL f r
end
def renOb (f : Nat → Option Nat) : Ob → Option Ob
  | .box cs => bif (renL f cs).all oneA then some (.box (renL f cs)) else none
  | .row z sz es => some (.row z sz es)
  | .map kvs => some (.map kvs)
  | .iter o n seen => match f o with | some k => some (.iter k n seen) | none => none
def renH (f : Nat → Option Nat) : Hp → Option Hp
  | [] => some []
  | none :: r => (renH f r).map (none :: ·)
  | some x :: r => match renOb f x with | some y => (renH f r).map (some y :: ·) | none => none
def keepS (f : Nat → Option Nat) (s : Tr) : List Nat → Tr
  | [] => .leaf
  | t :: r => (keepS f s r).put 12 t (renA f (s.get 12 t))
def okM (base : Nat) : List Nat → Bool
  | [] => true
  | o :: r => Nat.ble base o && !(r.any (Nat.beq o)) && okM base r
/-- Only these slots are kept, and only these own numbers from base on, which are counted anew. -/
def tidy (base : Nat) (m keep : List Nat) (st : Tr × Hp) : Option (Tr × Hp) :=
  bif okM base m && Nat.ble base st.2.length then (match renH (renO base m) (st.2.take base ++ m.map (hget st.2)) with
    | some H => some (keepS (renO base m) st.1 keep, H)
    | none => none) else none
structure RenOK (w : World) (Y Y' : Nat → Prop) (f : Nat → Option Nat) (φ φ' : Phi) : Prop where
  sub : ∀ b, Y' b → Y b
  to : ∀ o k, f o = some k → φ' k = φ o
mutual
theorem VR.ren {f : Nat → Option Nat} (hr : RenOK w Y Y' f φ φ') : ∀ (x : AV) (v : Value), VR w Y φ x v → VR w Y' φ' (renA f x) v
  | .pl p, v, h => by simp only [renA, VR] at h ⊢; exact PR.sub hr.sub h
  | .un, v, h => by simp only [renA, VR]
  | .ip cs i, v, h => by
    have := VR.stay (φ := noPhi) (φ' := noPhi) (w := w) (w' := w) (Ev.refl noPhi w) (fun b => Y b) (.ip cs i) v
    simp only [renA, VR] at h ⊢
    obtain ⟨b, o, e, hb, hlt, hc⟩ := h
    refine ⟨b, o, e, fun hy => hb (hr.sub b hy), hlt, ?_⟩
    exact PRC.stay ⟨Nat.le_refl _, fun _ _ _ => rfl, fun b _ => hr.sub b⟩ (fun _ _ h => h) o cs hc
  | .own o, v, h => by
    simp only [renA]
    cases hf : f o with
    | none => simp only [VR]
    | some k => simp only [VR] at h ⊢; rw [hr.to o k hf]; exact h
  | .vw o i j, v, h => by
    simp only [renA]
    cases hf : f o with
    | none => simp only [VR]
    | some k => simp only [VR] at h ⊢; rw [hr.to o k hf]; exact h
  | .bp o i, v, h => by
    simp only [renA]
    cases hf : f o with
    | none => simp only [VR]
    | some k => simp only [VR] at h ⊢; rw [hr.to o k hf]; exact h
  | .ep o i j, v, h => by
    simp only [renA]
    cases hf : f o with
    | none => simp only [VR]
    | some k => simp only [VR] at h ⊢; rw [hr.to o k hf]; exact h
  | .mp o, v, h => by
    simp only [renA]
    cases hf : f o with
    | none => simp only [VR]
    | some k => simp only [VR] at h ⊢; rw [hr.to o k hf]; exact h
  | .it o, v, h => by
    simp only [renA]
    cases hf : f o with
    | none => simp only [VR]
    | some k => simp only [VR] at h ⊢; rw [hr.to o k hf]; exact h
  | .tup cs, v, h => by
    simp only [renA, VR] at h ⊢
    obtain ⟨vs, e, hl⟩ := h
    exact ⟨vs, e, VRT.ren hr cs vs hl⟩
  | .clo k cs, v, h => by
    simp only [renA, VR] at h ⊢
    obtain ⟨vs, e, hl⟩ := h
    exact ⟨vs, e, VRT.ren hr cs vs hl⟩
  | .agg cs, v, h => by
    simp only [renA]
    cases ha : (renL f cs).all oneA with
    | false => simp only [cond_false, VR]
    | true =>
      simp only [cond_true, VR] at h ⊢
      obtain ⟨vs, e, hl⟩ := h
      exact ⟨vs, e, VRL.ren hr cs vs ha hl⟩
theorem VRL.ren {f : Nat → Option Nat} (hr : RenOK w Y Y' f φ φ') : ∀ (cs : List AV) (vs : List Value), (renL f cs).all oneA = true → VRL w Y φ cs vs → VRL w Y' φ' (renL f cs) vs
  | [], vs, _, h => by simpa only [renL, VRL] using h
  | c :: cs, vs, ha, h => by
    simp only [renL, List.all_cons, Bool.and_eq_true] at ha
    simp only [renL, VRL] at h ⊢
    obtain ⟨v, r, e, _, h1, h2⟩ := h
    exact ⟨v, r, e, ha.1, VR.ren hr c v h1, VRL.ren hr cs r ha.2 h2⟩
theorem VRT.ren {f : Nat → Option Nat} (hr : RenOK w Y Y' f φ φ') : ∀ (cs : List AV) (vs : List Value), VRT w Y φ cs vs → VRT w Y' φ' (renL f cs) vs
  | [], vs, h => by simpa only [renL, VRT] using h
  | c :: cs, vs, h => by
    simp only [renL, VRT] at h ⊢
    obtain ⟨v, r, e, h1, h2⟩ := h
    exact ⟨v, r, e, VR.ren hr c v h1, VRT.ren hr cs r h2⟩
end
theorem MR.sub {Y Y' : Nat → Prop} (hs : ∀ b, Y' b → Y b) {i : Nat} {kvs : List (PV × PV)} {es : List MapEntry} (h : MR w Y i kvs es) : MR w Y' i kvs es := MR.stay ⟨Nat.le_refl _, fun _ _ _ => rfl, fun b _ => hs b⟩ i kvs es h
theorem OR.ren {f : Nat → Option Nat} (hr : RenOK w Y Y' f φ φ') {z : Bool} {l : Loc} {x y : Ob} (h : renOb f x = some y) (ho : OR w Y φ z l x) : OR w Y' φ' z l y := by
  cases x with
  | box cs =>
    simp only [renOb] at h
    cases ha : (renL f cs).all oneA with
    | false => simp [ha] at h
    | true =>
      simp only [ha, cond_true, Option.some.injEq] at h; subst h
      simp only [OR] at ho ⊢
      obtain ⟨hz, b, t, vs, hA, hg, hv⟩ := ho
      exact ⟨hz, b, t, vs, hA, hg, VRL.ren hr cs vs ha hv⟩
  | row fz sz es =>
    simp only [renOb, Option.some.injEq] at h; subst h
    simp only [OR] at ho ⊢
    obtain ⟨hz, h1, h2, h3, h4, h5⟩ := ho
    refine ⟨hz, h1, h2, h3, h4, h5.imp id ?_⟩
    rintro ⟨b, p, t, cs, hA, hg, hs, hE, hY⟩
    exact ⟨b, p, t, cs, hA, hg, hs, PRE.stay ⟨Nat.le_refl _, fun _ _ _ => rfl, fun b _ => hr.sub b⟩ (fun _ _ h => h) p es hE, fun hz hc => hY hz (hr.sub b hc)⟩
  | map kvs =>
    simp only [renOb, Option.some.injEq] at h; subst h
    simp only [OR] at ho ⊢
    obtain ⟨hz, b, es, hA, hg, hm⟩ := ho
    exact ⟨hz, b, es, hA, hg, hm.sub hr.sub⟩
  | iter o n seen =>
    simp only [renOb] at h
    cases hf : f o with
    | none => simp [hf] at h
    | some k =>
      simp only [hf, Option.some.injEq] at h; subst h
      simp only [OR] at ho ⊢
      rw [hr.to o k hf]; exact ho
theorem renH_at {f : Nat → Option Nat} : ∀ {H H' : Hp}, renH f H = some H' → H'.length = H.length ∧ ∀ o, (∀ x, hget H o = some x → ∃ y, renOb f x = some y ∧ hget H' o = some y) ∧ (hget H o = none → hget H' o = none)
  | [], H', h => by
    simp only [renH, Option.some.injEq] at h; subst h
    exact ⟨rfl, fun o => ⟨fun x hx => (by simp [hget] at hx), fun h => h⟩⟩
  | none :: r, H', h => by
    simp only [renH, Option.map_eq_some_iff] at h
    obtain ⟨H1, h1, rfl⟩ := h
    obtain ⟨k1, k2⟩ := renH_at h1
    refine ⟨by simp [k1], fun o => ?_⟩
    cases o with
    | zero => exact ⟨fun x hx => by simp [hget] at hx, fun _ => rfl⟩
    | succ o => rw [hget_cons.1 o, hget_cons.1 o]; exact k2 o
  | some x :: r, H', h => by
    simp only [renH] at h
    split at h
    · rename_i y hy
      simp only [Option.map_eq_some_iff] at h
      obtain ⟨H1, h1, rfl⟩ := h
      obtain ⟨k1, k2⟩ := renH_at h1
      refine ⟨by simp [k1], fun o => ?_⟩
      cases o with
      | zero => exact ⟨fun x' hx => by simp [hget] at hx; subst hx; exact ⟨y, hy, rfl⟩, fun h => by simp [hget] at h⟩
      | succ o => rw [hget_cons.1 o, hget_cons.1 o]; exact k2 o
    · cases h
theorem idxN_at {o : Nat} : ∀ {m : List Nat} {j k : Nat}, idxN o m j = some k → j ≤ k ∧ m[k - j]? = some o
  | [], j, k, h => by simp [idxN] at h
  | x :: r, j, k, h => by
    simp only [idxN] at h
    rcases beq_cases x o with ⟨hb, e⟩ | ⟨hb, e⟩
    · simp only [hb, cond_true, Option.some.injEq] at h; subst h; subst e; exact ⟨Nat.le_refl _, by simp⟩
    · simp only [hb, cond_false] at h
      obtain ⟨h1, h2⟩ := idxN_at h
      exact ⟨by omega, by rw [show k - j = (k - (j + 1)) + 1 from by omega]; simpa using h2⟩
theorem okM_ge : ∀ {m : List Nat}, okM base m = true → ∀ {j o : Nat}, m[j]? = some o → base ≤ o
  | [], _, j, o, h => by simp at h
  | x :: r, hk, j, o, h => by
    simp only [okM, Bool.and_eq_true] at hk
    cases j with
    | zero => simp at h; subst h; exact ble_t hk.1.1
    | succ j => exact okM_ge hk.2 (by simpa using h)
theorem okM_inj : ∀ {m : List Nat}, okM base m = true → ∀ {i j o : Nat}, m[i]? = some o → m[j]? = some o → i = j
  | [], _, i, j, o, h, _ => by simp at h
  | x :: r, hk, i, j, o, hi, hj => by
    simp only [okM, Bool.and_eq_true] at hk
    have no : ∀ {k : Nat}, r[k]? = some x → False := fun {k} h => by
      have h2 := hk.1.2
      rw [Bool.not_eq_true', ← Bool.not_eq_true, List.any_eq_true] at h2
      exact h2 ⟨x, List.mem_of_getElem? h, by simp⟩
    cases i with
    | zero =>
      simp at hi; subst hi
      cases j with
      | zero => rfl
      | succ j => exact (no (by simpa using hj)).elim
    | succ i =>
      cases j with
      | zero => simp at hj; subst hj; exact (no (by simpa using hi)).elim
      | succ j => rw [okM_inj hk.2 (i := i) (j := j) (by simpa using hi) (by simpa using hj)]
def renPhi (base : Nat) (m : List Nat) (φ : Phi) : Phi := fun o => if o < base then φ o else match m[o - base]? with | some k => φ k | none => .fresh
theorem keepS_vr {f : Nat → Option Nat} {s : Tr} {t : Nat} : ∀ (l : List Nat), (keepS f s l).get 12 t = .un ∨ (keepS f s l).get 12 t = renA f (s.get 12 t)
  | [] => .inl (get_leaf _ _)
  | k :: r => by
    simp only [keepS]
    by_cases e : t = k
    · subst e
      rcases get_put_self 12 (keepS f s r) t (renA f (s.get 12 t)) with h | h
      · exact .inr h
      · exact .inl h
    · rw [get_put_ne 12 _ _ _ _ e]; exact keepS_vr r
theorem tidy_ok {m keep : List Nat} {st' : Tr × Hp} (h : tidy base m keep st = some st') (hS : SR D X n st.1 st.2 φ a w) : ∃ φ', SR D X n st'.1 st'.2 φ' a w ∧ EvB base φ w φ' w ∧ base ≤ st'.2.length := by
  unfold tidy at h
  cases hb : (okM base m && Nat.ble base st.2.length) with
  | false => simp [hb] at h
  | true =>
    simp only [hb, cond_true] at h
    rw [Bool.and_eq_true] at hb
    obtain ⟨hm, hlen⟩ := hb
    have hlen := ble_t hlen
    split at h
    · rename_i H' hH'
      simp only [Option.some.injEq] at h; subst h
      obtain ⟨hl, hat⟩ := renH_at hH'
      have hl' : H'.length = base + m.length := by rw [hl]; simp; omega
      have hg : ∀ o, hget (st.2.take base ++ m.map (hget st.2)) o = if o < base then hget st.2 o else match m[o - base]? with | some k => hget st.2 k | none => none := fun o => by
        have htk : (st.2.take base).length = base := by simp; omega
        by_cases ho : o < base
        · rw [if_pos ho]
          simp only [hget]
          rw [List.getElem?_append_left (by omega), List.getElem?_take, if_pos ho]
        · rw [if_neg ho]
          unfold hget
          rw [List.getElem?_append_right (by omega), htk, List.getElem?_map]
          cases m[o - base]? with
          | none => rfl
          | some k =>
            simp only [Option.map_some]
            cases st.2[k]? with
            | none => rfl
            | some x => cases x <;> rfl
      have inv : ∀ o, o < base ∨ (∃ k, m[o - base]? = some k ∧ renPhi base m φ o = φ k ∧ base ≤ k) ∨ renPhi base m φ o = .fresh := fun o => by
        by_cases ho : o < base
        · exact .inl ho
        · right
          unfold renPhi
          rw [if_neg ho]
          cases hk : m[o - base]? with
          | none => exact .inr rfl
          | some k => exact .inl ⟨k, rfl, rfl, okM_ge hm hk⟩
      have low : ∀ o, o < base → renPhi base m φ o = φ o := fun o ho => by unfold renPhi; rw [if_pos ho]
      have src : ∀ o z l, renPhi base m φ o = .at z l → ∃ k, φ k = .at z l ∧ hget (st.2.take base ++ m.map (hget st.2)) o = hget st.2 k ∧ (o < base ∧ k = o ∨ ¬ o < base ∧ m[o - base]? = some k ∧ base ≤ k) := fun o z l ho => by
        rcases inv o with hlt | ⟨k, hk, e, hge⟩ | e
        · rw [low o hlt] at ho; exact ⟨o, ho, by rw [hg, if_pos hlt], .inl ⟨hlt, rfl⟩⟩
        · rw [e] at ho
          by_cases hlt : o < base
          · rw [low o hlt] at e
            exact ⟨o, e.trans ho, by rw [hg, if_pos hlt], .inl ⟨hlt, rfl⟩⟩
          · exact ⟨k, ho, by rw [hg, if_neg hlt, hk], .inr ⟨hlt, hk, hge⟩⟩
        · rw [e] at ho; cases ho
      have uniq : ∀ o o' k k', (o < base ∧ k = o ∨ ¬ o < base ∧ m[o - base]? = some k ∧ base ≤ k) → (o' < base ∧ k' = o' ∨ ¬ o' < base ∧ m[o' - base]? = some k' ∧ base ≤ k') → k = k' → o = o' := by
        rintro o o' k k' (⟨h1, rfl⟩ | ⟨h1, h2, h3⟩) (⟨k1, rfl⟩ | ⟨k1, k2, k3⟩) e
        · exact e
        · omega
        · omega
        · subst e
          have := okM_inj hm h2 k2; omega
      have hren : RenOK w (YOf X φ) (YOf X (renPhi base m φ)) (renO base m) φ (renPhi base m φ) := by
        refine ⟨fun b hb => hb.imp id ?_, fun o k hk => ?_⟩
        · rintro ⟨o, l, p, ho, hA⟩
          obtain ⟨k, hk, _⟩ := src o false l ho
          exact ⟨k, l, p, hk, hA⟩
        · unfold renO at hk
          cases hlt : Nat.blt o base with
          | true =>
            simp only [hlt, cond_true, Option.some.injEq] at hk; subst hk
            exact low o (by simpa [Nat.blt_eq] using hlt)
          | false =>
            simp only [hlt, cond_false] at hk
            obtain ⟨h1, h2⟩ := idxN_at hk
            unfold renPhi
            rw [if_neg (by omega), h2]
      have ev : EvB base φ w (renPhi base m φ) w := by
        refine ⟨rfl, rfl, ⟨rfl, Nat.le_refl _⟩, Nat.le_refl _, fun _ _ _ => rfl, fun b _ hb => ?_, fun o ho _ => .inl (low o ho), fun o ho h => by rw [low o ho]; exact h⟩
        obtain ⟨o, l, p, ho, hA⟩ := hb
        obtain ⟨k, hk, _⟩ := src o false l ho
        exact ⟨k, l, p, hk, hA⟩
      refine ⟨renPhi base m φ, ⟨hS.defers, hS.size, fun t => ?_, ?_⟩, ev, by rw [hl']; omega⟩
      · rcases keepS_vr (f := renO base m) (s := st.1) (t := t) keep with e | e
        · rw [e]; simp only [VR]
        · rw [e]; exact VR.ren hren _ _ (hS.slots t)
      · refine ⟨fun o ho => ?_, fun o z l ho => ?_, fun o y hy => ?_, fun o o' l l' b p p' ho ho' hA hA' => ?_, fun o l b p ho hA => ?_, hS.hr.xlt⟩
        · have ho' : H'.length ≤ o := ho
          unfold renPhi
          rw [if_neg (by omega), List.getElem?_eq_none (by omega)]
        · obtain ⟨k, hk, he, _⟩ := src o z l ho
          obtain ⟨x, hx⟩ := hS.hr.live k z l hk
          obtain ⟨y, _, hy⟩ := (hat o).1 x (he.trans hx)
          exact ⟨y, hy⟩
        · cases hx : hget (st.2.take base ++ m.map (hget st.2)) o with
          | none => rw [(hat o).2 hx] at hy; cases hy
          | some x =>
            obtain ⟨y', h1, h2⟩ := (hat o).1 x hx
            rw [hy] at h2; cases h2
            rw [hg] at hx
            by_cases hlt : o < base
            · rw [if_pos hlt] at hx
              obtain ⟨z, l, hl2, hO⟩ := hS.hr.ob o x hx
              exact ⟨z, l, by rw [low o hlt]; exact hl2, OR.ren hren h1 hO⟩
            · rw [if_neg hlt] at hx
              cases hk : m[o - base]? with
              | none => rw [hk] at hx; cases hx
              | some k =>
                rw [hk] at hx
                obtain ⟨z, l, hl2, hO⟩ := hS.hr.ob k x hx
                refine ⟨z, l, ?_, OR.ren hren h1 hO⟩
                unfold renPhi
                rw [if_neg hlt, hk]; exact hl2
        · obtain ⟨k, hk, _, c⟩ := src o false l ho
          obtain ⟨k', hk', _, c'⟩ := src o' false l' ho'
          exact uniq o o' k k' c c' (hS.hr.inj k k' l l' b p p' hk hk' hA hA')
        · obtain ⟨k, hk, _⟩ := src o false l ho
          exact hS.hr.out k l b p hk hA
    · cases h
end
end Go.Proofs.Ytelblamgfbkhbaa
