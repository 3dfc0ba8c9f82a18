/- Runs with hints: operations, regions, code without loops; functions. No condition. -/
import Derived.Test.YtkimdlpfbojkgaaTB
namespace Go.Proofs.Ytkimdlpfbojkgaa
set_option linter.unusedSimpArgs false
set_option linter.unusedVariables false
open Go.RowKit
/-! ### calls -/
/-- One operation: its outcome, what must hold, the calls that it makes. -/
def hOp (C : Cfg) (nid : Nat) (ρ : Operand → AV) (H : Hp) (op : Op) (h : Option Hint) : Option ((AV × Hp) × List Prop × List Ent) :=
  match op, h with
  | .call c, some (.call v H2) => match c.callee with
    | .value f =>
      let go (k : Nat) (args : List AV) : Option ((AV × Hp) × List Prop × List Ent) :=
        bif C.byref k then
          bif inF (reach H 100000 0 (refDL args)) H.length (refD v) && objsIn (reach H 100000 0 (refDL args)) H.length H2 && Nat.ble H.length H2.length then
            some ((v, patchH (reach H 100000 0 (refDL args)) 0 H H2), [], [⟨true, k, args, maskH (reach H 100000 0 (refDL args)) 0 H, v, H2⟩]) else none
        else match plains H args with
          | some (ps, H1) => some ((v, H1), [], [⟨false, k, ps.map .pl, [], v, []⟩])
          | none => bif inF (reach H 100000 0 (refDL args)) H.length (refD v) && objsIn (reach H 100000 0 (refDL args)) H.length H2 && Nat.ble H.length H2.length then
            some ((v, patchH (reach H 100000 0 (refDL args)) 0 H H2), [], [⟨true, k, args, maskH (reach H 100000 0 (refDL args)) 0 H, v, H2⟩]) else none
      match ρ f with
      | .pl (.fn k) => go k (c.args.toList.map ρ)
      | .clo k cs => go k (c.args.toList.map ρ ++ cs)
      | _ => none
    | _ => none
  | .call c, none => match c.callee with
    | .value _ => none
    | _ => (evPure C nid ρ H op).map fun r => (r, [], [])
  | .next _ _, _ => none
  | op, none => (evPure C nid ρ H op).map fun r => (r, [], [])
  | op, some h => (hPure C nid ρ H op h).map fun r => (r.1, r.2, [])
section
variable {P : Program} {C : Cfg} {w w' : World} {X : Nat → Prop} {φ φ' : Phi} {H H' : Hp} {nid n base : Nat} {s : Tr} {a : Act} {ops : List Oper}
open Classical in
noncomputable def callE (es : List Ent) (br : Bool) (k : Nat) (args : List AV) (H : Hp) : Outs (AV × Hp) :=
  match es.find? (fun e => decide (e.br = br ∧ e.k = k ∧ e.args = args ∧ e.H = H)) with
  | some e => some [(e.v, e.H')]
  | none => none
theorem callE_ok {es : List Ent} (h : ∀ e ∈ es, e.ok P) : CallOK P (callE es) := by
  intro br k args H outs ho
  unfold callE at ho
  split at ho
  · rename_i e he
    simp only [Option.some.injEq] at ho; subst ho
    obtain ⟨h1, h2⟩ := And.intro (List.mem_of_find?_eq_some he) (List.find?_some he)
    simp only [decide_eq_true_eq] at h2
    obtain ⟨rfl, rfl, rfl, rfl⟩ := h2
    obtain ⟨k1, k2, k3⟩ := h e h1
    exact ⟨k1, fun hb r hr => by rw [List.mem_singleton.1 hr]; exact k2 hb, k3⟩
  · cases ho
theorem callE_at {es : List Ent} (hs : ∀ a ∈ es, ∀ b ∈ es, a.k = b.k → a.same b) {e : Ent} (he : e ∈ es) : callE es e.br e.k e.args e.H = some [(e.v, e.H')] := by
  unfold callE
  split
  · rename_i f hf
    have h1 := List.mem_of_find?_eq_some hf
    have h2 := List.find?_some hf
    simp only [decide_eq_true_eq] at h2
    obtain ⟨b1, b2, b3, b4⟩ := h2
    obtain ⟨h3, h4⟩ := hs f h1 e he b2 b1 b3 b4
    rw [h3, h4]
  · rename_i hf
    have := List.find?_eq_none.1 hf e he
    simp at this
theorem hOp_ok (hx : ∀ k, C.ext k = none) {ρ : Operand → AV} {op : Op} {h : Option Hint} {r : AV × Hp} {cs : List Prop} {es : List Ent} {call : Bool → Nat → List AV → Hp → Outs (AV × Hp)} (ho : hOp C nid ρ H op h = some (r, cs, es)) (hp : AllP cs)
    (hc : ∀ e ∈ es, call e.br e.k e.args e.H = some [(e.v, e.H')]) : evOp C call nid ρ H op = some [r] := by
  have pure : ∀ {op : Op}, isVal op = false → evPure C nid ρ H op = some r → evOp C call nid ρ H op = some [r] := fun {op} hv he => by
    unfold evOp
    cases op with
    | call c =>
      obtain ⟨callee, args, ts⟩ := c
      cases callee <;> first | (simp [isVal] at hv; done) | (simp only [he])
    | next _ _ => simp [isVal] at hv
    | _ => simp only [he]
  unfold hOp at ho
  split at ho
  · rename_i c v H2
    split at ho
    · rename_i f hcal
      have inv : ∀ (k : Nat) (args : List AV) (F : Nat), F = reach H 100000 0 (refDL args) → (C.byref k = true ∨ C.byref k = false ∧ plains H args = none) → (inF F H.length (refD v) && objsIn F H.length H2 && Nat.ble H.length H2.length) = true → call true k args (maskH F 0 H) = some [(v, H2)] →
          evInvoke C call k args H = some [(v, patchH F 0 H H2)] := by
        intro k args F hF hk hb hcall
        have hs : evShared call k args H F = some [(v, patchH F 0 H H2)] := by
          unfold evShared
          simp only [hcall, List.all_cons, List.all_nil, Bool.and_true, hb, cond_true, List.map_cons, List.map_nil]
        unfold evInvoke
        rw [hx k]
        simp only
        rcases hk with hk | ⟨hk, hpl⟩
        · simp only [hk, cond_true, ← hF, hs]
        · simp only [hk, cond_false, hpl, ← hF, hs]
      have go : ∀ (k : Nat) (args : List AV), (bif C.byref k then
          bif inF (reach H 100000 0 (refDL args)) H.length (refD v) && objsIn (reach H 100000 0 (refDL args)) H.length H2 && Nat.ble H.length H2.length then
            some ((v, patchH (reach H 100000 0 (refDL args)) 0 H H2), ([] : List Prop), [(⟨true, k, args, maskH (reach H 100000 0 (refDL args)) 0 H, v, H2⟩ : Ent)]) else none
        else match plains H args with
          | some (ps, H1) => some ((v, H1), [], [⟨false, k, ps.map .pl, [], v, []⟩])
          | none => bif inF (reach H 100000 0 (refDL args)) H.length (refD v) && objsIn (reach H 100000 0 (refDL args)) H.length H2 && Nat.ble H.length H2.length then
            some ((v, patchH (reach H 100000 0 (refDL args)) 0 H H2), [], [⟨true, k, args, maskH (reach H 100000 0 (refDL args)) 0 H, v, H2⟩]) else none) = some (r, cs, es) → evInvoke C call k args H = some [r] := by
        intro k args hg
        cases hb : C.byref k with
        | true =>
          simp only [hb, cond_true] at hg
          cases hf : (inF (reach H 100000 0 (refDL args)) H.length (refD v) && objsIn (reach H 100000 0 (refDL args)) H.length H2 && Nat.ble H.length H2.length) with
          | false => simp [hf] at hg
          | true =>
            simp only [hf, cond_true, Option.some.injEq, Prod.mk.injEq] at hg; obtain ⟨rfl, rfl, rfl⟩ := hg
            exact inv k args _ rfl (.inl hb) hf (hc _ (List.mem_singleton.2 rfl))
        | false =>
          simp only [hb, cond_false] at hg
          split at hg
          · rename_i ps H1 hpl
            simp only [Option.some.injEq, Prod.mk.injEq] at hg; obtain ⟨rfl, rfl, rfl⟩ := hg
            have := hc _ (List.mem_singleton.2 rfl)
            unfold evInvoke
            rw [hx k]
            simp only [hb, cond_false, hpl]
            simp only at this
            simp only [this, List.map_cons, List.map_nil]
          · rename_i hpl
            cases hf : (inF (reach H 100000 0 (refDL args)) H.length (refD v) && objsIn (reach H 100000 0 (refDL args)) H.length H2 && Nat.ble H.length H2.length) with
            | false => simp [hf] at hg
            | true =>
              simp only [hf, cond_true, Option.some.injEq, Prod.mk.injEq] at hg; obtain ⟨rfl, rfl, rfl⟩ := hg
              exact inv k args _ rfl (.inr ⟨hb, hpl⟩) hf (hc _ (List.mem_singleton.2 rfl))
      simp only at ho
      split at ho
      · rename_i k hk
        have := go k _ ho
        unfold evOp; simp only [hcal, hk, this]
      · rename_i k cl hk
        have := go k _ ho
        unfold evOp; simp only [hcal, hk, this]
      · cases ho
    · cases ho
  · rename_i c
    split at ho
    · cases ho
    · rename_i hne
      obtain ⟨r', h1, h2⟩ := Option.map_eq_some_iff.1 ho
      simp only [Prod.mk.injEq] at h2; obtain ⟨rfl, rfl, rfl⟩ := h2
      refine pure ?_ h1
      obtain ⟨callee, args, ts⟩ := c
      cases callee <;> first | rfl | (exact absurd rfl (hne _))
  · cases ho
  · rename_i hne1 hne2
    obtain ⟨r', h1, h2⟩ := Option.map_eq_some_iff.1 ho
    simp only [Prod.mk.injEq] at h2; obtain ⟨rfl, rfl, rfl⟩ := h2
    refine pure ?_ h1
    cases op <;> first | rfl | (exact (hne1 _ rfl).elim) | (exact (hne2 _ _ rfl).elim)
  · rename_i hne1 hne2 hne3
    obtain ⟨r', h1, h2⟩ := Option.map_eq_some_iff.1 ho
    simp only [Prod.mk.injEq] at h2; obtain ⟨rfl, rfl, rfl⟩ := h2
    have hpu := hPure_ok h1 hp
    cases op with
    | call c =>
      obtain ⟨callee, args, ts⟩ := c
      cases callee with
      | value f => simp [evPure] at hpu
      | _ => exact pure rfl hpu
    | next x b => simp [evPure] at hpu
    | _ => exact pure rfl hpu

/-! ### what is equal is written in another way -/
inductive Cv where
  | val (v : AV)
  | row (o : Nat) (es : List (List PV))
  | map (o : Nat) (kvs : List (PV × PV))
def cvStep (r : AV × Hp) : Cv → Option ((AV × Hp) × Prop)
  | .val v => some ((v, r.2), r.1 = v)
  | .row o es => match hget r.2 o with | some (.row f sz es0) => some ((r.1, hset r.2 o (some (.row f sz es))), es0 = es) | _ => none
  | .map o kvs => match hget r.2 o with | some (.map kvs0) => some ((r.1, hset r.2 o (some (.map kvs))), kvs0 = kvs) | _ => none
def cvSteps (i : Nat) : List (Nat × Cv) → AV × Hp → Option ((AV × Hp) × List Prop)
  | [], r => some (r, [])
  | (j, c) :: l, r => bif Nat.beq j i then (match cvStep r c with
      | some (r1, p) => (match cvSteps i l r1 with | some (r2, ps) => some (r2, p :: ps) | none => none)
      | none => none) else cvSteps i l r
theorem hset_self {o : Nat} {x : Ob} (h : hget H o = some x) : hset H o (some x) = H := by
  unfold hget at h
  unfold hset
  apply List.ext_getElem?
  intro i
  rw [List.getElem?_set]
  split
  · rename_i e; subst e
    split at h
    · rename_i y hy
      cases h
      rw [hy]
      split
      · rfl
      · rename_i hn
        rw [List.getElem?_eq_none (by omega)] at hy
        cases hy
    · cases h
  · rfl
theorem cvStep_ok {r r' : AV × Hp} {c : Cv} {p : Prop} (h : cvStep r c = some (r', p)) (hp : p) : r' = r := by
  cases c with
  | val v => simp only [cvStep, Option.some.injEq, Prod.mk.injEq] at h; obtain ⟨rfl, rfl⟩ := h; rw [← hp]
  | row o es =>
    simp only [cvStep] at h
    split at h
    · rename_i f sz es0 ho
      simp only [Option.some.injEq, Prod.mk.injEq] at h; obtain ⟨rfl, rfl⟩ := h
      rw [← hp, hset_self ho]
    · cases h
  | map o kvs =>
    simp only [cvStep] at h
    split at h
    · rename_i kvs0 ho
      simp only [Option.some.injEq, Prod.mk.injEq] at h; obtain ⟨rfl, rfl⟩ := h
      rw [← hp, hset_self ho]
    · cases h
theorem cvSteps_ok {i : Nat} : ∀ {l : List (Nat × Cv)} {r r' : AV × Hp} {cs : List Prop}, cvSteps i l r = some (r', cs) → AllP cs → r' = r
  | [], r, r', cs, h, _ => by simp only [cvSteps, Option.some.injEq, Prod.mk.injEq] at h; exact h.1.symm
  | (j, c) :: l, r, r', cs, h, hp => by
    simp only [cvSteps] at h
    cases hb : Nat.beq j i with
    | false => simp only [hb, cond_false] at h; exact cvSteps_ok h hp
    | true =>
      simp only [hb, cond_true] at h
      split at h
      · rename_i r1 p h1
        split at h
        · rename_i r2 ps h2
          simp only [Option.some.injEq, Prod.mk.injEq] at h; obtain ⟨rfl, rfl⟩ := h
          exact (cvSteps_ok h2 hp.2).trans (cvStep_ok h1 hp.1)
        · cases h
      · cases h
def hOpC (C : Cfg) (nid : Nat) (ρ : Operand → AV) (H : Hp) (op : Op) (h : Option Hint) (i : Nat) (l : List (Nat × Cv)) : Option ((AV × Hp) × List Prop × List Ent) :=
  match hOp C nid ρ H op h with
  | some (r, cs, es) => (match cvSteps i l r with | some (r', cs') => some (r', cs ++ cs', es) | none => none)
  | none => none
theorem hOpC_at {ρ : Operand → AV} {op : Op} {h : Option Hint} {r : AV × Hp} {cs : List Prop} {es : List Ent} {i : Nat} {l : List (Nat × Cv)} (ho : hOpC C nid ρ H op h i l = some (r, cs, es)) (hp : AllP cs) : ∃ cs', hOp C nid ρ H op h = some (r, cs', es) ∧ AllP cs' := by
  unfold hOpC at ho
  split at ho
  · rename_i r0 cs0 es0 h0
    split at ho
    · rename_i r1 cs1 h1
      simp only [Option.some.injEq, Prod.mk.injEq] at ho; obtain ⟨rfl, rfl, rfl⟩ := ho
      rw [allP_append] at hp
      exact ⟨cs0, by rw [cvSteps_ok h1 hp.2]; exact h0, hp.1⟩
    · cases ho
  · cases ho
/-! ### regions in the text's order -/
abbrev RH := List (Nat × Bool) × List (Nat × Hint) × List (Nat × Cv)
/-- Is an operation wanted? With what must hold. -/
def hWant (ops : List Oper) (s : Tr) (gs : List (Nat × Bool)) (i : Nat) : Option (Nat × Bool) → Option (Bool × List Prop)
  | none => some (true, [])
  | some (j, b) => match dstOf ops j with
    | some t => match s.get 12 t with
      | .pl (.bool c) => match lookN i gs with
        | some d => some (d == b, [c = d])
        | none => some (c == b, [])
      | .tup [] => some (false, [])
      | _ => none
    | none => none
theorem hWant_ok {s : Tr} {gs : List (Nat × Bool)} {i : Nat} {g : Option (Nat × Bool)} {b : Bool} {cs : List Prop} (h : hWant ops s gs i g = some (b, cs)) (hp : AllP cs) : want ops s g = some b := by
  unfold hWant at h
  unfold want
  split at h
  · simp only [Option.some.injEq, Prod.mk.injEq] at h; rw [h.1]
  · split at h
    · rename_i t ht
      simp only [ht]
      split at h
      · rename_i c hc
        split at h
        · rename_i d hd
          simp only [Option.some.injEq, Prod.mk.injEq] at h; obtain ⟨rfl, rfl⟩ := h
          rw [hc]; simp only [hp.1]
        · simp only [Option.some.injEq, Prod.mk.injEq] at h; obtain ⟨rfl, rfl⟩ := h
          rw [hc]
      · rename_i hc
        simp only [Option.some.injEq, Prod.mk.injEq] at h; obtain ⟨rfl, rfl⟩ := h
        rw [hc]
      · cases h
    · cases h
def hOps (C : Cfg) (n : Nat) (ops : List Oper) (rh : RH) : Nat → List Oper → Tr × Hp → Option ((Tr × Hp) × List Prop × List Ent)
  | _, [], st => some (st, [], [])
  | i, o :: r, st => match hWant ops st.1 rh.1 i o.guard with
    | none => none
    | some (false, cs) => match hOps C n ops rh (i + 1) r (putO n st.1 o.dst (.tup []), st.2) with
      | some (st', cs', es') => some (st', cs ++ cs', es')
      | none => none
    | some (true, cs) => match hOpC C st.2.length (val st.1) st.2 o.op (lookN i rh.2.1) i rh.2.2 with
      | some (x, cs1, es1) => match hOps C n ops rh (i + 1) r (putO n st.1 o.dst x.1, x.2) with
        | some (st', cs', es') => some (st', cs ++ (cs1 ++ cs'), es1 ++ es')
        | none => none
      | none => none
/-- One call is no other. -/
theorem single (es : List Ent) (h : es.length ≤ 1) : ∀ a ∈ es, ∀ b ∈ es, a.k = b.k → a.same b := by
  intro a ha b hb _ _ _ _
  match es, h with
  | [], _ => cases ha
  | [e], _ => rw [List.mem_singleton.1 ha, List.mem_singleton.1 hb]; exact ⟨rfl, rfl⟩
  | _ :: _ :: _, h => simp at h
theorem hOp_one {ρ : Operand → AV} {op : Op} {h : Option Hint} {r : AV × Hp} {cs : List Prop} {es : List Ent} (ho : hOp C nid ρ H op h = some (r, cs, es)) : es.length ≤ 1 := by
  have key : ∀ {k : Nat} {args : List AV} {v : AV} {H2 : Hp}, (bif C.byref k then
          bif inF (reach H 100000 0 (refDL args)) H.length (refD v) && objsIn (reach H 100000 0 (refDL args)) H.length H2 && Nat.ble H.length H2.length then
            some ((v, patchH (reach H 100000 0 (refDL args)) 0 H H2), ([] : List Prop), [(⟨true, k, args, maskH (reach H 100000 0 (refDL args)) 0 H, v, H2⟩ : Ent)]) else none
        else match plains H args with
          | some (ps, H1) => some ((v, H1), [], [⟨false, k, ps.map .pl, [], v, []⟩])
          | none => bif inF (reach H 100000 0 (refDL args)) H.length (refD v) && objsIn (reach H 100000 0 (refDL args)) H.length H2 && Nat.ble H.length H2.length then
            some ((v, patchH (reach H 100000 0 (refDL args)) 0 H H2), [], [⟨true, k, args, maskH (reach H 100000 0 (refDL args)) 0 H, v, H2⟩]) else none) = some (r, cs, es) → es.length ≤ 1 := by
    intro k args v H2 hg
    cases hb : C.byref k <;> simp only [hb, cond_true, cond_false] at hg
    · split at hg
      · simp only [Option.some.injEq, Prod.mk.injEq] at hg; obtain ⟨_, _, rfl⟩ := hg; simp
      · revert hg
        cases (inF (reach H 100000 0 (refDL args)) H.length (refD v) && objsIn (reach H 100000 0 (refDL args)) H.length H2 && Nat.ble H.length H2.length) <;> intro hg
        · simp at hg
        · simp only [cond_true, Option.some.injEq, Prod.mk.injEq] at hg; obtain ⟨_, _, rfl⟩ := hg; simp
    · revert hg
      cases (inF (reach H 100000 0 (refDL args)) H.length (refD v) && objsIn (reach H 100000 0 (refDL args)) H.length H2 && Nat.ble H.length H2.length) <;> intro hg
      · simp at hg
      · simp only [cond_true, Option.some.injEq, Prod.mk.injEq] at hg; obtain ⟨_, _, rfl⟩ := hg; simp
  unfold hOp at ho
  split at ho
  · split at ho
    · simp only at ho
      split at ho
      · exact key ho
      · exact key ho
      · cases ho
    · cases ho
  · split at ho
    · cases ho
    · obtain ⟨r', _, h2⟩ := Option.map_eq_some_iff.1 ho
      simp only [Prod.mk.injEq] at h2; obtain ⟨_, _, rfl⟩ := h2; simp
  · cases ho
  · obtain ⟨r', _, h2⟩ := Option.map_eq_some_iff.1 ho
    simp only [Prod.mk.injEq] at h2; obtain ⟨_, _, rfl⟩ := h2; simp
  · obtain ⟨r', _, h2⟩ := Option.map_eq_some_iff.1 ho
    simp only [Prod.mk.injEq] at h2; obtain ⟨_, _, rfl⟩ := h2; simp
theorem hOps_ok (hC : CfgOK P C) {rh : RH} {Q : Exit → Act → World → Prop} : ∀ (r : List Oper) (i : Nat) {s : Tr} {H : Hp} {φ : Phi} {a : Act} {w : World} {st' : Tr × Hp} {cs : List Prop} {es : List Ent},
    hOps C n ops rh i r (s, H) = some (st', cs, es) → AllP cs → (∀ e ∈ es, e.ok P) → SR X n s H φ a w →
      (∀ φ' a' w', SR X n st'.1 st'.2 φ' a' w' → Ev φ w φ' w' → Gr φ H φ' st'.2 → Q .normal a' w') → wpList P ops.toArray Q r a w
  | [], i, s, H, φ, a, w, st', cs, es, h, _, _, hS, hQ => by
    simp only [hOps, Option.some.injEq, Prod.mk.injEq] at h; obtain ⟨rfl, _, _⟩ := h
    exact hQ φ a w hS (Ev.refl _ _) (Gr.refl _ _)
  | o :: r, i, s, H, φ, a, w, st', cs, es, h, hp, he, hS, hQ => by
    simp only [hOps] at h
    unfold wpList
    split at h
    · cases h
    · rename_i cs0 hw
      split at h
      · rename_i st1 cs1 es1 h1
        simp only [Option.some.injEq, Prod.mk.injEq] at h; obtain ⟨rfl, rfl, rfl⟩ := h
        rw [allP_append] at hp
        rw [if_neg (by rw [want_ok hS (hWant_ok hw hp.1)]; decide)]
        exact hOps_ok hC r (i + 1) h1 hp.2 he (hS.put (Ev.refl _ _) hS.hr vr_undef o.dst) hQ
      · cases h
    · rename_i cs0 hw
      split at h
      · rename_i x cs1 es1 h1
        split at h
        · rename_i st2 cs2 es2 h2
          simp only [Option.some.injEq, Prod.mk.injEq] at h; obtain ⟨rfl, rfl, rfl⟩ := h
          rw [allP_append, allP_append] at hp
          rw [if_pos (want_ok hS (hWant_ok hw hp.1))]
          have he1 : ∀ e ∈ es1, e.ok P := fun e h => he e (List.mem_append_left _ h)
          obtain ⟨cs1', h1', hp1'⟩ := hOpC_at h1 hp.2.1
          have hev := hOp_ok (call := callE es1) hC.noext h1' hp1' (fun e h => callE_at (single es1 (hOp_one h1')) h)
          refine .inl (op_ok hC (callE_ok he1) hS.hr hS.hr.free hS.val hev fun v' w' hn => ?_)
          obtain ⟨y, hy, φ', k1, k2, k3, k4, k5⟩ := hn
          rw [List.mem_singleton] at hy; subst hy
          refine hOps_ok hC r (i + 1) h2 hp.2.2 (fun e h => he e (List.mem_append_right _ h)) (hS.put k3 k2 k1 o.dst) fun φ'' a'' w'' m1 m2 m3 => hQ φ'' a'' w'' m1 (k3.trans m2) (Gr.trans ⟨k4, fun k hk e => k5 k (by omega) hk e⟩ m3)
        · cases h
      · cases h

/-! ### regions whose order is drawn -/
def hDL (C : Cfg) (n : Nat) (ops : List Oper) (rh : RH) (base : Nat) : List It → List (It × Fp) → Tr × Hp → Option ((Tr × Hp) × List Prop × List Ent)
  | [], _, st => some (st, [], [])
  | x :: L, recs, st => match hWant ops st.1 rh.1 x.i x.o.guard with
    | none => none
    | some (false, cs) => bif recs.all (fun r => cross r x (.rd [])) then
        (match hDL C n ops rh base L ((x, .rd []) :: recs) (putO n st.1 x.o.dst (.tup []), st.2) with
          | some (st', cs', es') => some (st', cs ++ cs', es')
          | none => none) else none
    | some (true, cs) => match hOpC C (base + x.nid) (val st.1) st.2 x.o.op (lookN x.i rh.2.1) x.i rh.2.2 with
      | some (r, cs1, es1) => bif okLen st.2 r.2 (foot C (base + x.nid) (val st.1) st.2 x.o.op) && recs.all (fun q => cross q x (foot C (base + x.nid) (val st.1) st.2 x.o.op)) then
          (match hDL C n ops rh base L ((x, foot C (base + x.nid) (val st.1) st.2 x.o.op) :: recs) (putO n st.1 x.o.dst r.1, r.2) with
            | some (st', cs', es') => some (st', cs ++ (cs1 ++ cs'), es1 ++ es')
            | none => none) else none
      | none => none
/-- The same call gives the same. -/
def sameP : List Ent → List Prop
  | [] => []
  | e :: r => (r.filter fun f => Nat.beq f.k e.k).map (fun f => e.same f ∧ f.same e) ++ sameP r
theorem sameP_ok : ∀ {es : List Ent}, AllP (sameP es) → ∀ a ∈ es, ∀ b ∈ es, a.k = b.k → a.same b
  | [], _, a, ha, _, _, _ => by cases ha
  | e :: r, h, a, ha, b, hb, hk => by
    simp only [sameP] at h
    rw [allP_append] at h
    have all : ∀ {l : List Ent}, AllP (l.map fun f => e.same f ∧ f.same e) → ∀ f ∈ l, e.same f ∧ f.same e := fun {l} => by
      induction l with
      | nil => intro _ f hf; cases hf
      | cons x l ih =>
        intro h f hf
        rcases List.mem_cons.1 hf with rfl | hf
        · exact h.1
        · exact ih h.2 f hf
    rcases List.mem_cons.1 ha with e1 | ha1
    · rcases List.mem_cons.1 hb with e2 | hb1
      · subst e1; subst e2; exact fun _ _ _ => ⟨rfl, rfl⟩
      · subst e1; exact (all h.1 b (List.mem_filter.2 ⟨hb1, by rw [hk]; simp⟩)).1
    · rcases List.mem_cons.1 hb with e2 | hb1
      · subst e2; exact (all h.1 a (List.mem_filter.2 ⟨ha1, by rw [hk]; simp⟩)).2
      · exact sameP_ok h.2 a ha1 b hb1 hk
theorem hDL_ok (hx : ∀ k, C.ext k = none) {rh : RH} {call : Bool → Nat → List AV → Hp → Outs (AV × Hp)} : ∀ (L : List It) {recs : List (It × Fp)} {st st' : Tr × Hp} {cs : List Prop} {es : List Ent}, hDL C n ops rh base L recs st = some (st', cs, es) → AllP cs →
    (∀ e ∈ es, call e.br e.k e.args e.H = some [(e.v, e.H')]) → evDL C call n ops base L recs st = some st'
  | [], recs, st, st', cs, es, h, _, _ => by
    simp only [hDL, Option.some.injEq, Prod.mk.injEq] at h; obtain ⟨rfl, _, _⟩ := h; rfl
  | x :: L, recs, st, st', cs, es, h, hp, hc => by
    simp only [hDL] at h
    simp only [evDL]
    split at h
    · cases h
    · rename_i cs0 hw
      cases hr : (recs.all fun r => cross r x (.rd [])) with
      | false => simp [hr] at h
      | true =>
        simp only [hr, cond_true] at h
        split at h
        · rename_i st1 cs1 es1 h1
          simp only [Option.some.injEq, Prod.mk.injEq] at h; obtain ⟨rfl, rfl, rfl⟩ := h
          rw [allP_append] at hp
          have hs : stepD C call n ops base x st = some ((putO n st.1 x.o.dst (.tup []), st.2), .rd []) := by
            unfold stepD; rw [hWant_ok hw hp.1]
          simp only [hs, hr, cond_true]
          exact hDL_ok hx L h1 hp.2 hc
        · cases h
    · rename_i cs0 hw
      split at h
      · rename_i r cs1 es1 h1
        cases hr : (okLen st.2 r.2 (foot C (base + x.nid) (val st.1) st.2 x.o.op) && recs.all (fun q => cross q x (foot C (base + x.nid) (val st.1) st.2 x.o.op))) with
        | false => simp [hr] at h
        | true =>
          simp only [hr, cond_true] at h
          rw [Bool.and_eq_true] at hr
          split at h
          · rename_i st2 cs2 es2 h2
            simp only [Option.some.injEq, Prod.mk.injEq] at h; obtain ⟨rfl, rfl, rfl⟩ := h
            rw [allP_append, allP_append] at hp
            obtain ⟨cs1', h1', hp1'⟩ := hOpC_at h1 hp.2.1
            have hev := hOp_ok (call := call) hx h1' hp1' fun e h => hc e (List.mem_append_left _ h)
            have hs : stepD C call n ops base x st = some ((putO n st.1 x.o.dst r.1, r.2), foot C (base + x.nid) (val st.1) st.2 x.o.op) := by
              unfold stepD; rw [hWant_ok hw hp.1]; simp only [hev, hr.1, cond_true]
            simp only [hs, hr.2, cond_true]
            exact hDL_ok hx L h2 hp.2.2 fun e h => hc e (List.mem_append_right _ h)
          · cases h
      · cases h
def hDrawn (C : Cfg) (n : Nat) (ops : List Oper) (rh : RH) (st : Tr × Hp) : Option ((Tr × Hp) × List Prop × List Ent) :=
  match plan ops.length 0 0 [] (items 0 ops) with
  | none => none
  | some L => match hDL C n ops rh st.2.length L [] (st.1, st.2 ++ List.replicate (countNew ops + 1) none) with
    | some (st', cs, es) => some (st', cs ++ sameP es, es)
    | none => none

/-! ### code without loops -/
def entsP (P : Program) : List Ent → List Prop
  | [] => []
  | e :: r => CallS P e.br e.k e.args e.H e.v e.H' :: entsP P r
theorem entsP_ok : ∀ {es : List Ent}, AllP (entsP P es) → ∀ e ∈ es, e.ok P
  | [], _, e, he => by cases he
  | x :: r, h, e, he => by
    rcases List.mem_cons.1 he with rfl | he
    · exact h.1
    · exact entsP_ok h.2 e he
def hC (P : Program) (C : Cfg) (n : Nat) : Code → List RH → List (Option Bool) → Tr × Hp → Option ((Ex × Tr × Hp) × List Prop × List RH × List (Option Bool))
  | .skip, rs, ps, st => some ((.norm, st), [], rs, ps)
  | .region _ ops false, rh :: rs, ps, st => match hOps C n ops.toList rh 0 ops.toList st with
    | some (st', cs, es) => some ((.norm, st'), cs ++ entsP P es, rs, ps)
    | none => none
  | .region _ ops true, rh :: rs, ps, st => match hDrawn C n ops.toList rh st with
    | some (st', cs, es) => some ((.norm, st'), cs ++ entsP P es, rs, ps)
    | none => none
  | .seq a b, rs, ps, st => match hC P C n a rs ps st with
    | some ((.norm, st1), cs, rs1, ps1) => (match hC P C n b rs1 ps1 st1 with
      | some (r, cs2, rs2, ps2) => some (r, cs ++ cs2, rs2, ps2)
      | none => none)
    | x => x
  | .cond c a b, rs, p :: ps, st => match val st.1 c with
    | .pl (.bool t) => (match p with
      | some d => (match (bif d then hC P C n a rs ps st else hC P C n b rs ps st) with
        | some (r, cs, rs1, ps1) => some (r, (t = d) :: cs, rs1, ps1)
        | none => none)
      | none => bif t then hC P C n a rs ps st else hC P C n b rs ps st)
    | _ => none
  | .block i c, rs, ps, st => match hC P C n c rs ps st with
    | some ((ex, st1), cs, rs1, ps1) => some ((blkEx i ex, st1), cs, rs1, ps1)
    | none => none
  | .exit i, rs, ps, st => some ((.exit i, st), [], rs, ps)
  | .ret, rs, ps, st => some ((.ret, st), [], rs, ps)
  | _, _, _, _ => none
theorem hC_ok (hC' : CfgOK P C) : ∀ (c : Code) {rs rs' : List RH} {ps ps' : List (Option Bool)} {st : Tr × Hp} {r : Ex × Tr × Hp} {cs : List Prop}, hC P C n c rs ps st = some (r, cs, rs', ps') → AllP cs → T P n base c st fun x => x = r
  | .skip, rs, rs', ps, ps', st, r, cs, h, _ => by
    simp only [hC, Option.some.injEq, Prod.mk.injEq] at h; obtain ⟨rfl, _⟩ := h
    exact T.skip rfl
  | .region id ops false, [], rs', ps, ps', st, r, cs, h, _ => by simp [hC] at h
  | .region id ops false, rh :: rs, rs', ps, ps', st, r, cs, h, hp => by
    simp only [hC] at h
    split at h
    · rename_i st' cs0 es h1
      simp only [Option.some.injEq, Prod.mk.injEq] at h; obtain ⟨rfl, rfl, _⟩ := h
      rw [allP_append] at hp
      intro _ X φ a w hS hb
      refine wp_region_list (by
        have := hOps_ok (ops := ops.toList) (Q := PostB X n base φ w fun x => x = (.norm, st')) hC' ops.toList 0 (s := st.1) (H := st.2) h1 hp.1 (entsP_ok hp.2) hS fun φ' a' w' k1 k2 k3 => ?_
        · simpa using this
        · exact ⟨_, rfl, rfl, φ', k1, k2.b fun o ho hf => k3.2 o (by omega) hf, Nat.le_trans hb k3.1⟩)
    · cases h
  | .region id ops true, [], rs', ps, ps', st, r, cs, h, _ => by simp [hC] at h
  | .region id ops true, rh :: rs, rs', ps, ps', st, r, cs, h, hp => by
    simp only [hC] at h
    split at h
    · rename_i st' cs0 es h1
      simp only [Option.some.injEq, Prod.mk.injEq] at h; obtain ⟨rfl, rfl, _⟩ := h
      rw [allP_append] at hp
      unfold hDrawn at h1
      split at h1
      · cases h1
      · rename_i L hL
        split at h1
        · rename_i st2 cs2 es2 h2
          simp only [Option.some.injEq, Prod.mk.injEq] at h1; obtain ⟨rfl, rfl, rfl⟩ := h1
          rw [allP_append] at hp
          have hev := hDL_ok (call := callE es2) hC'.noext L h2 hp.1.1 fun e he => callE_at (sameP_ok hp.1.2) he
          have hdr : evDrawn C (callE es2) n ops.toList st = some st2 := by unfold evDrawn; simp only [hL, hev]
          intro hk X φ a w hS hb
          simp only [codeOK] at hk
          have := draw_ok hC' (callE_ok (entsP_ok hp.2)) X n ops.toList st.1 st.2 st2.1 st2.2 φ a w id hk hdr hS
          refine Code.wp_mono ?_ (by simpa using this)
          rintro e a' w' ⟨q, hq, he, φ', k1, k2, k3⟩
          rw [List.mem_singleton] at hq; subst hq
          exact ⟨_, rfl, he, φ', k1, k2.b fun o ho hf => k3.2 o (by omega) hf, by have := k3.1; simp only at this ⊢; omega⟩
        · cases h1
    · cases h
  | .seq x y, rs, rs', ps, ps', st, r, cs, h, hp => by
    simp only [hC] at h
    split at h
    · rename_i st1 cs1 rs1 ps1 h1
      split at h
      · rename_i r2 cs2 rs2 ps2 h2
        simp only [Option.some.injEq, Prod.mk.injEq] at h; obtain ⟨rfl, rfl, _⟩ := h
        rw [allP_append] at hp
        refine T.seq (hC_ok hC' x h1 hp.1) ?_
        rintro q rfl
        exact hC_ok hC' y h2 hp.2
      · cases h
    · rename_i hne
      refine T.seq (hC_ok hC' x h hp) ?_
      rintro q rfl
      obtain ⟨ex, st'⟩ := q
      cases ex with
      | norm => exact absurd h (hne _ _ _ _)
      | exit i => rfl
      | ret => rfl
  | .cond c x y, rs, rs', [], ps', st, r, cs, h, hp => by simp [hC] at h
  | .cond c x y, rs, rs', p :: ps, ps', st, r, cs, h, hp => by
    simp only [hC] at h
    split at h
    · rename_i t ht
      split at h
      · rename_i d
        split at h
        · rename_i r1 cs1 rs1 ps1 h1
          simp only [Option.some.injEq, Prod.mk.injEq] at h; obtain ⟨rfl, rfl, _⟩ := h
          have ht2 : t = d := hp.1
          refine T.cond ht (fun e => ?_) (fun e => ?_)
          · rw [e] at ht2; subst ht2
            exact hC_ok hC' x (by simpa using h1) hp.2
          · rw [e] at ht2; subst ht2
            exact hC_ok hC' y (by simpa using h1) hp.2
        · cases h
      · refine T.cond ht (fun e => ?_) (fun e => ?_)
        · subst e; exact hC_ok hC' x (by simpa using h) hp
        · subst e; exact hC_ok hC' y (by simpa using h) hp
    · cases h
  | .block i c, rs, rs', ps, ps', st, r, cs, h, hp => by
    simp only [hC] at h
    split at h
    · rename_i ex st1 cs1 rs1 ps1 h1
      simp only [Option.some.injEq, Prod.mk.injEq] at h; obtain ⟨rfl, rfl, _⟩ := h
      exact T.block ((hC_ok hC' c h1 hp).mono fun q hq => by subst hq; rfl)
    · cases h
  | .exit i, rs, rs', ps, ps', st, r, cs, h, _ => by
    simp only [hC, Option.some.injEq, Prod.mk.injEq] at h; obtain ⟨rfl, _⟩ := h
    exact T.exit rfl
  | .ret, rs, rs', ps, ps', st, r, cs, h, _ => by
    simp only [hC, Option.some.injEq, Prod.mk.injEq] at h; obtain ⟨rfl, _⟩ := h
    exact T.ret rfl
  | .loop _, _, _, _, _, _, _, _, h, _ => by simp [hC] at h
  | .goto _, _, _, _, _, _, _, _, h, _ => by simp [hC] at h
  | .label _, _, _, _, _, _, _, _, h, _ => by simp [hC] at h
  | .rangeFunc .., _, _, _, _, _, _, _, h, _ => by simp [hC] at h
  | .scope .., _, _, _, _, _, _, _, h, _ => by simp [hC] at h
  | .refuse .., _, _, _, _, _, _, _, h, _ => by simp [hC] at h
end
end Go.Proofs.Ytkimdlpfbojkgaa
