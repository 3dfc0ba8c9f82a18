/- A slice held against nil, where it is not known which it is. No condition. -/
import Derived.Test.YtelblamgfbkhbaaTF
namespace Go.Proofs.Ytelblamgfbkhbaa
set_option linter.unusedSimpArgs false
set_option linter.unusedVariables false
open Go.RowKit
section
variable {P : Program} {C : Cfg} {w w' : World} {X : Nat → Prop} {φ φ' : Phi} {H H' : Hp} {nid n base : Nat} {s : Tr} {a : Act} {D : List Deferred} {st st' : Tr × Hp}
theorem slice_at (hH : HR X φ H w) {x : AV} {v : Value} {sz : Nat} {es : List (List PV)} (hx : VR w (YOf X φ) φ x v) (h : elems H x = some (sz, es)) : ∃ A m c, v = .slice A m c ∧ (A = none → es = []) := by
  unfold elems at h
  split at h
  · rename_i f sz0 es0
    simp only [Option.some.injEq, Prod.mk.injEq] at h; obtain ⟨rfl, rfl⟩ := h
    simp only [VR, PR] at hx
    obtain ⟨A, c, rfl, _, _, _, hA⟩ := hx
    refine ⟨A, _, c, rfl, fun e => ?_⟩
    rcases hA with hA | ⟨b, o, rfl, _⟩
    · exact List.eq_nil_of_length_eq_zero hA
    · cases e
  · rename_i o
    split at h
    · rename_i fz sz0 es0 ho
      simp only [Option.some.injEq, Prod.mk.injEq] at h; obtain ⟨rfl, rfl⟩ := h
      obtain ⟨z, l, hl, hO⟩ := hH.ob _ _ ho
      simp only [VR] at hx
      have := hx.2.2 _ l hl; subst this
      simp only [OR] at hO
      obtain ⟨_, h1, _, h2, _, h3⟩ := hO
      refine ⟨_, _, _, rfl, fun e => ?_⟩
      rcases h3 with ⟨_, h4⟩ | ⟨b, p, _, _, h4, _⟩
      · have : es0.length = 0 := by omega
        exact List.eq_nil_of_length_eq_zero this
      · simp [Loc.addr, h4] at e
    · cases h
  · rename_i o off len
    split at h
    · rename_i fz sz0 es0 ho
      cases hb : Nat.ble (off + len) es0.length with
      | false => simp [hb] at h
      | true =>
        simp only [hb, cond_true, Option.some.injEq, Prod.mk.injEq] at h; obtain ⟨rfl, rfl⟩ := h
        obtain ⟨z, l, hl, hO⟩ := hH.ob _ _ ho
        simp only [VR] at hx
        obtain ⟨A, c, rfl, h5, h6, h7⟩ := hx.2.2 _ l hl
        simp only [OR] at hO
        obtain ⟨_, _, _, h2, _, _⟩ := hO
        refine ⟨A, _, c, rfl, fun e => ?_⟩
        by_cases hlen : len = 0
        · subst hlen; simp
        · obtain ⟨_, h8⟩ := h7 (by omega)
          exact absurd e h8
    · cases h
  · cases h
/-- What holds where the first piece of a row ends. -/
def ThenQ (P : Program) (n base : Nat) (c : Code) (Q : Ex × Tr × Hp → Prop) (r : Ex × Tr × Hp) : Prop := match r.1 with | .norm => T P n base c r.2 Q | _ => Q r
theorem ThenQ.norm {c : Code} {Q : Ex × Tr × Hp → Prop} (h : T P n base c st Q) : ThenQ P n base c Q (.norm, st) := h
theorem ThenQ.out {c : Code} {ex : Ex} {Q : Ex × Tr × Hp → Prop} (hn : isN ex = false) (h : Q (ex, st)) : ThenQ P n base c Q (ex, st) := by
  cases ex with
  | norm => cases hn
  | exit i => exact h
  | ret => exact h
  | pan _ => exact h
theorem T.nest {c : Code} {Q : Ex × Tr × Hp → Prop} (hs : isSeq c = true) (h : T P n base (cL c) st (ThenQ P n base (dropC 1 c) Q)) : T P n base c st Q :=
  T.one hs h fun r hr => by
    obtain ⟨ex, s⟩ := r
    cases ex <;> exact hr
/-- A region that holds a slice against nil: the slice, its type, the slots. -/
def isNilQ : Code → Option (Operand × Nat × Nat × Nat)
  | .region _ ops false => match ops.toList with
    | [⟨some t3, .move x, _, _, _, none⟩, ⟨some t4, .binOp .eql t (.tmp t3') (.const (.slice none 0 0)) _, _, _, _, none⟩] => bif Nat.beq t3 t3' then some (x, t, t3, t4) else none
    | _ => none
  | _ => none
def slTy (C : Cfg) (t : Nat) : Bool := match C.ty t with | some ti => (match ti.k with | .sl _ => true | _ => false) | none => false
def nilS (n : Nat) (st : Tr × Hp) (x : Operand) (t3 t4 : Nat) (b : Bool) : Tr × Hp := (putO n (putO n st.1 (some t3) (val st.1 x)) (some t4) (.pl (.bool b)), st.2)
theorem T.nilq (hC : CfgOK P C) {c : Code} {x : Operand} {t t3 t4 sz : Nat} {es : List (List PV)} {Q : Ex × Tr × Hp → Prop} (hq : isNilQ c = some (x, t, t3, t4)) (hk : slTy C t = true) (h34 : Nat.blt t3 n = true) (hv : elems st.2 (val st.1 x) = some (sz, es))
    (h : ∀ b, (b = true → es = []) → Q (.norm, nilS n st x t3 t4 b)) : T P n base c st Q := by
  unfold isNilQ at hq
  split at hq
  · rename_i id ops
    split at hq
    · rename_i d3 x0 ty1 p1 a1 d4 t0 t3' t' ty2 p2 a2 hops
      cases hb3 : Nat.beq d3 t3' with
      | false => simp [hb3] at hq
      | true =>
        simp only [hb3, cond_true, Option.some.injEq, Prod.mk.injEq] at hq
        obtain ⟨rfl, rfl, rfl, rfl⟩ := hq
        obtain rfl : d3 = t3' := Nat.eq_of_beq_eq_true hb3
        intro _ D X φ a w hS hb
        refine wp_region_list ?_
        rw [hops]
        unfold wpList
        rw [if_pos (by rfl)]
        refine .inl (op_pure hC hS.hr hS.hr.free hS.val (outs := [(val st.1 x0, st.2)]) (by rfl) fun v' w' hn => ?_)
        obtain ⟨r, hr, φ', k1, k2, k3, k4, k5⟩ := hn
        rw [List.mem_singleton] at hr; subst hr
        have hS2 := hS.put k3 k2 k1 (some d3)
        unfold wpList
        rw [if_pos (by rfl)]
        have hd : d3 < a.tmps.size := by rw [hS.size]; exact (Nat.blt_eq ▸ h34 : d3 < n)
        have hev : (a.put (some d3) v').eval (.tmp d3) = v' := by
          simp only [Act.eval, Act.put]
          simp [Array.getD_eq_getD_getElem?, Array.getElem?_setIfInBounds, hd]
        obtain ⟨A, m, c, rfl, hA⟩ := slice_at k2 k1 hv
        unfold slTy at hk
        split at hk
        · rename_i ti hti
          split at hk
          · rename_i e hke
            have hT := hC.ty t0 ti hti
            have hx := x_eql_of (P := P) (w := w') (ρ := (a.put (some d3) (.slice A m c)).eval) (d := some d4) (ty := ty2) (pos := p2) (af := a2) (g := none) (t := t0) (t' := t') (x := .tmp d3) (y := .const (.slice none 0 0)) hev (by rfl) (eqI_sl (n := 9999) (und_sl hT hke)) (by simp [eqGuard]) rfl
            refine .inl ?_
            unfold Oper.wp
            rw [hx, Oper.upon_value]
            unfold wpList
            exact ⟨_, h A.isNone (fun e => hA (by simpa using e)), rfl, φ', hS2.put (Ev.refl _ _) hS2.hr (by simp only [VR, PR]) (some d4), k3.b fun o ho e => k5 o (by omega) (by simp only at k4; omega) e, by simp only [nilS] at k4 ⊢; omega⟩
          · cases hk
        · cases hk
    · cases hq
  · cases hq
theorem T.oneNil (hC : CfgOK P C) {c : Code} {x : Operand} {t t3 t4 sz : Nat} {es : List (List PV)} {Q : Ex × Tr × Hp → Prop} (hs : isSeq c = true) (hq : isNilQ (cL c) = some (x, t, t3, t4)) (hk : slTy C t = true) (h34 : Nat.blt t3 n = true) (hv : elems st.2 (val st.1 x) = some (sz, es))
    (h : ∀ b, (b = true → es = []) → T P n base (dropC 1 c) (nilS n st x t3 t4 b) Q) : T P n base c st Q :=
  T.one hs (T.nilq hC hq hk h34 hv (Q := fun r => ∃ b, (b = true → es = []) ∧ r = (.norm, nilS n st x t3 t4 b)) fun b hb => ⟨b, hb, rfl⟩) fun r hr => by
    obtain ⟨b, hb, rfl⟩ := hr
    exact h b hb
end
end Go.Proofs.Ytelblamgfbkhbaa
