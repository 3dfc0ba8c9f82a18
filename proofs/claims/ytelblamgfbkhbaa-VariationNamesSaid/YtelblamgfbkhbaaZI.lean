/- The clean machine is sound, seventh part: len, min, max, append, copy, clear. No condition. -/
import Derived.Test.YtelblamgfbkhbaaZH
namespace Go.Proofs.Ytelblamgfbkhbaa
set_option linter.unusedSimpArgs false
set_option linter.unusedVariables false
open Go.RowKit
section
variable {P : Program} {C : Cfg} {w w' : World} {Y X : Nat → Prop} {φ : Phi} {H : Hp}
variable {ρ : Operand → Value} {ra : Operand → AV} {d : Option Tmp} {ty : TypeId} {pos : String} {af : Array Edge} {g : Option (Nat × Bool)}
theorem x_bi {b : Builtin} {args : Array Operand} {ts : Array TypeId} {v : Value} {f : Array TypeId → TypeId → Array Value → Sem Value} (hb : ∀ ts ty cs args, builtin b ts ty cs args = (do pure (.value (← f ts ty args)))) (h : (f ts ty (args.map ρ)).run P w = .ok v w') :
    (execOp ρ ⟨d, .call { callee := .builtin b, args := args, argTypes := ts }, ty, pos, af, g⟩).run P w = .ok (.value v) w' := by
  simp [execOp, resolve, invoke, hb, h]
theorem MR.length : ∀ {i : Nat} {kvs : List (PV × PV)} {es : List MapEntry}, MR w Y i kvs es → es.length = kvs.length
  | _, [], es, h => by simp only [MR] at h; subst h; rfl
  | i, (k, x) :: r, es, h => by
    simp only [MR] at h
    obtain ⟨e, es', rfl, _, _, _, hr⟩ := h
    simp [MR.length hr]
/-- What a slice of the machine is in the model: its address, its capacity, and its elements. -/
theorem elems_ok (hH : HR X φ H w) {a : AV} {sz : Nat} {es : List (List PV)} {v : Value} (h : elems H a = some (sz, es)) (hv : VR w (YOf X φ) φ a v) :
    ∃ A c, v = .slice A es.length c ∧ es.length ≤ c ∧ c ≤ maxLen ∧ (es.length = 0 ∨ ∃ b o, A = some ⟨b, o, none⟩ ∧ PRE w (YOf X φ) b sz o es) := by
  unfold elems at h
  split at h
  · simp only [Option.some.injEq, Prod.mk.injEq] at h; obtain ⟨rfl, rfl⟩ := h
    simp only [VR, PR] at hv
    obtain ⟨A, c, rfl, h1, h2, _, h3⟩ := hv
    exact ⟨A, c, rfl, h1, h2, h3.imp id fun ⟨b, o, hA, _, _, hE⟩ => ⟨b, o, hA, hE⟩⟩
  · split at h
    · rename_i fz sz es ho
      simp only [Option.some.injEq, Prod.mk.injEq] at h; obtain ⟨rfl, rfl⟩ := h
      obtain ⟨z, l, hl, hO⟩ := hH.ob _ _ ho
      simp only [VR] at hv
      have he := hv.2.2 _ l hl
      simp only [OR] at hO
      obtain ⟨hz, h1, h2, h3, h4, h5⟩ := hO
      rw [h1] at he
      refine ⟨_, _, he, by omega, h4, ?_⟩
      rcases h5 with ⟨_, h6⟩ | ⟨b, p, t, cs, hA, _, _, hE, _⟩
      · exact .inl (by omega)
      · exact .inr ⟨b, p, by simp [Loc.addr, hA], hE⟩
    · cases h
  · rename_i o off len
    split at h
    · rename_i fz sz es ho
      cases hb : Nat.ble (off + len) es.length with
      | false => simp [hb] at h
      | true =>
        simp only [hb, cond_true, Option.some.injEq, Prod.mk.injEq] at h; obtain ⟨rfl, rfl⟩ := h
        have hb := ble_t hb
        obtain ⟨z, l, hl, hO⟩ := hH.ob _ _ ho
        simp only [VR] at hv
        obtain ⟨A, c, he, hle, hc, hA0⟩ := hv.2.2 _ l hl
        simp only [OR] at hO
        obtain ⟨hz, h1, h2, h3, h4, h5⟩ := hO
        have hlen : ((es.drop off).take len).length = len := by simp; omega
        refine ⟨A, c, by rw [hlen]; exact he, by rw [hlen]; omega, by omega, ?_⟩
        rw [hlen]
        rcases Nat.eq_zero_or_pos len with h0 | hpos
        · exact .inl h0
        · rcases h5 with ⟨_, h6⟩ | ⟨b, p, t, cs, hA, _, _, hE, _⟩
          · omega
          · obtain ⟨hA1, _⟩ := hA0 (by omega)
            exact .inr ⟨b, p + off * sz, by rw [hA1]; simp [Loc.addr, hA, h2], (hE.drop off).take len⟩
    · cases h
  · cases h
theorem g_len {t n : Nat} {x : Operand} {a : AV} (hC : CfgOK P C) (hH : HR X φ H w) (h : lenA C H t a = some n) (hx : VR w (YOf X φ) φ a (ρ x)) :
    (execOp ρ ⟨d, .call { callee := .builtin .len, args := #[x], argTypes := #[t] }, ty, pos, af, g⟩).run P w = .ok (.value (.int .i64 (n : Int))) w := by
  have key : ∀ v, (Builtin.len_ #[t] ty #[ρ x]).run P w = .ok v w → (execOp ρ ⟨d, .call { callee := .builtin .len, args := #[x], argTypes := #[t] }, ty, pos, af, g⟩).run P w = .ok (.value v) w := fun v hv =>
    x_bi (f := Builtin.len_) (fun _ _ _ _ => rfl) (by simpa using hv)
  refine key _ ?_
  unfold lenA at h
  cases hti : C.ty t with
  | none => simp [hti] at h
  | some ti =>
    simp only [hti] at h
    have hT := hC.ty t ti hti
    split at h
    · rename_i hk
      split at h
      · simp only [Option.some.injEq] at h; subst h
        simp only [VR, PR] at hx
        simp [Builtin.len_, hx, run_underlying (und_str hT hk), goInt]
      · cases h
    · rename_i k e hk
      split at h
      · simp only [Option.some.injEq] at h; subst h
        simp only [VR, PR] at hx
        simp [Builtin.len_, hx, run_underlying (und_map hT hk), goInt]
      · split at h
        · rename_i kvs ho
          simp only [Option.some.injEq] at h; subst h
          obtain ⟨z, l, hl, hO⟩ := hH.ob _ _ ho
          simp only [VR] at hx
          obtain ⟨b, hA, hv⟩ := hx.2.2 _ l hl
          simp only [OR] at hO
          obtain ⟨_, b', es, hA', hg, hm⟩ := hO
          rw [hA] at hA'; cases hA'
          have := hm.length
          simp at this
          simp [Builtin.len_, hv, run_underlying (und_map hT hk), goInt, getObj, Sem.run, hg, this]
        · cases h
      · cases h
    · rename_i e hk
      split at h
      · simp only [Option.some.injEq] at h; subst h
        simp only [VR, PR] at hx
        obtain ⟨A, c, hv, _⟩ := hx
        simp [Builtin.len_, hv, run_underlying (und_sl hT hk), goInt]
      · split at h
        · rename_i fz sz es ho
          simp only [Option.some.injEq] at h; subst h
          obtain ⟨z, l, hl, hO⟩ := hH.ob _ _ ho
          simp only [VR] at hx
          have hv := hx.2.2 _ l hl
          simp only [OR] at hO
          rw [hO.2.1] at hv
          simp [Builtin.len_, hv, run_underlying (und_sl hT hk), goInt]
        · cases h
      · rename_i o off len
        cases ha : alive H o with
        | false => simp [ha] at h
        | true =>
          simp only [ha, cond_true, Option.some.injEq] at h; subst h
          obtain ⟨_, l, hl⟩ := alive_live hH ha
          simp only [VR] at hx
          obtain ⟨A, c, hv, _⟩ := hx.2.2 _ l hl
          simp [Builtin.len_, hv, run_underlying (und_sl hT hk), goInt]
      · cases h
    · rename_i m e hk
      simp only [Option.some.injEq] at h; subst h
      simp [Builtin.len_, run_underlying (und_arr hT hk), goInt]
    · cases h
theorem g_minmax {b : Bool} {args : Array Operand} {ts : Array TypeId} {v : AV} (hρ : ∀ x, VR w (YOf X φ) φ (ra x) (ρ x)) (h : (if b then minI (args.toList.map ra) else maxI (args.toList.map ra)) = some v) :
    ∃ u, (execOp ρ ⟨d, .call { callee := .builtin (if b then .min else .max), args := args, argTypes := ts }, ty, pos, af, g⟩).run P w = .ok (.value u) w ∧ VR w (YOf X φ) φ v u := by
  rcases args with ⟨l⟩
  simp only at h
  match l, h with
  | [], h => cases b <;> simp [minI, maxI] at h
  | [x], h => cases b <;> simp [minI, maxI] at h
  | x :: y :: z :: l, h => cases b <;> simp [minI, maxI] at h
  | [x, y], h =>
    have hx := hρ x
    have hy := hρ y
    simp only [List.map_cons, List.map_nil] at h
    cases b
    · simp only [Bool.false_eq_true, if_false] at h ⊢
      unfold maxI at h
      split at h
      · rename_i k a k' c heq
        simp only [List.cons.injEq, and_true] at heq
        rw [heq.1] at hx; rw [heq.2] at hy
        simp only [VR, PR] at hx hy
        simp only [Option.some.injEq] at h; subst h
        refine ⟨.int k (if c > a then c else a), x_bi (f := Builtin.max_) (fun _ _ _ _ => rfl) ?_, ?_⟩
        · simp [Builtin.max_, hx, hy, Builtin.max2]
        · simp only [VR, PR]
          by_cases hc : a < c <;> simp [hc]
      · cases h
    · simp only [if_true] at h ⊢
      unfold minI at h
      split at h
      · rename_i k a k' c heq
        simp only [List.cons.injEq, and_true] at heq
        rw [heq.1] at hx; rw [heq.2] at hy
        simp only [VR, PR] at hx hy
        simp only [Option.some.injEq] at h; subst h
        refine ⟨.int k (if c < a then c else a), x_bi (f := Builtin.min_) (fun _ _ _ _ => rfl) ?_, ?_⟩
        · simp [Builtin.min_, hx, hy, Builtin.min2]
        · simp only [VR, PR]
          by_cases hc : c < a <;> simp [hc]
      · cases h
end
end Go.Proofs.Ytelblamgfbkhbaa
