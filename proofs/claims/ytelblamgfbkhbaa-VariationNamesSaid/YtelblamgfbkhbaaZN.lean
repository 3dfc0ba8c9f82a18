/- The clean machine and the model: slots, calls, one operation. No condition. -/
import Derived.Test.YtelblamgfbkhbaaZX
namespace Go.Proofs.Ytelblamgfbkhbaa
set_option linter.unusedVariables false
open Go.RowKit

set_option linter.unusedSimpArgs false
/-! ### the tree of slots -/
theorem get_leaf : ∀ (f n : Nat), Tr.get f .leaf n = .un
  | 0, _ => rfl
  | _ + 1, _ => rfl
theorem beq_cases (n m : Nat) : (Nat.beq n m = true ∧ n = m) ∨ (Nat.beq n m = false ∧ n ≠ m) := by
  cases h : Nat.beq n m with
  | true => exact .inl ⟨rfl, Nat.eq_of_beq_eq_true h⟩
  | false => exact .inr ⟨rfl, fun e => by subst e; simp at h⟩
theorem get_put_self : ∀ (f : Nat) (s : Tr) (n : Nat) (x : AV), Tr.get f (Tr.put f s n x) n = x ∨ Tr.get f (Tr.put f s n x) n = .un
  | 0, _, _, _ => .inr rfl
  | f + 1, s, n, x => by
    rcases beq_cases n 0 with ⟨h0, e0⟩ | ⟨h0, e0⟩
    · left; cases s <;> simp [Tr.put, Tr.get, e0]
    · rcases beq_cases (n % 2) 1 with ⟨h1, e1⟩ | ⟨h1, e1⟩
      · cases s <;> simp only [Tr.put, Tr.get, h0, h1, cond_true, cond_false] <;> exact get_put_self f _ _ _
      · cases s <;> simp only [Tr.put, Tr.get, h0, h1, cond_true, cond_false] <;> exact get_put_self f _ _ _
theorem get_put_ne : ∀ (f : Nat) (s : Tr) (n m : Nat) (x : AV), m ≠ n → Tr.get f (Tr.put f s n x) m = Tr.get f s m
  | 0, _, _, _, _, _ => rfl
  | f + 1, s, n, m, x, h => by
    rcases beq_cases n 0 with ⟨h0, e0⟩ | ⟨h0, e0⟩
    · rcases beq_cases m 0 with ⟨k0, e0'⟩ | ⟨k0, e0'⟩
      · omega
      · cases s <;> simp [Tr.put, Tr.get, h0, k0, get_leaf]
    · rcases beq_cases m 0 with ⟨k0, e0'⟩ | ⟨k0, e0'⟩
      · rcases beq_cases (n % 2) 1 with ⟨h1, e1⟩ | ⟨h1, e1⟩ <;> cases s <;> simp [Tr.put, Tr.get, h0, h1, e0']
      · rcases beq_cases (n % 2) 1 with ⟨h1, e1⟩ | ⟨h1, e1⟩ <;> rcases beq_cases (m % 2) 1 with ⟨k1, e1'⟩ | ⟨k1, e1'⟩
        · have hne : m / 2 ≠ n / 2 := by omega
          cases s <;> simp only [Tr.put, Tr.get, h0, h1, k0, k1, cond_true, cond_false]
          · rw [get_put_ne f _ _ _ _ hne, get_leaf]
          · exact get_put_ne f _ _ _ _ hne
        · cases s <;> simp [Tr.put, Tr.get, h0, h1, k0, k1, get_leaf]
        · cases s <;> simp [Tr.put, Tr.get, h0, h1, k0, k1, get_leaf]
        · have hne : m / 2 - 1 ≠ n / 2 - 1 := by omega
          cases s <;> simp only [Tr.put, Tr.get, h0, h1, k0, k1, cond_true, cond_false]
          · rw [get_put_ne f _ _ _ _ hne, get_leaf]
          · exact get_put_ne f _ _ _ _ hne
theorem put_comm : ∀ (f : Nat) (s : Tr) (n m : Nat) (x y : AV), m ≠ n → Tr.put f (Tr.put f s n x) m y = Tr.put f (Tr.put f s m y) n x
  | 0, _, _, _, _, _, _ => rfl
  | f + 1, s, n, m, x, y, h => by
    rcases beq_cases n 0 with ⟨h0, e0⟩ | ⟨h0, e0⟩
    · rcases beq_cases m 0 with ⟨k0, e0'⟩ | ⟨k0, e0'⟩
      · omega
      · rcases beq_cases (m % 2) 1 with ⟨k1, e1'⟩ | ⟨k1, e1'⟩ <;> cases s <;> simp [Tr.put, h0, k0, k1]
    · rcases beq_cases m 0 with ⟨k0, e0'⟩ | ⟨k0, e0'⟩
      · rcases beq_cases (n % 2) 1 with ⟨h1, e1⟩ | ⟨h1, e1⟩ <;> cases s <;> simp [Tr.put, h0, h1, k0]
      · rcases beq_cases (n % 2) 1 with ⟨h1, e1⟩ | ⟨h1, e1⟩ <;> rcases beq_cases (m % 2) 1 with ⟨k1, e1'⟩ | ⟨k1, e1'⟩
        · have hne : m / 2 ≠ n / 2 := by omega
          cases s <;> simp only [Tr.put, h0, h1, k0, k1, cond_true, cond_false] <;> rw [put_comm f _ _ _ _ _ hne]
        · cases s <;> simp [Tr.put, h0, h1, k0, k1]
        · cases s <;> simp [Tr.put, h0, h1, k0, k1]
        · have hne : m / 2 - 1 ≠ n / 2 - 1 := by omega
          cases s <;> simp only [Tr.put, h0, h1, k0, k1, cond_true, cond_false] <;> rw [put_comm f _ _ _ _ _ hne]

section
variable {P : Program} {C : Cfg} {w w' : World} {Y Y' X : Nat → Prop} {φ φ' : Phi} {H H' : Hp}
variable {nid n : Nat} {s : Tr} {a : Act} {D : List Deferred}
/-- The slots and own memory stand for the frame and the world. -/
structure SR (D : List Deferred) (X : Nat → Prop) (n : Nat) (s : Tr) (H : Hp) (φ : Phi) (a : Act) (w : World) : Prop where
  defers : a.defers = D
  size : a.tmps.size = n
  slots : ∀ t, VR w (YOf X φ) φ (s.get 12 t) (a.tmps.getD t undef)
  hr : HR X φ H w
theorem cst_ok (v : Value) : VR w Y φ (cst v) v := by
  unfold cst
  split <;> simp only [VR, PR, flOk]
  refine ⟨none, 0, rfl, Nat.zero_le _, Nat.zero_le _, ⟨rfl, rfl⟩, .inl rfl⟩
theorem SR.val (h : SR D X n s H φ a w) (x : Operand) : VR w (YOf X φ) φ (val s x) (a.eval x) := by
  cases x with
  | tmp t => exact h.slots t
  | const v => exact cst_ok v
  | func f => simp only [Go.Proofs.Ytelblamgfbkhbaa.val, VR, PR]; rfl
  | global _ => simp only [Go.Proofs.Ytelblamgfbkhbaa.val, VR]
theorem vr_undef : VR w Y φ (.tup []) undef := by
  simp only [VR]; exact ⟨[], rfl, by simp only [VRT]⟩
theorem SR.put (h : SR D X n s H φ a w) (ev : Ev φ w φ' w') (hH : HR X φ' H' w') {v : AV} {v' : Value} (hv : VR w' (YOf X φ') φ' v v') (d : Option Nat) : SR D X n (putO n s d v) H' φ' (a.put d v') w' := by
  cases d with
  | none => exact ⟨h.defers, h.size, fun t => VR.stay ev X _ _ (h.slots t), hH⟩
  | some d =>
    refine ⟨h.defers, by simp [Act.put, h.size], fun t => ?_, hH⟩
    simp only [putO, Act.put]
    cases hb : Nat.blt d n with
    | false =>
      simp only [cond_false]
      have hge : ¬ d < a.tmps.size := fun hd => by rw [h.size, ← Nat.blt_eq, hb] at hd; cases hd
      rw [Array.setIfInBounds_eq_of_size_le (by omega)]
      exact VR.stay ev X _ _ (h.slots t)
    | true =>
      rw [Nat.blt_eq] at hb
      simp only [cond_true]
      by_cases e : t = d
      · subst e
        rcases get_put_self 12 s t v with h1 | h1
        · rw [h1]
          have : (a.tmps.setIfInBounds t v').getD t undef = v' := by simp [Array.getD, h.size, hb]
          rw [this]; exact hv
        · rw [h1]; simp only [VR]
      · rw [get_put_ne 12 s d t v e]
        have : (a.tmps.setIfInBounds d v').getD t undef = a.tmps.getD t undef := by
          simp only [Array.getD_eq_getD_getElem?]
          rw [Array.getElem?_setIfInBounds_ne (Ne.symm e)]
        rw [this]; exact VR.stay ev X _ _ (h.slots t)

/-! ### calls -/
def isPl : AV → Bool
  | .pl _ => true
  | _ => false
def plRes : AV → Bool
  | .tup vs => vs.all isPl
  | v => isPl v
/-- What a call gives: one of the outcomes. -/
def Ret (X : Nat → Prop) (φ : Phi) (H : Hp) (w : World) (outs : List (AV × Hp)) (e : Ending) (w' : World) : Prop :=
  ∃ r ∈ outs, ∃ v' φ', e = .returned v' ∧ VR w' (YOf X φ') φ' r.1 v' ∧ HR X φ' r.2 w' ∧ Ev φ w φ' w' ∧ H.length ≤ r.2.length ∧ ∀ k, k < H.length → φ k = .fresh → φ' k = .fresh
def CallOK (P : Program) (call : Bool → Nat → List AV → Hp → Outs (AV × Hp)) : Prop :=
  ∀ br k args H outs, call br k args H = some outs → Enters P k ∧ (br = false → ∀ r ∈ outs, plRes r.1 = true) ∧
    ((br = false → H = []) → ∀ X φ w vs, HR X φ H w → VRT w (YOf X φ) φ args vs → Calls P k vs.toArray w (Ret X φ H w outs))
def noPhi : Phi := fun _ => .fresh
theorem noBlk (b : Nat) : ¬ blkOf noPhi b := fun ⟨_, _, _, h, _⟩ => by cases h
theorem HR.empty (h : ∀ b, X b → b < w.heap.size) : HR X noPhi [] w where
  fresh _ _ := rfl
  live o z l h := by cases h
  ob o x h := by simp [hget] at h
  inj o o' l l' b p p' h := by cases h
  out o l b p h := by cases h
  xlt := h
theorem PR.sub {p : PV} {v : Value} (hs : ∀ b, Y' b → Y b) (h : PR w Y p v) : PR w Y' p v := PR.stay ⟨Nat.le_refl _, fun _ _ _ => rfl, fun b _ => hs b⟩ p v h
theorem plRes_vr {v : AV} {v' : Value} (hp : plRes v = true) (hs : ∀ b, Y' b → Y b) (h : VR w Y φ v v') : VR w Y' φ' v v' := by
  cases v <;> first | (simp [plRes, isPl] at hp; done) | skip
  · rename_i p
    simp only [VR] at h ⊢; exact PR.sub hs h
  · rename_i vs
    simp only [VR] at h ⊢
    obtain ⟨us, rfl, hl⟩ := h
    refine ⟨us, rfl, ?_⟩
    simp only [plRes] at hp
    induction vs generalizing us with
    | nil => simpa only [VRT] using hl
    | cons x r ih =>
      simp only [VRT] at hl ⊢
      obtain ⟨u, us', rfl, hx, hr⟩ := hl
      simp only [List.all_cons, Bool.and_eq_true] at hp
      refine ⟨u, us', rfl, ?_, ih hp.2 us' hr⟩
      cases x <;> first | (simp [isPl] at hp; done) | skip
      simp only [VR] at hx ⊢; exact PR.sub hs hx
mutual
theorem flatP_pr {Y Y' : Nat → Prop} {w : World} : ∀ (p : PV) (v : Value), flatP p = true → PR w Y p v → PR w Y' p v
  | .int _ _, v, _, h => by simpa only [PR] using h
  | .bool _, v, _, h => by simpa only [PR] using h
  | .str _, v, _, h => by simpa only [PR] using h
  | .agg cs, v, hf, h => by
    simp only [flatP] at hf
    simp only [PR] at h ⊢
    obtain ⟨vs, e, hl⟩ := h
    exact ⟨vs, e, flatPL_pr cs vs hf hl⟩
  | .sl _ _ _, _, hf, _ => by simp [flatP] at hf
  | .fn _, _, hf, _ => by simp [flatP] at hf
  | .nilf, _, hf, _ => by simp [flatP] at hf
  | .nilp, _, hf, _ => by simp [flatP] at hf
  | .nilm, _, hf, _ => by simp [flatP] at hf
  | .nili, _, hf, _ => by simp [flatP] at hf
theorem flatPL_pr {Y Y' : Nat → Prop} {w : World} : ∀ (cs : List PV) (vs : List Value), flatPL cs = true → PRL w Y cs vs → PRL w Y' cs vs
  | [], vs, _, h => by simpa only [PRL] using h
  | c :: cs, vs, hf, h => by
    simp only [flatPL, Bool.and_eq_true] at hf
    simp only [PRL] at h ⊢
    obtain ⟨v, r, e, ho, h1, h2⟩ := h
    exact ⟨v, r, e, ho, flatP_pr c v hf.1 h1, flatPL_pr cs r hf.2 h2⟩
end
theorem flatT_vr {Y Y' : Nat → Prop} {φ φ' : Phi} {w : World} : ∀ (vs : List AV) (us : List Value), flatT vs = true → VRT w Y φ vs us → VRT w Y' φ' vs us
  | [], us, _, h => by simpa only [VRT] using h
  | .pl p :: vs, us, hf, h => by
    simp only [flatT, Bool.and_eq_true] at hf
    simp only [VRT, VR] at h ⊢
    obtain ⟨u, r, e, h1, h2⟩ := h
    exact ⟨u, r, e, flatP_pr p u hf.1 h1, flatT_vr vs r hf.2 h2⟩
  | .un :: _, _, hf, _ => by simp [flatT] at hf
  | .own _ :: _, _, hf, _ => by simp [flatT] at hf
  | .vw _ _ _ :: _, _, hf, _ => by simp [flatT] at hf
  | .bp _ _ :: _, _, hf, _ => by simp [flatT] at hf
  | .ep _ _ _ :: _, _, hf, _ => by simp [flatT] at hf
  | .ip _ _ :: _, _, hf, _ => by simp [flatT] at hf
  | .mp _ :: _, _, hf, _ => by simp [flatT] at hf
  | .it _ :: _, _, hf, _ => by simp [flatT] at hf
  | .tup _ :: _, _, hf, _ => by simp [flatT] at hf
  | .clo _ _ :: _, _, hf, _ => by simp [flatT] at hf
  | .agg _ :: _, _, hf, _ => by simp [flatT] at hf
theorem flatA_vr {Y Y' : Nat → Prop} {φ φ' : Phi} {w : World} {a : AV} {v : Value} (hf : flatA a = true) (h : VR w Y φ a v) : VR w Y' φ' a v := by
  cases a <;> first | (simp [flatA] at hf; done) | skip
  · simp only [flatA] at hf; simp only [VR] at h ⊢; exact flatP_pr _ _ hf h
  · simp only [flatA] at hf
    simp only [VR] at h ⊢
    obtain ⟨vs, e, hl⟩ := h
    exact ⟨vs, e, flatT_vr _ _ hf hl⟩
/-- A call of plain arguments, in a memory of its own. -/
theorem call_plain (hH : HR X φ H w) {k : Nat} {args : List AV} {vs : List Value} {outs : List (AV × Hp)} {call : Bool → Nat → List AV → Hp → Outs (AV × Hp)} (hcall : CallOK P call) {ps : List PV} {H1 : Hp} (hp : plains H args = some (ps, H1))
    (hv : VRT w (YOf X φ) φ args vs) (hc : call false k (ps.map .pl) [] = some outs) : Calls P k vs.toArray w (Ret X φ H w (outs.map fun r => (r.1, bif flatA r.1 then H else H1))) := by
  obtain ⟨φ1, hH1, ev1, kp1, hps⟩ := plains_ok hH hp hv
  obtain ⟨_, hpl, hcalls⟩ := hcall false k _ _ _ hc
  have hX : ∀ b, YOf X φ1 b → b < w.heap.size := by
    rintro b (hx | ⟨o, l, p, ho, hA⟩)
    · exact hH1.xlt b hx
    · exact (hH1.out o l b p ho hA).2
  have hY0 : ∀ b, YOf (YOf X φ1) noPhi b ↔ YOf X φ1 b := fun b => ⟨fun h => h.resolve_right (noBlk b), .inl⟩
  have hargs : VRT w (YOf (YOf X φ1) noPhi) noPhi (ps.map .pl) vs := by
    have : YOf (YOf X φ1) noPhi = YOf X φ1 := funext fun b => propext (hY0 b)
    rw [this]; exact hps noPhi
  refine (hcalls (fun _ => rfl) (YOf X φ1) noPhi w vs (HR.empty hX) hargs).mono fun e w' hr => ?_
  obtain ⟨r, hmem, v', φ', he, h1, h2, h3, _, _⟩ := hr
  have hheap : ∀ b, b < w.heap.size → w'.heap[b]? = w.heap[b]? := fun b hb => h3.heap b hb (noBlk b)
  have ev2 : Ev φ1 w φ1 w' := ⟨h3.os, h3.tape, h3.output, h3.size, fun b hb _ => hheap b hb, fun _ _ h => h, fun _ _ => .inl rfl⟩
  cases hfl : flatA r.1 with
  | true =>
    have ev3 : Ev φ w φ w' := ⟨h3.os, h3.tape, h3.output, h3.size, fun b hb _ => hheap b hb, fun _ _ h => h, fun _ _ => .inl rfl⟩
    refine ⟨(r.1, H), List.mem_map.2 ⟨r, hmem, by rw [hfl]; rfl⟩, v', φ, he, flatA_vr hfl h1, ?_, ev3, Nat.le_refl _, fun k _ h => h⟩
    exact hH.next ev3 hH.fresh hH.live (fun o x hx => .inl ⟨hx, rfl, fun l b p hl hA => hheap b (hH.out o l b p hl hA).2⟩) (fun o l b p ho _ => .inl ho)
  | false =>
  refine ⟨(r.1, H1), List.mem_map.2 ⟨r, hmem, by rw [hfl]; rfl⟩, v', φ1, he, ?_, ?_, ev1.trans ev2, by rw [kp1.2]; exact Nat.le_refl _, fun k _ h => kp1.1 k h⟩
  · exact plRes_vr (hpl rfl r hmem) (fun b hb => .inl hb) h1
  · exact hH1.next ev2 hH1.fresh hH1.live (fun o x hx => .inl ⟨hx, rfl, fun l b p hl hA => hheap b (hH1.out o l b p hl hA).2⟩) (fun o l b p ho _ => .inl ho)
theorem shared_ok (hH : HR X φ H w) {k F : Nat} {args : List AV} {vs : List Value} {outs : List (AV × Hp)} {call : Bool → Nat → List AV → Hp → Outs (AV × Hp)} (hcall : CallOK P call)
    (hv : VRT w (YOf X φ) φ args vs) (h : evShared call k args H F = some outs) : Enters P k ∧ Calls P k vs.toArray w (Ret X φ H w outs) := by
  unfold evShared at h
  split at h
  · rename_i l hl
    cases hb : l.all (fun r => inF F H.length (refD r.1) && objsIn F H.length r.2 && Nat.ble H.length r.2.length) with
    | false => rw [hb] at h; cases h
    | true =>
      rw [hb] at h
      simp only [cond_true, Option.some.injEq] at h; subst h
      rw [List.all_eq_true] at hb
      obtain ⟨hE, _, hc⟩ := hcall _ _ _ _ _ hl
      refine ⟨hE, (hc (fun h => by cases h) (cutX X φ F) (φ.cut F) w vs hH.cut (by rw [cut_Y]; exact VRT.re args vs (fun o _ => cut_re o) hv)).mono fun e w' hr => ?_⟩
      obtain ⟨r, hm, v', φ', he, h1, h2, h3, h4, h5⟩ := hr
      have hk := hb r hm
      simp only [Bool.and_eq_true] at hk
      obtain ⟨⟨c1, c2⟩, c3⟩ := hk
      have hlen : H.length ≤ r.2.length := by simpa using c3
      obtain ⟨u1, u2, u3, u4, u5⟩ := uncut hH h2 h3 hlen (fun k hk => h5 k (by rw [length_mask]; exact hk)) c2
      refine ⟨(r.1, patchH F 0 H r.2), List.mem_map.2 ⟨r, hm, rfl⟩, v', _, he, ?_, u1, u2, by rw [length_patch _ _ _ hlen]; exact hlen, u4⟩
      rw [u3]
      refine VR.re _ _ (fun o ho => ?_) h1
      unfold inF at c1
      rw [List.all_eq_true] at c1
      have := c1 o ho
      rw [Bool.or_eq_true, Nat.ble_eq] at this
      have e := u5 o this
      exact ⟨fun hne => by rw [e]; exact hne, fun z l he => by rw [e] at he; exact he⟩
  · cases h
theorem invoke_ok (hC : CfgOK P C) (hH : HR X φ H w) {k : Nat} {args : List AV} {vs : List Value} {outs : List (AV × Hp)} {call : Bool → Nat → List AV → Hp → Outs (AV × Hp)} (hcall : CallOK P call)
    (hv : VRT w (YOf X φ) φ args vs) (h : evInvoke C call k args H = some outs) : Enters P k ∧ Calls P k vs.toArray w (Ret X φ H w outs) := by
  unfold evInvoke at h
  rw [hC.noext k] at h
  simp only at h
  cases hb : C.byref k with
  | true =>
    simp only [hb, cond_true] at h
    exact shared_ok hH hcall hv h
  | false =>
    simp only [hb, cond_false] at h
    split at h
    · rename_i ps H1 hps
      split at h
      · rename_i l hl
        simp only [Option.some.injEq] at h; subst h
        exact ⟨(hcall _ _ _ _ _ hl).1, call_plain hH hcall hps hv hl⟩
      · cases h
    · exact shared_ok hH hcall hv h
theorem vrt_map {ρ : Operand → Value} {ra : Operand → AV} (hρ : ∀ x, VR w Y φ (ra x) (ρ x)) : ∀ l : List Operand, VRT w Y φ (l.map ra) (l.map ρ)
  | [] => by simp [VRT]
  | x :: l => by simp only [List.map_cons, VRT]; exact ⟨_, _, rfl, hρ x, vrt_map hρ l⟩
/-! ### one operation -/
theorem o_call {o : Oper} {Q : Exit → Act → World → Prop} {K : Act → World → Prop} {f : Nat} {args : Array Value} {Rr : Ending → World → Prop} (hrun : (execOp a.eval o).run P w = .ok (.enter f args) w) (hc : Calls P f args w Rr)
    (h : ∀ e w', Rr e w' → ∃ v, e = .returned v ∧ K (a.put o.dst v) w') : o.wp P a w K Q := by
  unfold Oper.wp
  rw [hrun, Oper.upon_enter]
  refine hc.mono fun e w' hr => ?_
  obtain ⟨v, rfl, hk⟩ := h e w' hr
  exact hk
/-- What follows upon one operation. -/
def Nx (X : Nat → Prop) (nid : Nat) (H : Hp) (φ : Phi) (w : World) (outs : List (AV × Hp)) (v' : Value) (w' : World) : Prop :=
  ∃ r ∈ outs, ∃ φ', VR w' (YOf X φ') φ' r.1 v' ∧ HR X φ' r.2 w' ∧ Ev φ w φ' w' ∧ H.length ≤ r.2.length ∧ ∀ k, k ≠ nid → k < H.length → φ k = .fresh → φ' k = .fresh
theorem op_pure (hC : CfgOK P C) (hH : HR X φ H w) (hf : Free φ H nid) {ra : Operand → AV} (hρ : ∀ x, VR w (YOf X φ) φ (ra x) (a.eval x)) {o : Oper} {outs : List (AV × Hp)}
    (h : (match evPure C nid ra H o.op with | some r => some [r] | none => none) = some outs) {Q : Exit → Act → World → Prop} {K : Act → World → Prop} (hK : ∀ v' w', Nx X nid H φ w outs v' w' → K (a.put o.dst v') w') : o.wp P a w K Q := by
  split at h
  · rename_i r hr
    obtain ⟨v, H'⟩ := r
    simp only [Option.some.injEq] at h; subst h
    obtain ⟨d, op, ty, pos, af, g⟩ := o
    obtain ⟨nx, v', w', φ', hrun, hnx, h1, h2, h3, h4, h5⟩ := g_pure (ρ := a.eval) (d := d) (ty := ty) (pos := pos) (af := af) (g := g) hC hH hf hρ hr
    have hk := hK v' w' ⟨(v, H'), by simp, φ', h1, h2, h3, h4, fun k hk _ h => h5 k hk h⟩
    unfold Oper.wp
    rcases hnx with rfl | ⟨rfl, rfl⟩
    · rw [hrun, Oper.upon_value]; exact hk
    · rw [hrun, Oper.upon_skip]; exact hk
  · cases h
theorem op_ok (hC : CfgOK P C) {call : Bool → Nat → List AV → Hp → Outs (AV × Hp)} (hcall : CallOK P call) (hH : HR X φ H w) (hf : Free φ H nid) {ra : Operand → AV} (hρ : ∀ x, VR w (YOf X φ) φ (ra x) (a.eval x)) {o : Oper} {outs : List (AV × Hp)}
    (h : evOp C call nid ra H o.op = some outs) {Q : Exit → Act → World → Prop} {K : Act → World → Prop} (hK : ∀ v' w', Nx X nid H φ w outs v' w' → K (a.put o.dst v') w') : o.wp P a w K Q := by
  unfold evOp at h
  · skip
    split at h
    · rename_i c hop
      obtain ⟨d, op, ty, pos, af, g⟩ := o
      simp only at hop; subst hop
      obtain ⟨callee, args, ts⟩ := c
      have go : ∀ (f : Operand) (k : Nat) (cs : List AV) (us : List Value), callee = .value f → a.eval f = .func (.func k) #[] us.toArray → VRT w (YOf X φ) φ cs us → evInvoke C call k (args.toList.map ra ++ cs) H = some outs → Oper.wp P ⟨d, .call ⟨callee, args, ts⟩, ty, pos, af, g⟩ a w K Q := by
        intro f k cs us hcal hfv hcs hinv
        subst hcal
        obtain ⟨hE, hcalls⟩ := invoke_ok hC hH hcall ((vrt_map hρ args.toList).append hcs) hinv
        refine o_call (x_call hE hfv rfl) (Rr := Ret X φ H w outs) ?_ ?_
        · have : (args.toList.map a.eval ++ us).toArray = args.map a.eval ++ us.toArray := by
            apply Array.ext'; simp
          rw [← this]; exact hcalls
        · rintro e w' ⟨r, hm, v', φ', rfl, h1, h2, h3, h4, h5⟩
          exact ⟨v', rfl, hK v' w' ⟨r, hm, φ', h1, h2, h3, h4, fun k _ hk hfr => h5 k hk hfr⟩⟩
      split at h
      · rename_i f hcal
        simp only at hcal
        have hfv := hρ f
        split at h
        · rename_i k hk
          rw [hk] at hfv
          simp only [VR, PR] at hfv
          exact go f k [] [] hcal (by rw [hfv]) (by simp [VRT]) (by simpa using h)
        · rename_i k cs hk
          rw [hk] at hfv
          simp only [VR] at hfv
          obtain ⟨us, hfv, hcs⟩ := hfv
          exact go f k cs us hcal hfv hcs h
        · cases h
      · exact op_pure hC hH hf hρ h hK
    · rename_i it hop
      obtain ⟨d, op, ty, pos, af, g⟩ := o
      simp only at hop; subst hop
      obtain ⟨r, hm, nx, v', w', φ', hrun, hnx, h1, h2, h3, h4, h5⟩ := g_next (nid := nid) (ρ := a.eval) (d := d) (ty := ty) (pos := pos) (af := af) (g := g) hH h (hρ it)
      have hk := hK v' w' ⟨r, hm, φ', h1, h2, h3, h4, fun k hk _ h => h5 k hk h⟩
      unfold Oper.wp
      rcases hnx with rfl | ⟨rfl, rfl⟩
      · rw [hrun, Oper.upon_value]; exact hk
      · rw [hrun, Oper.upon_skip]; exact hk
    · exact op_pure hC hH hf hρ h hK
end
end Go.Proofs.Ytelblamgfbkhbaa
