/- The clean machine and the model: a call that works on a part of own memory. No condition. -/
import Derived.Test.YtelblamgfbkhbaaZM
namespace Go.Proofs.Ytelblamgfbkhbaa
set_option linter.unusedSimpArgs false
set_option linter.unusedVariables false
open Go.RowKit
section
variable {P : Program} {w w' : World} {Y Y' X : Nat → Prop} {φ φ2 : Phi} {H H' : Hp} {F : Nat}
theorem hget_cons {x : Option Ob} {H : Hp} : (∀ o, hget (x :: H) (o + 1) = hget H o) ∧ hget (x :: H) 0 = x := by
  constructor
  · intro o; simp [hget]
  · cases x <;> simp [hget]
theorem hget_mask : ∀ (H : Hp) (i o : Nat), hget (maskH F i H) o = if bit F (i + o) = true then hget H o else none
  | [], i, o => by simp [maskH, hget]
  | x :: r, i, 0 => by
    simp only [maskH, hget_cons.2, Nat.add_zero]
    cases bit F i <;> simp
  | x :: r, i, o + 1 => by
    simp only [maskH, hget_cons.1]
    rw [hget_mask r (i + 1) o, show i + 1 + o = i + (o + 1) from by omega]
theorem length_mask : ∀ (H : Hp) (i : Nat), (maskH F i H).length = H.length
  | [], _ => rfl
  | _ :: r, i => by simp [maskH, length_mask r (i + 1)]
theorem hget_patch : ∀ (H H' : Hp) (i o : Nat), H.length ≤ H'.length → hget (patchH F i H H') o = if o < H.length ∧ bit F (i + o) = false then hget H o else hget H' o
  | [], H', i, o, _ => by simp [patchH]
  | x :: r, [], i, o, h => by simp at h
  | x :: r, y :: r', i, 0, h => by
    simp only [patchH, hget_cons.2, Nat.add_zero]
    cases bit F i <;> simp
  | x :: r, y :: r', i, o + 1, h => by
    simp only [patchH, hget_cons.1]
    rw [hget_patch r r' (i + 1) o (by simpa using h), show i + 1 + o = i + (o + 1) from by omega]
    simp only [List.length_cons, Nat.succ_lt_succ_iff, Nat.add_lt_add_iff_right]
theorem length_patch : ∀ (H H' : Hp) (i : Nat), H.length ≤ H'.length → (patchH F i H H').length = H'.length
  | [], H', _, _ => rfl
  | x :: r, [], _, h => by simp at h
  | x :: r, y :: r', i, h => by simp [patchH, length_patch r r' (i + 1) (by simpa using h)]
theorem objs_at {n : Nat} : ∀ {H : Hp}, objsIn F n H = true → ∀ {o : Nat} {x : Ob}, hget H o = some x → inF F n (obRefs x) = true
  | [], _, o, x, hx => by simp [hget] at hx
  | y :: r, h, 0, x, hx => by
    rw [hget_cons.2] at hx; subst hx
    simp only [objsIn, Bool.and_eq_true] at h; exact h.1
  | y :: r, h, o + 1, x, hx => by
    rw [hget_cons.1] at hx
    simp only [objsIn, Bool.and_eq_true] at h; exact objs_at h.2 hx
/-- What is told of a piece under one map is told under the other. -/
def Re (φ φ2 : Phi) (o : Nat) : Prop := (φ o ≠ .fresh → φ2 o ≠ .fresh) ∧ ∀ z l, φ2 o = .at z l → φ o = .at z l
theorem Re.at {o : Nat} {p : Loc → Prop} (h : Re φ φ2 o) (hp : φ o ≠ .fresh ∧ ∀ z l, φ o = .at z l → p l) : φ2 o ≠ .fresh ∧ ∀ z l, φ2 o = .at z l → p l := ⟨h.1 hp.1, fun z l e => hp.2 z l (h.2 z l e)⟩
mutual
theorem VR.re : ∀ (a : AV) (v : Value), (∀ o ∈ refD a, Re φ φ2 o) → VR w Y φ a v → VR w Y φ2 a v
  | .pl p, v, _, h => by simp only [VR] at h ⊢; exact h
  | .un, _, _, _ => by simp only [VR]
  | .agg cs, v, hr, h => by
    simp only [VR] at h ⊢
    obtain ⟨vs, e, hl⟩ := h
    exact ⟨vs, e, VRL.re cs vs (by simpa only [refD] using hr) hl⟩
  | .tup cs, v, hr, h => by
    simp only [VR] at h ⊢
    obtain ⟨vs, e, hl⟩ := h
    exact ⟨vs, e, VRT.re cs vs (by simpa only [refD] using hr) hl⟩
  | .clo f cs, v, hr, h => by
    simp only [VR] at h ⊢
    obtain ⟨vs, e, hl⟩ := h
    exact ⟨vs, e, VRT.re cs vs (by simpa only [refD] using hr) hl⟩
  | .own o, v, hr, h => by simp only [VR] at h ⊢; exact ⟨h.1, (hr o (by simp [refD])).at h.2⟩
  | .vw o _ _, v, hr, h => by simp only [VR] at h ⊢; exact ⟨h.1, (hr o (by simp [refD])).at h.2⟩
  | .bp o _, v, hr, h => by simp only [VR] at h ⊢; exact ⟨h.1, (hr o (by simp [refD])).at h.2⟩
  | .ep o _ _, v, hr, h => by simp only [VR] at h ⊢; exact ⟨h.1, (hr o (by simp [refD])).at h.2⟩
  | .ip cs i, v, _, h => by simp only [VR] at h ⊢; exact h
  | .mp o, v, hr, h => by simp only [VR] at h ⊢; exact ⟨h.1, (hr o (by simp [refD])).at h.2⟩
  | .it o, v, hr, h => by simp only [VR] at h ⊢; exact ⟨h.1, (hr o (by simp [refD])).at h.2⟩
theorem VRL.re : ∀ (cs : List AV) (vs : List Value), (∀ o ∈ refDL cs, Re φ φ2 o) → VRL w Y φ cs vs → VRL w Y φ2 cs vs
  | [], _, _, h => by simpa only [VRL] using h
  | c :: cs, vs, hr, h => by
    simp only [VRL] at h ⊢
    obtain ⟨v, r, e, ho, hc, hl⟩ := h
    exact ⟨v, r, e, ho, VR.re c v (fun o ho => hr o (by simp only [refDL]; exact List.mem_append_left _ ho)) hc, VRL.re cs r (fun o ho => hr o (by simp only [refDL]; exact List.mem_append_right _ ho)) hl⟩
theorem VRT.re : ∀ (cs : List AV) (vs : List Value), (∀ o ∈ refDL cs, Re φ φ2 o) → VRT w Y φ cs vs → VRT w Y φ2 cs vs
  | [], _, _, h => by simpa only [VRT] using h
  | c :: cs, vs, hr, h => by
    simp only [VRT] at h ⊢
    obtain ⟨v, r, e, hc, hl⟩ := h
    exact ⟨v, r, e, VR.re c v (fun o ho => hr o (by simp only [refDL]; exact List.mem_append_left _ ho)) hc, VRT.re cs r (fun o ho => hr o (by simp only [refDL]; exact List.mem_append_right _ ho)) hl⟩
end
theorem OR.re {z : Bool} {l : Loc} : ∀ {x : Ob}, (∀ o ∈ obRefs x, Re φ φ2 o) → OR w Y φ z l x → OR w Y φ2 z l x
  | .box cs, hr, h => by
    simp only [OR] at h ⊢
    obtain ⟨hz, b, t, vs, hA, hg, hv⟩ := h
    exact ⟨hz, b, t, vs, hA, hg, VRL.re cs vs hr hv⟩
  | .row _ _ _, _, h => by simp only [OR] at h ⊢; exact h
  | .map _, _, h => by simp only [OR] at h ⊢; exact h
  | .iter o n seen, hr, h => by
    simp only [OR] at h ⊢
    obtain ⟨hz, b, hA, hn, hm⟩ := h
    have := (hr o (by simp [obRefs])).at (p := fun lo => ∃ m, lo.A = some (m, 0) ∧ w.heap[b]? = some (.mapIter (some m) n seen.toArray n)) ⟨hn, hm⟩
    exact ⟨hz, b, hA, this.1, this.2⟩
/-- The map with all but a part dead. -/
def Phi.cut (φ : Phi) (F : Nat) : Phi := fun o => match φ o with
  | .fresh => .fresh
  | p => bif bit F o then p else .dead
/-- The blocks of what is dead so. -/
def cutX (X : Nat → Prop) (φ : Phi) (F : Nat) : Nat → Prop := fun b => X b ∨ ∃ o l p, φ o = .at false l ∧ l.A = some (b, p) ∧ bit F o = false
theorem cut_re (o : Nat) : Re φ (φ.cut F) o := by
  unfold Re Phi.cut
  cases φ o with
  | fresh => exact ⟨fun h => (h rfl).elim, fun z l h => by cases h⟩
  | dead => cases bit F o <;> exact ⟨fun _ h => (by cases h), fun z l h => (by cases h)⟩
  | «at» z l => cases bit F o <;> exact ⟨fun _ h => (by cases h), fun z' l' h => (by first | exact h | cases h)⟩
theorem cut_in {o : Nat} (h : bit F o = true) : φ.cut F o = φ o := by
  unfold Phi.cut; rw [h]; cases φ o <;> rfl
theorem cut_out {o : Nat} (h : bit F o = false) : φ.cut F o = .fresh ∨ φ.cut F o = .dead := by
  unfold Phi.cut; rw [h]; cases φ o <;> simp
theorem cut_at {o : Nat} {z : Bool} {l : Loc} (h : φ.cut F o = .at z l) : φ o = .at z l ∧ bit F o = true := by
  refine ⟨(cut_re o).2 z l h, ?_⟩
  cases hb : bit F o with
  | true => rfl
  | false => rcases cut_out (φ := φ) hb with e | e <;> rw [e] at h <;> cases h
theorem cut_Y : YOf (cutX X φ F) (φ.cut F) = YOf X φ := by
  funext b
  apply propext
  constructor
  · rintro ((h | ⟨o, l, p, h1, h2, _⟩) | ⟨o, l, p, h1, h2⟩)
    · exact .inl h
    · exact .inr ⟨o, l, p, h1, h2⟩
    · exact .inr ⟨o, l, p, (cut_at h1).1, h2⟩
  · rintro (h | ⟨o, l, p, h1, h2⟩)
    · exact .inl (.inl h)
    · cases hb : bit F o with
      | true => exact .inr ⟨o, l, p, by rw [cut_in hb]; exact h1, h2⟩
      | false => exact .inl (.inr ⟨o, l, p, h1, h2, hb⟩)
theorem HR.cut (h : HR X φ H w) : HR (cutX X φ F) (φ.cut F) (maskH F 0 H) w where
  fresh o ho := by
    rw [length_mask] at ho
    have := h.fresh o ho
    unfold Phi.cut; rw [this]
  live o z l ho := by
    obtain ⟨h1, h2⟩ := cut_at ho
    obtain ⟨x, hx⟩ := h.live o z l h1
    exact ⟨x, by rw [hget_mask, Nat.zero_add, if_pos h2]; exact hx⟩
  ob o x hx := by
    rw [hget_mask, Nat.zero_add] at hx
    split at hx
    · rename_i hb
      obtain ⟨z, l, h1, h2⟩ := h.ob o x hx
      exact ⟨z, l, by rw [cut_in hb]; exact h1, by rw [cut_Y]; exact OR.re (fun k _ => cut_re k) h2⟩
    · cases hx
  inj o o' l l' b p p' h1 h2 := h.inj o o' l l' b p p' (cut_at h1).1 (cut_at h2).1
  out o l b p h1 h2 := by
    obtain ⟨k1, k2⟩ := cut_at h1
    obtain ⟨k3, k4⟩ := h.out o l b p k1 h2
    refine ⟨?_, k4⟩
    rintro (hx | ⟨o2, l2, p2, m1, m2, m3⟩)
    · exact k3 hx
    · have := h.inj o o2 l l2 b p p2 k1 m1 h2 m2
      subst this; rw [k2] at m3; cases m3
  xlt b hb := by
    rcases hb with hb | ⟨o, l, p, h1, h2, _⟩
    · exact h.xlt b hb
    · exact (h.out o l b p h1 h2).2
/-- The map after the call: the part as the call left it, the rest as it was. -/
def joinPhi (φ φ' : Phi) (n F : Nat) : Phi := fun o => if o < n ∧ bit F o = false then φ o else φ' o
theorem join_out {n o : Nat} {φ' : Phi} (h : o < n ∧ bit F o = false) : joinPhi φ φ' n F o = φ o := by unfold joinPhi; rw [if_pos h]
theorem join_in {n o : Nat} {φ' : Phi} (h : ¬ (o < n ∧ bit F o = false)) : joinPhi φ φ' n F o = φ' o := by unfold joinPhi; rw [if_neg h]
theorem uncut {φ' : Phi} {w1 : World} (h : HR X φ H w) (h' : HR (cutX X φ F) φ' H' w1) (ev : Ev (φ.cut F) w φ' w1) (hlen : H.length ≤ H'.length) (hfr : ∀ k, k < H.length → φ.cut F k = .fresh → φ' k = .fresh) (hob : objsIn F H.length H' = true) :
    HR X (joinPhi φ φ' H.length F) (patchH F 0 H H') w1 ∧ Ev φ w (joinPhi φ φ' H.length F) w1 ∧ YOf X (joinPhi φ φ' H.length F) = YOf (cutX X φ F) φ' ∧ (∀ k, k < H.length → φ k = .fresh → joinPhi φ φ' H.length F k = .fresh) ∧ ∀ o, bit F o = true ∨ H.length ≤ o → joinPhi φ φ' H.length F o = φ' o := by
  -- outside the part the call's map tells nothing
  have hout : ∀ o, o < H.length ∧ bit F o = false → ∀ z l, φ' o ≠ .at z l := by
    intro o ho z l e
    rcases cut_out (φ := φ) ho.2 with h1 | h1
    · rw [hfr o ho.1 h1] at e; cases e
    · rcases ev.ids o (by rw [h1]; intro k; cases k) with h2 | h2 | ⟨l2, h2, _⟩
      · rw [h2, h1] at e; cases e
      · rw [h2] at e; cases e
      · rw [h1] at h2; cases h2
  have hin : ∀ o, bit F o = true ∨ H.length ≤ o → joinPhi φ φ' H.length F o = φ' o := fun o ho => join_in fun hc => by
    rcases ho with ho | ho
    · rw [hc.2] at ho; cases ho
    · omega
  have hY : YOf X (joinPhi φ φ' H.length F) = YOf (cutX X φ F) φ' := by
    funext b
    apply propext
    constructor
    · rintro (hx | ⟨o, l, p, h1, h2⟩)
      · exact .inl (.inl hx)
      · by_cases hc : o < H.length ∧ bit F o = false
        · rw [join_out hc] at h1; exact .inl (.inr ⟨o, l, p, h1, h2, hc.2⟩)
        · rw [join_in hc] at h1; exact .inr ⟨o, l, p, h1, h2⟩
    · rintro ((hx | ⟨o, l, p, h1, h2, h3⟩) | ⟨o, l, p, h1, h2⟩)
      · exact .inl hx
      · exact .inr ⟨o, l, p, by rw [join_out ⟨h.lt h1, h3⟩]; exact h1, h2⟩
      · refine .inr ⟨o, l, p, ?_, h2⟩
        by_cases hc : o < H.length ∧ bit F o = false
        · exact absurd h1 (hout o hc _ _)
        · rw [join_in hc]; exact h1
  have hcb : ∀ b, blkOf (φ.cut F) b → blkOf φ b := fun b ⟨o, l, p, h1, h2⟩ => ⟨o, l, p, (cut_at h1).1, h2⟩
  have ev2 : Ev φ w (joinPhi φ φ' H.length F) w1 := by
    refine ⟨ev.os, ev.tape, ev.output, ev.size, fun b hb hn => ev.heap b hb fun hc => hn (hcb b hc), fun b hb hc => ?_, fun o ho => ?_⟩
    · obtain ⟨o, l, p, h1, h2⟩ := hc
      by_cases hc : o < H.length ∧ bit F o = false
      · rw [join_out hc] at h1; exact ⟨o, l, p, h1, h2⟩
      · rw [join_in hc] at h1; exact hcb b (ev.blk b hb ⟨o, l, p, h1, h2⟩)
    · by_cases hc : o < H.length ∧ bit F o = false
      · rw [join_out hc]; exact .inl rfl
      · rw [join_in hc]
        have hb : bit F o = true := by
          cases hb : bit F o with
          | true => rfl
          | false =>
            refine absurd (h.fresh o ?_) ho
            rcases Nat.lt_or_ge o H.length with h1 | h1
            · exact absurd ⟨h1, hb⟩ hc
            · exact h1
        have := ev.ids o (by rw [cut_in hb]; exact ho)
        rw [cut_in hb] at this
        exact this
  refine ⟨?_, ev2, hY, fun k hk e => ?_, hin⟩
  · refine ⟨fun o ho => ?_, fun o z l ho => ?_, fun o x hx => ?_, fun o o' l l' b p p' h1 h2 hA hA' => ?_, fun o l b p h1 hA => ?_, fun b hb => Nat.lt_of_lt_of_le (h.xlt b hb) ev.size⟩
    · rw [length_patch _ _ _ hlen] at ho
      rw [join_in (by omega)]; exact h'.fresh o ho
    · by_cases hc : o < H.length ∧ bit F o = false
      · rw [join_out hc] at ho
        obtain ⟨x, hx⟩ := h.live o z l ho
        exact ⟨x, by rw [hget_patch _ _ _ _ hlen, Nat.zero_add, if_pos hc]; exact hx⟩
      · rw [join_in hc] at ho
        obtain ⟨x, hx⟩ := h'.live o z l ho
        exact ⟨x, by rw [hget_patch _ _ _ _ hlen, Nat.zero_add, if_neg hc]; exact hx⟩
    · rw [hget_patch _ _ _ _ hlen, Nat.zero_add] at hx
      by_cases hc : o < H.length ∧ bit F o = false
      · rw [if_pos hc] at hx
        obtain ⟨z, l, h1, h2⟩ := h.ob o x hx
        refine ⟨z, l, by rw [join_out hc]; exact h1, OR.stay ev2 X (fun hz b p hA => ?_) h2⟩
        subst hz
        refine ev.heap b (h.out o l b p h1 hA).2 ?_
        rintro ⟨o2, l2, p2, m1, m2⟩
        obtain ⟨m3, m4⟩ := cut_at m1
        have := h.inj o o2 l l2 b p p2 h1 m3 hA m2
        subst this; rw [hc.2] at m4; cases m4
      · rw [if_neg hc] at hx
        obtain ⟨z, l, h1, h2⟩ := h'.ob o x hx
        refine ⟨z, l, by rw [join_in hc]; exact h1, ?_⟩
        rw [hY]
        refine OR.re (fun k hk => ?_) h2
        have := objs_at hob hx
        unfold inF at this
        rw [List.all_eq_true] at this
        have := this k hk
        rw [Bool.or_eq_true, Nat.ble_eq] at this
        have e := hin k this
        exact ⟨fun hne => by rw [e]; exact hne, fun z l he => by rw [e] at he; exact he⟩
    · by_cases hc : o < H.length ∧ bit F o = false <;> by_cases hc' : o' < H.length ∧ bit F o' = false
      · rw [join_out hc] at h1; rw [join_out hc'] at h2; exact h.inj o o' l l' b p p' h1 h2 hA hA'
      · rw [join_out hc] at h1; rw [join_in hc'] at h2
        exact absurd (.inr ⟨o, l, p, h1, hA, hc.2⟩) (h'.out o' l' b p' h2 hA').1
      · rw [join_in hc] at h1; rw [join_out hc'] at h2
        exact absurd (.inr ⟨o', l', p', h2, hA', hc'.2⟩) (h'.out o l b p h1 hA).1
      · rw [join_in hc] at h1; rw [join_in hc'] at h2; exact h'.inj o o' l l' b p p' h1 h2 hA hA'
    · by_cases hc : o < H.length ∧ bit F o = false
      · rw [join_out hc] at h1
        obtain ⟨k1, k2⟩ := h.out o l b p h1 hA
        exact ⟨k1, Nat.lt_of_lt_of_le k2 ev.size⟩
      · rw [join_in hc] at h1
        obtain ⟨k1, k2⟩ := h'.out o l b p h1 hA
        exact ⟨fun hx => k1 (.inl hx), k2⟩
  · by_cases hc : k < H.length ∧ bit F k = false
    · rw [join_out hc]; exact e
    · rw [join_in hc]
      refine hfr k hk ?_
      unfold Phi.cut; rw [e]
end
end Go.Proofs.Ytelblamgfbkhbaa
