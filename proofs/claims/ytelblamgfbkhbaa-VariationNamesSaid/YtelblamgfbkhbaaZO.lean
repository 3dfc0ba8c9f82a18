/- The clean machine and the model: regions in the text's order, code, calls. The order of a drawn region is taken up in another text. No condition. -/
import Derived.Test.YtelblamgfbkhbaaZN
namespace Go.Proofs.Ytelblamgfbkhbaa
set_option linter.unusedSimpArgs false
set_option linter.unusedVariables false
open Go.RowKit
theorem flatO_ok {α β : Type} {f : α → Outs β} : ∀ {l : List α} {outs : List β}, flatO f l = some outs → ∀ a ∈ l, ∃ o, f a = some o ∧ ∀ y ∈ o, y ∈ outs
  | [], _, _, _, h => by cases h
  | x :: l, outs, h, a, ha => by
    simp only [flatO] at h
    split at h
    · rename_i o1 h1
      split at h
      · rename_i o2 h2
        simp only [Option.some.injEq] at h; subst h
        rcases List.mem_cons.1 ha with rfl | ha
        · exact ⟨o1, h1, fun y hy => List.mem_append_left _ hy⟩
        · obtain ⟨o, h3, h4⟩ := flatO_ok h2 a ha
          exact ⟨o, h3, fun y hy => List.mem_append_right _ (h4 y hy)⟩
      · cases h
    · cases h
theorem bindO_ok {α β : Type} {x : Outs α} {f : α → Outs β} {outs : List β} (h : bindO x f = some outs) : ∃ l, x = some l ∧ ∀ a ∈ l, ∃ o, f a = some o ∧ ∀ y ∈ o, y ∈ outs := by
  unfold bindO at h
  split at h
  · cases h
  · rename_i a
    exact ⟨_, rfl, fun b hb => by rw [List.mem_singleton.1 hb]; exact ⟨outs, h, fun _ hy => hy⟩⟩
  · exact ⟨_, rfl, flatO_ok h⟩

section
variable {P : Program} {C : Cfg} {w w' w'' : World} {Y Y' X : Nat → Prop} {φ φ' φ'' : Phi} {H H' H'' : Hp}
variable {nid n : Nat} {s : Tr} {a : Act} {D : List Deferred}
/-- What was free below stays free. -/
def Gr (φ : Phi) (H : Hp) (φ' : Phi) (H' : Hp) : Prop := H.length ≤ H'.length ∧ ∀ k, k < H.length → φ k = .fresh → φ' k = .fresh
theorem Gr.refl (φ : Phi) (H : Hp) : Gr φ H φ H := ⟨Nat.le_refl _, fun _ _ h => h⟩
theorem Gr.trans (h : Gr φ H φ' H') (k : Gr φ' H' φ'' H'') : Gr φ H φ'' H'' := ⟨Nat.le_trans h.1 k.1, fun i hi e => k.2 i (Nat.lt_of_lt_of_le hi h.1) (h.2 i hi e)⟩
theorem tmps_bool {t : Nat} {b : Bool} (h : a.tmps.getD t undef = .bool b) : a.tmps[t]? = some (.bool b) := by
  rw [Array.getD_eq_getD_getElem?] at h
  cases hg : a.tmps[t]? with
  | none => rw [hg] at h; simp [undef] at h
  | some v => rw [hg] at h; simp at h; rw [h]
theorem want_ok {ops : List Oper} {o : Oper} {b : Bool} (hS : SR D X n s H φ a w) (h : want ops s o.guard = some b) : Region.wanted o (yielded ops.toArray a.tmps) = b := by
  unfold want at h
  unfold Region.wanted
  split at h
  · rename_i hg
    simp only [Option.some.injEq] at h; subst h
    rw [hg]
  · rename_i j c hg
    rw [hg]
    simp only
    split at h
    · rename_i t ht
      have ht' : ((ops.toArray[j]?).bind (·.dst)) = some t := by
        unfold dstOf at ht
        rw [List.getElem?_toArray]
        split at ht
        · rename_i o' ho'; rw [ho']; exact ht
        · cases ht
      have hv := hS.slots t
      split at h
      · rename_i c' hc
        simp only [Option.some.injEq] at h; subst h
        rw [hc] at hv
        simp only [VR, PR] at hv
        have := tmps_bool hv
        simp only [yielded, ht', Option.bind_some, this]
        cases c <;> cases c' <;> rfl
      · rename_i hc
        simp only [Option.some.injEq] at h; subst h
        rw [hc] at hv
        simp only [VR] at hv
        obtain ⟨vs, hv, hvs⟩ := hv
        simp only [VRT] at hvs; subst hvs
        have : yielded ops.toArray a.tmps j = none := by
          simp only [yielded, ht', Option.bind_some]
          rw [Array.getD_eq_getD_getElem?] at hv
          cases hg2 : a.tmps[t]? with
          | none => rfl
          | some u => rw [hg2] at hv; simp at hv; subst hv; rfl
        rw [this]; cases c <;> rfl
      · cases h
    · cases h
theorem ops_ok (hC : CfgOK P C) {call : Bool → Nat → List AV → Hp → Outs (AV × Hp)} (hcall : CallOK P call) {ops : List Oper} {Q : Exit → Act → World → Prop} :
    ∀ (r : List Oper) {s : Tr} {H : Hp} {φ : Phi} {a : Act} {w : World} {outs : List (Tr × Hp)}, evOps C call n ops r (s, H) = some outs → SR D X n s H φ a w →
      (∀ st ∈ outs, ∀ φ' a' w', SR D X n st.1 st.2 φ' a' w' → Ev φ w φ' w' → Gr φ H φ' st.2 → Q .normal a' w') → wpList P ops.toArray Q r a w
  | [], s, H, φ, a, w, outs, h, hS, hQ => by
    simp only [evOps, Option.some.injEq] at h; subst h
    exact hQ _ (List.mem_singleton.2 rfl) φ a w hS (Ev.refl _ _) (Gr.refl _ _)
  | o :: r, s, H, φ, a, w, outs, h, hS, hQ => by
    simp only [evOps] at h
    unfold wpList
    split at h
    · cases h
    · rename_i hw
      rw [if_neg (by rw [want_ok hS hw]; decide)]
      exact ops_ok hC hcall r h (hS.put (Ev.refl _ _) hS.hr vr_undef o.dst) hQ
    · rename_i hw
      rw [if_pos (want_ok hS hw)]
      obtain ⟨l, hl, hall⟩ := bindO_ok h
      refine .inl (op_ok hC hcall hS.hr hS.hr.free hS.val hl fun v' w' hn => ?_)
      obtain ⟨x, hx, φ', h1, h2, h3, h4, h5⟩ := hn
      obtain ⟨o', ho', hsub⟩ := hall x hx
      refine ops_ok hC hcall r ho' (hS.put h3 h2 h1 o.dst) fun st hst φ'' a'' w'' k1 k2 k3 => hQ st (hsub st hst) φ'' a'' w'' k1 (h3.trans k2) (Gr.trans ⟨h4, fun k hk e => h5 k (by omega) hk e⟩ k3)

/-! ### code -/
def exOf : Ex → Exit
  | .norm => .normal
  | .exit i => .exit i
  | .ret => .ret
  | .pan ch => .panic ch
/-- Where a piece of code ends: in one of the outcomes. -/
def Post (D : List Deferred) (X : Nat → Prop) (n : Nat) (φ : Phi) (H : Hp) (w : World) (outs : List (Ex × Tr × Hp)) (e : Exit) (a' : Act) (w' : World) : Prop :=
  ∃ r ∈ outs, exOf r.1 = e ∧ ∃ φ', SR D X n r.2.1 r.2.2 φ' a' w' ∧ Ev φ w φ' w' ∧ Gr φ H φ' r.2.2
theorem Post.sub {l outs : List (Ex × Tr × Hp)} (hs : ∀ r ∈ l, r ∈ outs) {e : Exit} (ev : Ev φ w φ' w') (gr : Gr φ H φ' H') {a' : Act} {w2 : World} (h : Post D X n φ' H' w' l e a' w2) : Post D X n φ H w outs e a' w2 := by
  obtain ⟨r, hr, he, φ'', h1, h2, h3⟩ := h
  exact ⟨r, hs r hr, he, φ'', h1, ev.trans h2, gr.trans h3⟩
def DrawOK (P : Program) (C : Cfg) (call : Bool → Nat → List AV → Hp → Outs (AV × Hp)) : Prop :=
  ∀ D X n ops s H s' H' φ a w id, planOK ops = true → evDrawn C call n ops (s, H) = some (s', H') → SR D X n s H φ a w → (Code.region id ops.toArray true).wp P (Post D X n φ H w [(.norm, s', H')]) a w
theorem loop_ok {c : Code} {body : Tr × Hp → Outs (Ex × Tr × Hp)}
    (hb : ∀ {s : Tr} {H : Hp} {φ : Phi} {a : Act} {w : World} {outs : List (Ex × Tr × Hp)}, body (s, H) = some outs → SR D X n s H φ a w → c.wp P (Post D X n φ H w outs) a w) :
    ∀ (f : Nat) {s : Tr} {H : Hp} {φ : Phi} {a : Act} {w : World} {outs : List (Ex × Tr × Hp)}, iter body f (s, H) = some outs → SR D X n s H φ a w → ∀ {Q : Exit → Act → World → Prop}, (∀ e a' w', Post D X n φ H w outs e a' w' → Q e a' w') → Code.rounds P c Q f a w
  | 0, s, H, φ, a, w, outs, h, _, _, _ => by simp [iter] at h
  | f + 1, s, H, φ, a, w, outs, h, hS, Q, hQ => by
    simp only [iter] at h
    obtain ⟨l, hl, hall⟩ := bindO_ok h
    rw [rounds_succ]
    refine Code.wp_mono ?_ (hb hl hS)
    intro e a' w' ⟨r, hr, he, φ', h1, h2, h3⟩
    obtain ⟨o, ho, hsub⟩ := hall r hr
    split at ho
    · rename_i hn
      rw [hn] at he; subst he
      exact loop_ok hb f (s := r.2.1) (H := r.2.2) ho h1 fun e a'' w'' hp => hQ e a'' w'' (hp.sub hsub h2 h3)
    · rename_i hn
      simp only [Option.some.injEq] at ho; subst ho
      have hq : Q e a' w' := hQ e a' w' ⟨r, hsub r (by simp), he, φ', h1, h2, h3⟩
      cases e <;> first | exact hq | skip
      exfalso
      cases hr1 : r.1 <;> simp_all [exOf]
theorem code_ok (hC : CfgOK P C) {call : Bool → Nat → List AV → Hp → Outs (AV × Hp)} (hcall : CallOK P call) (hdraw : DrawOK P C call) {fuel : Nat} :
    ∀ (c : Code) {s : Tr} {H : Hp} {φ : Phi} {a : Act} {w : World} {outs : List (Ex × Tr × Hp)}, codeOK c = true → evC C call fuel n c (s, H) = some outs → SR D X n s H φ a w → c.wp P (Post D X n φ H w outs) a w
  | .skip, s, H, φ, a, w, outs, _, h, hS => by
    simp only [evC, Option.some.injEq] at h; subst h
    exact wp_skip ⟨_, List.mem_singleton.2 rfl, rfl, φ, hS, Ev.refl _ _, Gr.refl _ _⟩
  | .region id ops false, s, H, φ, a, w, outs, _, h, hS => by
    simp only [evC] at h
    obtain ⟨l, hl, hall⟩ := bindO_ok h
    refine wp_region_list (by
      have := ops_ok (Q := Post D X n φ H w outs) hC hcall ops.toList hl hS fun st hst φ' a' w' h1 h2 h3 => ?_
      · simpa using this
      · obtain ⟨o, ho, hsub⟩ := hall st hst
        simp only [Option.some.injEq] at ho; subst ho
        exact ⟨_, hsub _ (List.mem_singleton.2 rfl), rfl, φ', h1, h2, h3⟩)
  | .region id ops true, s, H, φ, a, w, outs, hk, h, hS => by
    simp only [evC] at h
    split at h
    · rename_i st hst
      simp only [Option.some.injEq] at h; subst h
      have := hdraw D X n ops.toList s H st.1 st.2 φ a w id hk hst hS
      simpa using this
    · cases h
  | .seq x y, s, H, φ, a, w, outs, hk, h, hS => by
    simp only [codeOK, Bool.and_eq_true] at hk
    simp only [evC] at h
    obtain ⟨l, hl, hall⟩ := bindO_ok h
    refine wp_seq (Code.wp_mono ?_ (code_ok hC hcall hdraw x hk.1 hl hS))
    intro e a' w' ⟨r, hr, he, φ', h1, h2, h3⟩
    obtain ⟨o, ho, hsub⟩ := hall r hr
    split at ho
    · rename_i hn
      rw [hn] at he; subst he
      exact Code.wp_mono (fun e a'' w'' hp => hp.sub hsub h2 h3) (code_ok hC hcall hdraw y (s := r.2.1) (H := r.2.2) hk.2 ho h1)
    · rename_i hn
      simp only [Option.some.injEq] at ho; subst ho
      have hq : Post D X n φ H w outs e a' w' := ⟨r, hsub r (by simp), he, φ', h1, h2, h3⟩
      cases e <;> first | exact hq | skip
      exfalso
      cases hr1 : r.1 <;> simp_all [exOf]
  | .cond c x y, s, H, φ, a, w, outs, hk, h, hS => by
    simp only [codeOK, Bool.and_eq_true] at hk
    simp only [evC] at h
    split at h
    · rename_i t ht
      have hv := hS.val c
      rw [ht] at hv
      simp only [VR, PR] at hv
      refine wp_cond hv ?_
      cases t with
      | true => simpa using code_ok hC hcall hdraw x hk.1 (by simpa using h) hS
      | false => simpa using code_ok hC hcall hdraw y hk.2 (by simpa using h) hS
    · cases h
  | .block i c, s, H, φ, a, w, outs, hk, h, hS => by
    simp only [codeOK] at hk
    simp only [evC] at h
    obtain ⟨l, hl, hall⟩ := bindO_ok h
    refine wp_block (Code.wp_mono ?_ (code_ok hC hcall hdraw c hk hl hS))
    intro e a' w' ⟨r, hr, he, φ', h1, h2, h3⟩
    obtain ⟨o, ho, hsub⟩ := hall r hr
    split at ho
    · rename_i j hj
      rw [hj] at he; subst he
      simp only [exOf, Exit.inBlock]
      rcases beq_cases j i with ⟨hb, e⟩ | ⟨hb, e⟩
      · simp only [hb, cond_true, Option.some.injEq] at ho; subst ho
        rw [if_pos e]
        exact ⟨_, hsub _ (List.mem_singleton.2 rfl), rfl, φ', h1, h2, h3⟩
      · simp only [hb, cond_false, Option.some.injEq] at ho; subst ho
        rw [if_neg e]
        exact ⟨_, hsub _ (List.mem_singleton.2 rfl), by rw [hj]; rfl, φ', h1, h2, h3⟩
    · rename_i hn
      simp only [Option.some.injEq] at ho; subst ho
      have hq : Post D X n φ H w outs e a' w' := ⟨r, hsub r (by simp), he, φ', h1, h2, h3⟩
      cases e <;> first | exact hq | skip
      exfalso
      cases hr1 : r.1 <;> simp_all [exOf]
  | .loop c, s, H, φ, a, w, outs, hk, h, hS => by
    simp only [codeOK] at hk
    simp only [evC] at h
    exact wp_loop_rounds fuel (loop_ok (fun hl hS' => code_ok hC hcall hdraw c hk hl hS') fuel h hS fun e a' w' hp => hp)
  | .exit i, s, H, φ, a, w, outs, _, h, hS => by
    simp only [evC, Option.some.injEq] at h; subst h
    exact wp_exit ⟨_, List.mem_singleton.2 rfl, rfl, φ, hS, Ev.refl _ _, Gr.refl _ _⟩
  | .ret, s, H, φ, a, w, outs, _, h, hS => by
    simp only [evC, Option.some.injEq] at h; subst h
    exact wp_ret ⟨_, List.mem_singleton.2 rfl, rfl, φ, hS, Ev.refl _ _, Gr.refl _ _⟩
  | .goto _, _, _, _, _, _, _, _, h, _ => by simp [evC] at h
  | .label _, _, _, _, _, _, _, _, h, _ => by simp [evC] at h
  | .rangeFunc .., _, _, _, _, _, _, _, h, _ => by simp [evC] at h
  | .scope .., _, _, _, _, _, _, _, h, _ => by simp [evC] at h
end
end Go.Proofs.Ytelblamgfbkhbaa
