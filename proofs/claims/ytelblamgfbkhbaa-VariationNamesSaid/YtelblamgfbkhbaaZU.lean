/- The clean machine and the model: a region whose order is drawn. No condition. -/
import Derived.Test.YtelblamgfbkhbaaZT
import Derived.Orders
namespace Go.Proofs.Ytelblamgfbkhbaa
set_option linter.unusedSimpArgs false
set_option linter.unusedVariables false
open Go.RowKit
section
variable {P : Program} {C : Cfg} {w w' : World} {X : Nat → Prop} {φ φ' : Phi} {a : Act} {D : List Deferred}
variable {H H' H1 H2 : Hp} {nid n base : Nat} {call : Bool → Nat → List AV → Hp → Outs (AV × Hp)} {ops : List Oper} {s : Tr}
theorem evDL_anti : ∀ (L : List It) {recs recs' : List (It × Fp)} {st st' : Tr × Hp}, (∀ r ∈ recs', r ∈ recs) → evDL C call n ops base L recs st = some st' → evDL C call n ops base L recs' st = some st'
  | [], _, _, _, _, _, h => h
  | x :: L, recs, recs', st, st', hs, h => by
    simp only [evDL] at h ⊢
    split at h
    · cases h
    · rename_i st1 fp hx
      cases hb : recs.all fun r => cross r x fp with
      | false => rw [hb] at h; cases h
      | true =>
        rw [hb] at h
        rw [List.all_eq_true] at hb
        have hb' : (recs'.all fun r => cross r x fp) = true := by
          rw [List.all_eq_true]; exact fun r hr => hb r (hs r hr)
        rw [hb']
        exact evDL_anti L (fun r hr => by
          rcases List.mem_cons.1 hr with rfl | hr
          · exact List.mem_cons_self
          · exact List.mem_cons_of_mem _ (hs r hr)) h
theorem disj_symm {a b : List Nat} (h : disj a b = true) : disj b a = true := by
  unfold disj at *
  rw [List.all_eq_true]
  intro x hx
  rw [List.all_eq_true]
  intro y hy
  rw [List.all_eq_true] at h
  have := h y hy
  rw [List.all_eq_true] at this
  have := this x hx
  rcases beq_cases x y with ⟨h1, e⟩ | ⟨h1, e⟩
  · subst e; simp at this
  · rw [h1]; rfl
theorem okF_symm {f g : Fp} (h : okF f g = true) : okF g f = true := by
  cases f with
  | rd R => cases g with
    | rd R' => rfl
    | wr Z W => exact h
    | sh F m => exact h
    | all => cases R <;> first | rfl | cases h
  | wr Z W => cases g with
    | rd R => exact h
    | wr Z' W' => exact disj_symm h
    | sh F m => exact h
    | all => cases h
  | sh F m => cases g with
    | rd R => exact h
    | wr Z W => exact h
    | sh _ _ => cases h
    | all => cases h
  | all => cases g with
    | rd R => cases R <;> first | rfl | cases h
    | wr _ _ => cases h
    | sh _ _ => cases h
    | all => cases h
theorem okP_symm {a b : Oper} (h : okP a b = true) : okP b a = true := by
  unfold okP at h
  split at h
  · rename_i ga gb
    split at h
    · rename_i oa ob
      unfold okP; simp only [ga, gb, oa, ob]; exact h
    · rename_i oa ob
      unfold okP; simp only [ga, gb, oa, ob]; exact h
    · cases h
  · cases h
theorem stepD_len (hx : ∀ k, C.ext k = none) {x : It} {st1 : Tr × Hp} {fp : Fp} (h : stepD C call n ops base x (s, H) = some (st1, fp)) (hn : base + x.nid < H.length) : H.length ≤ st1.2.length := by
  rw [stepD_eq] at h
  obtain ⟨⟨v, H1⟩, e1, e2⟩ := Option.map_eq_some_iff.1 h
  simp only [Prod.mk.injEq] at e2; obtain ⟨rfl, rfl⟩ := e2
  cases hf : ftD C ops base x s H with
  | rd R => rw [(act_rd hf _ _ e1).1]; exact Nat.le_refl _
  | wr Z W => rw [(act_wr hx hn hf _ _ e1).1]; exact Nat.le_refl _
  | sh F m =>
    obtain ⟨k0, k1, _⟩ := (act_sh hx hf).1 _ _ e1
    rw [k0]; exact k1
  | all =>
    unfold ftD at hf
    unfold actD at e1
    cases hw : want ops s x.o.guard with
    | none => rw [hw] at e1; cases e1
    | some b => cases b with
      | false => rw [hw] at hf; cases hf
      | true =>
        rw [hw] at hf e1
        simp only at hf e1
        split at e1
        · rename_i r hr
          rw [hf] at e1
          simp only [okLen] at e1
          cases hb : Nat.ble H.length r.2.length with
          | false => rw [hb] at e1; cases e1
          | true => rw [hb] at e1; simp only [cond_true, Option.some.injEq] at e1; subst e1; simpa using hb
        · cases e1
theorem bubble (hx : ∀ k, C.ext k = none) {x : It} {L2 : List It} : ∀ (L1 : List It) {recs : List (It × Fp)} {s : Tr} {H : Hp} {st' : Tr × Hp}, evDL C call n ops base (L1 ++ x :: L2) recs (s, H) = some st' →
    (∀ y ∈ L1, bit x.anc y.i = false ∧ Oper.apart ops.toArray y.o x.o = true) → (∀ y ∈ L1, base + y.nid < H.length) → base + x.nid < H.length →
    ∃ st1 fp, stepD C call n ops base x (s, H) = some (st1, fp) ∧ (∀ r ∈ recs, cross r x fp = true) ∧ evDL C call n ops base (L1 ++ L2) ((x, fp) :: recs) st1 = some st'
  | [], recs, s, H, st', h, _, _, _ => by
    simp only [List.nil_append, evDL] at h ⊢
    split at h
    · cases h
    · rename_i st1 fp hs
      cases hb : recs.all fun r => cross r x fp with
      | false => rw [hb] at h; cases h
      | true => rw [hb] at h; exact ⟨st1, fp, hs, List.all_eq_true.1 hb, h⟩
  | y :: L1, recs, s, H, st', h, hL, hn, hnx => by
    simp only [List.cons_append, evDL] at h ⊢
    split at h
    · cases h
    · rename_i st1 fy hs
      cases hb : recs.all fun r => cross r y fy with
      | false => rw [hb] at h; cases h
      | true =>
        rw [hb] at h
        simp only [cond_true] at h
        have hlen := stepD_len hx hs (hn y (by simp))
        obtain ⟨stx, fx, k1, k2, k3⟩ := bubble hx L1 (s := st1.1) (H := st1.2) h (fun z hz => hL z (List.mem_cons_of_mem _ hz)) (fun z hz => Nat.lt_of_lt_of_le (hn z (List.mem_cons_of_mem _ hz)) hlen) (Nat.lt_of_lt_of_le hnx hlen)
        have hok : (okP y.o x.o || okF fy fx) = true := by
          have := k2 (y, fy) (by simp)
          unfold cross at this
          rw [(hL y (by simp)).1] at this; simpa using this
        obtain ⟨st1', m1, m2⟩ := swapD hx (hL y (by simp)).2 hs k1 hok (hn y (by simp)) hnx
        refine ⟨st1', fx, m1, fun r hr => k2 r (List.mem_cons_of_mem _ hr), ?_⟩
        rw [m2]
        have : (((x, fx) :: recs).all fun r => cross r y fy) = true := by
          have hs : (okP x.o y.o || okF fx fy) = true := by
            rcases Bool.or_eq_true _ _ ▸ hok with h | h
            · rw [okP_symm h]; rfl
            · rw [okF_symm h]; simp
          rw [List.all_cons, hb]; unfold cross; rw [hs]; simp
        simp only [this, cond_true]
        exact evDL_anti _ (fun r hr => by
          rcases List.mem_cons.1 hr with rfl | hr
          · exact List.mem_cons_of_mem _ List.mem_cons_self
          · rcases List.mem_cons.1 hr with rfl | hr
            · exact List.mem_cons_self
            · exact List.mem_cons_of_mem _ (List.mem_cons_of_mem _ hr)) k3
/-! ### the orders -/
theorem bit_sub {a b : Nat} (h : Nat.beq (Nat.land a b) a = true) {j : Nat} (hj : bit a j = true) : bit b j = true := by
  have e : Nat.land a b = a := Nat.eq_of_beq_eq_true h
  rw [bit_eq] at *
  have : Nat.testBit (a &&& b) j = Nat.testBit a j := congrArg (Nat.testBit · j) e
  rw [Nat.testBit_and, hj] at this
  simpa using this
theorem binds_eq (e : Edge) : Region.binds .any e = bindsAny e := by
  unfold Region.binds bindsAny; cases e.ground <;> rfl
theorem needL_bit (j : Nat) : ∀ l : List Edge, bit (needL l) j = true ↔ ∃ e ∈ l, bindsAny e = true ∧ e.on = j
  | [] => by simp [needL, bit_eq]
  | e :: r => by
    have ih := needL_bit j r
    simp only [needL]
    cases hb : bindsAny e with
    | false =>
      simp only [cond_false, ih]
      constructor
      · rintro ⟨x, hx, h⟩; exact ⟨x, List.mem_cons_of_mem _ hx, h⟩
      · rintro ⟨x, hx, h1, h2⟩
        rcases List.mem_cons.1 hx with rfl | hx
        · rw [hb] at h1; cases h1
        · exact ⟨x, hx, h1, h2⟩
    | true =>
      simp only [cond_true, bit_orBit, Bool.or_eq_true, ih, decide_eq_true_eq]
      constructor
      · rintro (⟨x, hx, h⟩ | h)
        · exact ⟨x, List.mem_cons_of_mem _ hx, h⟩
        · exact ⟨e, by simp, hb, h⟩
      · rintro ⟨x, hx, h1, h2⟩
        rcases List.mem_cons.1 hx with rfl | hx
        · exact .inr h2
        · exact .inl ⟨x, hx, h1, h2⟩
/-- What was free below the reserved numbers stays free. -/
def Gr2 (base : Nat) (φ : Phi) (H : Hp) (φ' : Phi) (H' : Hp) : Prop := H.length ≤ H'.length ∧ ∀ k, k < base → φ k = .fresh → φ' k = .fresh
theorem Gr2.refl (base : Nat) (φ : Phi) (H : Hp) : Gr2 base φ H φ H := ⟨Nat.le_refl _, fun _ _ h => h⟩
theorem Gr2.trans {φ'' : Phi} {H'' : Hp} (h : Gr2 base φ H φ' H') (k : Gr2 base φ' H' φ'' H'') : Gr2 base φ H φ'' H'' := ⟨Nat.le_trans h.1 k.1, fun i hi e => k.2 i hi (h.2 i hi e)⟩
def Rel (ops : List Oper) (y x : It) : Prop := (bit x.anc y.i = true ∨ Oper.apart ops.toArray y.o x.o = true) ∧ y.i ≠ x.i ∧ (creates y.o.op = true → y.nid < x.nid)
/-- Where a drawn region stands: what is listed, what is left. -/
structure Inv (ops : List Oper) (L0 : List It) (listed : Array Bool) (L : List It) : Prop where
  unl : ∀ j, (∃ z ∈ L, z.i = j) ↔ listed.getD j true = false
  siz : listed.size = ops.length
  sub : ∀ z ∈ L, z ∈ L0
  op : ∀ z ∈ L0, ops[z.i]? = some z.o ∧ z.need = needL z.o.after.toList
  pw : L.Pairwise (Rel ops)
  head : ∀ L1 x L2, L = L1 ++ x :: L2 → ∀ j, bit x.need j = true → listed.getD j false = true ∨ ∃ y ∈ L1, y.i = j
  anc : ∀ x ∈ L0, ∀ j, bit x.anc j = true → bit x.need j = true ∨ ∃ y ∈ L0, bit x.need y.i = true ∧ bit y.anc j = true
  uniq : ∀ x ∈ L0, ∀ y ∈ L0, x.i = y.i → x = y
  closed : ∀ y ∈ L0, listed.getD y.i false = true → ∀ j, bit y.anc j = true → listed.getD j false = true
theorem getD_tf {listed : Array Bool} {j : Nat} (h : listed.getD j false = true) : listed.getD j true = true := by
  simp only [Array.getD_eq_getD_getElem?] at *
  cases hg : listed[j]? with
  | none => rfl
  | some b => rw [hg] at h; exact h
theorem Inv.ancs {L0 L : List It} {listed : Array Bool} {x : It} (h : Inv ops L0 listed L) (hx : x ∈ L0) (hr : ∀ j, bit x.need j = true → listed.getD j false = true) (j : Nat) (hj : bit x.anc j = true) : listed.getD j false = true := by
  rcases h.anc x hx j hj with h1 | ⟨y, hy, h1, h2⟩
  · exact hr j h1
  · exact h.closed y hy (hr y.i h1) j h2
theorem Inv.next {L0 : List It} {listed : Array Bool} {L1 L2 : List It} {x : It} (h : Inv ops L0 listed (L1 ++ x :: L2)) (hr : ∀ j, bit x.need j = true → listed.getD j false = true) : Inv ops L0 (listed.setIfInBounds x.i true) (L1 ++ L2) := by
  have hpw := h.pw
  rw [List.pairwise_append, List.pairwise_cons] at hpw
  obtain ⟨p1, ⟨p2, p3⟩, p4⟩ := hpw
  have hlt : x.i < listed.size := by
    rw [h.siz]
    have := (h.op x (h.sub x (by simp))).1
    exact (List.getElem?_eq_some_iff.1 this).1
  have self : (listed.setIfInBounds x.i true).getD x.i false = true := by simp [Array.getD, hlt]
  refine ⟨fun j => ?_, by simp [h.siz], fun z hz => h.sub z ?_, h.op, ?_, fun M1 z M2 hM j hj => ?_, h.anc, h.uniq, fun y hy hyl j hj => ?_⟩
  · by_cases e : x.i = j
    · subst e
      have : (listed.setIfInBounds x.i true).getD x.i true = true := by simp [Array.getD, hlt]
      rw [this]
      constructor
      · rintro ⟨z, hz, he⟩
        rcases List.mem_append.1 hz with hz | hz
        · exact absurd he (p4 z hz x (by simp)).2.1
        · exact absurd he.symm (p2 z hz).2.1
      · intro hc; cases hc
    · rw [getD_set_ne true e, ← h.unl j]
      constructor
      · rintro ⟨z, hz, he⟩
        exact ⟨z, by rcases List.mem_append.1 hz with hz | hz <;> simp [hz], he⟩
      · rintro ⟨z, hz, he⟩
        rcases List.mem_append.1 hz with hz | hz
        · exact ⟨z, by simp [hz], he⟩
        · rcases List.mem_cons.1 hz with rfl | hz
          · exact absurd he e
          · exact ⟨z, by simp [hz], he⟩
  · rcases List.mem_append.1 hz with hz | hz <;> simp [hz]
  · rw [List.pairwise_append]
    exact ⟨p1, p3, fun a ha b hb => p4 a ha b (List.mem_cons_of_mem _ hb)⟩
  · rcases List.append_eq_append_iff.1 hM with ⟨K, h1, h2⟩ | ⟨K, h1, h2⟩
    · -- M1 = L1 ++ K, L2 = K ++ z :: M2
      have := h.head (L1 ++ x :: K) z M2 (by rw [h2]; simp) j hj
      rcases this with h3 | ⟨y, hy, he⟩
      · exact .inl (getD_set_true h3)
      · rcases List.mem_append.1 hy with hy | hy
        · exact .inr ⟨y, by rw [h1]; simp [hy], he⟩
        · rcases List.mem_cons.1 hy with rfl | hy
          · left; rw [← he]; exact self
          · exact .inr ⟨y, by rw [h1]; simp [hy], he⟩
    · cases K with
      | nil =>
        simp at h2
        have := h.head (L1 ++ [x]) z M2 (by rw [← h2]; simp) j hj
        rcases this with h3 | ⟨y, hy, he⟩
        · exact .inl (getD_set_true h3)
        · rcases List.mem_append.1 hy with hy | hy
          · exact .inr ⟨y, by simp at h1; rw [← h1]; exact hy, he⟩
          · simp at hy; subst hy; left; rw [← he]; exact self
      | cons z' K =>
        simp only [List.cons_append, List.cons.injEq] at h2
        obtain ⟨rfl, h2⟩ := h2
        have := h.head M1 z (K ++ x :: L2) (by rw [h1]; simp) j hj
        rcases this with h3 | h3
        · exact .inl (getD_set_true h3)
        · exact .inr h3
  · by_cases e : x.i = y.i
    · -- y has x's place: its ancestors are listed
      have hx0 := h.sub x (by simp)
      have := h.uniq x hx0 y hy e
      subst this
      exact getD_set_true (h.ancs hx0 hr j hj)
    · rw [getD_set_ne false e] at hyl
      exact getD_set_true (h.closed y hy hyl j hj)
theorem ready_iff {L0 L : List It} {listed : Array Bool} (h : Inv ops L0 listed L) {i : Nat} (hi : i ∈ Region.ready .any ops.toArray listed) : ∃ x ∈ L, x.i = i ∧ ∀ j, bit x.need j = true → listed.getD j false = true := by
  obtain ⟨h0, o, ho, hall⟩ := mem_ready.1 hi
  obtain ⟨x, hx, rfl⟩ := (h.unl i).2 h0
  refine ⟨x, hx, rfl, fun j hj => ?_⟩
  obtain ⟨h1, h2⟩ := h.op x (h.sub x hx)
  rw [List.getElem?_toArray, h1] at ho
  cases ho
  rw [h2, needL_bit] at hj
  obtain ⟨e, he, hb, rfl⟩ := hj
  exact hall e (by simpa using he) (by rw [binds_eq]; exact hb)
theorem ready_of {L0 L : List It} {listed : Array Bool} (h : Inv ops L0 listed L) {x : It} (hx : x ∈ L) (hr : ∀ j, bit x.need j = true → listed.getD j false = true) : x.i ∈ Region.ready .any ops.toArray listed := by
  obtain ⟨h1, h2⟩ := h.op x (h.sub x hx)
  refine mem_ready.2 ⟨(h.unl x.i).1 ⟨x, hx, rfl⟩, x.o, by rw [List.getElem?_toArray]; exact h1, fun e he hb => hr e.on ?_⟩
  rw [h2, needL_bit]
  exact ⟨e, by simpa using he, by rw [← binds_eq]; exact hb, rfl⟩
theorem builtin_nid {b : Builtin} {ts : List Nat} {args : List AV} (hb : b ≠ .append) (k : Nat) : evBuiltin C nid H b ts args = evBuiltin C k H b ts args := by
  unfold evBuiltin
  cases b <;> first
    | rfl
    | (exact absurd rfl hb)
    | (rcases ts with _ | ⟨t, _ | ⟨u, _ | ⟨v, r⟩⟩⟩ <;> rcases args with _ | ⟨x, _ | ⟨y, _ | ⟨z, r'⟩⟩⟩ <;> rfl)
theorem nid_free {ρ : Operand → AV} {op : Op} (h : creates op = false) (k : Nat) : evOp C call nid ρ H op = evOp C call k ρ H op := by
  unfold evOp
  · skip
    cases op with
    | call c =>
      obtain ⟨callee, args, ts⟩ := c
      cases callee with
      | builtin b =>
        have hb : b ≠ .append := fun e => by subst e; simp [creates] at h
        simp only [evPure, builtin_nid hb (nid := nid) k]
      | _ => rfl
    | makeFunc fn first cs => cases fn <;> rfl
    | next x b => cases b <;> rfl
    | makeMap t r => simp [creates] at h
    | range t x => simp [creates] at h
    | _ => first | rfl | (simp [creates] at h; done)
theorem any_ok (hC : CfgOK P C) (hcall : CallOK P call) {L0 : List It} {st' : Tr × Hp} {Q : Exit → Act → World → Prop} :
    ∀ (m : Nat) {L : List It} {recs : List (It × Fp)} {s : Tr} {H : Hp} {φ : Phi} {a : Act} {w : World} {listed : Array Bool}, L.length = m → Inv ops L0 listed L → evDL C call n ops base L recs (s, H) = some st' → SR D X n s H φ a w →
      (∀ z ∈ L, base + z.nid < H.length) → (∀ z ∈ L, creates z.o.op = true → φ (base + z.nid) = .fresh) →
      (∀ φ' a' w', SR D X n st'.1 st'.2 φ' a' w' → Ev φ w φ' w' → Gr2 base φ H φ' st'.2 → Q .normal a' w') → wpAny P .any ops.toArray Q m listed a w
  | 0, L, recs, s, H, φ, a, w, listed, hm, hI, h, hS, hn, hf, hQ => by
    have : L = [] := List.length_eq_zero_iff.1 hm
    subst this
    simp only [evDL, Option.some.injEq] at h; subst h
    refine ⟨?_, hQ φ a w hS (Ev.refl _ _) (Gr2.refl _ _ _)⟩
    rw [List.eq_nil_iff_forall_not_mem]
    intro i hi
    obtain ⟨x, hx, _⟩ := ready_iff hI hi
    cases hx
  | m + 1, L, recs, s, H, φ, a, w, listed, hm, hI, h, hS, hn, hf, hQ => by
    refine ⟨fun hr0 => ?_, fun i hi => ?_⟩
    · cases L with
      | nil => simp at hm
      | cons x L =>
        have := ready_of hI (x := x) (by simp) (fun j hj => by
          rcases hI.head [] x L rfl j hj with h1 | ⟨y, hy, _⟩
          · exact h1
          · cases hy)
        rw [hr0] at this; cases this
    · obtain ⟨x, hx, rfl, hrx⟩ := ready_iff hI hi
      obtain ⟨L1, L2, rfl⟩ := List.append_of_mem hx
      have hpw := hI.pw
      rw [List.pairwise_append] at hpw
      have hx0 := hI.sub x hx
      have hL1 : ∀ y ∈ L1, bit x.anc y.i = false ∧ Oper.apart ops.toArray y.o x.o = true := by
        intro y hy
        have hb : bit x.anc y.i = false := by
          cases hb : bit x.anc y.i with
          | false => rfl
          | true =>
            have h1 := getD_tf (hI.ancs hx0 hrx y.i hb)
            rw [(hI.unl y.i).1 ⟨y, by simp [hy], rfl⟩] at h1; cases h1
        refine ⟨hb, ?_⟩
        rcases (hpw.2.2 y hy x (by simp)).1 with h1 | h1
        · rw [hb] at h1; cases h1
        · exact h1
      obtain ⟨st1, fp, k1, k2, k3⟩ := bubble hC.noext L1 h hL1 (fun y hy => hn y (by simp [hy])) (hn x (by simp))
      have hlen := stepD_len hC.noext k1 (hn x (by simp))
      have hI' := hI.next hrx
      have hm' : (L1 ++ L2).length = m := by simp at hm ⊢; omega
      have hmem : ∀ z ∈ L1 ++ L2, z ∈ L1 ++ x :: L2 := fun z hz => by rcases List.mem_append.1 hz with hz | hz <;> simp [hz]
      obtain ⟨hop, _⟩ := hI.op x hx0
      -- what follows
      have cont : ∀ {s1 : Tr} {H1 : Hp} {φ' : Phi} {a' : Act} {w' : World}, st1 = (s1, H1) → SR D X n s1 H1 φ' a' w' → Ev φ w φ' w' → (∀ k, k < H.length → (creates x.o.op = true → k ≠ base + x.nid) → φ k = .fresh → φ' k = .fresh) → wpAny P .any ops.toArray Q m (listed.setIfInBounds x.i true) a' w' := by
        intro s1 H1 φ' a' w' he hS' ev hfr
        subst he
        refine any_ok hC hcall m hm' hI' k3 hS' (fun z hz => Nat.lt_of_lt_of_le (hn z (hmem z hz)) hlen) (fun z hz hc => ?_) (fun φ'' a'' w'' r1 r2 r3 => hQ φ'' a'' w'' r1 (ev.trans r2) ?_)
        · refine hfr _ (hn z (hmem z hz)) (fun hcx => ?_) (hf z (hmem z hz) hc)
          rcases List.mem_append.1 hz with hz | hz
          · have := (hpw.2.2 z hz x (by simp)).2.2 hc; omega
          · have h2 := hpw.2.1
            rw [List.pairwise_cons] at h2
            have := (h2.1 z hz).2.2 hcx; omega
        · exact Gr2.trans ⟨hlen, fun k hk e => hfr k (by have := hn x (by simp); omega) (fun _ => by omega) e⟩ r3
      unfold wpOp
      rw [List.getElem?_toArray, hop]
      simp only
      rw [stepD_eq] at k1
      obtain ⟨⟨v, H1⟩, e1, e2⟩ := Option.map_eq_some_iff.1 k1
      simp only [Prod.mk.injEq] at e2; obtain ⟨e2, e3⟩ := e2
      unfold actD at e1
      cases hw : want ops s x.o.guard with
      | none => rw [hw] at e1; cases e1
      | some b => cases b with
        | false =>
          rw [hw] at e1; simp only [Option.some.injEq, Prod.mk.injEq] at e1; obtain ⟨rfl, rfl⟩ := e1
          rw [if_neg (by rw [want_ok hS hw]; decide)]
          exact cont e2.symm (hS.put (Ev.refl _ _) hS.hr vr_undef x.o.dst) (Ev.refl _ _) (fun _ _ _ h => h)
        | true =>
          rw [hw] at e1; simp only at e1
          rw [if_pos (want_ok hS hw)]
          split at e1
          · rename_i r hr
            have hrv : r = (v, H1) := by
              revert e1
              cases okLen H r.2 (foot C (base + x.nid) (val s) H x.o.op) <;> intro e1
              · cases e1
              · simpa using e1
            subst hrv
            have hev : evOp C call (base + x.nid) (val s) H x.o.op = some [(v, H1)] := by
              unfold evOne at hr
              split at hr
              · rename_i r' h'; simp only [Option.some.injEq] at hr; rw [h', hr]
              · cases hr
            left
            cases hcx : creates x.o.op with
            | true =>
              refine op_ok hC hcall hS.hr ⟨hf x (by simp) hcx, Nat.le_of_lt (hn x (by simp))⟩ hS.val hev fun v' w' hnx => ?_
              obtain ⟨r, hmr, φ', h1, h2, h3, h4, h5⟩ := hnx
              rw [List.mem_singleton] at hmr; subst hmr
              exact cont e2.symm (hS.put h3 h2 h1 x.o.dst) h3 (fun k hk hne e => h5 k (hne hcx) hk e)
            | false =>
              refine op_ok hC hcall hS.hr hS.hr.free hS.val ((nid_free hcx H.length).symm.trans hev) fun v' w' hnx => ?_
              obtain ⟨r, hmr, φ', h1, h2, h3, h4, h5⟩ := hnx
              rw [List.mem_singleton] at hmr; subst hmr
              exact cont e2.symm (hS.put h3 h2 h1 x.o.dst) h3 (fun k hk _ e => h5 k (by omega) hk e)
          · cases e1
end
end Go.Proofs.Ytelblamgfbkhbaa
