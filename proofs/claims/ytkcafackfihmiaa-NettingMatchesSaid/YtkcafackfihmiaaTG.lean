/- Several texts in one. No condition. -/
import Derived.Test.YtkcafackfihmiaaZT
import Derived.Orders
namespace Go.Proofs.Ytkcafackfihmiaa
set_option linter.unusedSimpArgs false
set_option linter.unusedVariables false
open Go.RowKit
section
variable {P : Program} {C : Cfg} {w w' : World} {X : Nat → Prop} {φ φ' : Phi} {a : Act} {D : List Deferred}
variable {H H' H1 H2 : Hp} {nid n base : Nat} {call : Bool → Nat → List AV → Hp → Outs (AV × Hp)} {ops : List Oper} {s : Tr}
theorem evDL_anti : ∀ (L : List It) {recs recs' : List (It × Fp)} {st st' : Tr × Hp}, (∀ r ∈ recs', r ∈ recs) → evDL C call n ops base L recs st = some st' → evDL C call n ops base L recs' st = some st'
  | [], _, _, _, _, _, h => h
  | x :: L, recs, recs', st, st', hs, h => by
    simp only [evDL] at h ⊢
    split at h
    · cases h
    · rename_i st1 fp hx
      cases hb : recs.all fun r => cross r x fp with
      | false => rw [hb] at h; cases h
      | true =>
        rw [hb] at h
        rw [List.all_eq_true] at hb
        have hb' : (recs'.all fun r => cross r x fp) = true := by
          rw [List.all_eq_true]; exact fun r hr => hb r (hs r hr)
        rw [hb']
        exact evDL_anti L (fun r hr => by
          rcases List.mem_cons.1 hr with rfl | hr
          · exact List.mem_cons_self
          · exact List.mem_cons_of_mem _ (hs r hr)) h
theorem disj_symm {a b : List Nat} (h : disj a b = true) : disj b a = true := by
  unfold disj at *
  rw [List.all_eq_true]
  intro x hx
  rw [List.all_eq_true]
  intro y hy
  rw [List.all_eq_true] at h
  have := h y hy
  rw [List.all_eq_true] at this
  have := this x hx
  rcases beq_cases x y with ⟨h1, e⟩ | ⟨h1, e⟩
  · subst e; simp at this
  · rw [h1]; rfl
theorem okF_symm {f g : Fp} (h : okF f g = true) : okF g f = true := by
  cases f with
  | rd R => cases g with
    | rd R' => rfl
    | wr Z W => exact h
    | sh F m => exact h
    | all => cases R <;> first | rfl | cases h
  | wr Z W => cases g with
    | rd R => exact h
    | wr Z' W' => exact disj_symm h
    | sh F m => exact h
    | all => cases h
  | sh F m => cases g with
    | rd R => exact h
    | wr Z W => exact h
    | sh _ _ => cases h
    | all => cases h
  | all => cases g with
    | rd R => cases R <;> first | rfl | cases h
    | wr _ _ => cases h
    | sh _ _ => cases h
    | all => cases h
theorem okP_symm {a b : Oper} (h : okP a b = true) : okP b a = true := by
  unfold okP at h
  split at h
  · rename_i ga gb
    split at h
    · rename_i oa ob
      unfold okP; simp only [ga, gb, oa, ob]; exact h
    · rename_i oa ob
      unfold okP; simp only [ga, gb, oa, ob]; exact h
    · cases h
  · cases h
theorem stepD_len (hx : ∀ k, C.ext k = none) {x : It} {st1 : Tr × Hp} {fp : Fp} (h : stepD C call n ops base x (s, H) = some (st1, fp)) (hn : base + x.nid < H.length) : H.length ≤ st1.2.length := by
  rw [stepD_eq] at h
  obtain ⟨⟨v, H1⟩, e1, e2⟩ := Option.map_eq_some_iff.1 h
  simp only [Prod.mk.injEq] at e2; obtain ⟨rfl, rfl⟩ := e2
  cases hf : ftD C ops base x s H with
  | rd R => rw [(act_rd hf _ _ e1).1]; exact Nat.le_refl _
  | wr Z W => rw [(act_wr hx hn hf _ _ e1).1]; exact Nat.le_refl _
  | sh F m =>
    obtain ⟨k0, k1, _⟩ := (act_sh hx hf).1 _ _ e1
    rw [k0]; exact k1
  | all =>
    unfold ftD at hf
    unfold actD at e1
    cases hw : want ops s x.o.guard with
    | none => rw [hw] at e1; cases e1
    | some b => cases b with
      | false => rw [hw] at hf; cases hf
      | true =>
        rw [hw] at hf e1
        simp only at hf e1
        split at e1
        · rename_i r hr
          rw [hf] at e1
          simp only [okLen] at e1
          cases hb : Nat.ble H.length r.2.length with
          | false => rw [hb] at e1; cases e1
          | true => rw [hb] at e1; simp only [cond_true, Option.some.injEq] at e1; subst e1; simpa using hb
        · cases e1
theorem bubble (hx : ∀ k, C.ext k = none) {x : It} {L2 : List It} : ∀ (L1 : List It) {recs : List (It × Fp)} {s : Tr} {H : Hp} {st' : Tr × Hp}, evDL C call n ops base (L1 ++ x :: L2) recs (s, H) = some st' →
    (∀ y ∈ L1, bit x.anc y.i = false ∧ Oper.apart ops.toArray y.o x.o = true) → (∀ y ∈ L1, base + y.nid < H.length) → base + x.nid < H.length →
    ∃ st1 fp, stepD C call n ops base x (s, H) = some (st1, fp) ∧ (∀ r ∈ recs, cross r x fp = true) ∧ evDL C call n ops base (L1 ++ L2) ((x, fp) :: recs) st1 = some st'
  | [], recs, s, H, st', h, _, _, _ => by
    simp only [List.nil_append, evDL] at h ⊢
    split at h
    · cases h
    · rename_i st1 fp hs
      cases hb : recs.all fun r => cross r x fp with
      | false => rw [hb] at h; cases h
      | true => rw [hb] at h; exact ⟨st1, fp, hs, List.all_eq_true.1 hb, h⟩
  | y :: L1, recs, s, H, st', h, hL, hn, hnx => by
    simp only [List.cons_append, evDL] at h ⊢
    split at h
    · cases h
    · rename_i st1 fy hs
      cases hb : recs.all fun r => cross r y fy with
      | false => rw [hb] at h; cases h
      | true =>
        rw [hb] at h
        simp only [cond_true] at h
        have hlen := stepD_len hx hs (hn y (by simp))
        obtain ⟨stx, fx, k1, k2, k3⟩ := bubble hx L1 (s := st1.1) (H := st1.2) h (fun z hz => hL z (List.mem_cons_of_mem _ hz)) (fun z hz => Nat.lt_of_lt_of_le (hn z (List.mem_cons_of_mem _ hz)) hlen) (Nat.lt_of_lt_of_le hnx hlen)
        have hok : (okP y.o x.o || okF fy fx) = true := by
          have := k2 (y, fy) (by simp)
          unfold cross at this
          rw [(hL y (by simp)).1] at this; simpa using this
        obtain ⟨st1', m1, m2⟩ := swapD hx (hL y (by simp)).2 hs k1 hok (hn y (by simp)) hnx
        refine ⟨st1', fx, m1, fun r hr => k2 r (List.mem_cons_of_mem _ hr), ?_⟩
        rw [m2]
        have : (((x, fx) :: recs).all fun r => cross r y fy) = true := by
          have hs : (okP x.o y.o || okF fx fy) = true := by
            rcases Bool.or_eq_true _ _ ▸ hok with h | h
            · rw [okP_symm h]; rfl
            · rw [okF_symm h]; simp
          rw [List.all_cons, hb]; unfold cross; rw [hs]; simp
        simp only [this, cond_true]
        exact evDL_anti _ (fun r hr => by
          rcases List.mem_cons.1 hr with rfl | hr
          · exact List.mem_cons_of_mem _ List.mem_cons_self
          · rcases List.mem_cons.1 hr with rfl | hr
            · exact List.mem_cons_self
            · exact List.mem_cons_of_mem _ (List.mem_cons_of_mem _ hr)) k3

theorem bit_sub {a b : Nat} (h : Nat.beq (Nat.land a b) a = true) {j : Nat} (hj : bit a j = true) : bit b j = true := by
  have e : Nat.land a b = a := Nat.eq_of_beq_eq_true h
  rw [bit_eq] at *
  have : Nat.testBit (a &&& b) j = Nat.testBit a j := congrArg (Nat.testBit · j) e
  rw [Nat.testBit_and, hj] at this
  simpa using this
theorem binds_eq (e : Edge) : Region.binds .any e = bindsAny e := by
  unfold Region.binds bindsAny; cases e.ground <;> rfl
theorem needL_bit (j : Nat) : ∀ l : List Edge, bit (needL l) j = true ↔ ∃ e ∈ l, bindsAny e = true ∧ e.on = j
  | [] => by simp [needL, bit_eq]
  | e :: r => by
    have ih := needL_bit j r
    simp only [needL]
    cases hb : bindsAny e with
    | false =>
      simp only [cond_false, ih]
      constructor
      · rintro ⟨x, hx, h⟩; exact ⟨x, List.mem_cons_of_mem _ hx, h⟩
      · rintro ⟨x, hx, h1, h2⟩
        rcases List.mem_cons.1 hx with rfl | hx
        · rw [hb] at h1; cases h1
        · exact ⟨x, hx, h1, h2⟩
    | true =>
      simp only [cond_true, bit_orBit, Bool.or_eq_true, ih, decide_eq_true_eq]
      constructor
      · rintro (⟨x, hx, h⟩ | h)
        · exact ⟨x, List.mem_cons_of_mem _ hx, h⟩
        · exact ⟨e, by simp, hb, h⟩
      · rintro ⟨x, hx, h1, h2⟩
        rcases List.mem_cons.1 hx with rfl | hx
        · exact .inr h2
        · exact .inl ⟨x, hx, h1, h2⟩
def Gr2 (base : Nat) (φ : Phi) (H : Hp) (φ' : Phi) (H' : Hp) : Prop := H.length ≤ H'.length ∧ ∀ k, k < base → φ k = .fresh → φ' k = .fresh
theorem Gr2.refl (base : Nat) (φ : Phi) (H : Hp) : Gr2 base φ H φ H := ⟨Nat.le_refl _, fun _ _ h => h⟩
theorem Gr2.trans {φ'' : Phi} {H'' : Hp} (h : Gr2 base φ H φ' H') (k : Gr2 base φ' H' φ'' H'') : Gr2 base φ H φ'' H'' := ⟨Nat.le_trans h.1 k.1, fun i hi e => k.2 i hi (h.2 i hi e)⟩
def Rel (ops : List Oper) (y x : It) : Prop := (bit x.anc y.i = true ∨ Oper.apart ops.toArray y.o x.o = true) ∧ y.i ≠ x.i ∧ (creates y.o.op = true → y.nid < x.nid)
structure Inv (ops : List Oper) (L0 : List It) (listed : Array Bool) (L : List It) : Prop where
  unl : ∀ j, (∃ z ∈ L, z.i = j) ↔ listed.getD j true = false
  siz : listed.size = ops.length
  sub : ∀ z ∈ L, z ∈ L0
  op : ∀ z ∈ L0, ops[z.i]? = some z.o ∧ z.need = needL z.o.after.toList
  pw : L.Pairwise (Rel ops)
  head : ∀ L1 x L2, L = L1 ++ x :: L2 → ∀ j, bit x.need j = true → listed.getD j false = true ∨ ∃ y ∈ L1, y.i = j
  anc : ∀ x ∈ L0, ∀ j, bit x.anc j = true → bit x.need j = true ∨ ∃ y ∈ L0, bit x.need y.i = true ∧ bit y.anc j = true
  uniq : ∀ x ∈ L0, ∀ y ∈ L0, x.i = y.i → x = y
  closed : ∀ y ∈ L0, listed.getD y.i false = true → ∀ j, bit y.anc j = true → listed.getD j false = true
theorem getD_tf {listed : Array Bool} {j : Nat} (h : listed.getD j false = true) : listed.getD j true = true := by
  simp only [Array.getD_eq_getD_getElem?] at *
  cases hg : listed[j]? with
  | none => rfl
  | some b => rw [hg] at h; exact h
theorem Inv.ancs {L0 L : List It} {listed : Array Bool} {x : It} (h : Inv ops L0 listed L) (hx : x ∈ L0) (hr : ∀ j, bit x.need j = true → listed.getD j false = true) (j : Nat) (hj : bit x.anc j = true) : listed.getD j false = true := by
  rcases h.anc x hx j hj with h1 | ⟨y, hy, h1, h2⟩
  · exact hr j h1
  · exact h.closed y hy (hr y.i h1) j h2
theorem Inv.next {L0 : List It} {listed : Array Bool} {L1 L2 : List It} {x : It} (h : Inv ops L0 listed (L1 ++ x :: L2)) (hr : ∀ j, bit x.need j = true → listed.getD j false = true) : Inv ops L0 (listed.setIfInBounds x.i true) (L1 ++ L2) := by
  have hpw := h.pw
  rw [List.pairwise_append, List.pairwise_cons] at hpw
  obtain ⟨p1, ⟨p2, p3⟩, p4⟩ := hpw
  have hlt : x.i < listed.size := by
    rw [h.siz]
    have := (h.op x (h.sub x (by simp))).1
    exact (List.getElem?_eq_some_iff.1 this).1
  have self : (listed.setIfInBounds x.i true).getD x.i false = true := by simp [Array.getD, hlt]
  refine ⟨fun j => ?_, by simp [h.siz], fun z hz => h.sub z ?_, h.op, ?_, fun M1 z M2 hM j hj => ?_, h.anc, h.uniq, fun y hy hyl j hj => ?_⟩
  · by_cases e : x.i = j
    · subst e
      have : (listed.setIfInBounds x.i true).getD x.i true = true := by simp [Array.getD, hlt]
      rw [this]
      constructor
      · rintro ⟨z, hz, he⟩
        rcases List.mem_append.1 hz with hz | hz
        · exact absurd he (p4 z hz x (by simp)).2.1
        · exact absurd he.symm (p2 z hz).2.1
      · intro hc; cases hc
    · rw [getD_set_ne true e, ← h.unl j]
      constructor
      · rintro ⟨z, hz, he⟩
        exact ⟨z, by rcases List.mem_append.1 hz with hz | hz <;> simp [hz], he⟩
      · rintro ⟨z, hz, he⟩
        rcases List.mem_append.1 hz with hz | hz
        · exact ⟨z, by simp [hz], he⟩
        · rcases List.mem_cons.1 hz with rfl | hz
          · exact absurd he e
          · exact ⟨z, by simp [hz], he⟩
  · rcases List.mem_append.1 hz with hz | hz <;> simp [hz]
  · rw [List.pairwise_append]
    exact ⟨p1, p3, fun a ha b hb => p4 a ha b (List.mem_cons_of_mem _ hb)⟩
  · rcases List.append_eq_append_iff.1 hM with ⟨K, h1, h2⟩ | ⟨K, h1, h2⟩
    · -- M1 = L1 ++ K, L2 = K ++ z :: M2
      have := h.head (L1 ++ x :: K) z M2 (by rw [h2]; simp) j hj
      rcases this with h3 | ⟨y, hy, he⟩
      · exact .inl (getD_set_true h3)
      · rcases List.mem_append.1 hy with hy | hy
        · exact .inr ⟨y, by rw [h1]; simp [hy], he⟩
        · rcases List.mem_cons.1 hy with rfl | hy
          · left; rw [← he]; exact self
          · exact .inr ⟨y, by rw [h1]; simp [hy], he⟩
    · cases K with
      | nil =>
        simp at h2
        have := h.head (L1 ++ [x]) z M2 (by rw [← h2]; simp) j hj
        rcases this with h3 | ⟨y, hy, he⟩
        · exact .inl (getD_set_true h3)
        · rcases List.mem_append.1 hy with hy | hy
          · exact .inr ⟨y, by simp at h1; rw [← h1]; exact hy, he⟩
          · simp at hy; subst hy; left; rw [← he]; exact self
      | cons z' K =>
        simp only [List.cons_append, List.cons.injEq] at h2
        obtain ⟨rfl, h2⟩ := h2
        have := h.head M1 z (K ++ x :: L2) (by rw [h1]; simp) j hj
        rcases this with h3 | h3
        · exact .inl (getD_set_true h3)
        · exact .inr h3
  · by_cases e : x.i = y.i
    · -- y has x's place: its ancestors are listed
      have hx0 := h.sub x (by simp)
      have := h.uniq x hx0 y hy e
      subst this
      exact getD_set_true (h.ancs hx0 hr j hj)
    · rw [getD_set_ne false e] at hyl
      exact getD_set_true (h.closed y hy hyl j hj)
theorem ready_iff {L0 L : List It} {listed : Array Bool} (h : Inv ops L0 listed L) {i : Nat} (hi : i ∈ Region.ready .any ops.toArray listed) : ∃ x ∈ L, x.i = i ∧ ∀ j, bit x.need j = true → listed.getD j false = true := by
  obtain ⟨h0, o, ho, hall⟩ := mem_ready.1 hi
  obtain ⟨x, hx, rfl⟩ := (h.unl i).2 h0
  refine ⟨x, hx, rfl, fun j hj => ?_⟩
  obtain ⟨h1, h2⟩ := h.op x (h.sub x hx)
  rw [List.getElem?_toArray, h1] at ho
  cases ho
  rw [h2, needL_bit] at hj
  obtain ⟨e, he, hb, rfl⟩ := hj
  exact hall e (by simpa using he) (by rw [binds_eq]; exact hb)
theorem ready_of {L0 L : List It} {listed : Array Bool} (h : Inv ops L0 listed L) {x : It} (hx : x ∈ L) (hr : ∀ j, bit x.need j = true → listed.getD j false = true) : x.i ∈ Region.ready .any ops.toArray listed := by
  obtain ⟨h1, h2⟩ := h.op x (h.sub x hx)
  refine mem_ready.2 ⟨(h.unl x.i).1 ⟨x, hx, rfl⟩, x.o, by rw [List.getElem?_toArray]; exact h1, fun e he hb => hr e.on ?_⟩
  rw [h2, needL_bit]
  exact ⟨e, by simpa using he, by rw [← binds_eq]; exact hb, rfl⟩
theorem builtin_nid {b : Builtin} {ts : List Nat} {args : List AV} (hb : b ≠ .append) (k : Nat) : evBuiltin C nid H b ts args = evBuiltin C k H b ts args := by
  unfold evBuiltin
  cases b <;> first
    | rfl
    | (exact absurd rfl hb)
    | (rcases ts with _ | ⟨t, _ | ⟨u, _ | ⟨v, r⟩⟩⟩ <;> rcases args with _ | ⟨x, _ | ⟨y, _ | ⟨z, r'⟩⟩⟩ <;> rfl)
theorem nid_free {ρ : Operand → AV} {op : Op} (h : creates op = false) (k : Nat) : evOp C call nid ρ H op = evOp C call k ρ H op := by
  unfold evOp
  · skip
    cases op with
    | call c =>
      obtain ⟨callee, args, ts⟩ := c
      cases callee with
      | builtin b =>
        have hb : b ≠ .append := fun e => by subst e; simp [creates] at h
        simp only [evPure, builtin_nid hb (nid := nid) k]
      | _ => rfl
    | makeFunc fn first cs => cases fn <;> rfl
    | next x b => cases b <;> rfl
    | makeMap t r => simp [creates] at h
    | range t x => simp [creates] at h
    | _ => first | rfl | (simp [creates] at h; done)
theorem any_ok (hC : CfgOK P C) (hcall : CallOK P call) {L0 : List It} {st' : Tr × Hp} {Q : Exit → Act → World → Prop} :
    ∀ (m : Nat) {L : List It} {recs : List (It × Fp)} {s : Tr} {H : Hp} {φ : Phi} {a : Act} {w : World} {listed : Array Bool}, L.length = m → Inv ops L0 listed L → evDL C call n ops base L recs (s, H) = some st' → SR D X n s H φ a w →
      (∀ z ∈ L, base + z.nid < H.length) → (∀ z ∈ L, creates z.o.op = true → φ (base + z.nid) = .fresh) →
      (∀ φ' a' w', SR D X n st'.1 st'.2 φ' a' w' → Ev φ w φ' w' → Gr2 base φ H φ' st'.2 → Q .normal a' w') → wpAny P .any ops.toArray Q m listed a w
  | 0, L, recs, s, H, φ, a, w, listed, hm, hI, h, hS, hn, hf, hQ => by
    have : L = [] := List.length_eq_zero_iff.1 hm
    subst this
    simp only [evDL, Option.some.injEq] at h; subst h
    refine ⟨?_, hQ φ a w hS (Ev.refl _ _) (Gr2.refl _ _ _)⟩
    rw [List.eq_nil_iff_forall_not_mem]
    intro i hi
    obtain ⟨x, hx, _⟩ := ready_iff hI hi
    cases hx
  | m + 1, L, recs, s, H, φ, a, w, listed, hm, hI, h, hS, hn, hf, hQ => by
    refine ⟨fun hr0 => ?_, fun i hi => ?_⟩
    · cases L with
      | nil => simp at hm
      | cons x L =>
        have := ready_of hI (x := x) (by simp) (fun j hj => by
          rcases hI.head [] x L rfl j hj with h1 | ⟨y, hy, _⟩
          · exact h1
          · cases hy)
        rw [hr0] at this; cases this
    · obtain ⟨x, hx, rfl, hrx⟩ := ready_iff hI hi
      obtain ⟨L1, L2, rfl⟩ := List.append_of_mem hx
      have hpw := hI.pw
      rw [List.pairwise_append] at hpw
      have hx0 := hI.sub x hx
      have hL1 : ∀ y ∈ L1, bit x.anc y.i = false ∧ Oper.apart ops.toArray y.o x.o = true := by
        intro y hy
        have hb : bit x.anc y.i = false := by
          cases hb : bit x.anc y.i with
          | false => rfl
          | true =>
            have h1 := getD_tf (hI.ancs hx0 hrx y.i hb)
            rw [(hI.unl y.i).1 ⟨y, by simp [hy], rfl⟩] at h1; cases h1
        refine ⟨hb, ?_⟩
        rcases (hpw.2.2 y hy x (by simp)).1 with h1 | h1
        · rw [hb] at h1; cases h1
        · exact h1
      obtain ⟨st1, fp, k1, k2, k3⟩ := bubble hC.noext L1 h hL1 (fun y hy => hn y (by simp [hy])) (hn x (by simp))
      have hlen := stepD_len hC.noext k1 (hn x (by simp))
      have hI' := hI.next hrx
      have hm' : (L1 ++ L2).length = m := by simp at hm ⊢; omega
      have hmem : ∀ z ∈ L1 ++ L2, z ∈ L1 ++ x :: L2 := fun z hz => by rcases List.mem_append.1 hz with hz | hz <;> simp [hz]
      obtain ⟨hop, _⟩ := hI.op x hx0
      -- what follows
      have cont : ∀ {s1 : Tr} {H1 : Hp} {φ' : Phi} {a' : Act} {w' : World}, st1 = (s1, H1) → SR D X n s1 H1 φ' a' w' → Ev φ w φ' w' → (∀ k, k < H.length → (creates x.o.op = true → k ≠ base + x.nid) → φ k = .fresh → φ' k = .fresh) → wpAny P .any ops.toArray Q m (listed.setIfInBounds x.i true) a' w' := by
        intro s1 H1 φ' a' w' he hS' ev hfr
        subst he
        refine any_ok hC hcall m hm' hI' k3 hS' (fun z hz => Nat.lt_of_lt_of_le (hn z (hmem z hz)) hlen) (fun z hz hc => ?_) (fun φ'' a'' w'' r1 r2 r3 => hQ φ'' a'' w'' r1 (ev.trans r2) ?_)
        · refine hfr _ (hn z (hmem z hz)) (fun hcx => ?_) (hf z (hmem z hz) hc)
          rcases List.mem_append.1 hz with hz | hz
          · have := (hpw.2.2 z hz x (by simp)).2.2 hc; omega
          · have h2 := hpw.2.1
            rw [List.pairwise_cons] at h2
            have := (h2.1 z hz).2.2 hcx; omega
        · exact Gr2.trans ⟨hlen, fun k hk e => hfr k (by have := hn x (by simp); omega) (fun _ => by omega) e⟩ r3
      unfold wpOp
      rw [List.getElem?_toArray, hop]
      simp only
      rw [stepD_eq] at k1
      obtain ⟨⟨v, H1⟩, e1, e2⟩ := Option.map_eq_some_iff.1 k1
      simp only [Prod.mk.injEq] at e2; obtain ⟨e2, e3⟩ := e2
      unfold actD at e1
      cases hw : want ops s x.o.guard with
      | none => rw [hw] at e1; cases e1
      | some b => cases b with
        | false =>
          rw [hw] at e1; simp only [Option.some.injEq, Prod.mk.injEq] at e1; obtain ⟨rfl, rfl⟩ := e1
          rw [if_neg (by rw [want_ok hS hw]; decide)]
          exact cont e2.symm (hS.put (Ev.refl _ _) hS.hr vr_undef x.o.dst) (Ev.refl _ _) (fun _ _ _ h => h)
        | true =>
          rw [hw] at e1; simp only at e1
          rw [if_pos (want_ok hS hw)]
          split at e1
          · rename_i r hr
            have hrv : r = (v, H1) := by
              revert e1
              cases okLen H r.2 (foot C (base + x.nid) (val s) H x.o.op) <;> intro e1
              · cases e1
              · simpa using e1
            subst hrv
            have hev : evOp C call (base + x.nid) (val s) H x.o.op = some [(v, H1)] := by
              unfold evOne at hr
              split at hr
              · rename_i r' h'; simp only [Option.some.injEq] at hr; rw [h', hr]
              · cases hr
            left
            cases hcx : creates x.o.op with
            | true =>
              refine op_ok hC hcall hS.hr ⟨hf x (by simp) hcx, Nat.le_of_lt (hn x (by simp))⟩ hS.val hev fun v' w' hnx => ?_
              obtain ⟨r, hmr, φ', h1, h2, h3, h4, h5⟩ := hnx
              rw [List.mem_singleton] at hmr; subst hmr
              exact cont e2.symm (hS.put h3 h2 h1 x.o.dst) h3 (fun k hk hne e => h5 k (hne hcx) hk e)
            | false =>
              refine op_ok hC hcall hS.hr hS.hr.free hS.val ((nid_free hcx H.length).symm.trans hev) fun v' w' hnx => ?_
              obtain ⟨r, hmr, φ', h1, h2, h3, h4, h5⟩ := hnx
              rw [List.mem_singleton] at hmr; subst hmr
              exact cont e2.symm (hS.put h3 h2 h1 x.o.dst) h3 (fun k hk _ e => h5 k (by omega) hk e)
          · cases e1
end
end Go.Proofs.Ytkcafackfihmiaa
namespace Go.Proofs.Ytkcafackfihmiaa
set_option linter.unusedSimpArgs false
set_option linter.unusedVariables false
open Go.RowKit
section
variable {P : Program} {C : Cfg} {w w' : World} {X : Nat → Prop} {φ φ' : Phi} {a : Act} {D : List Deferred}
variable {H H' H1 H2 : Hp} {nid n base : Nat} {call : Bool → Nat → List AV → Hp → Outs (AV × Hp)} {ops : List Oper} {s : Tr}
theorem items_mem : ∀ (l : List Oper) (k : Nat) (x : It), x ∈ items k l → k ≤ x.i ∧ l[x.i - k]? = some x.o ∧ x.need = needL x.o.after.toList
  | [], _, _, h => by cases h
  | o :: r, k, x, h => by
    rcases List.mem_cons.1 h with rfl | h
    · exact ⟨Nat.le_refl _, by simp, rfl⟩
    · obtain ⟨h1, h2, h3⟩ := items_mem r (k + 1) x h
      refine ⟨by omega, ?_, h3⟩
      rw [show x.i - k = (x.i - (k + 1)) + 1 from by omega]; simpa using h2
theorem items_cov : ∀ (l : List Oper) (k j : Nat), j < l.length → ∃ x ∈ items k l, x.i = k + j
  | [], _, _, h => by simp at h
  | o :: r, k, 0, _ => ⟨_, List.mem_cons_self, rfl⟩
  | o :: r, k, j + 1, h => by
    obtain ⟨x, hx, he⟩ := items_cov r (k + 1) j (by simpa using h)
    exact ⟨x, List.mem_cons_of_mem _ hx, by omega⟩
theorem items_len : ∀ (l : List Oper) (k : Nat), (items k l).length = l.length
  | [], _ => rfl
  | o :: r, k => by simp [items, items_len r (k + 1)]
theorem take_mem {done : Nat} : ∀ {l : List It} {x : It} {r : List It}, takeReady done l = some (x, r) → (∀ z, z ∈ l ↔ z = x ∨ z ∈ r) ∧ l.length = r.length + 1
  | [], x, r, h => by cases h
  | y :: l, x, r, h => by
    simp only [takeReady] at h
    cases hb : Nat.beq (Nat.land y.need done) y.need with
    | true =>
      rw [hb] at h; simp only [cond_true, Option.some.injEq, Prod.mk.injEq] at h; obtain ⟨rfl, rfl⟩ := h
      exact ⟨fun z => by simp, rfl⟩
    | false =>
      rw [hb] at h; simp only [cond_false] at h
      split at h
      · rename_i x' r' h'
        simp only [Option.some.injEq, Prod.mk.injEq] at h; obtain ⟨rfl, rfl⟩ := h
        obtain ⟨h1, h2⟩ := take_mem h'
        refine ⟨fun z => ?_, by simp [h2]⟩
        rw [List.mem_cons, h1 z, List.mem_cons]
        constructor
        · rintro (h | h | h)
          · exact .inr (.inl h)
          · exact .inl h
          · exact .inr (.inr h)
        · rintro (h | h | h)
          · exact .inr (.inl h)
          · exact .inl h
          · exact .inr (.inr h)
      · cases h
theorem plan_ok : ∀ (f done k : Nat) (tbl : List (Nat × Nat)) (l L : List It), plan f done k tbl l = some L → L.length = l.length ∧ (∀ z ∈ L, ∃ y ∈ l, y.i = z.i ∧ y.need = z.need ∧ y.o = z.o) ∧ ∀ y ∈ l, ∃ z ∈ L, z.i = y.i
  | f, done, k, tbl, [], L, h => by
    cases f <;> (simp only [plan, Option.some.injEq] at h; subst h; exact ⟨rfl, fun z hz => (by cases hz), fun y hy => (by cases hy)⟩)
  | 0, done, k, tbl, y :: l, L, h => by simp [plan] at h
  | f + 1, done, k, tbl, y :: l, L, h => by
    simp only [plan] at h
    split at h
    · cases h
    · rename_i x r hx
      obtain ⟨h1, h2⟩ := take_mem hx
      split at h
      · rename_i L' hL'
        simp only [Option.some.injEq] at h; subst h
        obtain ⟨k1, k2, k3⟩ := plan_ok f _ _ _ r L' hL'
        refine ⟨by simp only [List.length_cons] at h2 ⊢; omega, fun z hz => ?_, fun z hz => ?_⟩
        · rcases List.mem_cons.1 hz with rfl | hz
          · exact ⟨x, (h1 x).2 (.inl rfl), rfl, rfl, rfl⟩
          · obtain ⟨q, hq, he⟩ := k2 z hz
            exact ⟨q, (h1 q).2 (.inr hq), he⟩
        · rcases (h1 z).1 hz with rfl | hz
          · exact ⟨_, List.mem_cons_self, rfl⟩
          · obtain ⟨q, hq, he⟩ := k3 z hz
            exact ⟨q, List.mem_cons_of_mem _ hq, he⟩
      · cases h
theorem ancOf_bit {need j : Nat} : ∀ {tbl : List (Nat × Nat)}, bit (ancOf need tbl) j = true → bit need j = true ∨ ∃ p ∈ tbl, bit need p.1 = true ∧ bit p.2 j = true
  | [], h => .inl h
  | (i, c) :: r, h => by
    simp only [ancOf] at h
    cases hb : bit need i with
    | false =>
      rw [hb] at h
      rcases ancOf_bit (tbl := r) h with h | ⟨p, hp, h⟩
      · exact .inl h
      · exact .inr ⟨p, List.mem_cons_of_mem _ hp, h⟩
    | true =>
      rw [hb] at h
      simp only [cond_true, bit_or, Bool.or_eq_true] at h
      rcases h with h | h
      · exact .inr ⟨(i, c), List.mem_cons_self, hb, h⟩
      · rcases ancOf_bit (tbl := r) h with h | ⟨p, hp, h⟩
        · exact .inl h
        · exact .inr ⟨p, List.mem_cons_of_mem _ hp, h⟩
theorem chk_ok {m : Nat} : ∀ (L : List It) (tbl : List (Nat × Nat)) (prev : List It) (done k : Nat), chkL ops.toArray m tbl prev done k L = true → tbl = prev.map (fun y => (y.i, y.anc)) → (∀ j, bit done j = true ↔ ∃ y ∈ prev, y.i = j) → (∀ y ∈ prev, creates y.o.op = true → y.nid < k) →
    k ≤ m ∧ (∀ x ∈ L, x.nid ≤ m) ∧ L.Pairwise (Rel ops) ∧ (∀ y ∈ prev, ∀ x ∈ L, k ≤ x.nid ∧ Rel ops y x) ∧ (∀ x ∈ L, k ≤ x.nid) ∧ (∀ L1 x L2, L = L1 ++ x :: L2 → ∀ j, bit x.need j = true → (∃ y ∈ prev, y.i = j) ∨ ∃ y ∈ L1, y.i = j) ∧
    ∀ x ∈ L, ∀ j, bit x.anc j = true → bit x.need j = true ∨ ∃ y, (y ∈ prev ∨ y ∈ L) ∧ bit x.need y.i = true ∧ bit y.anc j = true
  | [], tbl, prev, done, k, h, _, _, _ => by
    simp only [chkL] at h
    exact ⟨by simpa using h, fun x hx => (by cases hx), List.Pairwise.nil, fun y _ x hx => (by cases hx), fun x hx => (by cases hx), fun L1 x L2 hL => (by simp at hL), fun x hx => (by cases hx)⟩
  | x :: L, tbl, prev, done, k, h, ht, hd, hk => by
    simp only [chkL, Bool.and_eq_true] at h
    obtain ⟨⟨⟨⟨⟨h1, h2⟩, h3⟩, h4⟩, h5⟩, h6⟩ := h
    have h1 := Nat.eq_of_beq_eq_true h1
    have h4 := Nat.eq_of_beq_eq_true h4
    rw [List.all_eq_true] at h5
    have hdx : ¬ ∃ y ∈ prev, y.i = x.i := fun hc => by
      rw [(hd x.i).2 hc] at h3; cases h3
    have hkk : k ≤ (bif creates x.o.op then k + 1 else k) := by cases creates x.o.op <;> simp
    obtain ⟨g1, g2, g3, g4, g5, g6, g7⟩ := chk_ok L ((x.i, x.anc) :: tbl) (x :: prev) (orBit done x.i) _ h6 (by rw [ht]; rfl) (fun j => by
      rw [bit_orBit, Bool.or_eq_true, hd j, decide_eq_true_eq]
      constructor
      · rintro (⟨y, hy, he⟩ | he)
        · exact ⟨y, List.mem_cons_of_mem _ hy, he⟩
        · exact ⟨x, List.mem_cons_self, he⟩
      · rintro ⟨y, hy, he⟩
        rcases List.mem_cons.1 hy with rfl | hy
        · exact .inr he
        · exact .inl ⟨y, hy, he⟩) (fun y hy hc => by
      rcases List.mem_cons.1 hy with rfl | hy
      · rw [hc, h4]; simp
      · exact Nat.lt_of_lt_of_le (hk y hy hc) hkk)
    refine ⟨Nat.le_trans hkk g1, fun z hz => ?_, ?_, fun y hy z hz => ?_, fun z hz => ?_, fun L1 z L2 hL j hj => ?_, fun z hz j hj => ?_⟩
    · rcases List.mem_cons.1 hz with rfl | hz
      · rw [h4]; exact Nat.le_trans hkk g1
      · exact g2 z hz
    · rw [List.pairwise_cons]
      exact ⟨fun z hz => (g4 x List.mem_cons_self z hz).2, g3⟩
    · rcases List.mem_cons.1 hz with rfl | hz
      · refine ⟨by omega, ?_, fun e => hdx ⟨y, hy, e⟩, fun hc => by rw [h4]; exact hk y hy hc⟩
        have := h5 y hy
        rwa [Bool.or_eq_true] at this
      · have := g4 y (List.mem_cons_of_mem _ hy) z hz
        exact ⟨Nat.le_trans hkk this.1, this.2⟩
    · rcases List.mem_cons.1 hz with rfl | hz
      · omega
      · exact Nat.le_trans hkk (g5 z hz)
    · cases L1 with
      | nil =>
        simp only [List.nil_append, List.cons.injEq] at hL
        obtain ⟨rfl, rfl⟩ := hL
        exact .inl ((hd j).1 (bit_sub h2 hj))
      | cons y L1 =>
        simp only [List.cons_append, List.cons.injEq] at hL
        obtain ⟨rfl, rfl⟩ := hL
        rcases g6 L1 z L2 rfl j hj with ⟨q, hq, he⟩ | ⟨q, hq, he⟩
        · rcases List.mem_cons.1 hq with rfl | hq
          · exact .inr ⟨_, List.mem_cons_self, he⟩
          · exact .inl ⟨q, hq, he⟩
        · exact .inr ⟨q, List.mem_cons_of_mem _ hq, he⟩
    · rcases List.mem_cons.1 hz with rfl | hz
      · rw [h1] at hj
        rcases ancOf_bit hj with hj | ⟨p, hp, hb1, hb2⟩
        · exact .inl hj
        · rw [ht] at hp
          obtain ⟨y, hy, rfl⟩ := List.mem_map.1 hp
          exact .inr ⟨y, .inl hy, hb1, hb2⟩
      · rcases g7 z hz j hj with h | ⟨y, hy, hb⟩
        · exact .inl h
        · refine .inr ⟨y, ?_, hb⟩
          rcases hy with hy | hy
          · rcases List.mem_cons.1 hy with rfl | hy
            · exact .inr List.mem_cons_self
            · exact .inl hy
          · exact .inr (List.mem_cons_of_mem _ hy)
theorem pw_uniq : ∀ {L : List It}, L.Pairwise (Rel ops) → ∀ x ∈ L, ∀ y ∈ L, x.i = y.i → x = y
  | [], _, x, hx, _, _, _ => by cases hx
  | z :: L, h, x, hx, y, hy, e => by
    rw [List.pairwise_cons] at h
    rcases List.mem_cons.1 hx with e1 | hx'
    · rcases List.mem_cons.1 hy with e2 | hy'
      · rw [e1, e2]
      · rw [e1] at e; exact absurd e (h.1 y hy').2.1
    · rcases List.mem_cons.1 hy with e2 | hy'
      · rw [e2] at e; exact absurd e.symm (h.1 x hx').2.1
      · exact pw_uniq h.2 x hx' y hy' e
theorem hget_pad {k o : Nat} : hget (H ++ List.replicate k none) o = hget H o := by
  unfold hget
  by_cases h : o < H.length
  · rw [List.getElem?_append_left h]
  · rw [List.getElem?_append_right (by omega), List.getElem?_eq_none (l := H) (by omega), List.getElem?_replicate]
    by_cases h2 : o - H.length < k
    · rw [if_pos h2]
    · rw [if_neg h2]
theorem HR.pad (h : HR X φ H w) (k : Nat) : HR X φ (H ++ List.replicate k none) w :=
  h.next (Ev.refl φ w) (fun o ho => h.fresh o (by simp at ho; omega)) (fun o z l ho => by rw [hget_pad]; exact h.live o z l ho) (fun o x hx => .inl ⟨by rw [hget_pad] at hx; exact hx, rfl, fun _ _ _ _ _ => rfl⟩) (fun o l b p ho _ => .inl ho)
theorem draw_ok (hC : CfgOK P C) {call : Bool → Nat → List AV → Hp → Outs (AV × Hp)} (hcall : CallOK P call) : DrawOK P C call := by
  intro D X n ops s H s' H' φ a w id hplan hev hS
  unfold evDrawn at hev
  simp only at hev
  unfold planOK at hplan
  split at hev
  · cases hev
  · rename_i L hL
    rw [hL] at hplan
    simp only at hplan
    obtain ⟨p1, p2, p3⟩ := plan_ok _ _ _ _ _ _ hL
    obtain ⟨c1, c2, c3, _, _, c6, c7⟩ := chk_ok L [] [] 0 0 hplan rfl (fun j => by simp [bit_eq]) (fun y hy => by cases hy)
    refine wp_region_any hC.mixed ?_
    have hsz : ops.toArray.size = ops.length := by simp
    have hI : Inv ops L (Array.replicate ops.toArray.size false) L := by
      refine ⟨fun j => ?_, by simp, fun z hz => hz, fun z hz => ?_, c3, fun L1 x L2 he j hj => ?_, fun x hx j hj => ?_, pw_uniq c3, fun y _ hl => ?_⟩
      · have : ((Array.replicate ops.toArray.size false).getD j true = false) ↔ j < ops.length := by
          rw [Array.getD_eq_getD_getElem?, Array.getElem?_replicate, hsz]
          split <;> simp_all
        rw [this]
        constructor
        · rintro ⟨z, hz, rfl⟩
          obtain ⟨y, hy, he, _⟩ := p2 z hz
          obtain ⟨_, h2, _⟩ := items_mem _ _ _ hy
          have := (List.getElem?_eq_some_iff.1 h2).1
          omega
        · intro hj
          obtain ⟨y, hy, he⟩ := items_cov ops 0 j hj
          obtain ⟨z, hz, he2⟩ := p3 y hy
          exact ⟨z, hz, by omega⟩
      · obtain ⟨y, hy, he, hn, ho⟩ := p2 z hz
        obtain ⟨_, h2, h3⟩ := items_mem _ _ _ hy
        refine ⟨?_, by rw [← hn, ← ho]; exact h3⟩
        rw [← he, ← ho]; simpa using h2
      · rcases c6 L1 x L2 he j hj with ⟨y, hy, _⟩ | h
        · cases hy
        · exact .inr h
      · rcases c7 x hx j hj with h | ⟨y, hy, h⟩
        · exact .inl h
        · rcases hy with hy | hy
          · cases hy
          · exact .inr ⟨y, hy, h⟩
      · have : (Array.replicate ops.toArray.size false).getD y.i false = false := by
          rw [Array.getD_eq_getD_getElem?, Array.getElem?_replicate]; split <;> rfl
        rw [this] at hl; cases hl
    have hS' : SR D X n s (H ++ List.replicate (countNew ops + 1) none) φ a w.drew := ⟨hS.defers, hS.size, fun t => VR.stay Ev.drew X _ _ (hS.slots t), hS.hr.drew.pad _⟩
    have hlen : ops.toArray.size = L.length := by rw [p1, items_len, hsz]
    refine any_ok (base := H.length) hC hcall (st' := (s', H')) ops.toArray.size hlen.symm hI hev hS' (fun z hz => ?_) (fun z hz _ => hS.hr.fresh _ (by omega)) (fun φ' a' w' h1 h2 h3 => ?_)
    · have := c2 z hz; simp; omega
    · refine ⟨_, List.mem_singleton.2 rfl, rfl, φ', h1, Ev.drew.trans h2, ?_, h3.2⟩
      have := h3.1; simp at this; show H.length ≤ H'.length; omega
theorem call_ok (hC : CfgOK P C) (N : Nat) : CallOK P (evCall C N) := evCall_ok hC (fun _ h => draw_ok hC h) N
end
end Go.Proofs.Ytkcafackfihmiaa
namespace Go.Proofs.Ytkcafackfihmiaa
set_option linter.unusedSimpArgs false
set_option linter.unusedVariables false
open Go.RowKit
def tyF : List (Nat × TI) → Nat → Option TI
  | [], _ => none
  | (k, i) :: r, t => bif Nat.beq k t then some i else tyF r t
theorem tyF_mem : ∀ {l : List (Nat × TI)} {t : Nat} {ti : TI}, tyF l t = some ti → (t, ti) ∈ l
  | [], _, _, h => by cases h
  | (k, i) :: r, t, ti, h => by
    simp only [tyF] at h
    rcases beq_cases k t with ⟨hb, e⟩ | ⟨hb, e⟩
    · rw [hb] at h; simp only [cond_true, Option.some.injEq] at h; subst h; subst e; exact List.mem_cons_self
    · rw [hb] at h; exact List.mem_cons_of_mem _ (tyF_mem h)
def fnChk (P : Program) : Bool := P.funcs.toList.all fun f => !(f.name == "runtime.NumGoroutine") && (match f.body with | some c => codeOK c | none => true)
theorem cfgOK_of {P : Program} {l : List (Nat × TI)} {byref : Nat → Bool} {keep : Nat → Nat → Option (List Nat)} (h1 : l.all (fun q => tyOKB P q.1 q.2) = true) (h2 : fnChk P = true) (h3 : P.follows .mixedOrders = true) : CfgOK P ⟨tyF l, fun k => P.funcs[k]?, byref, fun _ => none, keep⟩ where
  ty t ti h := List.all_eq_true.1 h1 (t, ti) (tyF_mem h)
  fn k f h := h
  name k f h := by
    have := List.all_eq_true.1 h2 f (by simpa using Array.mem_of_getElem? h)
    rw [Bool.and_eq_true] at this
    simpa using this.1
  code k f c h hb := by
    have := List.all_eq_true.1 h2 f (by simpa using Array.mem_of_getElem? h)
    rw [Bool.and_eq_true, hb] at this
    exact this.2
  mixed := h3
  noext _ := rfl
end Go.Proofs.Ytkcafackfihmiaa
namespace Go.Proofs.Ytkcafackfihmiaa
set_option linter.unusedSimpArgs false
set_option linter.unusedVariables false
open Go.RowKit
def AllP : List Prop → Prop
  | [] => True
  | p :: l => p ∧ AllP l
theorem allP_append : ∀ {a b : List Prop}, AllP (a ++ b) ↔ AllP a ∧ AllP b
  | [], b => by simp [AllP]
  | p :: a, b => by simp only [List.cons_append, AllP, allP_append (a := a), and_assoc]

structure EvB (base : Nat) (φ : Phi) (w : World) (φ' : Phi) (w' : World) : Prop where
  os : w'.os = w.os
  tape : w'.tape = w.tape
  output : w'.output = w.output ∧ w.drawn ≤ w'.drawn
  size : w.heap.size ≤ w'.heap.size
  heap : ∀ b, b < w.heap.size → ¬ blkOf φ b → w'.heap[b]? = w.heap[b]?
  blk : ∀ b, b < w.heap.size → blkOf φ' b → blkOf φ b
  ids : ∀ o, o < base → φ o ≠ .fresh → φ' o = φ o ∨ φ' o = .dead ∨ ∃ l, φ o = .at false l ∧ φ' o = .at true l
  fr : ∀ o, o < base → φ o = .fresh → φ' o = .fresh
section
variable {P : Program} {C : Cfg} {w w' w'' : World} {Y Y' X : Nat → Prop} {φ φ' φ'' : Phi} {H H' H'' : Hp}
variable {nid n base : Nat} {s s' : Tr} {a : Act} {D : List Deferred} {st : Tr × Hp}
theorem EvB.refl (base : Nat) (φ : Phi) (w : World) : EvB base φ w φ w := ⟨rfl, rfl, ⟨rfl, Nat.le_refl _⟩, Nat.le_refl _, fun _ _ _ => rfl, fun _ _ h => h, fun _ _ _ => .inl rfl, fun _ _ h => h⟩
theorem EvB.trans (h : EvB base φ w φ' w') (k : EvB base φ' w' φ'' w'') : EvB base φ w φ'' w'' where
  os := k.os.trans h.os
  tape := k.tape.trans h.tape
  output := ⟨k.output.1.trans h.output.1, Nat.le_trans h.output.2 k.output.2⟩
  size := Nat.le_trans h.size k.size
  heap b hb hn := (k.heap b (Nat.lt_of_lt_of_le hb h.size) (fun hc => hn (h.blk b hb hc))).trans (h.heap b hb hn)
  blk b hb hc := h.blk b hb (k.blk b (Nat.lt_of_lt_of_le hb h.size) hc)
  ids o ho hf := by
    rcases h.ids o ho hf with h1 | h1 | ⟨l, h0, h1⟩
    · rcases k.ids o ho (by rw [h1]; exact hf) with h2 | h2 | ⟨l, h2, h3⟩
      · exact .inl (h2.trans h1)
      · exact .inr (.inl h2)
      · exact .inr (.inr ⟨l, h1.symm.trans h2, h3⟩)
    · rcases k.ids o ho (by rw [h1]; intro h; cases h) with h2 | h2 | ⟨l, h2, _⟩
      · exact .inr (.inl (h2.trans h1))
      · exact .inr (.inl h2)
      · rw [h1] at h2; cases h2
    · rcases k.ids o ho (by rw [h1]; intro h; cases h) with h2 | h2 | ⟨l', h2, _⟩
      · exact .inr (.inr ⟨l, h0, h2.trans h1⟩)
      · exact .inr (.inl h2)
      · rw [h1] at h2; cases h2
  fr o ho hf := k.fr o ho (h.fr o ho hf)
theorem Ev.b (h : Ev φ w φ' w') (hf : ∀ o, o < base → φ o = .fresh → φ' o = .fresh) : EvB base φ w φ' w' := ⟨h.os, h.tape, h.output, h.size, h.heap, h.blk, fun o _ => h.ids o, hf⟩
def PostB (D : List Deferred) (X : Nat → Prop) (n base : Nat) (φ : Phi) (w : World) (Q : Ex × Tr × Hp → Prop) (e : Exit) (a' : Act) (w' : World) : Prop :=
  ∃ r, Q r ∧ exOf r.1 = e ∧ ∃ φ', SR D X n r.2.1 r.2.2 φ' a' w' ∧ EvB base φ w φ' w' ∧ base ≤ r.2.2.length
theorem PostB.from {Q : Ex × Tr × Hp → Prop} {e : Exit} {a' : Act} {w2 : World} (ev : EvB base φ w φ' w') (h : PostB D X n base φ' w' Q e a' w2) : PostB D X n base φ w Q e a' w2 := by
  obtain ⟨r, hq, he, φ'', h1, h2, h3⟩ := h
  exact ⟨r, hq, he, φ'', h1, ev.trans h2, h3⟩
theorem PostB.mono {Q Q' : Ex × Tr × Hp → Prop} {e : Exit} {a' : Act} (hq : ∀ r, Q r → Q' r) (h : PostB D X n base φ w Q e a' w') : PostB D X n base φ w Q' e a' w' := by
  obtain ⟨r, h0, h1⟩ := h
  exact ⟨r, hq r h0, h1⟩
def T (P : Program) (n base : Nat) (c : Code) (st : Tr × Hp) (Q : Ex × Tr × Hp → Prop) : Prop :=
  codeOK c = true → ∀ {D : List Deferred} X φ a w, SR D X n st.1 st.2 φ a w → base ≤ st.2.length → c.wp P (PostB D X n base φ w Q) a w
def TL (P : Program) (n base f : Nat) (c : Code) (st : Tr × Hp) (Q : Ex × Tr × Hp → Prop) : Prop :=
  codeOK c = true → ∀ {D : List Deferred} X φ a w, SR D X n st.1 st.2 φ a w → base ≤ st.2.length → Code.rounds P c (PostB D X n base φ w Q) f a w
theorem T.mono {c : Code} {Q Q' : Ex × Tr × Hp → Prop} (h : T P n base c st Q) (hq : ∀ r, Q r → Q' r) : T P n base c st Q' := fun hc D X φ a w hS hb => Code.wp_mono (fun _ _ _ h => h.mono hq) (h hc X φ a w hS hb)
theorem wp_from {c : Code} {Q : Ex × Tr × Hp → Prop} (ev : EvB base φ w φ' w') (h : c.wp P (PostB D X n base φ' w' Q) a w') : c.wp P (PostB D X n base φ w Q) a w' := Code.wp_mono (fun _ _ _ h => h.from ev) h
theorem T.skip {Q : Ex × Tr × Hp → Prop} (h : Q (.norm, st)) : T P n base .skip st Q := fun _ D X φ a w hS hb => wp_skip ⟨_, h, rfl, φ, hS, EvB.refl _ _ _, hb⟩
theorem T.exit {i : Nat} {Q : Ex × Tr × Hp → Prop} (h : Q (.exit i, st)) : T P n base (.exit i) st Q := fun _ D X φ a w hS hb => wp_exit ⟨_, h, rfl, φ, hS, EvB.refl _ _ _, hb⟩
theorem T.ret {Q : Ex × Tr × Hp → Prop} (h : Q (.ret, st)) : T P n base .ret st Q := fun _ D X φ a w hS hb => wp_ret ⟨_, h, rfl, φ, hS, EvB.refl _ _ _, hb⟩
theorem T.seq {x y : Code} {Q1 Q : Ex × Tr × Hp → Prop} (h1 : T P n base x st Q1) (h2 : ∀ r, Q1 r → match r.1 with | .norm => T P n base y r.2 Q | _ => Q r) : T P n base (.seq x y) st Q := by
  intro hc D X φ a w hS hb
  simp only [codeOK, Bool.and_eq_true] at hc
  refine wp_seq (Code.wp_mono ?_ (h1 hc.1 X φ a w hS hb))
  rintro e a' w' ⟨⟨ex, st'⟩, hq, he, φ', k1, k2, k3⟩
  have := h2 _ hq
  cases ex with
  | norm =>
    simp only [exOf] at he; subst he
    exact wp_from k2 (this hc.2 X φ' a' w' k1 k3)
  | exit i => simp only [exOf] at he; subst he; exact ⟨_, this, rfl, φ', k1, k2, k3⟩
  | ret => simp only [exOf] at he; subst he; exact ⟨_, this, rfl, φ', k1, k2, k3⟩
  | pan ch => simp only [exOf] at he; subst he; exact ⟨_, this, rfl, φ', k1, k2, k3⟩
theorem T.cond {c : Operand} {x y : Code} {b : Bool} {Q : Ex × Tr × Hp → Prop} (hc : val st.1 c = .pl (.bool b)) (h1 : b = true → T P n base x st Q) (h2 : b = false → T P n base y st Q) : T P n base (.cond c x y) st Q := by
  intro hk D X φ a w hS hb
  simp only [codeOK, Bool.and_eq_true] at hk
  have hv := hS.val c
  rw [hc] at hv
  simp only [VR, PR] at hv
  refine wp_cond hv ?_
  cases b with
  | true => simpa using h1 rfl hk.1 X φ a w hS hb
  | false => simpa using h2 rfl hk.2 X φ a w hS hb
def blkEx (i : Nat) : Ex → Ex
  | .exit j => bif Nat.beq j i then .norm else .exit j
  | e => e
theorem T.block {i : Nat} {c : Code} {Q : Ex × Tr × Hp → Prop} (h : T P n base c st fun r => Q (blkEx i r.1, r.2)) : T P n base (.block i c) st Q := by
  intro hk D X φ a w hS hb
  simp only [codeOK] at hk
  refine wp_block (Code.wp_mono ?_ (h hk X φ a w hS hb))
  rintro e a' w' ⟨⟨ex, st'⟩, hq, he, φ', k1, k2, k3⟩
  cases ex with
  | norm => simp only [exOf] at he; subst he; exact ⟨_, hq, rfl, φ', k1, k2, k3⟩
  | ret => simp only [exOf] at he; subst he; exact ⟨_, hq, rfl, φ', k1, k2, k3⟩
  | pan ch => simp only [exOf] at he; subst he; exact ⟨_, hq, rfl, φ', k1, k2, k3⟩
  | exit j =>
    simp only [exOf] at he; subst he
    simp only [Exit.inBlock]
    rcases beq_cases j i with ⟨hbq, e⟩ | ⟨hbq, e⟩
    · rw [if_pos e]
      exact ⟨_, hq, by simp [blkEx, hbq, exOf], φ', k1, k2, k3⟩
    · rw [if_neg e]
      exact ⟨_, hq, by simp [blkEx, hbq, exOf], φ', k1, k2, k3⟩
theorem T.loop {f : Nat} {c : Code} {Q : Ex × Tr × Hp → Prop} (h : TL P n base f c st Q) : T P n base (.loop c) st Q := by
  intro hk D X φ a w hS hb
  simp only [codeOK] at hk
  exact wp_loop_rounds f (h hk X φ a w hS hb)
theorem rounds_from {c : Code} {Q : Ex × Tr × Hp → Prop} {f : Nat} (ev : EvB base φ w φ' w') : ∀ {f : Nat} {a : Act} {w2 : World}, Code.rounds P c (PostB D X n base φ' w' Q) f a w2 → Code.rounds P c (PostB D X n base φ w Q) f a w2
  | 0, _, _, h => h
  | f + 1, a, w2, h => by
    rw [rounds_succ] at h ⊢
    refine Code.wp_mono ?_ h
    intro e a' w3 hq
    cases e <;> first | exact PostB.from ev hq | exact rounds_from (f := f) ev hq
theorem TL.step {f : Nat} {c : Code} {Q1 Q : Ex × Tr × Hp → Prop} (h1 : T P n base c st Q1) (h2 : ∀ r, Q1 r → match r.1 with | .norm => TL P n base f c r.2 Q | _ => Q r) : TL P n base (f + 1) c st Q := by
  intro hk D X φ a w hS hb
  rw [rounds_succ]
  refine Code.wp_mono ?_ (h1 hk X φ a w hS hb)
  rintro e a' w' ⟨⟨ex, st'⟩, hq, he, φ', k1, k2, k3⟩
  have := h2 _ hq
  cases ex with
  | norm =>
    simp only [exOf] at he; subst he
    exact rounds_from (f := f) k2 (this hk X φ' a' w' k1 k3)
  | exit i => simp only [exOf] at he; subst he; exact ⟨_, this, rfl, φ', k1, k2, k3⟩
  | ret => simp only [exOf] at he; subst he; exact ⟨_, this, rfl, φ', k1, k2, k3⟩
  | pan ch => simp only [exOf] at he; subst he; exact ⟨_, this, rfl, φ', k1, k2, k3⟩


def Wk (x y : AV) : Prop := ∀ (w : World) (Y : Nat → Prop) (φ : Phi) (v : Value), VR w Y φ x v → VR w Y φ y v
def WkP (x y : PV) : Prop := (oneP x = true → oneP y = true) ∧ ∀ (w : World) (Y : Nat → Prop) (v : Value), PR w Y x v → PR w Y y v
theorem Wk.refl (x : AV) : Wk x x := fun _ _ _ _ h => h
theorem WkP.nil {f : Fl} {sz sz' : Nat} : WkP (.sl f sz []) (.sl .any sz' []) := ⟨id, fun w Y v h => by
  simp only [PR] at h ⊢
  obtain ⟨A, c, h1, h2, h3, _, h5⟩ := h
  exact ⟨A, c, h1, h2, h3, trivial, .inl rfl⟩⟩
theorem Wk.pl {x y : PV} (h : WkP x y) : Wk (.pl x) (.pl y) := fun w Y φ v hv => by simp only [VR] at hv ⊢; exact h.2 _ _ _ hv

def idxN (o : Nat) : List Nat → Nat → Option Nat
  | [], _ => none
  | x :: r, j => bif Nat.beq x o then some j else idxN o r (j + 1)
def renO (base : Nat) (m : List Nat) (o : Nat) : Option Nat := bif Nat.blt o base then some o else idxN o m base
mutual
def renA (f : Nat → Option Nat) : AV → AV
  | .pl p => .pl p
  | .un => .un
  | .ip cs i => .ip cs i
  | .own o => match f o with | some k => .own k | none => .un
  | .vw o i j => match f o with | some k => .vw k i j | none => .un
  | .bp o i => match f o with | some k => .bp k i | none => .un
  | .ep o i j => match f o with | some k => .ep k i j | none => .un
  | .mp o => match f o with | some k => .mp k | none => .un
  | .it o => match f o with | some k => .it k | none => .un
  | .tup cs => .tup (renL f cs)
  | .clo k cs => .clo k (renL f cs)
  | .agg cs => bif (renL f cs).all oneA then .agg (renL f cs) else .un
def renL (f : Nat → Option Nat) : List AV → List AV
  | [] => []
  | c :: r => renA f c :: renL f r
end
def renOb (f : Nat → Option Nat) : Ob → Option Ob
  | .box cs => bif (renL f cs).all oneA then some (.box (renL f cs)) else none
  | .row z sz es => some (.row z sz es)
  | .map kvs => some (.map kvs)
  | .iter o n seen => match f o with | some k => some (.iter k n seen) | none => none
def renH (f : Nat → Option Nat) : Hp → Option Hp
  | [] => some []
  | none :: r => (renH f r).map (none :: ·)
  | some x :: r => match renOb f x with | some y => (renH f r).map (some y :: ·) | none => none
def keepS (f : Nat → Option Nat) (s : Tr) : List Nat → Tr
  | [] => .leaf
  | t :: r => (keepS f s r).put 12 t (renA f (s.get 12 t))
def okM (base : Nat) : List Nat → Bool
  | [] => true
  | o :: r => Nat.ble base o && !(r.any (Nat.beq o)) && okM base r
def tidy (base : Nat) (m keep : List Nat) (st : Tr × Hp) : Option (Tr × Hp) :=
  bif okM base m && Nat.ble base st.2.length then (match renH (renO base m) (st.2.take base ++ m.map (hget st.2)) with
    | some H => some (keepS (renO base m) st.1 keep, H)
    | none => none) else none
structure RenOK (w : World) (Y Y' : Nat → Prop) (f : Nat → Option Nat) (φ φ' : Phi) : Prop where
  sub : ∀ b, Y' b → Y b
  to : ∀ o k, f o = some k → φ' k = φ o
mutual
theorem VR.ren {f : Nat → Option Nat} (hr : RenOK w Y Y' f φ φ') : ∀ (x : AV) (v : Value), VR w Y φ x v → VR w Y' φ' (renA f x) v
  | .pl p, v, h => by simp only [renA, VR] at h ⊢; exact PR.sub hr.sub h
  | .un, v, h => by simp only [renA, VR]
  | .ip cs i, v, h => by
    have := VR.stay (φ := noPhi) (φ' := noPhi) (w := w) (w' := w) (Ev.refl noPhi w) (fun b => Y b) (.ip cs i) v
    simp only [renA, VR] at h ⊢
    obtain ⟨b, o, e, hb, hlt, hc⟩ := h
    refine ⟨b, o, e, fun hy => hb (hr.sub b hy), hlt, ?_⟩
    exact PRC.stay ⟨Nat.le_refl _, fun _ _ _ => rfl, fun b _ => hr.sub b⟩ (fun _ _ h => h) o cs hc
  | .own o, v, h => by
    simp only [renA]
    cases hf : f o with
    | none => simp only [VR]
    | some k => simp only [VR] at h ⊢; rw [hr.to o k hf]; exact h
  | .vw o i j, v, h => by
    simp only [renA]
    cases hf : f o with
    | none => simp only [VR]
    | some k => simp only [VR] at h ⊢; rw [hr.to o k hf]; exact h
  | .bp o i, v, h => by
    simp only [renA]
    cases hf : f o with
    | none => simp only [VR]
    | some k => simp only [VR] at h ⊢; rw [hr.to o k hf]; exact h
  | .ep o i j, v, h => by
    simp only [renA]
    cases hf : f o with
    | none => simp only [VR]
    | some k => simp only [VR] at h ⊢; rw [hr.to o k hf]; exact h
  | .mp o, v, h => by
    simp only [renA]
    cases hf : f o with
    | none => simp only [VR]
    | some k => simp only [VR] at h ⊢; rw [hr.to o k hf]; exact h
  | .it o, v, h => by
    simp only [renA]
    cases hf : f o with
    | none => simp only [VR]
    | some k => simp only [VR] at h ⊢; rw [hr.to o k hf]; exact h
  | .tup cs, v, h => by
    simp only [renA, VR] at h ⊢
    obtain ⟨vs, e, hl⟩ := h
    exact ⟨vs, e, VRT.ren hr cs vs hl⟩
  | .clo k cs, v, h => by
    simp only [renA, VR] at h ⊢
    obtain ⟨vs, e, hl⟩ := h
    exact ⟨vs, e, VRT.ren hr cs vs hl⟩
  | .agg cs, v, h => by
    simp only [renA]
    cases ha : (renL f cs).all oneA with
    | false => simp only [cond_false, VR]
    | true =>
      simp only [cond_true, VR] at h ⊢
      obtain ⟨vs, e, hl⟩ := h
      exact ⟨vs, e, VRL.ren hr cs vs ha hl⟩
theorem VRL.ren {f : Nat → Option Nat} (hr : RenOK w Y Y' f φ φ') : ∀ (cs : List AV) (vs : List Value), (renL f cs).all oneA = true → VRL w Y φ cs vs → VRL w Y' φ' (renL f cs) vs
  | [], vs, _, h => by simpa only [renL, VRL] using h
  | c :: cs, vs, ha, h => by
    simp only [renL, List.all_cons, Bool.and_eq_true] at ha
    simp only [renL, VRL] at h ⊢
    obtain ⟨v, r, e, _, h1, h2⟩ := h
    exact ⟨v, r, e, ha.1, VR.ren hr c v h1, VRL.ren hr cs r ha.2 h2⟩
theorem VRT.ren {f : Nat → Option Nat} (hr : RenOK w Y Y' f φ φ') : ∀ (cs : List AV) (vs : List Value), VRT w Y φ cs vs → VRT w Y' φ' (renL f cs) vs
  | [], vs, h => by simpa only [renL, VRT] using h
  | c :: cs, vs, h => by
    simp only [renL, VRT] at h ⊢
    obtain ⟨v, r, e, h1, h2⟩ := h
    exact ⟨v, r, e, VR.ren hr c v h1, VRT.ren hr cs r h2⟩
end
theorem MR.sub {Y Y' : Nat → Prop} (hs : ∀ b, Y' b → Y b) {i : Nat} {kvs : List (PV × PV)} {es : List MapEntry} (h : MR w Y i kvs es) : MR w Y' i kvs es := MR.stay ⟨Nat.le_refl _, fun _ _ _ => rfl, fun b _ => hs b⟩ i kvs es h
theorem OR.ren {f : Nat → Option Nat} (hr : RenOK w Y Y' f φ φ') {z : Bool} {l : Loc} {x y : Ob} (h : renOb f x = some y) (ho : OR w Y φ z l x) : OR w Y' φ' z l y := by
  cases x with
  | box cs =>
    simp only [renOb] at h
    cases ha : (renL f cs).all oneA with
    | false => simp [ha] at h
    | true =>
      simp only [ha, cond_true, Option.some.injEq] at h; subst h
      simp only [OR] at ho ⊢
      obtain ⟨hz, b, t, vs, hA, hg, hv⟩ := ho
      exact ⟨hz, b, t, vs, hA, hg, VRL.ren hr cs vs ha hv⟩
  | row fz sz es =>
    simp only [renOb, Option.some.injEq] at h; subst h
    simp only [OR] at ho ⊢
    obtain ⟨hz, h1, h2, h3, h4, h5⟩ := ho
    refine ⟨hz, h1, h2, h3, h4, h5.imp id ?_⟩
    rintro ⟨b, p, t, cs, hA, hg, hs, hE, hY⟩
    exact ⟨b, p, t, cs, hA, hg, hs, PRE.stay ⟨Nat.le_refl _, fun _ _ _ => rfl, fun b _ => hr.sub b⟩ (fun _ _ h => h) p es hE, fun hz hc => hY hz (hr.sub b hc)⟩
  | map kvs =>
    simp only [renOb, Option.some.injEq] at h; subst h
    simp only [OR] at ho ⊢
    obtain ⟨hz, b, es, hA, hg, hm⟩ := ho
    exact ⟨hz, b, es, hA, hg, hm.sub hr.sub⟩
  | iter o n seen =>
    simp only [renOb] at h
    cases hf : f o with
    | none => simp [hf] at h
    | some k =>
      simp only [hf, Option.some.injEq] at h; subst h
      simp only [OR] at ho ⊢
      rw [hr.to o k hf]; exact ho
theorem renH_at {f : Nat → Option Nat} : ∀ {H H' : Hp}, renH f H = some H' → H'.length = H.length ∧ ∀ o, (∀ x, hget H o = some x → ∃ y, renOb f x = some y ∧ hget H' o = some y) ∧ (hget H o = none → hget H' o = none)
  | [], H', h => by
    simp only [renH, Option.some.injEq] at h; subst h
    exact ⟨rfl, fun o => ⟨fun x hx => (by simp [hget] at hx), fun h => h⟩⟩
  | none :: r, H', h => by
    simp only [renH, Option.map_eq_some_iff] at h
    obtain ⟨H1, h1, rfl⟩ := h
    obtain ⟨k1, k2⟩ := renH_at h1
    refine ⟨by simp [k1], fun o => ?_⟩
    cases o with
    | zero => exact ⟨fun x hx => by simp [hget] at hx, fun _ => rfl⟩
    | succ o => rw [hget_cons.1 o, hget_cons.1 o]; exact k2 o
  | some x :: r, H', h => by
    simp only [renH] at h
    split at h
    · rename_i y hy
      simp only [Option.map_eq_some_iff] at h
      obtain ⟨H1, h1, rfl⟩ := h
      obtain ⟨k1, k2⟩ := renH_at h1
      refine ⟨by simp [k1], fun o => ?_⟩
      cases o with
      | zero => exact ⟨fun x' hx => by simp [hget] at hx; subst hx; exact ⟨y, hy, rfl⟩, fun h => by simp [hget] at h⟩
      | succ o => rw [hget_cons.1 o, hget_cons.1 o]; exact k2 o
    · cases h
theorem idxN_at {o : Nat} : ∀ {m : List Nat} {j k : Nat}, idxN o m j = some k → j ≤ k ∧ m[k - j]? = some o
  | [], j, k, h => by simp [idxN] at h
  | x :: r, j, k, h => by
    simp only [idxN] at h
    rcases beq_cases x o with ⟨hb, e⟩ | ⟨hb, e⟩
    · simp only [hb, cond_true, Option.some.injEq] at h; subst h; subst e; exact ⟨Nat.le_refl _, by simp⟩
    · simp only [hb, cond_false] at h
      obtain ⟨h1, h2⟩ := idxN_at h
      exact ⟨by omega, by rw [show k - j = (k - (j + 1)) + 1 from by omega]; simpa using h2⟩
theorem okM_ge : ∀ {m : List Nat}, okM base m = true → ∀ {j o : Nat}, m[j]? = some o → base ≤ o
  | [], _, j, o, h => by simp at h
  | x :: r, hk, j, o, h => by
    simp only [okM, Bool.and_eq_true] at hk
    cases j with
    | zero => simp at h; subst h; exact ble_t hk.1.1
    | succ j => exact okM_ge hk.2 (by simpa using h)
theorem okM_inj : ∀ {m : List Nat}, okM base m = true → ∀ {i j o : Nat}, m[i]? = some o → m[j]? = some o → i = j
  | [], _, i, j, o, h, _ => by simp at h
  | x :: r, hk, i, j, o, hi, hj => by
    simp only [okM, Bool.and_eq_true] at hk
    have no : ∀ {k : Nat}, r[k]? = some x → False := fun {k} h => by
      have h2 := hk.1.2
      rw [Bool.not_eq_true', ← Bool.not_eq_true, List.any_eq_true] at h2
      exact h2 ⟨x, List.mem_of_getElem? h, by simp⟩
    cases i with
    | zero =>
      simp at hi; subst hi
      cases j with
      | zero => rfl
      | succ j => exact (no (by simpa using hj)).elim
    | succ i =>
      cases j with
      | zero => simp at hj; subst hj; exact (no (by simpa using hi)).elim
      | succ j => rw [okM_inj hk.2 (i := i) (j := j) (by simpa using hi) (by simpa using hj)]
def renPhi (base : Nat) (m : List Nat) (φ : Phi) : Phi := fun o => if o < base then φ o else match m[o - base]? with | some k => φ k | none => .fresh
theorem keepS_vr {f : Nat → Option Nat} {s : Tr} {t : Nat} : ∀ (l : List Nat), (keepS f s l).get 12 t = .un ∨ (keepS f s l).get 12 t = renA f (s.get 12 t)
  | [] => .inl (get_leaf _ _)
  | k :: r => by
    simp only [keepS]
    by_cases e : t = k
    · subst e
      rcases get_put_self 12 (keepS f s r) t (renA f (s.get 12 t)) with h | h
      · exact .inr h
      · exact .inl h
    · rw [get_put_ne 12 _ _ _ _ e]; exact keepS_vr r
theorem tidy_ok {m keep : List Nat} {st' : Tr × Hp} (h : tidy base m keep st = some st') (hS : SR D X n st.1 st.2 φ a w) : ∃ φ', SR D X n st'.1 st'.2 φ' a w ∧ EvB base φ w φ' w ∧ base ≤ st'.2.length := by
  unfold tidy at h
  cases hb : (okM base m && Nat.ble base st.2.length) with
  | false => simp [hb] at h
  | true =>
    simp only [hb, cond_true] at h
    rw [Bool.and_eq_true] at hb
    obtain ⟨hm, hlen⟩ := hb
    have hlen := ble_t hlen
    split at h
    · rename_i H' hH'
      simp only [Option.some.injEq] at h; subst h
      obtain ⟨hl, hat⟩ := renH_at hH'
      have hl' : H'.length = base + m.length := by rw [hl]; simp; omega
      have hg : ∀ o, hget (st.2.take base ++ m.map (hget st.2)) o = if o < base then hget st.2 o else match m[o - base]? with | some k => hget st.2 k | none => none := fun o => by
        have htk : (st.2.take base).length = base := by simp; omega
        by_cases ho : o < base
        · rw [if_pos ho]
          simp only [hget]
          rw [List.getElem?_append_left (by omega), List.getElem?_take, if_pos ho]
        · rw [if_neg ho]
          unfold hget
          rw [List.getElem?_append_right (by omega), htk, List.getElem?_map]
          cases m[o - base]? with
          | none => rfl
          | some k =>
            simp only [Option.map_some]
            cases st.2[k]? with
            | none => rfl
            | some x => cases x <;> rfl
      have inv : ∀ o, o < base ∨ (∃ k, m[o - base]? = some k ∧ renPhi base m φ o = φ k ∧ base ≤ k) ∨ renPhi base m φ o = .fresh := fun o => by
        by_cases ho : o < base
        · exact .inl ho
        · right
          unfold renPhi
          rw [if_neg ho]
          cases hk : m[o - base]? with
          | none => exact .inr rfl
          | some k => exact .inl ⟨k, rfl, rfl, okM_ge hm hk⟩
      have low : ∀ o, o < base → renPhi base m φ o = φ o := fun o ho => by unfold renPhi; rw [if_pos ho]
      have src : ∀ o z l, renPhi base m φ o = .at z l → ∃ k, φ k = .at z l ∧ hget (st.2.take base ++ m.map (hget st.2)) o = hget st.2 k ∧ (o < base ∧ k = o ∨ ¬ o < base ∧ m[o - base]? = some k ∧ base ≤ k) := fun o z l ho => by
        rcases inv o with hlt | ⟨k, hk, e, hge⟩ | e
        · rw [low o hlt] at ho; exact ⟨o, ho, by rw [hg, if_pos hlt], .inl ⟨hlt, rfl⟩⟩
        · rw [e] at ho
          by_cases hlt : o < base
          · rw [low o hlt] at e
            exact ⟨o, e.trans ho, by rw [hg, if_pos hlt], .inl ⟨hlt, rfl⟩⟩
          · exact ⟨k, ho, by rw [hg, if_neg hlt, hk], .inr ⟨hlt, hk, hge⟩⟩
        · rw [e] at ho; cases ho
      have uniq : ∀ o o' k k', (o < base ∧ k = o ∨ ¬ o < base ∧ m[o - base]? = some k ∧ base ≤ k) → (o' < base ∧ k' = o' ∨ ¬ o' < base ∧ m[o' - base]? = some k' ∧ base ≤ k') → k = k' → o = o' := by
        rintro o o' k k' (⟨h1, rfl⟩ | ⟨h1, h2, h3⟩) (⟨k1, rfl⟩ | ⟨k1, k2, k3⟩) e
        · exact e
        · omega
        · omega
        · subst e
          have := okM_inj hm h2 k2; omega
      have hren : RenOK w (YOf X φ) (YOf X (renPhi base m φ)) (renO base m) φ (renPhi base m φ) := by
        refine ⟨fun b hb => hb.imp id ?_, fun o k hk => ?_⟩
        · rintro ⟨o, l, p, ho, hA⟩
          obtain ⟨k, hk, _⟩ := src o false l ho
          exact ⟨k, l, p, hk, hA⟩
        · unfold renO at hk
          cases hlt : Nat.blt o base with
          | true =>
            simp only [hlt, cond_true, Option.some.injEq] at hk; subst hk
            exact low o (by simpa [Nat.blt_eq] using hlt)
          | false =>
            simp only [hlt, cond_false] at hk
            obtain ⟨h1, h2⟩ := idxN_at hk
            unfold renPhi
            rw [if_neg (by omega), h2]
      have ev : EvB base φ w (renPhi base m φ) w := by
        refine ⟨rfl, rfl, ⟨rfl, Nat.le_refl _⟩, Nat.le_refl _, fun _ _ _ => rfl, fun b _ hb => ?_, fun o ho _ => .inl (low o ho), fun o ho h => by rw [low o ho]; exact h⟩
        obtain ⟨o, l, p, ho, hA⟩ := hb
        obtain ⟨k, hk, _⟩ := src o false l ho
        exact ⟨k, l, p, hk, hA⟩
      refine ⟨renPhi base m φ, ⟨hS.defers, hS.size, fun t => ?_, ?_⟩, ev, by rw [hl']; omega⟩
      · rcases keepS_vr (f := renO base m) (s := st.1) (t := t) keep with e | e
        · rw [e]; simp only [VR]
        · rw [e]; exact VR.ren hren _ _ (hS.slots t)
      · refine ⟨fun o ho => ?_, fun o z l ho => ?_, fun o y hy => ?_, fun o o' l l' b p p' ho ho' hA hA' => ?_, fun o l b p ho hA => ?_, hS.hr.xlt⟩
        · have ho' : H'.length ≤ o := ho
          unfold renPhi
          rw [if_neg (by omega), List.getElem?_eq_none (by omega)]
        · obtain ⟨k, hk, he, _⟩ := src o z l ho
          obtain ⟨x, hx⟩ := hS.hr.live k z l hk
          obtain ⟨y, _, hy⟩ := (hat o).1 x (he.trans hx)
          exact ⟨y, hy⟩
        · cases hx : hget (st.2.take base ++ m.map (hget st.2)) o with
          | none => rw [(hat o).2 hx] at hy; cases hy
          | some x =>
            obtain ⟨y', h1, h2⟩ := (hat o).1 x hx
            rw [hy] at h2; cases h2
            rw [hg] at hx
            by_cases hlt : o < base
            · rw [if_pos hlt] at hx
              obtain ⟨z, l, hl2, hO⟩ := hS.hr.ob o x hx
              exact ⟨z, l, by rw [low o hlt]; exact hl2, OR.ren hren h1 hO⟩
            · rw [if_neg hlt] at hx
              cases hk : m[o - base]? with
              | none => rw [hk] at hx; cases hx
              | some k =>
                rw [hk] at hx
                obtain ⟨z, l, hl2, hO⟩ := hS.hr.ob k x hx
                refine ⟨z, l, ?_, OR.ren hren h1 hO⟩
                unfold renPhi
                rw [if_neg hlt, hk]; exact hl2
        · obtain ⟨k, hk, _, c⟩ := src o false l ho
          obtain ⟨k', hk', _, c'⟩ := src o' false l' ho'
          exact uniq o o' k k' c c' (hS.hr.inj k k' l l' b p p' hk hk' hA hA')
        · obtain ⟨k, hk, _⟩ := src o false l ho
          exact hS.hr.out k l b p hk hA
    · cases h
end
end Go.Proofs.Ytkcafackfihmiaa
namespace Go.Proofs.Ytkcafackfihmiaa
set_option linter.unusedSimpArgs false
set_option linter.unusedVariables false
open Go.RowKit
inductive Hint where
  | idx (i : Nat) (c : List PV)
  | at_ (i : Nat)
  | byte (i : Nat) (b : UInt8)
  | cut (lo hi : Nat)
  | fits
  | app (b : Bool)
  | nz
  | bool (b : Bool)
  | num (n : Nat)
  | ent (r : Option (Nat × PV))
  | call (v : AV) (H : Hp)
  | mset (kvs : List (PV × PV))
  | ment (v : PV) (i : Nat) (kvs : List (PV × PV))
  | mst (i : Nat) (k : PV) (w : PV)
  | look (v : PV) (b : Bool)
  | entr (j : Nat) (k v : PV)
  | bs (l : List UInt8)
  | pan (ch : List PanicEntry) (H2 : Hp) (keep : List Nat) (k : Nat) (args : List AV)
  | die (ch : List PanicEntry)
structure Ent where
  br : Bool
  k : Nat
  args : List AV
  H : Hp
  v : AV
  H' : Hp
def CallS (P : Program) (br : Bool) (k : Nat) (args : List AV) (H : Hp) (v : AV) (H' : Hp) : Prop :=
  Enters P k ∧ (br = false → plRes v = true) ∧ ((br = false → H = []) → ∀ X φ w vs, HR X φ H w → VRT w (YOf X φ) φ args vs → Calls P k vs.toArray w (Ret X φ H w [(v, H')]))
def RetX (X : Nat → Prop) (φ : Phi) (H : Hp) (w : World) (ch : List PanicEntry) (H' : Hp) (e : Ending) (w' : World) : Prop :=
  e = .panicked ch ∧ ∃ φ', HR X φ' H' w' ∧ Ev φ w φ' w' ∧ H.length ≤ H'.length ∧ ∀ k, k < H.length → φ k = .fresh → φ' k = .fresh
def CallX (P : Program) (k : Nat) (args : List AV) (H : Hp) (ch : List PanicEntry) (H' : Hp) : Prop :=
  Enters P k ∧ ∀ X φ w vs, HR X φ H w → VRT w (YOf X φ) φ args vs → Calls P k vs.toArray w (RetX X φ H w ch H')
def Ent.ok (P : Program) (e : Ent) : Prop := CallS P e.br e.k e.args e.H e.v e.H'
def Ent.same (a b : Ent) : Prop := a.br = b.br → a.args = b.args → a.H = b.H → a.v = b.v ∧ a.H' = b.H'
def lookN {α : Type} (i : Nat) : List (Nat × α) → Option α
  | [] => none
  | (j, x) :: r => bif Nat.beq j i then some x else lookN i r
def intOf : AV → Option Int
  | .pl (.int _ n) => some n
  | _ => none
def cutP : Option AV → Nat → Nat → List Prop → Option (List Prop)
  | none, k, d, cs => some ((k = d) :: cs)
  | some (.pl (.int _ n)), k, _, cs => some ((n = (k : Int)) :: cs)
  | some _, _, _, _ => none
def appP (nid : Nat) (H : Hp) (te : TI) (news : List (List PV)) (x : AV) (all : List Prop) : Option ((AV × Hp) × List Prop) :=
  match x with
  | .pl (.sl .nil _ []) => some ((.own nid, hput H nid (.row false te.size news)), (fitsB news.length te = true) :: all)
  | .pl (.sl .zc _ []) => some ((.own nid, hput H nid (.row false te.size news)), (fitsB news.length te = true) :: all)
  | .own o => match hget H o with
    | some (.row false sz es) => bif Nat.beq sz te.size then some ((.own nid, hput (hset H o none) nid (.row false sz (es ++ news))), (fitsB (es.length + news.length) te = true) :: all) else none
    | _ => none
  | _ => none
def look (C : Cfg) (kt e : Nat) (k : PV) (kvs : List (PV × PV)) : Option (PV × Bool) :=
  bif keyV C.ty kt k then (match mfind C.ty kt k kvs 0 with
    | some (some (_, v)) => some (v, true)
    | some none => (match zeroOf C e with | some z => some (z, false) | none => none)
    | none => none) else none
def hPure (C : Cfg) (nid : Nat) (ρ : Operand → AV) (H : Hp) (op : Op) (h : Hint) : Option ((AV × Hp) × List Prop) :=
  match op, h with
  | .indexAddr t x i, .idx k c => match C.ty t, intOf (ρ i), ρ x with
    | some ti, some n, .pl (.sl _ sz es) => match ti.k with
      | .sl e => match C.ty e with | some te => bif Nat.beq sz te.size then some ((.ip c 0, H), [n = (k : Int), es[k]? = some c]) else none | none => none
      | _ => none
    | _, _, _ => none
  | .indexAddr t x i, .at_ k => match C.ty t, intOf (ρ i), ρ x with
    | some ti, some n, .own o => match ti.k, hget H o with
      | .sl e, some (.row _ sz es) => match C.ty e with | some te => bif Nat.beq sz te.size then some ((.ep o k 0, H), [n = (k : Int), k < es.length]) else none | none => none
      | _, _ => none
    | some ti, some n, .vw o off len => match ti.k, hget H o with
      | .sl e, some (.row _ sz es) => match C.ty e with | some te => bif Nat.beq sz te.size then some ((.ep o (off + k) 0, H), [n = (k : Int), k < len, off + len ≤ es.length]) else none | none => none
      | _, _ => none
    | some ti, some n, x => match ti.k with
      | .arr m e => match C.ty e with
        | some te => match x with
          | .bp o off => bif alive H o then some ((.bp o (off + k * te.size), H), [n = (k : Int), k < m]) else none
          | .ip c off => some ((.ip c (off + k * te.size), H), [n = (k : Int), k < m])
          | .ep o j off => bif alive H o then some ((.ep o j (off + k * te.size), H), [n = (k : Int), k < m]) else none
          | _ => none
        | none => none
      | _ => none
    | _, _, _ => none
  | .load t p, .idx _ c => match C.ty t, ρ p with
    | some ti, .ep o i off => match hget H o with
      | some (.row _ _ es) => bif ti.k.row then (bif Nat.ble (off + ti.size) c.length then some ((.pl (.agg ((c.drop off).take ti.size)), H), [es[i]? = some c]) else none) else (match c[off]? with | some p => some ((.pl p, H), [es[i]? = some c]) | none => none)
      | _ => none
    | _, _ => none
  | .store t p v, .idx _ c => match C.ty t, ρ p, plain H (ρ v) with
    | some ti, .ep o i off, some (q, H1) => match hget H1 o with
      | some (.row false sz es) => bif Nat.beq q.cells.length ti.size then (match putAt c off q.cells with | some c' => some ((.tup [], hset H1 o (some (.row false sz (es.set i c')))), [es[i]? = some c]) | none => none) else none
      | _ => none
    | _, _, _ => none
  | .index t x i, .byte k b => match C.ty t, ρ x, intOf (ρ i) with
    | some ti, .pl (.str s), some n => match ti.k with | .str => some ((.pl (.int .u8 (b.toNat : Int)), H), [n = (k : Int), s.data.toList[k]? = some b]) | _ => none
    | _, _, _ => none
  | .slice t x lo hi none, .cut a b => match C.ty t with
    | some ti => match ti.k with
      | .str => match ρ x with
        | .pl (.str s) => match cutP (lo.map ρ) a 0 [a ≤ b, b ≤ s.size] with
          | some cs => match cutP (hi.map ρ) b s.size cs with
            | some cs => some ((.pl (.str ⟨((s.data.toList.take b).drop a).toArray⟩), H), cs)
            | none => none
          | none => none
        | _ => none
      | .sl e => match C.ty e with
        | some te => match ρ x with
          | .pl (.sl .any sz es) => bif Nat.beq sz te.size then (match cutP (lo.map ρ) a 0 [a ≤ b, b ≤ es.length] with
            | some cs => match cutP (hi.map ρ) b es.length cs with
              | some cs => some ((.pl (.sl .any sz ((takeO (match hi with | some _ => some b | none => none) es).drop a)), H), cs)
              | none => none
            | none => none) else none
          | .own o => match hget H o with
            | some (.row _ sz es) => bif Nat.beq sz te.size then (match cutP (lo.map ρ) a 0 [a ≤ b, b ≤ es.length] with
              | some cs => match cutP (hi.map ρ) b es.length cs with
                | some cs => some ((.vw o a (b - a), H), cs)
                | none => none
              | none => none) else none
            | _ => none
          | .vw o off len => match hget H o with
            | some (.row _ sz es) => bif Nat.beq sz te.size then (match cutP (lo.map ρ) a 0 [a ≤ b, off + b ≤ es.length] with
              | some cs => match cutP (hi.map ρ) b len cs with
                | some cs => some ((.vw o (off + a) (b - a), H), cs)
                | none => none
              | none => none) else none
            | _ => none
          | _ => none
        | none => none
      | _ => none
    | none => none
  | .call c, .fits => match c.callee, c.argTypes.toList, c.args.toList with
    | .builtin .append, [t, t1], [x, y] => match C.ty t, bif srcTy C t1 (ρ y) then srcElems H (ρ y) else none with
      | some ti, some news => match ti.k with
        | .sl e => match C.ty e with
          | some te => bif !(news.all fun c => Nat.beq c.length te.size) || Nat.beq te.size 0 then none else
            (match news with | [] => none | a :: l => appP nid H te (a :: l) (ρ x) [])
          | none => none
        | _ => none
      | _, _ => none
    | _, _, _ => none
  | .call c, .app b => match c.callee, c.argTypes.toList, c.args.toList with
    | .builtin .append, [t, t1], [x, y] => match C.ty t, bif srcTy C t1 (ρ y) then srcElems H (ρ y) else none with
      | some ti, some news => match ti.k with
        | .sl e => match C.ty e with
          | some te => bif Nat.beq te.size 0 then none else
            bif b then appP nid H te news (ρ x) [news ≠ [], ∀ c ∈ news, c.length = te.size] else
            (match ρ x with
              | .pl (.sl f sz es) => some ((.pl (.sl f sz es), H), [news = []])
              | .own o => (match hget H o with | some (.row _ _ _) => some ((.own o, H), [news = []]) | _ => none)
              | .vw o a n => (match hget H o with | some (.row _ _ _) => some ((.vw o a n, H), [news = []]) | _ => none)
              | _ => none)
          | none => none
        | _ => none
      | _, _ => none
    | _, _, _ => none
  | .binOp op _ x y _, .nz => match op, ρ x, ρ y with
    | .quo, .pl (.int k a), .pl (.int k' b) => bif kindEq k k' then some ((.pl (.int k (k.wrap (a.tdiv b))), H), [b ≠ 0]) else none
    | .rem, .pl (.int k a), .pl (.int k' b) => bif kindEq k k' then some ((.pl (.int k (a.tmod b)), H), [b ≠ 0]) else none
    | _, _, _ => none
  | .binOp op _ x y _, .fits => match op, ρ x, ρ y with
    | .add, .pl (.str a), .pl (.str b) => some ((.pl (.str ⟨(a.data.toList ++ b.data.toList).toArray⟩), H), [a.size + b.size ≤ 9223372036854775807])
    | .shl, .pl (.int k a), .pl (.int _ b) => some ((.pl (.int k (k.wrap (a * 2 ^ (min b.toNat k.bits)))), H), [0 ≤ b])
    | .shr, .pl (.int k a), .pl (.int _ b) => some ((.pl (.int k (a.fdiv (2 ^ (min b.toNat k.bits)))), H), [0 ≤ b])
    | _, _, _ => none
  | .binOp op t x y _, .bool b => match op, ρ x, ρ y with
    | .eql, .pl (.agg p), .pl (.agg q) => (match C.ty t with | some ti => (match ti.k with | .struct _ => some ((.pl (.bool b), H), [eqV C.ty t (.agg p) (.agg q) = some b]) | _ => none) | none => none)
    | .neq, .pl (.agg p), .pl (.agg q) => (match C.ty t with | some ti => (match ti.k with | .struct _ => some ((.pl (.bool !b), H), [eqV C.ty t (.agg p) (.agg q) = some b]) | _ => none) | none => none)
    | .eql, .own o, .pl (.sl .nil _ _) => (match C.ty t, hget H o with | some ti, some (.row _ _ es) => (match ti.k with | .sl _ => some ((.pl (.bool false), H), [es ≠ []]) | _ => none) | _, _ => none)
    | .neq, .own o, .pl (.sl .nil _ _) => (match C.ty t, hget H o with | some ti, some (.row _ _ es) => (match ti.k with | .sl _ => some ((.pl (.bool true), H), [es ≠ []]) | _ => none) | _, _ => none)
    | _, _, _ => none
  | .pick c a b, .bool d => match ρ c with
    | .pl (.bool t) => some ((bif d then ρ a else ρ b, H), [t = d])
    | _ => none
  | .makeSlice t l c, .num k => match C.ty t, ρ l, ρ c with
    | some ti, .pl (.int _ n), .pl (.int _ m) => match ti.k with
      | .sl e => match C.ty e with
        | some te => bif Nat.beq te.size 0 then none else some ((.own nid, hput H nid (.row false te.size (List.replicate k te.zero))), [n = (k : Int), m = (k : Int), fitsB k te = true])
        | none => none
      | _ => none
    | _, _, _ => none
  | .convert s d x, .bs l => match C.ty s, C.ty d, ρ x with
    | some ts, some td, .pl (.sl _ sz es) => match td.k, ts.k with
      | .str, .sl e => match C.ty e with
        | some te => match te.k with
          | .int .u8 => bif Nat.beq sz 1 then some ((.pl (.str ⟨l.toArray⟩), H), [bytesOf es = some l]) else none
          | _ => none
        | none => none
      | _, _ => none
    | _, _, _ => none
  | .convert s d x, .fits => match C.ty s, C.ty d, ρ x with
    | some _, some td, .pl (.str b) => match td.k with
      | .sl e => match C.ty e with
        | some te => match te.k with
          | .int .u8 => bif Nat.beq te.size 1 then some ((.pl (.sl .any 1 (b.data.toList.map fun c => [.int .u8 (c.toNat : Int)])), H), [b.size ≤ 9223372036854775807]) else none
          | _ => none
        | none => none
      | _ => none
    | _, _, _ => none
  | .entry it, .entr j k v => match ρ it with
    | .it i => (match hget H i with
      | some (.iter o n seen) => (match hget H o with
        | some (.map kvs) => some ((.tup [.pl k, .pl v], H), [seen.getLast? = some j, kvs.length = n, kvs[j]? = some (k, v)])
        | _ => none)
      | _ => none)
    | _ => none
  | .mapUpdate t x k v, .mset kvs' => match mapTy C t, ρ x, ρ k, plain H (ρ v) with
    | some (kt, _), .mp o, .pl k, some (v, H1) => (match hget H1 o with
      | some (.map kvs) => some ((.tup [], hset H1 o (some (.map kvs'))), [mset C.ty kt k v kvs = some kvs'])
      | _ => none)
    | _, _, _, _ => none
  | .insert t x k v, .mset kvs' => match mapTy C t, ρ x, ρ k, plain H (ρ v) with
    | some (kt, _), .mp o, .pl k, some (v, H1) => (match hget H1 o with
      | some (.map kvs) => some ((.tup [], hset H1 o (some (.map kvs'))), [mset C.ty kt k v kvs = some kvs'])
      | _ => none)
    | _, _, _, _ => none
  | .mapEntry t x k, .ment v i kvs' => match mapTy C t, ρ x, ρ k with
    | some (kt, e), .mp o, .pl k => (match hget H o with
      | some (.map kvs) => some ((.tup [.pl v, .pl (.int .i64 (i : Int))], hset H o (some (.map kvs'))), [ment C kt e k kvs = some (v, i, kvs')])
      | _ => none)
    | _, _, _ => none
  | .entryStore _ x s v, .mst i k u => match ρ x, ρ s, plain H (ρ v) with
    | .mp o, .pl (.int _ n), some (v, H1) => (match hget H1 o with
      | some (.map kvs) => some ((.tup [], hset H1 o (some (.map (kvs.set i (k, v))))), [n = (i : Int), kvs[i]? = some (k, u)])
      | _ => none)
    | _, _, _ => none
  | .lookup t x k ok, .look v b => match mapTy C t, ρ k, mapOf H (ρ x) with
    | some (kt, e), .pl k, some kvs => some ((bif ok then .tup [.pl v, .pl (.bool b)] else .pl v, H), [look C kt e k kvs = some (v, b)])
    | _, _, _ => none
  | .lookup t x k ok, .ent r => match mapTy C t, ρ k, mapOf H (ρ x) with
    | some (kt, e), .pl k, some kvs => bif keyV C.ty kt k then (match r with
        | some (_, v) => some ((bif ok then .tup [.pl v, .pl (.bool true)] else .pl v, H), [mfind C.ty kt k kvs 0 = some r])
        | none => (match zeroOf C e with | some z => some ((bif ok then .tup [.pl z, .pl (.bool false)] else .pl z, H), [mfind C.ty kt k kvs 0 = some none]) | none => none)) else none
    | _, _, _ => none
  | _, _ => none

theorem optNat_none : optNat none = some none := rfl
theorem natOf_of {n : Int} {k : Nat} (h : n = (k : Int)) : natOf n = some k := by subst h; rfl
theorem optNat_cut {o : Option AV} {k d : Nat} {cs cs' : List Prop} (h : cutP o k d cs = some cs') (hp : AllP cs') : AllP cs ∧ ∃ r, optNat o = some r ∧ r.getD d = k ∧ (o = none → r = none) ∧ (o ≠ none → r = some k) := by
  unfold cutP at h
  split at h
  · simp only [Option.some.injEq] at h; subst h
    exact ⟨hp.2, none, rfl, hp.1.symm, fun _ => rfl, fun h => absurd rfl h⟩
  · simp only [Option.some.injEq] at h; subst h
    refine ⟨hp.2, some k, ?_, rfl, (fun h => by cases h), fun _ => rfl⟩
    rw [hp.1]; rfl
  · cases h
theorem intOf_eq {a : AV} {n : Int} (h : intOf a = some n) : ∃ k, a = .pl (.int k n) := by
  unfold intOf at h
  split at h
  · simp only [Option.some.injEq] at h; subst h; exact ⟨_, rfl⟩
  · cases h
theorem ble_of {a b : Nat} (h : a ≤ b) : Nat.ble a b = true := by simpa using h
theorem blt_of {a b : Nat} (h : a < b) : Nat.blt a b = true := by rw [Nat.blt_eq]; exact h
section
variable {C : Cfg} {nid : Nat} {ρ : Operand → AV} {H : Hp}
theorem app_ok {te : TI} {news : List (List PV)} {x : AV} {all cs : List Prop} {r : AV × Hp} {t t1 e : Nat} {ti : TI} {y : AV} (h : appP nid H te news x all = some (r, cs)) (hp : AllP cs) (hti : C.ty t = some ti) (hk : ti.k = .sl e) (hte : C.ty e = some te)
    (hs : (bif srcTy C t1 y then srcElems H y else none) = some news) (hg : (!(news.all fun c => Nat.beq c.length te.size) || Nat.beq te.size 0) = false) (hne : news ≠ []) : evAppend C nid H t t1 x y = some r := by
  unfold evAppend
  simp only [hti, hs, hk, hte, hg, cond_false]
  cases news with
  | nil => exact absurd rfl hne
  | cons a l =>
    unfold appP at h
    split at h
    · simp only [Option.some.injEq, Prod.mk.injEq] at h; obtain ⟨rfl, rfl⟩ := h
      simp only [hp.1, cond_true]
    · simp only [Option.some.injEq, Prod.mk.injEq] at h; obtain ⟨rfl, rfl⟩ := h
      simp only [hp.1, cond_true]
    · split at h
      · rename_i sz es ho
        cases hb : Nat.beq sz te.size with
        | false => simp [hb] at h
        | true =>
          simp only [hb, cond_true, Option.some.injEq, Prod.mk.injEq] at h; obtain ⟨rfl, rfl⟩ := h
          simp only [ho, hp.1, hb, Bool.and_true, cond_true]
      · cases h
    · cases h
theorem all_len {news : List (List PV)} {n : Nat} (h : ∀ c ∈ news, c.length = n) : news.all (fun c => Nat.beq c.length n) = true := by
  rw [List.all_eq_true]; intro c hc; rw [h c hc]; simp
theorem hPure_ok {op : Op} {hh : Hint} {r : AV × Hp} {cs : List Prop} (h : hPure C nid ρ H op hh = some (r, cs)) (hp : AllP cs) : evPure C nid ρ H op = some r := by
  unfold hPure at h
  split at h
  · -- indexAddr, idx
    split at h
    · rename_i t x i k c ti n f sz es hti hn hx
      obtain ⟨kd, hn⟩ := intOf_eq hn
      split at h
      · rename_i e hk
        split at h
        · rename_i te hte
          cases hb : Nat.beq sz te.size with
          | false => simp [hb] at h
          | true =>
            simp only [hb, cond_true, Option.some.injEq, Prod.mk.injEq] at h; obtain ⟨rfl, rfl⟩ := h
            simp only [evPure, evIndexAddr, hti, hn, natOf_of hp.1, hk, hte, hx, hb, cond_true, hp.2.1, Option.map_some]
        · cases h
      · cases h
    · cases h
  · -- indexAddr, at
    split at h
    · rename_i t x i k ti n o hti hn hx
      obtain ⟨kd, hn⟩ := intOf_eq hn
      split at h
      · rename_i e sz es hk ho
        split at h
        · rename_i te hte
          cases hb : Nat.beq sz te.size with
          | false => simp [hb] at h
          | true =>
            simp only [hb, cond_true, Option.some.injEq, Prod.mk.injEq] at h; obtain ⟨rfl, rfl⟩ := h
            simp only [evPure, evIndexAddr, hti, hn, natOf_of hp.1, hk, hte, hx, ho, hb, blt_of hp.2.1, Bool.and_self, cond_true, Option.map_some]
        · cases h
      · cases h
    · rename_i t x i k ti n o off len hti hn hx
      obtain ⟨kd, hn⟩ := intOf_eq hn
      split at h
      · rename_i e sz es hk ho
        split at h
        · rename_i te hte
          cases hb : Nat.beq sz te.size with
          | false => simp [hb] at h
          | true =>
            simp only [hb, cond_true, Option.some.injEq, Prod.mk.injEq] at h; obtain ⟨rfl, rfl⟩ := h
            simp only [evPure, evIndexAddr, hti, hn, natOf_of hp.1, hk, hte, hx, ho, hb, blt_of hp.2.1, ble_of hp.2.2.1, Bool.and_self, cond_true, Option.map_some]
        · cases h
      · cases h
    · rename_i t x i k ti n hti hn _ _
      obtain ⟨kd, hn⟩ := intOf_eq hn
      split at h
      · rename_i m e hk
        split at h
        · rename_i te hte
          split at h
          · rename_i o off hx
            cases ha : alive H o with
            | false => simp [ha] at h
            | true =>
              simp only [ha, cond_true, Option.some.injEq, Prod.mk.injEq] at h; obtain ⟨rfl, rfl⟩ := h
              simp only [evPure, evIndexAddr, hti, hn, natOf_of hp.1, hk, hte, hx, ha, blt_of hp.2.1, cond_true, Option.map_some]
          · rename_i c off hx
            simp only [Option.some.injEq, Prod.mk.injEq] at h; obtain ⟨rfl, rfl⟩ := h
            simp only [evPure, evIndexAddr, hti, hn, natOf_of hp.1, hk, hte, hx, blt_of hp.2.1, cond_true, Option.map_some]
          · rename_i o j off hx
            cases ha : alive H o with
            | false => simp [ha] at h
            | true =>
              simp only [ha, cond_true, Option.some.injEq, Prod.mk.injEq] at h; obtain ⟨rfl, rfl⟩ := h
              simp only [evPure, evIndexAddr, hti, hn, natOf_of hp.1, hk, hte, hx, ha, blt_of hp.2.1, cond_true, Option.map_some]
          · cases h
        · cases h
      · cases h
    · cases h
  · -- load
    rename_i t p _ c
    split at h
    · rename_i ti o i off hti hpx
      split at h
      · rename_i fz sz es ho
        cases hr : ti.k.row with
        | true =>
          simp only [hr, cond_true] at h
          cases hb : Nat.ble (off + ti.size) c.length with
          | false => simp [hb] at h
          | true =>
            simp only [hb, cond_true, Option.some.injEq, Prod.mk.injEq] at h; obtain ⟨rfl, rfl⟩ := h
            simp only [evPure, evLoad, hti, hpx, ho, hp.1, hr, hb, cond_true, Option.map_some]
        | false =>
          simp only [hr, cond_false] at h
          split at h
          · rename_i q hq
            simp only [Option.some.injEq, Prod.mk.injEq] at h; obtain ⟨rfl, rfl⟩ := h
            simp only [evPure, evLoad, hti, hpx, ho, hp.1, hr, cond_false, hq, Option.map_some]
          · cases h
      · cases h
    · cases h
  · -- store
    rename_i t p v _ c
    split at h
    · rename_i ti o i off q H1 hti hpx hpl
      split at h
      · rename_i sz es ho
        cases hb : Nat.beq q.cells.length ti.size with
        | false => simp [hb] at h
        | true =>
          simp only [hb, cond_true] at h
          split at h
          · rename_i c' hc'
            simp only [Option.some.injEq, Prod.mk.injEq] at h; obtain ⟨rfl, rfl⟩ := h
            simp only [evPure, evStore, hti, hpx, hpl, ho, hp.1, hb, cond_true, hc', Option.map_some]
          · cases h
      · cases h
    · cases h
  · -- index of a string
    split at h
    · rename_i t x i k b ti s n hti hx hn
      obtain ⟨kd, hn⟩ := intOf_eq hn
      split at h
      · rename_i hk
        simp only [Option.some.injEq, Prod.mk.injEq] at h; obtain ⟨rfl, rfl⟩ := h
        simp only [evPure, evIndex, hti, hx, hn, hk, natOf_of hp.1, hp.2.1, Option.map_some]
      · cases h
    · cases h
  · -- slice
    rename_i t x lo hi a b
    split at h
    · rename_i ti hti
      split at h
      · rename_i hk
        split at h
        · rename_i s hx
          split at h
          · rename_i cs1 hc1
            split at h
            · rename_i cs2 hc2
              simp only [Option.some.injEq, Prod.mk.injEq] at h; obtain ⟨rfl, rfl⟩ := h
              obtain ⟨hp1, rh, h1, h2, _, _⟩ := optNat_cut hc2 hp
              obtain ⟨hp2, rl, k1, k2, _, _⟩ := optNat_cut hc1 hp1
              simp only [evPure, evSlice, hti, k1, h1, Option.map_none, optNat_none, hk, hx, k2, h2, ble_of hp2.1, ble_of hp2.2.1, Bool.and_self, cond_true, Option.map_some]
            · cases h
          · cases h
        · cases h
      · rename_i e hk
        split at h
        · rename_i te hte
          split at h
          · rename_i sz es hx
            cases hb : Nat.beq sz te.size with
            | false => simp [hb] at h
            | true =>
              simp only [hb, cond_true] at h
              split at h
              · rename_i cs1 hc1
                split at h
                · rename_i cs2 hc2
                  simp only [Option.some.injEq, Prod.mk.injEq] at h; obtain ⟨rfl, rfl⟩ := h
                  obtain ⟨hp1, rh, h1, h2, h3, h4⟩ := optNat_cut hc2 hp
                  obtain ⟨hp2, rl, k1, k2, _, _⟩ := optNat_cut hc1 hp1
                  simp only [evPure, evSlice, hti, k1, h1, Option.map_none, optNat_none, hk, hte, hx, hb, k2, h2, ble_of hp2.1, ble_of hp2.2.1, Bool.not_true, cond_false, Bool.and_self, cond_true, Option.map_some]
                  cases hi with
                  | none => rw [h3 rfl]
                  | some q => rw [h4 (by simp)]
                · cases h
              · cases h
          · rename_i o hx
            split at h
            · rename_i fz sz es ho
              cases hb : Nat.beq sz te.size with
              | false => simp [hb] at h
              | true =>
                simp only [hb, cond_true] at h
                split at h
                · rename_i cs1 hc1
                  split at h
                  · rename_i cs2 hc2
                    simp only [Option.some.injEq, Prod.mk.injEq] at h; obtain ⟨rfl, rfl⟩ := h
                    obtain ⟨hp1, rh, h1, h2, h3, h4⟩ := optNat_cut hc2 hp
                    obtain ⟨hp2, rl, k1, k2, _, _⟩ := optNat_cut hc1 hp1
                    simp only [evPure, evSlice, hti, k1, h1, Option.map_none, optNat_none, hk, hte, hx, ho, hb, vwOf, k2, h2, ble_of hp2.1, ble_of hp2.2.1, Bool.and_self, cond_true, Option.map_some, Nat.zero_add]
                  · cases h
                · cases h
            · cases h
          · rename_i o off len hx
            split at h
            · rename_i fz sz es ho
              cases hb : Nat.beq sz te.size with
              | false => simp [hb] at h
              | true =>
                simp only [hb, cond_true] at h
                split at h
                · rename_i cs1 hc1
                  split at h
                  · rename_i cs2 hc2
                    simp only [Option.some.injEq, Prod.mk.injEq] at h; obtain ⟨rfl, rfl⟩ := h
                    obtain ⟨hp1, rh, h1, h2, h3, h4⟩ := optNat_cut hc2 hp
                    obtain ⟨hp2, rl, k1, k2, _, _⟩ := optNat_cut hc1 hp1
                    have e1 : Nat.ble off es.length = true := ble_of (by have := hp2.2.1; omega)
                    have e2 : Nat.ble b (es.length - off) = true := ble_of (by have := hp2.2.1; omega)
                    simp only [evPure, evSlice, hti, k1, h1, Option.map_none, optNat_none, hk, hte, hx, ho, hb, vwOf, k2, h2, ble_of hp2.1, e1, e2, Bool.and_self, cond_true, Option.map_some]
                  · cases h
                · cases h
            · cases h
          · cases h
        · cases h
      · cases h
    · cases h
  · -- append of values
    rename_i c
    split at h
    · rename_i t t1 x y hcal hts has
      split at h
      · rename_i ti news hti hs
        split at h
        · rename_i e hk
          split at h
          · rename_i te hte
            cases hg : (!(news.all fun c => Nat.beq c.length te.size) || Nat.beq te.size 0) with
            | true => simp [hg] at h
            | false =>
              simp only [hg, cond_false] at h
              split at h
              · cases h
              · have := app_ok h hp hti hk hte hs hg (by simp)
                simp only [evPure, hcal, hts, has, List.map_cons, List.map_nil, evBuiltin, this]
          · cases h
        · cases h
      · cases h
    · cases h
  · -- append of a list
    rename_i c b
    split at h
    · rename_i t t1 x y hcal hts has
      split at h
      · rename_i ti news hti hs
        split at h
        · rename_i e hk
          split at h
          · rename_i te hte
            cases hz : Nat.beq te.size 0 with
            | true => simp [hz] at h
            | false =>
              simp only [hz, cond_false] at h
              cases b with
              | true =>
                simp only [cond_true] at h
                have hcs : AllP [news ≠ [], ∀ c ∈ news, c.length = te.size] := by
                  unfold appP at h
                  split at h
                  · simp only [Option.some.injEq, Prod.mk.injEq] at h; obtain ⟨_, rfl⟩ := h; exact hp.2
                  · simp only [Option.some.injEq, Prod.mk.injEq] at h; obtain ⟨_, rfl⟩ := h; exact hp.2
                  · split at h
                    · rename_i sz es ho
                      cases hb : Nat.beq sz te.size with
                      | false => simp [hb] at h
                      | true => simp only [hb, cond_true, Option.some.injEq, Prod.mk.injEq] at h; obtain ⟨_, rfl⟩ := h; exact hp.2
                    · cases h
                  · cases h
                have hg : (!(news.all fun c => Nat.beq c.length te.size) || Nat.beq te.size 0) = false := by rw [all_len hcs.2.1, hz]; rfl
                have := app_ok h hp hti hk hte hs hg hcs.1
                simp only [evPure, hcal, hts, has, List.map_cons, List.map_nil, evBuiltin, this]
              | false =>
                simp only [cond_false] at h
                have fin : ∀ r : AV × Hp, news = [] → (match ρ x with | .pl (.sl f sz es) => some (AV.pl (.sl f sz es), H) | .own o => (match hget H o with | some (.row _ _ _) => some (.own o, H) | _ => none) | .vw o a n => (match hget H o with | some (.row _ _ _) => some (.vw o a n, H) | _ => none) | _ => none) = some r → evPure C nid ρ H (.call c) = some r := fun r hn hr => by
                  subst hn
                  have : evAppend C nid H t t1 (ρ x) (ρ y) = some r := by
                    unfold evAppend
                    simp only [hti, hs, hk, hte, List.all_nil, Bool.not_true, Bool.false_or, hz, cond_false]
                    exact hr
                  simp only [evPure, hcal, hts, has, List.map_cons, List.map_nil, evBuiltin, this]
                split at h
                · rename_i f sz es hx
                  simp only [Option.some.injEq, Prod.mk.injEq] at h; obtain ⟨rfl, rfl⟩ := h
                  exact fin _ hp.1 (by simp only [hx])
                · rename_i o hx
                  split at h
                  · rename_i ho
                    simp only [Option.some.injEq, Prod.mk.injEq] at h; obtain ⟨rfl, rfl⟩ := h
                    exact fin _ hp.1 (by simp only [hx, ho])
                  · cases h
                · rename_i o a n hx
                  split at h
                  · rename_i ho
                    simp only [Option.some.injEq, Prod.mk.injEq] at h; obtain ⟨rfl, rfl⟩ := h
                    exact fin _ hp.1 (by simp only [hx, ho])
                  · cases h
                · cases h
          · cases h
        · cases h
      · cases h
    · cases h
  · -- division
    split at h
    · rename_i t x y t' k a k' b hx hy
      cases hb : kindEq k k' with
      | false => simp [hb] at h
      | true =>
        simp only [hb, cond_true, Option.some.injEq, Prod.mk.injEq] at h; obtain ⟨rfl, rfl⟩ := h
        have : decide (b = 0) = false := by simpa using hp.1
        simp only [evPure, evBin, hx, hy, hb, cond_true, binI, this, cond_false, Option.map_some]
    · rename_i t x y t' k a k' b hx hy
      cases hb : kindEq k k' with
      | false => simp [hb] at h
      | true =>
        simp only [hb, cond_true, Option.some.injEq, Prod.mk.injEq] at h; obtain ⟨rfl, rfl⟩ := h
        have : decide (b = 0) = false := by simpa using hp.1
        simp only [evPure, evBin, hx, hy, hb, cond_true, binI, this, cond_false, Option.map_some]
    · cases h
  · -- strings, shifts
    split at h
    · rename_i t x y t' a b hx hy
      simp only [Option.some.injEq, Prod.mk.injEq] at h; obtain ⟨rfl, rfl⟩ := h
      simp only [evPure, evBin, hx, hy, binS, ble_of hp.1, cond_true, Option.map_some]
    · rename_i t x y t' k a k' b hx hy
      simp only [Option.some.injEq, Prod.mk.injEq] at h; obtain ⟨rfl, rfl⟩ := h
      have : decide (b < 0) = false := by have := hp.1; simp; omega
      simp only [evPure, evBin, hx, hy, shI, this, cond_false, Option.map_some]
    · rename_i t x y t' k a k' b hx hy
      simp only [Option.some.injEq, Prod.mk.injEq] at h; obtain ⟨rfl, rfl⟩ := h
      have : decide (b < 0) = false := by have := hp.1; simp; omega
      simp only [evPure, evBin, hx, hy, shI, this, cond_false, Option.map_some]
    · cases h
  · -- equality
    split at h
    · rename_i t x y t' b p q hx hy
      split at h
      · rename_i ti hti
        split at h
        · rename_i fs hk
          simp only [Option.some.injEq, Prod.mk.injEq] at h; obtain ⟨rfl, rfl⟩ := h
          have h1 := hp.1
          simp only [evPure, evBin, hx, hy, evEq, hti, hk, h1, Option.map_some]
        · cases h
      · cases h
    · rename_i t x y t' b p q hx hy
      split at h
      · rename_i ti hti
        split at h
        · rename_i fs hk
          simp only [Option.some.injEq, Prod.mk.injEq] at h; obtain ⟨rfl, rfl⟩ := h
          have h1 := hp.1
          simp only [evPure, evBin, hx, hy, evEq, hti, hk, h1, Option.map_some]
        · cases h
      · cases h
    · rename_i t x y t' b o sz es' hx hy
      split at h
      · rename_i ti fz sz2 es hti ho
        split at h
        · rename_i e hk
          simp only [Option.some.injEq, Prod.mk.injEq] at h; obtain ⟨rfl, rfl⟩ := h
          cases es with
          | nil => exact absurd rfl hp.1
          | cons a l => simp only [evPure, evBin, hx, hy, evEq, hti, hk, ho, Option.map_some]
        · cases h
      · cases h
    · rename_i t x y t' b o sz es' hx hy
      split at h
      · rename_i ti fz sz2 es hti ho
        split at h
        · rename_i e hk
          simp only [Option.some.injEq, Prod.mk.injEq] at h; obtain ⟨rfl, rfl⟩ := h
          cases es with
          | nil => exact absurd rfl hp.1
          | cons a l => simp only [evPure, evBin, hx, hy, evEq, hti, hk, ho, Option.map_some, Bool.not_false]
        · cases h
      · cases h
    · cases h
  · -- pick
    split at h
    · rename_i c a b d t hc
      simp only [Option.some.injEq, Prod.mk.injEq] at h; obtain ⟨rfl, rfl⟩ := h
      have h1 := hp.1
      simp only [evPure, hc, h1]
    · cases h
  · -- makeSlice
    rename_i t l c k
    split at h
    · rename_i ti kd n kd' m hti hl hc
      split at h
      · rename_i e hk
        split at h
        · rename_i te hte
          cases hz : Nat.beq te.size 0 with
          | true => simp [hz] at h
          | false =>
            simp only [hz, cond_false, Option.some.injEq, Prod.mk.injEq] at h; obtain ⟨rfl, rfl⟩ := h
            have hm : decide (m = (k : Int)) = true := by simpa using hp.2.1
            simp only [evPure, hti, hl, hc, hk, natOf_of hp.1, hte, hm, hp.2.2.1, hz, Bool.not_false, Bool.and_self, cond_true]
        · cases h
      · cases h
    · cases h
  · -- convert
    split at h
    · rename_i s d x l ts td f sz es hs hd hx
      split at h
      · rename_i e hk1 hk2
        split at h
        · rename_i te hte
          split at h
          · rename_i hk3
            cases hb : Nat.beq sz 1 with
            | false => simp [hb] at h
            | true =>
              simp only [hb, cond_true, Option.some.injEq, Prod.mk.injEq] at h; obtain ⟨rfl, rfl⟩ := h
              have h1 := hp.1
              simp only [evPure, evConv, hs, hd, hx, hk1, hk2, hte, hk3, h1, hb, cond_true, Option.map_some]
          · cases h
        · cases h
      · cases h
    · cases h
  · -- convert to bytes
    split at h
    · rename_i s d x ts td b hs hd hx
      split at h
      · rename_i e hk1
        split at h
        · rename_i te hte
          split at h
          · rename_i hk3
            cases hb : Nat.beq te.size 1 with
            | false => simp [hb] at h
            | true =>
              simp only [hb, cond_true, Option.some.injEq, Prod.mk.injEq] at h; obtain ⟨rfl, rfl⟩ := h
              have h1 := ble_of hp.1
              simp only [evPure, evConv, hs, hd, hx, hk1, hte, hk3, h1, hb, Bool.and_self, cond_true, Option.map_some]
          · cases h
        · cases h
      · cases h
    · cases h
  · -- entry
    split at h
    · rename_i it j k v i hit
      split at h
      · rename_i o n seen hi
        split at h
        · rename_i kvs ho
          simp only [Option.some.injEq, Prod.mk.injEq] at h; obtain ⟨rfl, rfl⟩ := h
          have h1 := hp.1
          have h2 := hp.2.1
          have h3 := hp.2.2.1
          have h4 : Nat.beq kvs.length n = true := by rw [h2]; simp
          simp only [evPure, evEntry, hit, hi, ho, h1, h3, h4, cond_true, Option.map_some]
        · cases h
      · cases h
    · cases h
  · -- mapUpdate
    split at h
    · rename_i t x k v kvs' kt e o kp vp H1 hmt hx hk hv
      split at h
      · rename_i kvs ho
        simp only [Option.some.injEq, Prod.mk.injEq] at h; obtain ⟨rfl, rfl⟩ := h
        simp only [evPure, evMapUpdate, hmt, hx, hk, hv, ho, hp.1, Option.map_some]
      · cases h
    · cases h
  · -- insert
    split at h
    · rename_i t x k v kvs' kt e o kp vp H1 hmt hx hk hv
      split at h
      · rename_i kvs ho
        simp only [Option.some.injEq, Prod.mk.injEq] at h; obtain ⟨rfl, rfl⟩ := h
        simp only [evPure, evMapUpdate, hmt, hx, hk, hv, ho, hp.1, Option.map_some]
      · cases h
    · cases h
  · -- mapEntry
    split at h
    · rename_i t x k v i kvs' kt e o kp hmt hx hk
      split at h
      · rename_i kvs ho
        simp only [Option.some.injEq, Prod.mk.injEq] at h; obtain ⟨rfl, rfl⟩ := h
        simp only [evPure, evMapEntry, hmt, hx, hk, ho, hp.1]
      · cases h
    · cases h
  · -- entryStore
    split at h
    · rename_i t x s v i kp u o kd n vp H1 hx hs hv
      split at h
      · rename_i kvs ho
        simp only [Option.some.injEq, Prod.mk.injEq] at h; obtain ⟨rfl, rfl⟩ := h
        simp only [evPure, evEntryStore, hx, hs, hv, ho, natOf_of hp.1, hp.2.1, Option.map_some]
      · cases h
    · cases h
  · -- lookup, told whole
    split at h
    · rename_i t x k ok v b kt e kp kvs hmt hk hm
      simp only [Option.some.injEq, Prod.mk.injEq] at h; obtain ⟨rfl, rfl⟩ := h
      have hl := hp.1
      unfold look at hl
      cases hkv : keyV C.ty kt kp with
      | false => simp [hkv] at hl
      | true =>
        simp only [hkv, cond_true] at hl
        simp only [evPure, evLookup, hmt, hk, hm, hkv, cond_true]
        split at hl
        · rename_i i v' hf
          simp only [Option.some.injEq, Prod.mk.injEq] at hl; obtain ⟨rfl, rfl⟩ := hl
          simp only [hf, Option.map_some]
        · rename_i hf
          split at hl
          · rename_i z hz
            simp only [Option.some.injEq, Prod.mk.injEq] at hl; obtain ⟨rfl, rfl⟩ := hl
            simp only [hf, hz, Option.map_some]
          · cases hl
        · cases hl
    · cases h
  · -- lookup
    split at h
    · rename_i t x k ok r kt e kp kvs hmt hk hm
      cases hkv : keyV C.ty kt kp with
      | false => simp [hkv] at h
      | true =>
        simp only [hkv, cond_true] at h
        split at h
        · rename_i i v
          simp only [Option.some.injEq, Prod.mk.injEq] at h; obtain ⟨rfl, rfl⟩ := h
          simp only [evPure, evLookup, hmt, hk, hm, hkv, cond_true, hp.1, Option.map_some]
        · split at h
          · rename_i z hz
            simp only [Option.some.injEq, Prod.mk.injEq] at h; obtain ⟨rfl, rfl⟩ := h
            simp only [evPure, evLookup, hmt, hk, hm, hkv, cond_true, hp.1, hz, Option.map_some]
          · cases h
    · cases h
  · cases h
end
end Go.Proofs.Ytkcafackfihmiaa
namespace Go.Proofs.Ytkcafackfihmiaa
set_option linter.unusedSimpArgs false
set_option linter.unusedVariables false
open Go.RowKit
def plain1P (H : Hp) : AV → Option (PV × Hp × List Prop)
  | .vw o off len => match hget H o with | some (.row _ sz es) => some (.sl .any sz ((es.drop off).take len), hset H o (some (.row true sz es)), [off + len ≤ es.length]) | _ => none
  | v => (plain1 H v).map fun r => (r.1, r.2, [])
def isVw : AV → Bool
  | .vw _ _ _ => true
  | _ => false
def plainsP (H : Hp) : List AV → Option (List PV × Hp × List Prop)
  | [] => some ([], H, [])
  | .agg c :: r => match plain H (.agg c) with
    | some (p, H1) => (match plainsP H1 r with
      | some (ps, H2, cs2) => some (p :: ps, H2, cs2)
      | none => none)
    | none => none
  | v :: r => match plain1P H v with
    | some (p, H1, cs) => (match plainsP H1 r with
      | some (ps, H2, cs2) => some (p :: ps, H2, cs ++ cs2)
      | none => none)
    | none => none
theorem plain1P_ok {H H1 : Hp} {v : AV} {p : PV} {cs : List Prop} (h : plain1P H v = some (p, H1, cs)) (hp : AllP cs) : plain1 H v = some (p, H1) := by
  unfold plain1P at h
  split at h
  · rename_i o off len
    split at h
    · rename_i z sz es ho
      simp only [Option.some.injEq, Prod.mk.injEq] at h; obtain ⟨rfl, rfl, rfl⟩ := h
      simp only [plain1, ho]
      rw [show Nat.ble (off + len) es.length = true from by rw [Nat.ble_eq]; exact hp.1]; rfl
    · cases h
  · obtain ⟨r, h1, h2⟩ := Option.map_eq_some_iff.1 h
    simp only [Prod.mk.injEq] at h2; obtain ⟨rfl, rfl, _⟩ := h2
    exact h1
theorem plainsP_ok : ∀ {l : List AV} {H H1 : Hp} {ps : List PV} {cs : List Prop}, plainsP H l = some (ps, H1, cs) → AllP cs → plains H l = some (ps, H1)
  | [], H, H1, ps, cs, h, _ => by
    simp only [plainsP, Option.some.injEq, Prod.mk.injEq] at h; obtain ⟨rfl, rfl, _⟩ := h; rfl
  | v :: r, H, H1, ps, cs, h, hp => by
    have one : ∀ {H2 : Hp} {p : PV} {c1 : List Prop}, plain1P H v = some (p, H2, c1) → AllP c1 → (∀ c, v ≠ .agg c) → plain H v = some (p, H2) := fun {H2 p c1} h1 hp1 hne => by
      have := plain1P_ok h1 hp1
      cases v <;> first | exact this | exact absurd rfl (hne _)
    unfold plainsP at h
    split at h
    · rename_i e; cases e
    · rename_i c r' e
      cases e
      split at h
      · rename_i p H2 h1
        split at h
        · rename_i ps2 H3 c2 h2
          simp only [Option.some.injEq, Prod.mk.injEq] at h; obtain ⟨rfl, rfl, rfl⟩ := h
          simp only [plains, h1, plainsP_ok h2 hp]
        · cases h
      · cases h
    · rename_i v' r' hne e
      cases e
      split at h
      · rename_i p H2 c1 h1
        split at h
        · rename_i ps2 H3 c2 h2
          simp only [Option.some.injEq, Prod.mk.injEq] at h; obtain ⟨rfl, rfl, rfl⟩ := h
          rw [allP_append] at hp
          simp only [plains, one h1 hp.1 (fun c ec => hne c ec), plainsP_ok h2 hp.2]
        · cases h
      · cases h
def plainsQ (H : Hp) (l : List AV) : Option (List PV × Hp × List Prop) := bif l.any isVw then plainsP H l else (plains H l).map fun r => (r.1, r.2, [])
theorem plainsQ_ok {l : List AV} {H H1 : Hp} {ps : List PV} {cs : List Prop} (h : plainsQ H l = some (ps, H1, cs)) (hp : AllP cs) : plains H l = some (ps, H1) := by
  unfold plainsQ at h
  cases hv : l.any isVw with
  | true => rw [hv] at h; exact plainsP_ok h hp
  | false =>
    rw [hv] at h
    obtain ⟨r, h1, h2⟩ := Option.map_eq_some_iff.1 h
    simp only [Prod.mk.injEq] at h2; obtain ⟨rfl, rfl, _⟩ := h2
    exact h1
theorem plainsQ_none {l : List AV} {H : Hp} (h : plainsQ H l = none) (hv : l.any isVw = false) : plains H l = none := by
  unfold plainsQ at h
  rw [hv] at h
  simpa using h
def hOp (C : Cfg) (nid : Nat) (ρ : Operand → AV) (H : Hp) (op : Op) (h : Option Hint) : Option ((AV × Hp) × List Prop × List Ent) :=
  match op, h with
  | .call c, some (.call v H2) => match c.callee with
    | .value f =>
      let go (k : Nat) (args : List AV) : Option ((AV × Hp) × List Prop × List Ent) :=
        bif C.byref k then
          bif inF (reach H 100000 0 (refDL args)) H.length (refD v) && objsIn (reach H 100000 0 (refDL args)) H.length H2 && Nat.ble H.length H2.length then
            some ((v, patchH (reach H 100000 0 (refDL args)) 0 H H2), [], [⟨true, k, args, maskH (reach H 100000 0 (refDL args)) 0 H, v, H2⟩]) else none
        else match plainsQ H args with
          | some (ps, H1, cp) => some ((v, bif flatA v then H else H1), cp, [⟨false, k, ps.map .pl, [], v, []⟩])
          | none => bif args.any isVw then none else bif inF (reach H 100000 0 (refDL args)) H.length (refD v) && objsIn (reach H 100000 0 (refDL args)) H.length H2 && Nat.ble H.length H2.length then
            some ((v, patchH (reach H 100000 0 (refDL args)) 0 H H2), [], [⟨true, k, args, maskH (reach H 100000 0 (refDL args)) 0 H, v, H2⟩]) else none
      match ρ f with
      | .pl (.fn k) => go k (c.args.toList.map ρ)
      | .clo k cs => go k (c.args.toList.map ρ ++ cs)
      | _ => none
    | _ => none
  | .call c, none => match c.callee with
    | .value _ => none
    | _ => (evPure C nid ρ H op).map fun r => (r, [], [])
  | .next _ _, _ => none
  | op, none => (evPure C nid ρ H op).map fun r => (r, [], [])
  | op, some h => (hPure C nid ρ H op h).map fun r => (r.1, r.2, [])
section
variable {P : Program} {C : Cfg} {w w' : World} {X : Nat → Prop} {φ φ' : Phi} {H H' : Hp} {nid n base : Nat} {s : Tr} {a : Act} {D : List Deferred} {ops : List Oper}
open Classical in
noncomputable def callE (es : List Ent) (br : Bool) (k : Nat) (args : List AV) (H : Hp) : Outs (AV × Hp) :=
  match es.find? (fun e => decide (e.br = br ∧ e.k = k ∧ e.args = args ∧ e.H = H)) with
  | some e => some [(e.v, e.H')]
  | none => none
theorem callE_ok {es : List Ent} (h : ∀ e ∈ es, e.ok P) : CallOK P (callE es) := by
  intro br k args H outs ho
  unfold callE at ho
  split at ho
  · rename_i e he
    simp only [Option.some.injEq] at ho; subst ho
    obtain ⟨h1, h2⟩ := And.intro (List.mem_of_find?_eq_some he) (List.find?_some he)
    simp only [decide_eq_true_eq] at h2
    obtain ⟨rfl, rfl, rfl, rfl⟩ := h2
    obtain ⟨k1, k2, k3⟩ := h e h1
    exact ⟨k1, fun hb r hr => by rw [List.mem_singleton.1 hr]; exact k2 hb, k3⟩
  · cases ho
theorem callE_at {es : List Ent} (hs : ∀ a ∈ es, ∀ b ∈ es, a.k = b.k → a.same b) {e : Ent} (he : e ∈ es) : callE es e.br e.k e.args e.H = some [(e.v, e.H')] := by
  unfold callE
  split
  · rename_i f hf
    have h1 := List.mem_of_find?_eq_some hf
    have h2 := List.find?_some hf
    simp only [decide_eq_true_eq] at h2
    obtain ⟨b1, b2, b3, b4⟩ := h2
    obtain ⟨h3, h4⟩ := hs f h1 e he b2 b1 b3 b4
    rw [h3, h4]
  · rename_i hf
    have := List.find?_eq_none.1 hf e he
    simp at this
theorem hOp_ok (hx : ∀ k, C.ext k = none) {ρ : Operand → AV} {op : Op} {h : Option Hint} {r : AV × Hp} {cs : List Prop} {es : List Ent} {call : Bool → Nat → List AV → Hp → Outs (AV × Hp)} (ho : hOp C nid ρ H op h = some (r, cs, es)) (hp : AllP cs)
    (hc : ∀ e ∈ es, call e.br e.k e.args e.H = some [(e.v, e.H')]) : evOp C call nid ρ H op = some [r] := by
  have pure : ∀ {op : Op}, isVal op = false → evPure C nid ρ H op = some r → evOp C call nid ρ H op = some [r] := fun {op} hv he => by
    unfold evOp
    cases op with
    | call c =>
      obtain ⟨callee, args, ts⟩ := c
      cases callee <;> first | (simp [isVal] at hv; done) | (simp only [he])
    | next _ _ => simp [isVal] at hv
    | _ => simp only [he]
  unfold hOp at ho
  split at ho
  · rename_i c v H2
    split at ho
    · rename_i f hcal
      have inv : ∀ (k : Nat) (args : List AV) (F : Nat), F = reach H 100000 0 (refDL args) → (C.byref k = true ∨ C.byref k = false ∧ plains H args = none) → (inF F H.length (refD v) && objsIn F H.length H2 && Nat.ble H.length H2.length) = true → call true k args (maskH F 0 H) = some [(v, H2)] →
          evInvoke C call k args H = some [(v, patchH F 0 H H2)] := by
        intro k args F hF hk hb hcall
        have hs : evShared call k args H F = some [(v, patchH F 0 H H2)] := by
          unfold evShared
          simp only [hcall, List.all_cons, List.all_nil, Bool.and_true, hb, cond_true, List.map_cons, List.map_nil]
        unfold evInvoke
        rw [hx k]
        simp only
        rcases hk with hk | ⟨hk, hpl⟩
        · simp only [hk, cond_true, ← hF, hs]
        · simp only [hk, cond_false, hpl, ← hF, hs]
      have go : ∀ (k : Nat) (args : List AV), (bif C.byref k then
          bif inF (reach H 100000 0 (refDL args)) H.length (refD v) && objsIn (reach H 100000 0 (refDL args)) H.length H2 && Nat.ble H.length H2.length then
            some ((v, patchH (reach H 100000 0 (refDL args)) 0 H H2), ([] : List Prop), [(⟨true, k, args, maskH (reach H 100000 0 (refDL args)) 0 H, v, H2⟩ : Ent)]) else none
        else match plainsQ H args with
          | some (ps, H1, cp) => some ((v, bif flatA v then H else H1), cp, [⟨false, k, ps.map .pl, [], v, []⟩])
          | none => bif args.any isVw then none else bif inF (reach H 100000 0 (refDL args)) H.length (refD v) && objsIn (reach H 100000 0 (refDL args)) H.length H2 && Nat.ble H.length H2.length then
            some ((v, patchH (reach H 100000 0 (refDL args)) 0 H H2), [], [⟨true, k, args, maskH (reach H 100000 0 (refDL args)) 0 H, v, H2⟩]) else none) = some (r, cs, es) → evInvoke C call k args H = some [r] := by
        intro k args hg
        cases hb : C.byref k with
        | true =>
          simp only [hb, cond_true] at hg
          cases hf : (inF (reach H 100000 0 (refDL args)) H.length (refD v) && objsIn (reach H 100000 0 (refDL args)) H.length H2 && Nat.ble H.length H2.length) with
          | false => simp [hf] at hg
          | true =>
            simp only [hf, cond_true, Option.some.injEq, Prod.mk.injEq] at hg; obtain ⟨rfl, rfl, rfl⟩ := hg
            exact inv k args _ rfl (.inl hb) hf (hc _ (List.mem_singleton.2 rfl))
        | false =>
          simp only [hb, cond_false] at hg
          split at hg
          · rename_i ps H1 cp hpq
            simp only [Option.some.injEq, Prod.mk.injEq] at hg; obtain ⟨rfl, rfl, rfl⟩ := hg
            have hpl := plainsQ_ok hpq hp
            have := hc _ (List.mem_singleton.2 rfl)
            unfold evInvoke
            rw [hx k]
            simp only [hb, cond_false, hpl]
            simp only at this
            simp only [this, List.map_cons, List.map_nil]
          · rename_i hpq
            cases hvw : args.any isVw with
            | true => rw [hvw] at hg; cases hg
            | false =>
            rw [hvw] at hg
            simp only [cond_false] at hg
            have hpl := plainsQ_none hpq hvw
            cases hf : (inF (reach H 100000 0 (refDL args)) H.length (refD v) && objsIn (reach H 100000 0 (refDL args)) H.length H2 && Nat.ble H.length H2.length) with
            | false => simp [hf] at hg
            | true =>
              simp only [hf, cond_true, Option.some.injEq, Prod.mk.injEq] at hg; obtain ⟨rfl, rfl, rfl⟩ := hg
              exact inv k args _ rfl (.inr ⟨hb, hpl⟩) hf (hc _ (List.mem_singleton.2 rfl))
      simp only at ho
      split at ho
      · rename_i k hk
        have := go k _ ho
        unfold evOp; simp only [hcal, hk, this]
      · rename_i k cl hk
        have := go k _ ho
        unfold evOp; simp only [hcal, hk, this]
      · cases ho
    · cases ho
  · rename_i c
    split at ho
    · cases ho
    · rename_i hne
      obtain ⟨r', h1, h2⟩ := Option.map_eq_some_iff.1 ho
      simp only [Prod.mk.injEq] at h2; obtain ⟨rfl, rfl, rfl⟩ := h2
      refine pure ?_ h1
      obtain ⟨callee, args, ts⟩ := c
      cases callee <;> first | rfl | (exact absurd rfl (hne _))
  · cases ho
  · rename_i hne1 hne2
    obtain ⟨r', h1, h2⟩ := Option.map_eq_some_iff.1 ho
    simp only [Prod.mk.injEq] at h2; obtain ⟨rfl, rfl, rfl⟩ := h2
    refine pure ?_ h1
    cases op <;> first | rfl | (exact (hne1 _ rfl).elim) | (exact (hne2 _ _ rfl).elim)
  · rename_i hne1 hne2 hne3
    obtain ⟨r', h1, h2⟩ := Option.map_eq_some_iff.1 ho
    simp only [Prod.mk.injEq] at h2; obtain ⟨rfl, rfl, rfl⟩ := h2
    have hpu := hPure_ok h1 hp
    cases op with
    | call c =>
      obtain ⟨callee, args, ts⟩ := c
      cases callee with
      | value f => simp [evPure] at hpu
      | _ => exact pure rfl hpu
    | next x b => simp [evPure] at hpu
    | _ => exact pure rfl hpu


inductive Cv where
  | val (v : AV)
  | row (o : Nat) (es : List (List PV))
  | map (o : Nat) (kvs : List (PV × PV))
def cvStep (r : AV × Hp) : Cv → Option ((AV × Hp) × Prop)
  | .val v => some ((v, r.2), r.1 = v)
  | .row o es => match hget r.2 o with | some (.row f sz es0) => some ((r.1, hset r.2 o (some (.row f sz es))), es0 = es) | _ => none
  | .map o kvs => match hget r.2 o with | some (.map kvs0) => some ((r.1, hset r.2 o (some (.map kvs))), kvs0 = kvs) | _ => none
def cvSteps (i : Nat) : List (Nat × Cv) → AV × Hp → Option ((AV × Hp) × List Prop)
  | [], r => some (r, [])
  | (j, c) :: l, r => bif Nat.beq j i then (match cvStep r c with
      | some (r1, p) => (match cvSteps i l r1 with | some (r2, ps) => some (r2, p :: ps) | none => none)
      | none => none) else cvSteps i l r
theorem hset_self {o : Nat} {x : Ob} (h : hget H o = some x) : hset H o (some x) = H := by
  unfold hget at h
  unfold hset
  apply List.ext_getElem?
  intro i
  rw [List.getElem?_set]
  split
  · rename_i e; subst e
    split at h
    · rename_i y hy
      cases h
      rw [hy]
      split
      · rfl
      · rename_i hn
        rw [List.getElem?_eq_none (by omega)] at hy
        cases hy
    · cases h
  · rfl
theorem cvStep_ok {r r' : AV × Hp} {c : Cv} {p : Prop} (h : cvStep r c = some (r', p)) (hp : p) : r' = r := by
  cases c with
  | val v => simp only [cvStep, Option.some.injEq, Prod.mk.injEq] at h; obtain ⟨rfl, rfl⟩ := h; rw [← hp]
  | row o es =>
    simp only [cvStep] at h
    split at h
    · rename_i f sz es0 ho
      simp only [Option.some.injEq, Prod.mk.injEq] at h; obtain ⟨rfl, rfl⟩ := h
      rw [← hp, hset_self ho]
    · cases h
  | map o kvs =>
    simp only [cvStep] at h
    split at h
    · rename_i kvs0 ho
      simp only [Option.some.injEq, Prod.mk.injEq] at h; obtain ⟨rfl, rfl⟩ := h
      rw [← hp, hset_self ho]
    · cases h
theorem cvSteps_ok {i : Nat} : ∀ {l : List (Nat × Cv)} {r r' : AV × Hp} {cs : List Prop}, cvSteps i l r = some (r', cs) → AllP cs → r' = r
  | [], r, r', cs, h, _ => by simp only [cvSteps, Option.some.injEq, Prod.mk.injEq] at h; exact h.1.symm
  | (j, c) :: l, r, r', cs, h, hp => by
    simp only [cvSteps] at h
    cases hb : Nat.beq j i with
    | false => simp only [hb, cond_false] at h; exact cvSteps_ok h hp
    | true =>
      simp only [hb, cond_true] at h
      split at h
      · rename_i r1 p h1
        split at h
        · rename_i r2 ps h2
          simp only [Option.some.injEq, Prod.mk.injEq] at h; obtain ⟨rfl, rfl⟩ := h
          exact (cvSteps_ok h2 hp.2).trans (cvStep_ok h1 hp.1)
        · cases h
      · cases h
def hOpC (C : Cfg) (nid : Nat) (ρ : Operand → AV) (H : Hp) (op : Op) (h : Option Hint) (i : Nat) (l : List (Nat × Cv)) : Option ((AV × Hp) × List Prop × List Ent) :=
  match hOp C nid ρ H op h with
  | some (r, cs, es) => (match cvSteps i l r with | some (r', cs') => some (r', cs ++ cs', es) | none => none)
  | none => none
theorem hOpC_at {ρ : Operand → AV} {op : Op} {h : Option Hint} {r : AV × Hp} {cs : List Prop} {es : List Ent} {i : Nat} {l : List (Nat × Cv)} (ho : hOpC C nid ρ H op h i l = some (r, cs, es)) (hp : AllP cs) : ∃ cs', hOp C nid ρ H op h = some (r, cs', es) ∧ AllP cs' := by
  unfold hOpC at ho
  split at ho
  · rename_i r0 cs0 es0 h0
    split at ho
    · rename_i r1 cs1 h1
      simp only [Option.some.injEq, Prod.mk.injEq] at ho; obtain ⟨rfl, rfl, rfl⟩ := ho
      rw [allP_append] at hp
      exact ⟨cs0, by rw [cvSteps_ok h1 hp.2]; exact h0, hp.1⟩
    · cases ho
  · cases ho

abbrev RH := List (Nat × Bool) × List (Nat × Hint) × List (Nat × Cv)
def hWant (ops : List Oper) (s : Tr) (gs : List (Nat × Bool)) (i : Nat) : Option (Nat × Bool) → Option (Bool × List Prop)
  | none => some (true, [])
  | some (j, b) => match dstOf ops j with
    | some t => match s.get 12 t with
      | .pl (.bool c) => match lookN i gs with
        | some d => some (d == b, [c = d])
        | none => some (c == b, [])
      | .tup [] => some (false, [])
      | _ => none
    | none => none
theorem hWant_ok {s : Tr} {gs : List (Nat × Bool)} {i : Nat} {g : Option (Nat × Bool)} {b : Bool} {cs : List Prop} (h : hWant ops s gs i g = some (b, cs)) (hp : AllP cs) : want ops s g = some b := by
  unfold hWant at h
  unfold want
  split at h
  · simp only [Option.some.injEq, Prod.mk.injEq] at h; rw [h.1]
  · split at h
    · rename_i t ht
      simp only [ht]
      split at h
      · rename_i c hc
        split at h
        · rename_i d hd
          simp only [Option.some.injEq, Prod.mk.injEq] at h; obtain ⟨rfl, rfl⟩ := h
          rw [hc]; simp only [hp.1]
        · simp only [Option.some.injEq, Prod.mk.injEq] at h; obtain ⟨rfl, rfl⟩ := h
          rw [hc]
      · rename_i hc
        simp only [Option.some.injEq, Prod.mk.injEq] at h; obtain ⟨rfl, rfl⟩ := h
        rw [hc]
      · cases h
    · cases h
def hOps (C : Cfg) (n : Nat) (ops : List Oper) (rh : RH) : Nat → List Oper → Tr × Hp → Option ((Tr × Hp) × List Prop × List Ent)
  | _, [], st => some (st, [], [])
  | i, o :: r, st => match hWant ops st.1 rh.1 i o.guard with
    | none => none
    | some (false, cs) => match hOps C n ops rh (i + 1) r (putO n st.1 o.dst (.tup []), st.2) with
      | some (st', cs', es') => some (st', cs ++ cs', es')
      | none => none
    | some (true, cs) => match hOpC C st.2.length (val st.1) st.2 o.op (lookN i rh.2.1) i rh.2.2 with
      | some (x, cs1, es1) => match hOps C n ops rh (i + 1) r (putO n st.1 o.dst x.1, x.2) with
        | some (st', cs', es') => some (st', cs ++ (cs1 ++ cs'), es1 ++ es')
        | none => none
      | none => none
theorem single (es : List Ent) (h : es.length ≤ 1) : ∀ a ∈ es, ∀ b ∈ es, a.k = b.k → a.same b := by
  intro a ha b hb _ _ _ _
  match es, h with
  | [], _ => cases ha
  | [e], _ => rw [List.mem_singleton.1 ha, List.mem_singleton.1 hb]; exact ⟨rfl, rfl⟩
  | _ :: _ :: _, h => simp at h
theorem hOp_one {ρ : Operand → AV} {op : Op} {h : Option Hint} {r : AV × Hp} {cs : List Prop} {es : List Ent} (ho : hOp C nid ρ H op h = some (r, cs, es)) : es.length ≤ 1 := by
  have key : ∀ {k : Nat} {args : List AV} {v : AV} {H2 : Hp}, (bif C.byref k then
          bif inF (reach H 100000 0 (refDL args)) H.length (refD v) && objsIn (reach H 100000 0 (refDL args)) H.length H2 && Nat.ble H.length H2.length then
            some ((v, patchH (reach H 100000 0 (refDL args)) 0 H H2), ([] : List Prop), [(⟨true, k, args, maskH (reach H 100000 0 (refDL args)) 0 H, v, H2⟩ : Ent)]) else none
        else match plainsQ H args with
          | some (ps, H1, cp) => some ((v, bif flatA v then H else H1), cp, [⟨false, k, ps.map .pl, [], v, []⟩])
          | none => bif args.any isVw then none else bif inF (reach H 100000 0 (refDL args)) H.length (refD v) && objsIn (reach H 100000 0 (refDL args)) H.length H2 && Nat.ble H.length H2.length then
            some ((v, patchH (reach H 100000 0 (refDL args)) 0 H H2), [], [⟨true, k, args, maskH (reach H 100000 0 (refDL args)) 0 H, v, H2⟩]) else none) = some (r, cs, es) → es.length ≤ 1 := by
    intro k args v H2 hg
    cases hb : C.byref k <;> simp only [hb, cond_true, cond_false] at hg
    · split at hg
      · simp only [Option.some.injEq, Prod.mk.injEq] at hg; obtain ⟨_, _, rfl⟩ := hg; simp
      · revert hg
        cases args.any isVw <;> intro hg
        case true => cases hg
        revert hg
        cases (inF (reach H 100000 0 (refDL args)) H.length (refD v) && objsIn (reach H 100000 0 (refDL args)) H.length H2 && Nat.ble H.length H2.length) <;> intro hg
        · simp at hg
        · simp only [cond_false, cond_true, Option.some.injEq, Prod.mk.injEq] at hg; obtain ⟨_, _, rfl⟩ := hg; simp
    · revert hg
      cases (inF (reach H 100000 0 (refDL args)) H.length (refD v) && objsIn (reach H 100000 0 (refDL args)) H.length H2 && Nat.ble H.length H2.length) <;> intro hg
      · simp at hg
      · simp only [cond_true, Option.some.injEq, Prod.mk.injEq] at hg; obtain ⟨_, _, rfl⟩ := hg; simp
  unfold hOp at ho
  split at ho
  · split at ho
    · simp only at ho
      split at ho
      · exact key ho
      · exact key ho
      · cases ho
    · cases ho
  · split at ho
    · cases ho
    · obtain ⟨r', _, h2⟩ := Option.map_eq_some_iff.1 ho
      simp only [Prod.mk.injEq] at h2; obtain ⟨_, _, rfl⟩ := h2; simp
  · cases ho
  · obtain ⟨r', _, h2⟩ := Option.map_eq_some_iff.1 ho
    simp only [Prod.mk.injEq] at h2; obtain ⟨_, _, rfl⟩ := h2; simp
  · obtain ⟨r', _, h2⟩ := Option.map_eq_some_iff.1 ho
    simp only [Prod.mk.injEq] at h2; obtain ⟨_, _, rfl⟩ := h2; simp
theorem hOps_ok (hC : CfgOK P C) {rh : RH} {Q : Exit → Act → World → Prop} : ∀ (r : List Oper) (i : Nat) {s : Tr} {H : Hp} {φ : Phi} {a : Act} {w : World} {st' : Tr × Hp} {cs : List Prop} {es : List Ent},
    hOps C n ops rh i r (s, H) = some (st', cs, es) → AllP cs → (∀ e ∈ es, e.ok P) → SR D X n s H φ a w → ∀ {r2 : List Oper},
      (∀ φ' a' w', SR D X n st'.1 st'.2 φ' a' w' → Ev φ w φ' w' → Gr φ H φ' st'.2 → wpList P ops.toArray Q r2 a' w') → wpList P ops.toArray Q (r ++ r2) a w
  | [], i, s, H, φ, a, w, st', cs, es, h, _, _, hS, r2, hQ => by
    simp only [hOps, Option.some.injEq, Prod.mk.injEq] at h; obtain ⟨rfl, _, _⟩ := h
    exact hQ φ a w hS (Ev.refl _ _) (Gr.refl _ _)
  | o :: r, i, s, H, φ, a, w, st', cs, es, h, hp, he, hS, r2, hQ => by
    simp only [hOps] at h
    rw [List.cons_append]
    unfold wpList
    split at h
    · cases h
    · rename_i cs0 hw
      split at h
      · rename_i st1 cs1 es1 h1
        simp only [Option.some.injEq, Prod.mk.injEq] at h; obtain ⟨rfl, rfl, rfl⟩ := h
        rw [allP_append] at hp
        rw [if_neg (by rw [want_ok hS (hWant_ok hw hp.1)]; decide)]
        exact hOps_ok hC r (i + 1) h1 hp.2 he (hS.put (Ev.refl _ _) hS.hr vr_undef o.dst) hQ
      · cases h
    · rename_i cs0 hw
      split at h
      · rename_i x cs1 es1 h1
        split at h
        · rename_i st2 cs2 es2 h2
          simp only [Option.some.injEq, Prod.mk.injEq] at h; obtain ⟨rfl, rfl, rfl⟩ := h
          rw [allP_append, allP_append] at hp
          rw [if_pos (want_ok hS (hWant_ok hw hp.1))]
          have he1 : ∀ e ∈ es1, e.ok P := fun e h => he e (List.mem_append_left _ h)
          obtain ⟨cs1', h1', hp1'⟩ := hOpC_at h1 hp.2.1
          have hev := hOp_ok (call := callE es1) hC.noext h1' hp1' (fun e h => callE_at (single es1 (hOp_one h1')) h)
          refine .inl (op_ok hC (callE_ok he1) hS.hr hS.hr.free hS.val hev fun v' w' hn => ?_)
          obtain ⟨y, hy, φ', k1, k2, k3, k4, k5⟩ := hn
          rw [List.mem_singleton] at hy; subst hy
          refine hOps_ok hC r (i + 1) h2 hp.2.2 (fun e h => he e (List.mem_append_right _ h)) (hS.put k3 k2 k1 o.dst) fun φ'' a'' w'' m1 m2 m3 => hQ φ'' a'' w'' m1 (k3.trans m2) (Gr.trans ⟨k4, fun k hk e => k5 k (by omega) hk e⟩ m3)
        · cases h
      · cases h


def footCallH (C : Cfg) (H : Hp) (k : Nat) (args : List AV) : Fp :=
  bif C.byref k then .sh (reach H 100000 0 (refDL args)) H.length else match plainsQ H args with
    | some _ => .wr (args.flatMap refC) []
    | none => .all
def footH (C : Cfg) (nid : Nat) (ρ : Operand → AV) (H : Hp) (op : Op) : Fp :=
  match op with
  | .call c => match c.callee with
    | .value f => match ρ f with
      | .pl (.fn k) => footCallH C H k (c.args.toList.map ρ)
      | .clo k cs => footCallH C H k (c.args.toList.map ρ ++ cs)
      | _ => .all
    | _ => foot C nid ρ H op
  | op => foot C nid ρ H op
theorem footH_eq {ρ : Operand → AV} {op : Op} {h : Option Hint} {r : AV × Hp} {cs : List Prop} {es : List Ent} (ho : hOp C nid ρ H op h = some (r, cs, es)) (hp : AllP cs) : footH C nid ρ H op = foot C nid ρ H op := by
  have key : ∀ {k : Nat} {args : List AV} {v : AV} {H2 : Hp}, (bif C.byref k then
          bif inF (reach H 100000 0 (refDL args)) H.length (refD v) && objsIn (reach H 100000 0 (refDL args)) H.length H2 && Nat.ble H.length H2.length then
            some ((v, patchH (reach H 100000 0 (refDL args)) 0 H H2), ([] : List Prop), [(⟨true, k, args, maskH (reach H 100000 0 (refDL args)) 0 H, v, H2⟩ : Ent)]) else none
        else match plainsQ H args with
          | some (ps, H1, cp) => some ((v, bif flatA v then H else H1), cp, [⟨false, k, ps.map .pl, [], v, []⟩])
          | none => bif args.any isVw then none else bif inF (reach H 100000 0 (refDL args)) H.length (refD v) && objsIn (reach H 100000 0 (refDL args)) H.length H2 && Nat.ble H.length H2.length then
            some ((v, patchH (reach H 100000 0 (refDL args)) 0 H H2), [], [⟨true, k, args, maskH (reach H 100000 0 (refDL args)) 0 H, v, H2⟩]) else none) = some (r, cs, es) → footCallH C H k args = footCall C H k args := by
    intro k args v H2 hg
    unfold footCallH footCall
    cases hb : C.byref k <;> simp only [hb, cond_true, cond_false] at hg ⊢
    split at hg
    · rename_i ps H1 cp hq
      simp only [Option.some.injEq, Prod.mk.injEq] at hg; obtain ⟨_, rfl, _⟩ := hg
      rw [plainsQ_ok hq hp, hq]
    · rename_i hq
      cases hv : args.any isVw with
      | true => rw [hv] at hg; cases hg
      | false => rw [plainsQ_none hq hv, hq]
  unfold footH
  split
  · rename_i c
    split
    · rename_i f hf
      unfold hOp at ho
      split at ho
      · rename_i c' v H2 hop
        injection hop with hop; subst hop
        simp only [hf] at ho
        unfold foot
        simp only [hf]
        split at ho
        · rename_i k hk; simp only [hk]; exact key ho
        · rename_i k cs' hk; simp only [hk]; exact key ho
        · cases ho
      · rename_i c' hop
        injection hop with hop; subst hop
        simp only [hf] at ho
        cases ho
      · cases ho
      · rename_i h1 h2 h3 h4; exact absurd rfl (h3 _)
      · obtain ⟨r', h1, h2⟩ := Option.map_eq_some_iff.1 ho
        simp only [Prod.mk.injEq] at h2; obtain ⟨rfl, rfl, rfl⟩ := h2
        have hpu := hPure_ok h1 hp
        obtain ⟨callee, args, ts⟩ := c
        simp only at hf; subst hf
        simp [evPure] at hpu
    · rfl
  · rfl
def hDL (C : Cfg) (n : Nat) (ops : List Oper) (rh : RH) (base : Nat) : List It → List (It × Fp) → Tr × Hp → Option ((Tr × Hp) × List Prop × List Ent)
  | [], _, st => some (st, [], [])
  | x :: L, recs, st => match hWant ops st.1 rh.1 x.i x.o.guard with
    | none => none
    | some (false, cs) => bif recs.all (fun r => cross r x (.rd [])) then
        (match hDL C n ops rh base L ((x, .rd []) :: recs) (putO n st.1 x.o.dst (.tup []), st.2) with
          | some (st', cs', es') => some (st', cs ++ cs', es')
          | none => none) else none
    | some (true, cs) => match hOpC C (base + x.nid) (val st.1) st.2 x.o.op (lookN x.i rh.2.1) x.i rh.2.2 with
      | some (r, cs1, es1) => bif okLen st.2 r.2 (footH C (base + x.nid) (val st.1) st.2 x.o.op) && recs.all (fun q => cross q x (footH C (base + x.nid) (val st.1) st.2 x.o.op)) then
          (match hDL C n ops rh base L ((x, footH C (base + x.nid) (val st.1) st.2 x.o.op) :: recs) (putO n st.1 x.o.dst r.1, r.2) with
            | some (st', cs', es') => some (st', cs ++ (cs1 ++ cs'), es1 ++ es')
            | none => none) else none
      | none => none
def sameP : List Ent → List Prop
  | [] => []
  | e :: r => (r.filter fun f => Nat.beq f.k e.k).map (fun f => e.same f ∧ f.same e) ++ sameP r
theorem sameP_ok : ∀ {es : List Ent}, AllP (sameP es) → ∀ a ∈ es, ∀ b ∈ es, a.k = b.k → a.same b
  | [], _, a, ha, _, _, _ => by cases ha
  | e :: r, h, a, ha, b, hb, hk => by
    simp only [sameP] at h
    rw [allP_append] at h
    have all : ∀ {l : List Ent}, AllP (l.map fun f => e.same f ∧ f.same e) → ∀ f ∈ l, e.same f ∧ f.same e := fun {l} => by
      induction l with
      | nil => intro _ f hf; cases hf
      | cons x l ih =>
        intro h f hf
        rcases List.mem_cons.1 hf with rfl | hf
        · exact h.1
        · exact ih h.2 f hf
    rcases List.mem_cons.1 ha with e1 | ha1
    · rcases List.mem_cons.1 hb with e2 | hb1
      · subst e1; subst e2; exact fun _ _ _ => ⟨rfl, rfl⟩
      · subst e1; exact (all h.1 b (List.mem_filter.2 ⟨hb1, by rw [hk]; simp⟩)).1
    · rcases List.mem_cons.1 hb with e2 | hb1
      · subst e2; exact (all h.1 a (List.mem_filter.2 ⟨ha1, by rw [hk]; simp⟩)).2
      · exact sameP_ok h.2 a ha1 b hb1 hk
theorem hDL_ok (hx : ∀ k, C.ext k = none) {rh : RH} {call : Bool → Nat → List AV → Hp → Outs (AV × Hp)} : ∀ (L : List It) {recs : List (It × Fp)} {st st' : Tr × Hp} {cs : List Prop} {es : List Ent}, hDL C n ops rh base L recs st = some (st', cs, es) → AllP cs →
    (∀ e ∈ es, call e.br e.k e.args e.H = some [(e.v, e.H')]) → evDL C call n ops base L recs st = some st'
  | [], recs, st, st', cs, es, h, _, _ => by
    simp only [hDL, Option.some.injEq, Prod.mk.injEq] at h; obtain ⟨rfl, _, _⟩ := h; rfl
  | x :: L, recs, st, st', cs, es, h, hp, hc => by
    simp only [hDL] at h
    simp only [evDL]
    split at h
    · cases h
    · rename_i cs0 hw
      cases hr : (recs.all fun r => cross r x (.rd [])) with
      | false => simp [hr] at h
      | true =>
        simp only [hr, cond_true] at h
        split at h
        · rename_i st1 cs1 es1 h1
          simp only [Option.some.injEq, Prod.mk.injEq] at h; obtain ⟨rfl, rfl, rfl⟩ := h
          rw [allP_append] at hp
          have hs : stepD C call n ops base x st = some ((putO n st.1 x.o.dst (.tup []), st.2), .rd []) := by
            unfold stepD; rw [hWant_ok hw hp.1]
          simp only [hs, hr, cond_true]
          exact hDL_ok hx L h1 hp.2 hc
        · cases h
    · rename_i cs0 hw
      split at h
      · rename_i r cs1 es1 h1
        cases hr : (okLen st.2 r.2 (footH C (base + x.nid) (val st.1) st.2 x.o.op) && recs.all (fun q => cross q x (footH C (base + x.nid) (val st.1) st.2 x.o.op))) with
        | false => simp [hr] at h
        | true =>
          simp only [hr, cond_true] at h
          rw [Bool.and_eq_true] at hr
          split at h
          · rename_i st2 cs2 es2 h2
            simp only [Option.some.injEq, Prod.mk.injEq] at h; obtain ⟨rfl, rfl, rfl⟩ := h
            rw [allP_append, allP_append] at hp
            obtain ⟨cs1', h1', hp1'⟩ := hOpC_at h1 hp.2.1
            rw [footH_eq h1' hp1'] at h2 hr
            have hev := hOp_ok (call := call) hx h1' hp1' fun e h => hc e (List.mem_append_left _ h)
            have hs : stepD C call n ops base x st = some ((putO n st.1 x.o.dst r.1, r.2), foot C (base + x.nid) (val st.1) st.2 x.o.op) := by
              unfold stepD; rw [hWant_ok hw hp.1]; simp only [hev, hr.1, cond_true]
            simp only [hs, hr.2, cond_true]
            exact hDL_ok hx L h2 hp.2.2 fun e h => hc e (List.mem_append_right _ h)
          · cases h
      · cases h
def hDrawn (C : Cfg) (n : Nat) (ops : List Oper) (rh : RH) (st : Tr × Hp) : Option ((Tr × Hp) × List Prop × List Ent) :=
  match plan ops.length 0 0 [] (items 0 ops) with
  | none => none
  | some L => match hDL C n ops rh st.2.length L [] (st.1, st.2 ++ List.replicate (countNew ops + 1) none) with
    | some (st', cs, es) => some (st', cs ++ sameP es, es)
    | none => none

end
section
variable {P : Program} {C : Cfg} {w w' : World} {X : Nat → Prop} {φ φ' : Phi} {H H' : Hp} {nid n base : Nat} {s : Tr} {a : Act} {D : List Deferred} {ops : List Oper}
theorem callX_part (hH : HR X φ H w) {k F : Nat} {args : List AV} {vs : List Value} {ch : List PanicEntry} {H2 : Hp} (hc : CallX P k args (maskH F 0 H) ch H2) (hv : VRT w (YOf X φ) φ args vs)
    (h1 : objsIn F H.length H2 = true) (h2 : Nat.ble H.length H2.length = true) : Calls P k vs.toArray w (RetX X φ H w ch (patchH F 0 H H2)) := by
  have hlen := ble_t h2
  refine (hc.2 (cutX X φ F) (φ.cut F) w vs hH.cut (by rw [cut_Y]; exact VRT.re args vs (fun o _ => cut_re o) hv)).mono fun e w' hr => ?_
  obtain ⟨he, φ', k2, k3, k4, k5⟩ := hr
  obtain ⟨u1, u2, u3, u4, u5⟩ := uncut hH k2 k3 hlen (fun k hk => k5 k (by rw [length_mask]; exact hk)) h1
  exact ⟨he, _, u1, u2, by rw [length_patch _ _ _ hlen]; exact hlen, u4⟩
theorem pan_op (hH : HR X φ H w) {ra : Operand → AV} (hρ : ∀ x, VR w (YOf X φ) φ (ra x) (a.eval x)) {o : Oper} {f : Operand} {k F : Nat} {as : Array Operand} {ts : Array TypeId} {ch : List PanicEntry} {H2 : Hp} (hop : o.op = .call ⟨.value f, as, ts⟩) (hf : ra f = .pl (.fn k))
    (hc : CallX P k (as.toList.map ra) (maskH F 0 H) ch H2) (h1 : objsIn F H.length H2 = true) (h2 : Nat.ble H.length H2.length = true) {Q : Exit → Act → World → Prop} {K : Act → World → Prop}
    (hQ : ∀ φ' w', HR X φ' (patchH F 0 H H2) w' → Ev φ w φ' w' → H.length ≤ (patchH F 0 H H2).length → (∀ k, k < H.length → φ k = .fresh → φ' k = .fresh) → Q (.panic ch) a w') : o.wp P a w K Q := by
  obtain ⟨d, op, ty, pos, af, g⟩ := o
  simp only at hop; subst hop
  have hfv := hρ f
  rw [hf] at hfv
  simp only [VR, PR] at hfv
  have hfv : a.eval f = .func (.func k) #[] [].toArray := hfv
  unfold Oper.wp
  rw [x_call hc.1 hfv rfl, Oper.upon_enter]
  have hcall := callX_part hH hc (vrt_map hρ as.toList) h1 h2
  have : (as.toList.map a.eval).toArray = as.map a.eval ++ [].toArray := by apply Array.ext'; simp
  rw [← this]
  refine hcall.mono fun e w' hr => ?_
  obtain ⟨rfl, φ', k1, k2, k3, k4⟩ := hr
  exact hQ φ' w' k1 k2 k3 k4
def panCall (st : Tr × Hp) (o : Oper) (H2 : Hp) : Option (Nat × List AV × Nat) :=
  match o.guard with
  | some _ => none
  | none => match o.op with
    | .call c => match c.callee with
      | .value f => match val st.1 f with
        | .pl (.fn k) => bif objsIn (reach st.2 100000 0 (refDL (c.args.toList.map (val st.1)))) st.2.length H2 && Nat.ble st.2.length H2.length then some (k, c.args.toList.map (val st.1), reach st.2 100000 0 (refDL (c.args.toList.map (val st.1)))) else none
        | _ => none
      | _ => none
    | _ => none
theorem panCall_ok {st : Tr × Hp} {o : Oper} {H2 : Hp} {k F : Nat} {args : List AV} (h : panCall st o H2 = some (k, args, F)) (hS : SR D X n st.1 st.2 φ a w) {ch : List PanicEntry} (hc : CallX P k args (maskH F 0 st.2) ch H2) {Q : Exit → Act → World → Prop} {K : Act → World → Prop}
    (hQ : ∀ φ' w', HR X φ' (patchH F 0 st.2 H2) w' → Ev φ w φ' w' → st.2.length ≤ (patchH F 0 st.2 H2).length → (∀ k, k < st.2.length → φ k = .fresh → φ' k = .fresh) → Q (.panic ch) a w') : o.guard = none ∧ o.wp P a w K Q := by
  unfold panCall at h
  split at h
  · cases h
  · rename_i hg
    refine ⟨hg, ?_⟩
    split at h
    · rename_i c hop
      split at h
      · rename_i f hcal
        split at h
        · rename_i k' hk
          cases hb : (objsIn (reach st.2 100000 0 (refDL (c.args.toList.map (val st.1)))) st.2.length H2 && Nat.ble st.2.length H2.length) with
          | false => rw [hb] at h; cases h
          | true =>
            rw [hb] at h
            simp only [cond_true, Option.some.injEq, Prod.mk.injEq] at h; obtain ⟨rfl, rfl, rfl⟩ := h
            rw [Bool.and_eq_true] at hb
            obtain ⟨callee, as, ts⟩ := c
            simp only at hcal; subst hcal
            exact pan_op hS.hr hS.val hop hk hc hb.1 hb.2 hQ
        · cases h
      · cases h
    · cases h
def entsP (P : Program) : List Ent → List Prop
  | [] => []
  | e :: r => CallS P e.br e.k e.args e.H e.v e.H' :: entsP P r
theorem entsP_ok : ∀ {es : List Ent}, AllP (entsP P es) → ∀ e ∈ es, e.ok P
  | [], _, e, he => by cases he
  | x :: r, h, e, he => by
    rcases List.mem_cons.1 he with rfl | he
    · exact h.1
    · exact entsP_ok h.2 e he
def hPanT (P : Program) (C : Cfg) (n : Nat) (ops : List Oper) (rh : RH) (i : Nat) (ch : List PanicEntry) (H2 : Hp) (st : Tr × Hp) : Option ((Tr × Hp) × List Prop) :=
  match hOps C n ops rh 0 (ops.take i) st with
  | some (st1, cs, es) => (match ops[i]? with
    | some o => (match panCall st1 o H2 with
      | some (k, args, F) => some ((st1.1, patchH F 0 st1.2 H2), cs ++ (entsP P es ++ [CallX P k args (maskH F 0 st1.2) ch H2]))
      | none => none)
    | none => none)
  | none => none
theorem hPanT_ok (hC' : CfgOK P C) {id i : Nat} {ops : Array Oper} {rh : RH} {ch : List PanicEntry} {H2 : Hp} {st st' : Tr × Hp} {cs : List Prop} (h : hPanT P C n ops.toList rh i ch H2 st = some (st', cs)) (hp : AllP cs) :
    T P n base (.region id ops false) st fun r => r = (.pan ch, st') := by
  unfold hPanT at h
  split at h
  · rename_i st1 cs0 es h1
    split at h
    · rename_i o ho
      split at h
      · rename_i k args F hpc
        simp only [Option.some.injEq, Prod.mk.injEq] at h; obtain ⟨rfl, rfl⟩ := h
        rw [allP_append, allP_append] at hp
        obtain ⟨hp1, hp2, hp3, _⟩ := hp
        intro _ D X φ a w hS hb
        refine wp_region_list (by
          have hlt := (List.getElem?_eq_some_iff.1 ho).1
          have hcut : ops.toList.take i ++ ops.toList.drop i = ops.toList := List.take_append_drop i _
          have hd : ops.toList.drop i = o :: ops.toList.drop (i + 1) := by
            rw [List.drop_eq_getElem_cons hlt, (List.getElem?_eq_some_iff.1 ho).2]
          have := hOps_ok (ops := ops.toList) (Q := PostB D X n base φ w fun r => r = (.pan ch, (st1.1, patchH F 0 st1.2 H2))) hC' (ops.toList.take i) 0 (s := st.1) (H := st.2) h1 hp1 (entsP_ok hp2) hS (r2 := ops.toList.drop i) fun φ' a' w' k1 k2 k3 => ?_
          · rw [hcut] at this; simpa using this
          · rw [hd]
            unfold wpList
            have key : ∀ {K : Act → World → Prop}, o.guard = none ∧ o.wp P a' w' K (PostB D X n base φ w fun r => r = (.pan ch, (st1.1, patchH F 0 st1.2 H2))) := fun {K} => panCall_ok hpc k1 hp3 fun φ'' w'' m1 m2 m3 m4 => by
              refine ⟨_, rfl, rfl, φ'', ⟨k1.defers, k1.size, fun t => VR.stay m2 X _ _ (k1.slots t), m1⟩, (k2.b fun o ho hf => k3.2 o (by omega) hf).trans (m2.b fun o ho hf => m4 o (by have := k3.1; omega) hf), ?_⟩
              have h3 := k3.1
              exact Nat.le_trans hb (Nat.le_trans h3 m3)
            rw [if_pos (by unfold Region.wanted; rw [(key (K := fun _ _ => True)).1])]
            exact .inl key.2)
      · cases h
    · cases h
  · cases h
def quietOp : Op → Bool
  | .move _ | .load _ _ | .fieldAddr _ _ _ | .nilCheck _ => true
  | _ => false
theorem quiet_same {ρ : Operand → AV} {op : Op} {r : AV × Hp} (h : evPure C nid ρ H op = some r) (hq : quietOp op = true) : r.2 = H := by
  have al : ∀ {b : Bool} {x : AV}, (bif b then some (x, H) else none) = some r → r.2 = H := fun {b x} h => by
    cases b with
    | false => cases h
    | true => simp only [cond_true, Option.some.injEq] at h; subst h; rfl
  cases op with
  | move x => injection h with h; subst h; rfl
  | load t p =>
    simp only [evPure] at h
    obtain ⟨v, _, rfl⟩ := Option.map_eq_some_iff.1 h; rfl
  | nilCheck x =>
    simp only [evPure] at h
    split at h <;> first | exact al h | (simp only [Option.some.injEq] at h; subst h; rfl) | (cases h; done)
  | fieldAddr t x f =>
    simp only [evPure] at h
    split at h
    · rename_i ft off hf
      cases hb : posSize C ft with
      | false => rw [hb] at h; cases h
      | true =>
        rw [hb] at h
        simp only [cond_true] at h
        split at h <;> first | exact al h | (simp only [Option.some.injEq] at h; subst h; rfl) | (cases h; done)
    · cases h
  | _ => simp [quietOp] at hq
def eqArg : AV → AV → Bool
  | .bp o i, .bp o' i' => Nat.beq o o' && Nat.beq i i'
  | .pl (.int k n), .pl (.int k' n') => kindEq k k' && decide (n = n')
  | _, _ => false
def eqArgs : List AV → List AV → Bool
  | [], [] => true
  | a :: x, b :: y => eqArg a b && eqArgs x y
  | _, _ => false
theorem eqArg_eq {a b : AV} (h : eqArg a b = true) : a = b := by
  unfold eqArg at h
  split at h
  · simp only [Bool.and_eq_true] at h
    rw [Nat.eq_of_beq_eq_true h.1, Nat.eq_of_beq_eq_true h.2]
  · simp only [Bool.and_eq_true, decide_eq_true_eq] at h
    rw [kindEq_eq h.1, h.2]
  · cases h
theorem eqArgs_eq : ∀ {x y : List AV}, eqArgs x y = true → x = y
  | [], [], _ => rfl
  | a :: x, b :: y, h => by
    simp only [eqArgs, Bool.and_eq_true] at h
    rw [eqArg_eq h.1, eqArgs_eq h.2]
  | [], _ :: _, h => by cases h
  | _ :: _, [], h => by cases h
def panHere (st : Tr × Hp) (o : Oper) (k : Nat) (args : List AV) : Bool :=
  match o.op with
  | .call c => match c.callee with
    | .value f => match val st.1 f with
      | .pl (.fn k') => Nat.beq k' k && eqArgs (c.args.toList.map (val st.1)) args
      | _ => false
    | _ => false
  | _ => false
def panAny (C : Cfg) (n : Nat) (ops : List Oper) (p k : Nat) (args : List AV) (keep : List Nat) (H : Hp) : Nat → Array Bool → Tr → Bool
  | 0, _, _ => false
  | m + 1, listed, s => !(Region.ready .any ops.toArray listed).isEmpty && (Region.ready .any ops.toArray listed).all fun i => match ops[i]? with
    | none => false
    | some o => match o.guard with
      | some _ => false
      | none => bif Nat.beq i p then panHere (s, H) o k args else
        quietOp o.op && (match o.dst with | some d => !(keep.any (Nat.beq d)) | none => true) && (match evPure C H.length (val s) H o.op with
          | some r => panAny C n ops p k args keep H m (listed.setIfInBounds i true) (putO n s o.dst r.1)
          | none => false)
def keepP (s : Tr) : List Nat → Tr
  | [] => .leaf
  | t :: r => (keepP s r).put 12 t (s.get 12 t)
theorem keepP_vr {s : Tr} {t : Nat} : ∀ (l : List Nat), (keepP s l).get 12 t = .un ∨ t ∈ l ∧ (keepP s l).get 12 t = s.get 12 t
  | [] => .inl (get_leaf _ _)
  | k :: r => by
    simp only [keepP]
    by_cases e : t = k
    · subst e
      rcases get_put_self 12 (keepP s r) t (s.get 12 t) with h | h
      · exact .inr ⟨by simp, h⟩
      · exact .inl h
    · rw [get_put_ne 12 _ _ _ _ e]; exact (keepP_vr r).imp id fun h => ⟨List.mem_cons_of_mem _ h.1, h.2⟩
theorem pure_ev {ρ : Operand → AV} {op : Op} {r : AV × Hp} (hq : quietOp op = true) (he : evPure C nid ρ H op = some r) : evOp C (callE []) nid ρ H op = some [r] := by
  unfold evOp
  cases op <;> first | (simp [quietOp] at hq; done) | (simp only [he])
theorem panAny_ok (hC' : CfgOK P C) {p k F : Nat} {args : List AV} {keep : List Nat} {s0 : Tr} {Q : Exit → Act → World → Prop} {ch : List PanicEntry} {H2 : Hp} (hx : CallX P k args (maskH F 0 H) ch H2) (h1 : objsIn F H.length H2 = true) (h2 : Nat.ble H.length H2.length = true) :
    ∀ (m : Nat) {listed : Array Bool} {s : Tr} {φ : Phi} {a : Act} {w : World}, panAny C n ops p k args keep H m listed s = true → SR D X n s H φ a w → (∀ t ∈ keep, s.get 12 t = s0.get 12 t) →
      (∀ φ' a' w', SR D X n (keepP s0 keep) (patchH F 0 H H2) φ' a' w' → Ev φ w φ' w' → (∀ k, k < H.length → φ k = .fresh → φ' k = .fresh) → Q (.panic ch) a' w') → wpAny P .any ops.toArray Q m listed a w
  | 0, listed, s, φ, a, w, h, _, _, _ => by cases h
  | m + 1, listed, s, φ, a, w, h, hS, hk, hQ => by
    simp only [panAny, Bool.and_eq_true, Bool.not_eq_true'] at h
    obtain ⟨hne, hall⟩ := h
    refine ⟨fun h0 => by (rw [h0] at hne; cases hne), fun i hi => ?_⟩
    rw [List.all_eq_true] at hall
    have := hall i hi
    unfold wpOp
    rw [List.getElem?_toArray]
    split at this
    · cases this
    · rename_i o ho
      rw [ho]
      simp only
      split at this
      · cases this
      · rename_i hg
        rw [if_pos (by unfold Region.wanted; rw [hg])]
        left
        cases hb : Nat.beq i p with
        | true =>
          simp only [hb, cond_true] at this
          unfold panHere at this
          split at this
          · rename_i c hop
            split at this
            · rename_i f hcal
              split at this
              · rename_i k' hkf
                simp only [Bool.and_eq_true] at this
                obtain ⟨e1, e2⟩ := this
                have e1 := Nat.eq_of_beq_eq_true e1
                have e2 := eqArgs_eq e2
                subst e1; subst e2
                obtain ⟨callee, as, ts⟩ := c
                simp only at hcal; subst hcal
                refine pan_op hS.hr hS.val hop hkf hx h1 h2 fun φ' w' m1 m2 m3 m4 => hQ φ' a w' ⟨hS.defers, hS.size, fun t => ?_, m1⟩ m2 m4
                rcases keepP_vr (s := s0) (t := t) keep with e | ⟨ht, e⟩
                · rw [e]; simp only [VR]
                · rw [e, ← hk t ht]; exact VR.stay m2 X _ _ (hS.slots t)
              · cases this
            · cases this
          · cases this
        | false =>
          simp only [hb, cond_false, Bool.and_eq_true] at this
          obtain ⟨⟨hq, hd⟩, hev⟩ := this
          split at hev
          · rename_i r hr
            have hrH := quiet_same hr hq
            refine op_ok hC' (callE_ok (P := P) (es := []) (fun e he => by cases he)) hS.hr hS.hr.free hS.val (pure_ev hq hr) fun v' w' hn => ?_
            obtain ⟨y, hy, φ', k1, k2, k3, k4, k5⟩ := hn
            rw [List.mem_singleton] at hy; subst hy
            rw [hrH] at k2
            have hS2 := hS.put k3 k2 k1 o.dst
            refine panAny_ok hC' hx h1 h2 m hev hS2 (fun t ht => ?_) fun φ'' a'' w'' q1 q2 q3 => hQ φ'' a'' w'' q1 (k3.trans q2) fun j hj e => q3 j hj (k5 j (by have := hj; omega) hj e)
            rw [← hk t ht]
            cases hdst : o.dst with
            | none => rfl
            | some d =>
              rw [hdst] at hd
              have hne : t ≠ d := by
                rintro rfl
                simp only [Bool.not_eq_true', ← Bool.not_eq_true, List.any_eq_true] at hd
                exact hd ⟨t, ht, by simp⟩
              simp only [putO]
              cases Nat.blt d n with
              | false => rfl
              | true => exact get_put_ne 12 s d t _ hne
          · cases hev
def hPanD (P : Program) (C : Cfg) (n : Nat) (ops : List Oper) (p : Nat) (ch : List PanicEntry) (H2 : Hp) (keep : List Nat) (k : Nat) (args : List AV) (st : Tr × Hp) : Option ((Tr × Hp) × List Prop) :=
  bif panAny C n ops p k args keep st.2 ops.length (Array.replicate ops.length false) st.1 && (objsIn (reach st.2 100000 0 (refDL args)) st.2.length H2 && Nat.ble st.2.length H2.length) then
    some ((keepP st.1 keep, patchH (reach st.2 100000 0 (refDL args)) 0 st.2 H2), [CallX P k args (maskH (reach st.2 100000 0 (refDL args)) 0 st.2) ch H2]) else none
theorem hPanD_ok (hC' : CfgOK P C) {id p k : Nat} {ops : Array Oper} {keep : List Nat} {args : List AV} {ch : List PanicEntry} {H2 : Hp} {st st' : Tr × Hp} {cs : List Prop} (h : hPanD P C n ops.toList p ch H2 keep k args st = some (st', cs)) (hp : AllP cs) :
    T P n base (.region id ops true) st fun r => r = (.pan ch, st') := by
  unfold hPanD at h
  cases hb : (panAny C n ops.toList p k args keep st.2 ops.toList.length (Array.replicate ops.toList.length false) st.1 && (objsIn (reach st.2 100000 0 (refDL args)) st.2.length H2 && Nat.ble st.2.length H2.length)) with
  | false => rw [hb] at h; cases h
  | true =>
    rw [hb] at h
    simp only [cond_true, Option.some.injEq, Prod.mk.injEq] at h; obtain ⟨rfl, rfl⟩ := h
    simp only [Bool.and_eq_true] at hb
    obtain ⟨h0, h1, h2⟩ := hb
    intro _ D X φ a w hS hbase
    refine wp_region_any hC'.mixed ?_
    have hlen := ble_t h2
    have hS' : SR D X n st.1 st.2 φ a w.drew := ⟨hS.defers, hS.size, fun t => VR.stay Ev.drew X _ _ (hS.slots t), hS.hr.drew⟩
    have := panAny_ok (D := D) (X := X) (Q := PostB D X n base φ w fun r => r = (.pan ch, (keepP st.1 keep, patchH (reach st.2 100000 0 (refDL args)) 0 st.2 H2))) hC' hp.1 h1 h2 ops.toList.length h0 hS' (fun t _ => rfl) fun φ' a' w' m1 m2 m3 => by
      refine ⟨_, rfl, rfl, φ', m1, (Ev.drew.trans m2).b fun o ho hf => m3 o (by omega) hf, ?_⟩
      show base ≤ (patchH _ 0 st.2 H2).length
      rw [length_patch _ _ _ hlen]; omega
    simpa using this
def isAgg0 : AV → Bool
  | .pl (.agg []) => true
  | .agg [] => true
  | _ => false
def dieQ (C : Cfg) (n : Nat) : List Oper → Option (Nat × Nat × Nat × Array (Nat × Operand))
  | [⟨some u1, .build T ps, _, _, _, none⟩, ⟨some u2, .makeInterface T' (.tmp t1), _, _, _, none⟩, ⟨_, .panic (.tmp t2), _, _, _, none⟩] =>
    (match C.ty T with
    | some ti => bif Nat.beq u1 t1 && Nat.beq u2 t2 && Nat.beq T T' && Nat.blt u1 n && Nat.blt u2 n && ti.k.row then some (u1, u2, T, ps) else none
    | none => none)
  | _ => none
def hDie (C : Cfg) (n : Nat) (ops : List Oper) (ch : List PanicEntry) (st : Tr × Hp) : Option ((Tr × Hp) × List Prop) :=
  match dieQ C n ops with
  | some (u1, u2, T, ps) => (match evPure C st.2.length (val st.1) st.2 (.build T ps) with
    | some r => bif isAgg0 r.1 then some ((putO n (putO n st.1 (some u1) .un) (some u2) .un, st.2), [ch = [{ v := .iface T (.agg #[]), recovered := false }]]) else none
    | none => none)
  | none => none
theorem x_iface {ρ : Operand → Value} {d : Option Tmp} {ty : TypeId} {pos : String} {af : Array Edge} {g : Option (Nat × Bool)} {t : TypeId} {u : TypeDesc} {x : Operand} {v : Value} (hu : P.underlying t = some u) (hr : u.isRow = true) (hx : ρ x = v) : (execOp ρ ⟨d, .makeInterface t x, ty, pos, af, g⟩).run P w = .ok (.value (.iface t v)) w := by
  subst hx
  simp only [execOp, Instr.makeInterface]
  cases u <;> simp_all [Sem.run_bind, run_underlying hu, TypeDesc.isRow]
theorem x_panic {ρ : Operand → Value} {d : Option Tmp} {ty : TypeId} {pos : String} {af : Array Edge} {g : Option (Nat × Bool)} {t : TypeId} {x : Operand} {v : Value} (hx : ρ x = .iface t v) : (execOp ρ ⟨d, .panic x, ty, pos, af, g⟩).run P w = .halt (.panic (.iface t v)) w := by
  simp [execOp, hx, Instr.panic, goPanic]
theorem hDie_ok (hC' : CfgOK P C) {id : Nat} {ops : Array Oper} {ch : List PanicEntry} {st st' : Tr × Hp} {cs : List Prop} (h : hDie C n ops.toList ch st = some (st', cs)) (hp : AllP cs) :
    T P n base (.region id ops false) st fun r => r = (.pan ch, st') := by
  unfold hDie at h
  split at h
  · rename_i u1 u2 T ps hq
    split at h
    · rename_i r hr
      cases hag : isAgg0 r.1 with
      | false => rw [hag] at h; cases h
      | true =>
        rw [hag] at h
        simp only [cond_true, Option.some.injEq, Prod.mk.injEq] at h; obtain ⟨rfl, rfl⟩ := h
        obtain ⟨rfl, _⟩ := hp
        unfold dieQ at hq
        split at hq
        · rename_i v1 T1 ps1 y1 z1 f1 v2 T2 t1 y2 z2 f2 v3 t2 y3 z3 f3 hops
          split at hq
          · rename_i ti hti
            cases hb : (Nat.beq v1 t1 && Nat.beq v2 t2 && Nat.beq T1 T2 && Nat.blt v1 n && Nat.blt v2 n && ti.k.row) with
            | false => rw [hb] at hq; cases hq
            | true =>
              rw [hb] at hq
              simp only [cond_true, Option.some.injEq, Prod.mk.injEq] at hq; obtain ⟨rfl, rfl, rfl, rfl⟩ := hq
              simp only [Bool.and_eq_true] at hb
              obtain ⟨⟨⟨⟨⟨b1, b2⟩, b3⟩, b4⟩, b5⟩, b6⟩ := hb
              have b1 := Nat.eq_of_beq_eq_true b1
              have b2 := Nat.eq_of_beq_eq_true b2
              have b3 := Nat.eq_of_beq_eq_true b3
              subst b1; subst b2; subst b3
              rw [Nat.blt_eq] at b4 b5
              have hT := hC'.ty _ ti hti
              have hund : ∃ u, P.underlying T1 = some u ∧ u.isRow = true := by
                cases hk : ti.k with
                | struct fs => obtain ⟨gs, hu, _⟩ := und_struct hT hk; exact ⟨_, hu, rfl⟩
                | arr n e => exact ⟨_, und_arr hT hk, rfl⟩
                | _ => rw [hk] at b6; cases b6
              obtain ⟨ud, hu, hur⟩ := hund
              intro _ D X φ a w hS hbase
              refine wp_region_list (by
                rw [hops]
                obtain ⟨v, H'⟩ := r
                obtain ⟨rfl, u, hrun, hvu⟩ := g_build (w := w) (X := X) (φ := φ) (ρ := a.eval) (d := some v1) (ty := y1) (pos := z1) (af := f1) (g := none) hC' hS.val hr
                have hval : u = .agg #[] := by
                  simp only at hag
                  unfold isAgg0 at hag
                  split at hag
                  · simp only [VR, PR] at hvu; obtain ⟨vs, rfl, hl⟩ := hvu; simp only [PRL] at hl; subst hl; rfl
                  · simp only [VR] at hvu; obtain ⟨vs, rfl, hl⟩ := hvu; simp only [VRL] at hl; subst hl; rfl
                  · cases hag
                subst hval
                have hwant : ∀ (o : Oper) t, o.guard = none → Region.wanted o t = true := fun o t h => by unfold Region.wanted; rw [h]
                have un : ∀ (φ : Phi) (Y : Nat → Prop) (v : Value), VR w Y φ .un v := fun _ _ _ => by simp only [VR]
                have s1 := hS.put (Ev.refl φ w) hS.hr (v := .un) (v' := .agg #[]) (un _ _ _) (some v1)
                have s2 := s1.put (Ev.refl φ w) s1.hr (v := .un) (v' := .iface T1 (.agg #[])) (un _ _ _) (some v2)
                have ev1 : (a.put (some v1) (.agg #[])).eval (.tmp v1) = .agg #[] := by
                  simp [Act.put, Act.eval, Array.getD, hS.size, b4]
                have ev2 : ((a.put (some v1) (.agg #[])).put (some v2) (.iface T1 (.agg #[]))).eval (.tmp v2) = .iface T1 (.agg #[]) := by
                  simp [Act.put, Act.eval, Array.getD, hS.size, b5]
                unfold wpList
                rw [if_pos (hwant _ _ rfl)]
                left
                unfold Oper.wp
                rw [hrun, Oper.upon_value]
                unfold wpList
                rw [if_pos (hwant _ _ rfl)]
                left
                unfold Oper.wp
                rw [x_iface hu hur ev1, Oper.upon_value]
                unfold wpList
                rw [if_pos (hwant _ _ rfl)]
                left
                unfold Oper.wp
                rw [x_panic ev2, Oper.upon_panic]
                exact ⟨_, rfl, rfl, φ, s2, EvB.refl _ _ _, hbase⟩)
          · cases hq
        · cases hq
    · cases h
  · cases h
end
section
variable {P : Program} {C : Cfg} {w w' : World} {X : Nat → Prop} {φ φ' : Phi} {H H' : Hp} {nid n base : Nat} {s : Tr} {a : Act} {D : List Deferred} {ops : List Oper}
def endOf : List (Nat × Hint) → Option (Nat × Hint)
  | [] => none
  | (i, .pan a b c d e) :: _ => some (i, .pan a b c d e)
  | (i, .die a) :: _ => some (i, .die a)
  | _ :: r => endOf r
def hC (P : Program) (C : Cfg) (n : Nat) : Code → List RH → List (Option Bool) → Tr × Hp → Option ((Ex × Tr × Hp) × List Prop × List RH × List (Option Bool))
  | .skip, rs, ps, st => some ((.norm, st), [], rs, ps)
  | .region _ ops false, rh :: rs, ps, st => match endOf rh.2.1 with
    | some (i, .pan ch H2 _ _ _) => (match hPanT P C n ops.toList rh i ch H2 st with
      | some (st', cs) => some ((.pan ch, st'), cs, rs, ps)
      | none => none)
    | some (_, .die ch) => (match hDie C n ops.toList ch st with
      | some (st', cs) => some ((.pan ch, st'), cs, rs, ps)
      | none => none)
    | _ => (match hOps C n ops.toList rh 0 ops.toList st with
      | some (st', cs, es) => some ((.norm, st'), cs ++ entsP P es, rs, ps)
      | none => none)
  | .region _ ops true, rh :: rs, ps, st => match endOf rh.2.1 with
    | some (p, .pan ch H2 keep k args) => (match hPanD P C n ops.toList p ch H2 keep k args st with
      | some (st', cs) => some ((.pan ch, st'), cs, rs, ps)
      | none => none)
    | _ => (match hDrawn C n ops.toList rh st with
      | some (st', cs, es) => some ((.norm, st'), cs ++ entsP P es, rs, ps)
      | none => none)
  | .seq a b, rs, ps, st => match hC P C n a rs ps st with
    | some ((.norm, st1), cs, rs1, ps1) => (match hC P C n b rs1 ps1 st1 with
      | some (r, cs2, rs2, ps2) => some (r, cs ++ cs2, rs2, ps2)
      | none => none)
    | x => x
  | .cond c a b, rs, p :: ps, st => match val st.1 c with
    | .pl (.bool t) => (match p with
      | some d => (match (bif d then hC P C n a rs ps st else hC P C n b rs ps st) with
        | some (r, cs, rs1, ps1) => some (r, (t = d) :: cs, rs1, ps1)
        | none => none)
      | none => bif t then hC P C n a rs ps st else hC P C n b rs ps st)
    | _ => none
  | .block i c, rs, ps, st => match hC P C n c rs ps st with
    | some ((ex, st1), cs, rs1, ps1) => some ((blkEx i ex, st1), cs, rs1, ps1)
    | none => none
  | .exit i, rs, ps, st => some ((.exit i, st), [], rs, ps)
  | .ret, rs, ps, st => some ((.ret, st), [], rs, ps)
  | _, _, _, _ => none
theorem hC_ok (hC' : CfgOK P C) : ∀ (c : Code) {rs rs' : List RH} {ps ps' : List (Option Bool)} {st : Tr × Hp} {r : Ex × Tr × Hp} {cs : List Prop}, hC P C n c rs ps st = some (r, cs, rs', ps') → AllP cs → T P n base c st fun x => x = r
  | .skip, rs, rs', ps, ps', st, r, cs, h, _ => by
    simp only [hC, Option.some.injEq, Prod.mk.injEq] at h; obtain ⟨rfl, _⟩ := h
    exact T.skip rfl
  | .region id ops false, [], rs', ps, ps', st, r, cs, h, _ => by simp [hC] at h
  | .region id ops false, rh :: rs, rs', ps, ps', st, r, cs, h, hp => by
    simp only [hC] at h
    split at h
    · split at h
      · rename_i st' cs0 h1
        simp only [Option.some.injEq, Prod.mk.injEq] at h; obtain ⟨rfl, rfl, _⟩ := h
        exact hPanT_ok hC' h1 hp
      · cases h
    · split at h
      · rename_i st' cs0 h1
        simp only [Option.some.injEq, Prod.mk.injEq] at h; obtain ⟨rfl, rfl, _⟩ := h
        exact hDie_ok hC' h1 hp
      · cases h
    · skip
      split at h
      · rename_i st' cs0 es h1
        simp only [Option.some.injEq, Prod.mk.injEq] at h; obtain ⟨rfl, rfl, _⟩ := h
        rw [allP_append] at hp
        intro _ D X φ a w hS hb
        refine wp_region_list (by
          have := hOps_ok (ops := ops.toList) (Q := PostB D X n base φ w fun x => x = (.norm, st')) hC' ops.toList 0 (s := st.1) (H := st.2) h1 hp.1 (entsP_ok hp.2) hS (r2 := []) fun φ' a' w' k1 k2 k3 => ?_
          · simpa using this
          · exact ⟨_, rfl, rfl, φ', k1, k2.b fun o ho hf => k3.2 o (by omega) hf, Nat.le_trans hb k3.1⟩)
      · cases h
  | .region id ops true, [], rs', ps, ps', st, r, cs, h, _ => by simp [hC] at h
  | .region id ops true, rh :: rs, rs', ps, ps', st, r, cs, h, hp => by
    simp only [hC] at h
    split at h
    · split at h
      · rename_i st' cs0 h1
        simp only [Option.some.injEq, Prod.mk.injEq] at h; obtain ⟨rfl, rfl, _⟩ := h
        exact hPanD_ok hC' h1 hp
      · cases h
    · skip
      split at h
      · rename_i st' cs0 es h1
        simp only [Option.some.injEq, Prod.mk.injEq] at h; obtain ⟨rfl, rfl, _⟩ := h
        rw [allP_append] at hp
        unfold hDrawn at h1
        split at h1
        · cases h1
        · rename_i L hL
          split at h1
          · rename_i st2 cs2 es2 h2
            simp only [Option.some.injEq, Prod.mk.injEq] at h1; obtain ⟨rfl, rfl, rfl⟩ := h1
            rw [allP_append] at hp
            have hev := hDL_ok (call := callE es2) hC'.noext L h2 hp.1.1 fun e he => callE_at (sameP_ok hp.1.2) he
            have hdr : evDrawn C (callE es2) n ops.toList st = some st2 := by unfold evDrawn; simp only [hL, hev]
            intro hk D X φ a w hS hb
            simp only [codeOK] at hk
            have := draw_ok hC' (callE_ok (entsP_ok hp.2)) D X n ops.toList st.1 st.2 st2.1 st2.2 φ a w id hk hdr hS
            refine Code.wp_mono ?_ (by simpa using this)
            rintro e a' w' ⟨q, hq, he, φ', k1, k2, k3⟩
            rw [List.mem_singleton] at hq; subst hq
            exact ⟨_, rfl, he, φ', k1, k2.b fun o ho hf => k3.2 o (by omega) hf, by have := k3.1; simp only at this ⊢; omega⟩
          · cases h1
      · cases h
  | .seq x y, rs, rs', ps, ps', st, r, cs, h, hp => by
    simp only [hC] at h
    split at h
    · rename_i st1 cs1 rs1 ps1 h1
      split at h
      · rename_i r2 cs2 rs2 ps2 h2
        simp only [Option.some.injEq, Prod.mk.injEq] at h; obtain ⟨rfl, rfl, _⟩ := h
        rw [allP_append] at hp
        refine T.seq (hC_ok hC' x h1 hp.1) ?_
        rintro q rfl
        exact hC_ok hC' y h2 hp.2
      · cases h
    · rename_i hne
      refine T.seq (hC_ok hC' x h hp) ?_
      rintro q rfl
      obtain ⟨ex, st'⟩ := q
      cases ex with
      | norm => exact absurd h (hne _ _ _ _)
      | exit i => rfl
      | ret => rfl
      | pan _ => rfl
  | .cond c x y, rs, rs', [], ps', st, r, cs, h, hp => by simp [hC] at h
  | .cond c x y, rs, rs', p :: ps, ps', st, r, cs, h, hp => by
    simp only [hC] at h
    split at h
    · rename_i t ht
      split at h
      · rename_i d
        split at h
        · rename_i r1 cs1 rs1 ps1 h1
          simp only [Option.some.injEq, Prod.mk.injEq] at h; obtain ⟨rfl, rfl, _⟩ := h
          have ht2 : t = d := hp.1
          refine T.cond ht (fun e => ?_) (fun e => ?_)
          · rw [e] at ht2; subst ht2
            exact hC_ok hC' x (by simpa using h1) hp.2
          · rw [e] at ht2; subst ht2
            exact hC_ok hC' y (by simpa using h1) hp.2
        · cases h
      · refine T.cond ht (fun e => ?_) (fun e => ?_)
        · subst e; exact hC_ok hC' x (by simpa using h) hp
        · subst e; exact hC_ok hC' y (by simpa using h) hp
    · cases h
  | .block i c, rs, rs', ps, ps', st, r, cs, h, hp => by
    simp only [hC] at h
    split at h
    · rename_i ex st1 cs1 rs1 ps1 h1
      simp only [Option.some.injEq, Prod.mk.injEq] at h; obtain ⟨rfl, rfl, _⟩ := h
      exact T.block ((hC_ok hC' c h1 hp).mono fun q hq => by subst hq; rfl)
    · cases h
  | .exit i, rs, rs', ps, ps', st, r, cs, h, _ => by
    simp only [hC, Option.some.injEq, Prod.mk.injEq] at h; obtain ⟨rfl, _⟩ := h
    exact T.exit rfl
  | .ret, rs, rs', ps, ps', st, r, cs, h, _ => by
    simp only [hC, Option.some.injEq, Prod.mk.injEq] at h; obtain ⟨rfl, _⟩ := h
    exact T.ret rfl
  | .loop _, _, _, _, _, _, _, _, h, _ => by simp [hC] at h
  | .goto _, _, _, _, _, _, _, _, h, _ => by simp [hC] at h
  | .label _, _, _, _, _, _, _, _, h, _ => by simp [hC] at h
  | .rangeFunc .., _, _, _, _, _, _, _, h, _ => by simp [hC] at h
  | .scope .., _, _, _, _, _, _, _, h, _ => by simp [hC] at h
  | .refuse .., _, _, _, _, _, _, _, h, _ => by simp [hC] at h
end
end Go.Proofs.Ytkcafackfihmiaa
namespace Go.Proofs.Ytkcafackfihmiaa
set_option linter.unusedSimpArgs false
set_option linter.unusedVariables false
open Go.RowKit
inductive Td where
  | mat (t sz : Nat)          -- a slot's nil slice becomes an own row
  | matA (t i sz : Nat)       -- that in a cell of a slot's struct
  | matC (o i sz : Nat)       -- that in a cell of a variable
  | frz (t : Nat)             -- a slot's own rows are given up
  | frzC (o i : Nat)          -- that of a cell of a variable
  | frzO (o : Nat)            -- an own row is given up
  | wk (t : Nat) (v : AV)     -- less is known
  | mov (t : Nat)             -- a slot's own row gets a new number
  | kil (o : Nat)             -- own memory is given up
def newRow' (sz : Nat) : Ob := .row false sz []
def isNilS : AV → Bool
  | .pl (.sl .nil _ []) => true
  | _ => false
def tdStep (st : Tr × Hp) : Td → Option ((Tr × Hp) × List Prop)
  | .mat t sz => bif isNilS (st.1.get 12 t) then some ((st.1.put 12 t (.own st.2.length), hput st.2 st.2.length (newRow' sz)), []) else none
  | .matA t i sz => bif isAggA (st.1.get 12 t) then (match (st.1.get 12 t).cells[i]? with
      | some c => bif isNilS c then some ((st.1.put 12 t (.agg ((st.1.get 12 t).cells.set i (.own st.2.length))), hput st.2 st.2.length (newRow' sz)), []) else none
      | none => none) else none
  | .matC o i sz => match hget st.2 o with
    | some (.box cs) => (match cs[i]? with
      | some c => bif isNilS c then some ((st.1, hput (hset st.2 o (some (.box (cs.set i (.own st.2.length))))) st.2.length (newRow' sz)), []) else none
      | none => none)
    | _ => none
  | .frz t => match plain st.2 (st.1.get 12 t) with
    | some (p, H1) => some ((st.1.put 12 t (.pl p), H1), [])
    | none => none
  | .frzC o i => match hget st.2 o with
    | some (.box cs) => (match cs[i]? with
      | some c => (match plain1 st.2 c with
        | some (p, H1) => (match hget H1 o with
          | some (.box cs1) => some ((st.1, hset H1 o (some (.box (cs1.set i (.pl p))))), [])
          | _ => none)
        | none => none)
      | none => none)
    | _ => none
  | .frzO o => match hget st.2 o with
    | some (.row false sz es) => some ((st.1, hset st.2 o (some (.row true sz es))), [])
    | _ => none
  | .wk t v => some ((st.1.put 12 t v, st.2), [Wk (st.1.get 12 t) v])
  | .mov t => match st.1.get 12 t with
    | .own o => (match hget st.2 o with
      | some (.row false sz es) => some ((st.1.put 12 t (.own st.2.length), hput (hset st.2 o none) st.2.length (.row false sz es)), [])
      | _ => none)
    | _ => none
  | .kil o => match hget st.2 o with
    | some _ => some ((st.1, hset st.2 o none), [])
    | none => none
def tdSteps : List Td → Tr × Hp → Option ((Tr × Hp) × List Prop)
  | [], st => some (st, [])
  | d :: r, st => match tdStep st d with
    | some (st1, cs) => (match tdSteps r st1 with | some (st2, cs2) => some (st2, cs ++ cs2) | none => none)
    | none => none
section
variable {P : Program} {C : Cfg} {w w' : World} {X : Nat → Prop} {φ φ' : Phi} {H H' : Hp} {nid n base : Nat} {s : Tr} {a : Act} {D : List Deferred} {st st' : Tr × Hp}
theorem put_slots {Y : Nat → Prop} {s : Tr} {t : Nat} {v : AV} {f : Nat → Value} (h : ∀ k, VR w Y φ (s.get 12 k) (f k)) (hv : VR w Y φ v (f t)) : ∀ k, VR w Y φ ((s.put 12 t v).get 12 k) (f k) := by
  intro k
  by_cases e : k = t
  · subst e
    rcases get_put_self 12 s k v with h1 | h1
    · rw [h1]; exact hv
    · rw [h1]; simp only [VR]
  · rw [get_put_ne 12 s t k v e]; exact h k
theorem nil_slice {v : AV} {u : Value} {Y : Nat → Prop} (h : isNilS v = true) (hv : VR w Y φ v u) : u = .slice none 0 0 := by
  unfold isNilS at h
  split at h
  · simp only [VR, PR, flOk] at hv
    obtain ⟨A, c, rfl, _, _, ⟨rfl, rfl⟩, _⟩ := hv
    rfl
  · cases h
theorem mat_ok (hH : HR X φ H w) (sz : Nat) : Ev φ w (φ.set H.length (.at false ⟨none, 0, 0, sz⟩)) w ∧ HR X (φ.set H.length (.at false ⟨none, 0, 0, sz⟩)) (hput H H.length (newRow' sz)) w ∧
    VR w (YOf X (φ.set H.length (.at false ⟨none, 0, 0, sz⟩))) (φ.set H.length (.at false ⟨none, 0, 0, sz⟩)) (.own H.length) (.slice none 0 0) := by
  have hf := hH.free
  have ev : Ev φ w (φ.set H.length (.at false ⟨none, 0, 0, sz⟩)) w := by
    refine ⟨rfl, rfl, ⟨rfl, Nat.le_refl _⟩, Nat.le_refl _, fun _ _ _ => rfl, fun b _ hb => ?_, fun o ho => .inl (Phi.set_ne fun e => ho (by rw [e]; exact hf.fr))⟩
    obtain ⟨o, l, p, ho, hA⟩ := hb
    by_cases e : o = H.length
    · subst e; rw [Phi.set_self] at ho; cases ho; cases hA
    · rw [Phi.set_ne e] at ho; exact ⟨o, l, p, ho, hA⟩
  have hlen := length_put' (x := newRow' sz) hf.le
  refine ⟨ev, hH.next ev (fun o ho => ?_) (fun o z l ho => ?_) (fun o y hy => ?_) (fun o l b p ho hA => ?_), ?_⟩
  · rw [Phi.set_ne (by omega)]; exact hH.fresh o (by omega)
  · by_cases e : o = H.length
    · exact ⟨_, by rw [hget_put hf.le, if_pos e]⟩
    · rw [Phi.set_ne e] at ho
      obtain ⟨y, hy⟩ := hH.live o z l ho
      exact ⟨y, by rw [hget_put hf.le, if_neg e]; exact hy⟩
  · by_cases e : o = H.length
    · rw [hget_put hf.le, if_pos e] at hy; cases hy
      refine .inr ⟨false, ⟨none, 0, 0, sz⟩, by rw [e, Phi.set_self], ?_⟩
      simp only [newRow', OR]
      exact ⟨trivial, rfl, trivial, Nat.le_refl _, Nat.zero_le _, .inl ⟨trivial, trivial⟩⟩
    · rw [hget_put hf.le, if_neg e] at hy
      exact .inl ⟨hy, Phi.set_ne e, fun _ _ _ _ _ => rfl⟩
  · by_cases e : o = H.length
    · subst e; rw [Phi.set_self] at ho; cases ho; cases hA
    · rw [Phi.set_ne e] at ho; exact .inl ho
  · simp only [VR]
    refine ⟨rfl, (by rw [Phi.set_self]; intro h; cases h), fun z l hl => ?_⟩
    rw [Phi.set_self] at hl; cases hl
    simp [Loc.addr]
theorem VRL.set {Y : Nat → Prop} : ∀ {cs : List AV} {vs : List Value} {i : Nat} {c : AV} {u : Value}, VRL w Y φ cs vs → vs[i]? = some u → oneA c = true → VR w Y φ c u → VRL w Y φ (cs.set i c) vs
  | [], vs, i, c, u, h, _, _, _ => by simpa using h
  | x :: cs, vs, 0, c, u, h, hu, hc, hv => by
    simp only [VRL] at h
    obtain ⟨v, r, rfl, h1, h2, h3⟩ := h
    simp at hu; subst hu
    simp only [List.set_cons_zero, VRL]
    exact ⟨v, r, rfl, hc, hv, h3⟩
  | x :: cs, vs, i + 1, c, u, h, hu, hc, hv => by
    simp only [VRL] at h
    obtain ⟨v, r, rfl, h1, h2, h3⟩ := h
    simp only [List.set_cons_succ, VRL]
    exact ⟨v, r, rfl, h1, h2, VRL.set h3 (by simpa using hu) hc hv⟩
theorem td_ok {d : Td} {cs : List Prop} (h : tdStep st d = some (st', cs)) (hp : AllP cs) (hS : SR D X n st.1 st.2 φ a w) (hb : base ≤ st.2.length) : ∃ φ', SR D X n st'.1 st'.2 φ' a w ∧ EvB base φ w φ' w ∧ base ≤ st'.2.length := by
  have low : ∀ {φ' : Phi}, Ev φ w φ' w → (∀ k, k < st.2.length → φ k = .fresh → φ' k = .fresh) → EvB base φ w φ' w := fun ev hf => ev.b fun o ho e => hf o (by omega) e
  cases d with
  | mat t sz =>
    simp only [tdStep] at h
    cases hn : isNilS (st.1.get 12 t) with
    | false => simp [hn] at h
    | true =>
      simp only [hn, cond_true, Option.some.injEq, Prod.mk.injEq] at h; obtain ⟨rfl, rfl⟩ := h
      obtain ⟨ev, hH, hv⟩ := mat_ok hS.hr sz
      have hu := nil_slice hn (hS.slots t)
      refine ⟨_, ⟨hS.defers, hS.size, put_slots (fun k => VR.stay ev X _ _ (hS.slots k)) (by rw [hu]; exact hv), hH⟩, low ev fun k hk e => by rw [Phi.set_ne (by omega)]; exact e, ?_⟩
      have := (length_put' (x := newRow' sz) (Nat.le_refl st.2.length)).1
      exact Nat.le_trans hb this
  | matA t i sz =>
    simp only [tdStep] at h
    cases ha : isAggA (st.1.get 12 t) with
    | false => simp [ha] at h
    | true =>
      simp only [ha, cond_true] at h
      split at h
      · rename_i c hc
        cases hn : isNilS c with
        | false => simp [hn] at h
        | true =>
          simp only [hn, cond_true, Option.some.injEq, Prod.mk.injEq] at h; obtain ⟨rfl, rfl⟩ := h
          obtain ⟨ev, hH, hv⟩ := mat_ok hS.hr sz
          obtain ⟨vs, hu, hl⟩ := agg_cells ha (hS.slots t)
          obtain ⟨u, h1, _, h2⟩ := hl.at hc
          have h3 := nil_slice hn h2
          refine ⟨_, ⟨hS.defers, hS.size, put_slots (fun k => VR.stay ev X _ _ (hS.slots k)) ?_, hH⟩, low ev fun k hk e => by rw [Phi.set_ne (by omega)]; exact e, ?_⟩
          · rw [hu]
            simp only [VR]
            exact ⟨vs, rfl, (VRL.stay ev X _ _ hl).set h1 rfl (by rw [h3]; exact hv)⟩
          · have := (length_put' (x := newRow' sz) (Nat.le_refl st.2.length)).1
            exact Nat.le_trans hb this
      · cases h
  | matC o i sz =>
    simp only [tdStep] at h
    split at h
    · rename_i cs0 ho
      split at h
      · rename_i c hc
        cases hn : isNilS c with
        | false => simp [hn] at h
        | true =>
          simp only [hn, cond_true, Option.some.injEq, Prod.mk.injEq] at h; obtain ⟨rfl, rfl⟩ := h
          obtain ⟨ev, hH, hv⟩ := mat_ok hS.hr sz
          have hlt := hget_lt ho
          have ho2 : hget (hput st.2 st.2.length (newRow' sz)) o = some (.box cs0) := by rw [hget_put (Nat.le_refl _), if_neg (by omega)]; exact ho
          obtain ⟨z, l, hl, hO⟩ := hH.ob _ _ ho2
          simp only [OR] at hO
          obtain ⟨rfl, b, t, vs, hA, hg, hvs⟩ := hO
          obtain ⟨u, h1, _, h2⟩ := hvs.at hc
          have h3 := nil_slice hn h2
          have hwr := hH.write (x := .box (cs0.set i (.own st.2.length))) hl hA rfl rfl ⟨rfl, Nat.le_refl _⟩ rfl (fun _ _ => rfl) (by
            simp only [OR]
            exact ⟨trivial, b, t, vs, hA, hg, hvs.set h1 rfl (by rw [h3]; exact hv)⟩)
          have heq : hset (hput st.2 st.2.length (newRow' sz)) o (some (.box (cs0.set i (.own st.2.length)))) = hput (hset st.2 o (some (.box (cs0.set i (.own st.2.length))))) st.2.length (newRow' sz) := by
            unfold hput
            rw [show Nat.blt st.2.length st.2.length = false from by rw [Bool.eq_false_iff]; simp, show Nat.blt st.2.length (hset st.2 o (some (.box (cs0.set i (.own st.2.length))))).length = false from by rw [length_set, Bool.eq_false_iff]; simp]
            simp only [cond_false, hset]
            rw [List.set_append_left _ _ hlt]
          rw [heq] at hwr
          refine ⟨_, ⟨hS.defers, hS.size, fun k => VR.stay ev X _ _ (hS.slots k), hwr⟩, low ev fun k hk e => by rw [Phi.set_ne (by omega)]; exact e, ?_⟩
          have := (length_put' (x := newRow' sz) (H := hset st.2 o (some (.box (cs0.set i (.own st.2.length))))) (n := st.2.length) (by rw [length_set]; exact Nat.le_refl _)).1
          rw [length_set] at this
          exact Nat.le_trans hb this
      · cases h
    · cases h
  | frz t =>
    simp only [tdStep] at h
    split at h
    · rename_i p H1 hpl
      simp only [Option.some.injEq, Prod.mk.injEq] at h; obtain ⟨rfl, rfl⟩ := h
      obtain ⟨φ1, hH, ev, kp, hv⟩ := plain_ok hS.hr hpl (hS.slots t)
      refine ⟨φ1, ⟨hS.defers, hS.size, put_slots (fun k => VR.stay ev X _ _ (hS.slots k)) (by simp only [VR]; exact hv), hH⟩, low ev fun k _ e => kp.1 k e, ?_⟩
      show base ≤ H1.length
      rw [kp.2]; exact hb
    · cases h
  | frzC o i =>
    simp only [tdStep] at h
    split at h
    · rename_i cs0 ho
      split at h
      · rename_i c hc
        split at h
        · rename_i p H1 hpl
          split at h
          · rename_i cs1 ho1
            simp only [Option.some.injEq, Prod.mk.injEq] at h; obtain ⟨rfl, rfl⟩ := h
            obtain ⟨z, l, hl, hO⟩ := hS.hr.ob _ _ ho
            simp only [OR] at hO
            obtain ⟨rfl, b, t, vs, hA, hg, hvs⟩ := hO
            obtain ⟨u, h1, h1o, h2⟩ := hvs.at hc
            obtain ⟨φ1, hH, ev, kp, hv⟩ := plain1_ok hS.hr hpl h2
            obtain ⟨z1, l1, hl1, hO1⟩ := hH.ob _ _ ho1
            simp only [OR] at hO1
            obtain ⟨rfl, b1, t1, vs1, hA1, hg1, hvs1⟩ := hO1
            have hll : l1 = l := by
              rcases ev.ids o (by rw [hl]; intro h; cases h) with h | h | ⟨l2, _, h⟩
              · rw [hl1, hl] at h; cases h; rfl
              · rw [hl1] at h; cases h
              · rw [hl1] at h; cases h
            subst hll
            rw [hA] at hA1; cases hA1
            rw [hg] at hg1
            simp only [Option.some.injEq, Obj.cells.injEq] at hg1
            obtain ⟨hvv, rfl, _⟩ := hg1
            have hvv : vs = vs1 := by have := congrArg Array.toList hvv; simpa using this
            subst hvv
            have hwr := hH.write (x := .box (cs1.set i (.pl p))) hl1 hA rfl rfl ⟨rfl, Nat.le_refl _⟩ rfl (fun _ _ => rfl) (by
              simp only [OR]
              exact ⟨trivial, b, t, vs, hA, hg, hvs1.set h1 (by have := plain1_one hpl h1o; cases p <;> first | rfl | (simp [oneP] at this)) (by simp only [VR]; exact hv)⟩)
            refine ⟨φ1, ⟨hS.defers, hS.size, fun k => VR.stay ev X _ _ (hS.slots k), hwr⟩, low ev fun k _ e => kp.1 k e, ?_⟩
            show base ≤ (hset H1 o _).length
            rw [length_set, kp.2]; exact hb
          · cases h
        · cases h
      · cases h
    · cases h
  | frzO o =>
    simp only [tdStep] at h
    split at h
    · rename_i sz es ho
      simp only [Option.some.injEq, Prod.mk.injEq] at h; obtain ⟨rfl, rfl⟩ := h
      obtain ⟨z, l, hl, hO⟩ := hS.hr.ob _ _ ho
      have hv : VR w (YOf X φ) φ (.own o) (.slice (l.addr 0) l.n l.c) := by
        simp only [VR]
        exact ⟨rfl, (by rw [hl]; intro h; cases h), fun z' l' h' => by rw [hl] at h'; cases h'; rfl⟩
      obtain ⟨φ1, hH, ev, kp, _⟩ := plain1_ok hS.hr (show plain1 st.2 (.own o) = some (.sl .any sz es, hset st.2 o (some (.row true sz es))) by simp only [plain1, ho]) hv
      refine ⟨φ1, ⟨hS.defers, hS.size, fun k => VR.stay ev X _ _ (hS.slots k), hH⟩, low ev fun k _ e => kp.1 k e, ?_⟩
      show base ≤ (hset st.2 o _).length
      rw [length_set]; exact hb
    · cases h
  | wk t v =>
    simp only [tdStep, Option.some.injEq, Prod.mk.injEq] at h; obtain ⟨rfl, rfl⟩ := h
    exact ⟨φ, ⟨hS.defers, hS.size, put_slots hS.slots (hp.1 _ _ _ _ (hS.slots t)), hS.hr⟩, EvB.refl _ _ _, hb⟩
  | mov t =>
    simp only [tdStep] at h
    split at h
    · rename_i o ht
      split at h
      · rename_i sz es ho
        simp only [Option.some.injEq, Prod.mk.injEq] at h; obtain ⟨rfl, rfl⟩ := h
        obtain ⟨z, l, hl, hO⟩ := hS.hr.ob _ _ ho
        have hz : z = false := by simp only [OR] at hO; exact hO.1
        subst hz
        have hv := hS.slots t
        rw [ht] at hv
        obtain ⟨m1, m2⟩ := hS.hr.move hS.hr.free (w' := w) hl l (.row false sz es) rfl rfl ⟨rfl, Nat.le_refl _⟩ (Nat.le_refl _) (fun _ _ _ => rfl) (fun b p he => .inl ⟨p, he⟩) (fun ev => by
          have := OR.stay ev X (fun _ _ _ _ => rfl) hO
          exact this)
        have hlt := hget_lt ho
        refine ⟨_, ⟨hS.defers, hS.size, put_slots (fun k => VR.stay m2 X _ _ (hS.slots k)) ?_, m1⟩, low m2 fun k hk e => ?_, Nat.le_trans hb (length_move (Nat.le_refl _))⟩
        · simp only [VR] at hv ⊢
          rw [Phi.set_self]
          exact ⟨hv.1, fun h => (by cases h), fun z' l' h' => (by cases h'; exact hv.2.2 _ _ hl)⟩
        · rw [Phi.set_ne (by omega), Phi.set_ne (fun e2 => by rw [e2] at e; rw [e] at hl; cases hl)]; exact e
      · cases h
    · cases h
  | kil o =>
    simp only [tdStep] at h
    split at h
    · rename_i x ho
      simp only [Option.some.injEq, Prod.mk.injEq] at h; obtain ⟨rfl, rfl⟩ := h
      obtain ⟨z, l, hl, hO⟩ := hS.hr.ob _ _ ho
      have ev : Ev φ w (φ.set o .dead) w := Ev.kill o (by rw [hl]; intro h; cases h)
      refine ⟨_, ⟨hS.defers, hS.size, fun k => VR.stay ev X _ _ (hS.slots k), hS.hr.kill hl⟩, low ev fun k hk e => ?_, ?_⟩
      · rw [Phi.set_ne (fun e2 => by rw [e2] at e; rw [e] at hl; cases hl)]; exact e
      · show base ≤ (hset st.2 o none).length
        rw [length_set]; exact hb
    · cases h
theorem tds_ok : ∀ {l : List Td} {st st' : Tr × Hp} {φ : Phi} {cs : List Prop}, tdSteps l st = some (st', cs) → AllP cs → SR D X n st.1 st.2 φ a w → base ≤ st.2.length → ∃ φ', SR D X n st'.1 st'.2 φ' a w ∧ EvB base φ w φ' w ∧ base ≤ st'.2.length
  | [], st, st', φ, cs, h, _, hS, hb => by
    simp only [tdSteps, Option.some.injEq, Prod.mk.injEq] at h; obtain ⟨rfl, _⟩ := h
    exact ⟨φ, hS, EvB.refl _ _ _, hb⟩
  | d :: l, st, st', φ, cs, h, hp, hS, hb => by
    simp only [tdSteps] at h
    split at h
    · rename_i st1 cs1 h1
      split at h
      · rename_i st2 cs2 h2
        simp only [Option.some.injEq, Prod.mk.injEq] at h; obtain ⟨rfl, rfl⟩ := h
        rw [allP_append] at hp
        obtain ⟨φ1, k1, k2, k3⟩ := td_ok h1 hp.1 hS hb
        obtain ⟨φ2, m1, m2, m3⟩ := tds_ok h2 hp.2 k1 k3
        exact ⟨φ2, m1, k2.trans m2, m3⟩
      · cases h
    · cases h
def norm (base : Nat) (tds : List Td) (m keep : List Nat) (st : Tr × Hp) : Option ((Tr × Hp) × List Prop) :=
  match tdSteps tds st with
  | some (st1, cs) => (match tidy base m keep st1 with | some st2 => some (st2, cs) | none => none)
  | none => none
theorem norm_ok {tds : List Td} {m keep : List Nat} {cs : List Prop} (h : norm base tds m keep st = some (st', cs)) (hp : AllP cs) (hS : SR D X n st.1 st.2 φ a w) (hb : base ≤ st.2.length) : ∃ φ', SR D X n st'.1 st'.2 φ' a w ∧ EvB base φ w φ' w ∧ base ≤ st'.2.length := by
  unfold norm at h
  split at h
  · rename_i st1 cs1 h1
    split at h
    · rename_i st2 h2
      simp only [Option.some.injEq, Prod.mk.injEq] at h; obtain ⟨rfl, rfl⟩ := h
      obtain ⟨φ1, k1, k2, k3⟩ := tds_ok h1 hp hS hb
      obtain ⟨φ2, m1, m2, m3⟩ := tidy_ok h2 k1
      exact ⟨φ2, m1, k2.trans m2, m3⟩
    · cases h
  · cases h
theorem T.pre {tds : List Td} {m keep : List Nat} {cs : List Prop} {c : Code} {Q : Ex × Tr × Hp → Prop} (h : norm base tds m keep st = some (st', cs)) (hp : AllP cs) (hT : T P n base c st' Q) : T P n base c st Q := by
  intro hc D X φ a w hS hb
  obtain ⟨φ1, k1, k2, k3⟩ := norm_ok h hp hS hb
  exact wp_from k2 (hT hc X φ1 a w k1 k3)
theorem T.post {tds : List Td} {m keep : List Nat} {cs : List Prop} {c : Code} {ex : Ex} {st0 : Tr × Hp} (hT : T P n base c st fun r => r = (ex, st0)) (h : norm base tds m keep st0 = some (st', cs)) (hp : AllP cs) : T P n base c st fun r => r = (ex, st') := by
  intro hc D X φ a w hS hb
  refine Code.wp_mono ?_ (hT hc X φ a w hS hb)
  rintro e a' w' ⟨r, rfl, he, φ1, k1, k2, k3⟩
  obtain ⟨φ2, m1, m2, m3⟩ := norm_ok h hp k1 k3
  exact ⟨_, rfl, he, φ2, m1, k2.trans m2, m3⟩
def hRun (P : Program) (C : Cfg) (n base : Nat) (c : Code) (rs : List RH) (ps : List (Option Bool)) (tds : List Td) (m keep : List Nat) (st : Tr × Hp) : Option ((Ex × Tr × Hp) × List Prop) :=
  match hC P C n c rs ps st with
  | some ((ex, st1), cs, [], []) => (match norm base tds m keep st1 with
    | some (st2, cs2) => some ((ex, st2), cs ++ cs2)
    | none => none)
  | _ => none
theorem run_ok (hC' : CfgOK P C) {c : Code} {rs : List RH} {ps : List (Option Bool)} {tds : List Td} {m keep : List Nat} {r : Ex × Tr × Hp} {cs : List Prop} (h : hRun P C n base c rs ps tds m keep st = some (r, cs)) (hp : AllP cs) : T P n base c st fun x => x = r := by
  unfold hRun at h
  split at h
  · rename_i ex st1 cs1 h1
    split at h
    · rename_i st2 cs2 h2
      simp only [Option.some.injEq, Prod.mk.injEq] at h; obtain ⟨rfl, rfl⟩ := h
      rw [allP_append] at hp
      exact T.post (hC_ok hC' c h1 hp.1) h2 hp.2
    · cases h
  · cases h

def cL : Code → Code
  | .seq a _ => a
  | .cond _ a _ => a
  | .block _ a => a
  | .loop a => a
  | c => c
def cR : Code → Code
  | .seq _ b => b
  | .cond _ _ b => b
  | c => c
def isSeq : Code → Bool
  | .seq _ _ => true
  | _ => false
def isLoop : Code → Bool
  | .loop _ => true
  | _ => false
def isBlk : Code → Option Nat
  | .block i _ => some i
  | _ => none
def isCond : Code → Option Operand
  | .cond c _ _ => some c
  | _ => none
theorem T.loop' {f : Nat} {c : Code} {Q : Ex × Tr × Hp → Prop} (hs : isLoop c = true) (h : TL P n base f (cL c) st Q) : T P n base c st Q := by
  cases c <;> first | (simp [isLoop] at hs; done) | skip
  exact T.loop h
theorem T.block' {i : Nat} {c : Code} {Q : Ex × Tr × Hp → Prop} (hs : isBlk c = some i) (h : T P n base (cL c) st fun r => Q (blkEx i r.1, r.2)) : T P n base c st Q := by
  cases c <;> first | (simp [isBlk] at hs; done) | skip
  simp only [isBlk, Option.some.injEq] at hs; subst hs
  exact T.block h
theorem T.cond' {o : Operand} {c : Code} {b : Bool} {Q : Ex × Tr × Hp → Prop} (hs : isCond c = some o) (hv : val st.1 o = .pl (.bool b)) (h1 : b = true → T P n base (cL c) st Q) (h2 : b = false → T P n base (cR c) st Q) : T P n base c st Q := by
  cases c <;> first | (simp [isCond] at hs; done) | skip
  simp only [isCond, Option.some.injEq] at hs; subst hs
  exact T.cond hv h1 h2

def RetQ (C : Cfg) (rs : List ResultVar) (v : AV) (r : Ex × Tr × Hp) : Prop := (r.1 = .ret ∨ r.1 = .norm) ∧ ∃ u u', evRet C r.2.1 r.2.2 rs = some u ∧ plainR r.2.2 u = some u' ∧ Wk u' v
def RetS (C : Cfg) (rs : List ResultVar) (v : AV) (H' : Hp) (r : Ex × Tr × Hp) : Prop := (r.1 = .ret ∨ r.1 = .norm) ∧ evRet C r.2.1 r.2.2 rs = some v ∧ r.2.2 = H'
theorem enter_ok (hC : CfgOK P C) {k : Nat} {f : Func} {c : Code} {args : List AV} {vs : List Value} (hf : C.fn k = some f) (hb : f.body = some c) (hle : args.length ≤ f.ntmps) (hH : HR X φ H w) (hv : VRT w (YOf X φ) φ args vs) {Q : Ex × Tr × Hp → Prop} {R : Ending → World → Prop}
    (hT : T P f.ntmps H.length c (initS args 0 .leaf, H) Q) (hQ : ∀ r a' w' φ', Q r → SR [] X f.ntmps r.2.1 r.2.2 φ' a' w' → Ev φ w φ' w' → H.length ≤ r.2.2.length → (∀ k, k < H.length → φ k = .fresh → φ' k = .fresh) → (r.1 = .ret ∨ r.1 = .norm) ∧ ∃ u, (results f a'.tmps).run P w' = .ok u w' ∧ R (.returned u) w') :
    Calls P k vs.toArray w R := by
  have hfn := hC.fn k f hf
  refine calls_of_wp hfn hb ?_
  have hlen := hv.length
  have hle' : vs.length ≤ f.ntmps := by rw [hlen]; exact hle
  have hS : SR [] X f.ntmps (initS args 0 .leaf) H φ { tmps := vs.toArray ++ Array.replicate (f.ntmps - vs.toArray.size) undef, defers := [] } w := by
    refine ⟨rfl, by simp; omega, fun t => ?_, hH⟩
    have := initS_ok 0 .leaf (fun _ => undef) hv (fun t => by rw [get_leaf]; simp only [VR]) t
    have he : (vs.toArray ++ Array.replicate (f.ntmps - vs.toArray.size) undef).getD t undef = if 0 ≤ t ∧ t < 0 + vs.length then (vs[t - 0]?).getD undef else undef := by
      rw [Array.getD_eq_getD_getElem?, Array.getElem?_append]
      by_cases ht : t < vs.length
      · simp [ht]
      · simp only [List.size_toArray, ht, if_false, Array.getElem?_replicate]
        have hn : ¬ (0 ≤ t ∧ t < 0 + vs.length) := by omega
        rw [if_neg hn]
        split <;> rfl
    rw [he]; exact this
  refine Code.wp_mono ?_ (hT (hC.code k f c hf hb) X φ _ w hS (Nat.le_refl _))
  rintro e a' w' ⟨r, hq, he, φ', h1, h2, h3⟩
  have hids : ∀ o, φ o ≠ .fresh → o < H.length := fun o ho => by
    rcases Nat.lt_or_ge o H.length with h | h
    · exact h
    · exact absurd (hH.fresh o h) ho
  obtain ⟨hex, u, hu, hr⟩ := hQ r a' w' φ' hq h1 ⟨h2.os, h2.tape, h2.output, h2.size, h2.heap, h2.blk, fun o ho => h2.ids o (hids o ho) ho⟩ h3 (fun k hk hf => h2.fr k hk hf)
  have fin : bodyPost P f R .normal a' w' := ⟨h1.defers, u, hu, hr⟩
  subst he
  rcases hex with e | e <;> rw [e] <;> exact fin
theorem CallS.plain (hC : CfgOK P C) {k : Nat} {f : Func} {c : Code} {args : List AV} {v : AV} (hf : C.fn k = some f) (hb : f.body = some c) (hle : Nat.ble args.length f.ntmps = true) (hv : plRes v = true)
    (hT : T P f.ntmps 0 c (initS args 0 .leaf, []) (RetQ C f.results.toList v)) : CallS P false k args [] v [] := by
  refine ⟨enters_of (hC.fn k f hf) (hC.name k f hf) (by rw [hb]; rfl), fun _ => hv, fun _ X φ w vs hH hvs => ?_⟩
  have hφ : φ = noPhi := funext fun o => hH.fresh o (Nat.zero_le _)
  subst hφ
  refine enter_ok hC hf hb (ble_t hle) hH hvs hT fun r a' w' φ' ⟨hex, u, u', hr, hp, hw⟩ hS ev _ _ => ⟨hex, ?_⟩
  obtain ⟨x, hx1, hx2⟩ := results_ok hC hS hr
  obtain ⟨φ1, H1, k1, k2, k3, k4⟩ := plainR_ok hS.hr hp hx2
  refine ⟨x, hx1, _, List.mem_singleton.2 rfl, x, noPhi, rfl, ?_, HR.empty hS.hr.xlt, ?_, Nat.le_refl _, fun _ _ _ => rfl⟩
  · exact plRes_vr hv (fun b hb => hb.imp id fun hc => absurd hc (noBlk b)) (hw _ _ _ _ k4)
  · exact ⟨ev.os, ev.tape, ev.output, ev.size, ev.heap, fun b hb hc => absurd hc (noBlk b), fun o ho => absurd rfl ho⟩
theorem CallS.shared (hC : CfgOK P C) {k : Nat} {f : Func} {c : Code} {args : List AV} {v : AV} {H' : Hp} (hf : C.fn k = some f) (hb : f.body = some c) (hle : Nat.ble args.length f.ntmps = true)
    (hT : T P f.ntmps H.length c (initS args 0 .leaf, H) (RetS C f.results.toList v H')) : CallS P true k args H v H' := by
  refine ⟨enters_of (hC.fn k f hf) (hC.name k f hf) (by rw [hb]; rfl), fun h => by (cases h), fun _ X φ w vs hH hvs => ?_⟩
  refine enter_ok hC hf hb (ble_t hle) hH hvs hT fun r a' w' φ' ⟨hex, hr, hh⟩ hS ev h1 h2 => ⟨hex, ?_⟩
  obtain ⟨x, hx1, hx2⟩ := results_ok hC hS hr
  subst hh
  exact ⟨x, hx1, _, List.mem_singleton.2 rfl, x, φ', rfl, hx2, hS.hr, ev, h1, h2⟩
theorem CallS.eval (hC : CfgOK P C) {N : Nat} {br : Bool} {k : Nat} {args : List AV} {v : AV} {H' : Hp} (h : evCall C N br k args H = some [(v, H')]) : CallS P br k args H v H' := by
  obtain ⟨h1, h2, h3⟩ := call_ok hC N _ _ _ _ _ h
  exact ⟨h1, fun hb => h2 hb _ (List.mem_singleton.2 rfl), h3⟩
end
end Go.Proofs.Ytkcafackfihmiaa
namespace Go.Proofs.Ytkcafackfihmiaa
set_option linter.unusedSimpArgs false
set_option linter.unusedVariables false
open Go.RowKit
section
variable {P : Program} {C : Cfg} {w w' : World} {X : Nat → Prop} {φ φ' : Phi} {H H' : Hp} {nid n base : Nat} {s : Tr} {a : Act} {D : List Deferred} {st st' : Tr × Hp}
def dropC : Nat → Code → Code
  | 0, c => c
  | k + 1, .seq _ b => dropC k b
  | _, c => c
def hCk (P : Program) (C : Cfg) (n : Nat) : Nat → Code → List RH → List (Option Bool) → Tr × Hp → Option ((Ex × Tr × Hp) × List Prop × List RH × List (Option Bool))
  | 0, _, rs, ps, st => some ((.norm, st), [], rs, ps)
  | k + 1, .seq a b, rs, ps, st => match hC P C n a rs ps st with
    | some ((.norm, st1), cs, rs1, ps1) => (match hCk P C n k b rs1 ps1 st1 with
      | some (r, cs2, rs2, ps2) => some (r, cs ++ cs2, rs2, ps2)
      | none => none)
    | x => x
  | _, _, _, _, _ => none
theorem hCk_ok (hC' : CfgOK P C) {Q : Ex × Tr × Hp → Prop} {st2 : Tr × Hp} {tds : List Td} {m keep : List Nat} {cs2 : List Prop} : ∀ (k : Nat) (c : Code) {rs rs' : List RH} {ps ps' : List (Option Bool)} {st : Tr × Hp} {ex : Ex} {st1 : Tr × Hp} {cs : List Prop},
    hCk P C n k c rs ps st = some ((ex, st1), cs, rs', ps') → AllP cs → norm base tds m keep st1 = some (st2, cs2) → AllP cs2 → (ex = .norm → T P n base (dropC k c) st2 Q) → (ex ≠ .norm → Q (ex, st2)) → T P n base c st Q
  | 0, c, rs, rs', ps, ps', st, ex, st1, cs, h, hp, hn, hp2, h1, _ => by
    simp only [hCk, Option.some.injEq, Prod.mk.injEq] at h
    obtain ⟨⟨rfl, rfl⟩, _⟩ := h
    exact T.pre hn hp2 (h1 rfl)
  | k + 1, c, rs, rs', ps, ps', st, ex, st1, cs, h, hp, hn, hp2, h1, h2 => by
    cases c <;> first | (simp [hCk] at h; done) | skip
    rename_i x y
    simp only [hCk] at h
    split at h
    · rename_i sta cs1 rs1 ps1 ha
      split at h
      · rename_i r2 csb rsb psb hb
        simp only [Option.some.injEq, Prod.mk.injEq] at h; obtain ⟨rfl, rfl, _⟩ := h
        rw [allP_append] at hp
        refine T.seq (hC_ok hC' x ha hp.1) ?_
        rintro q rfl
        exact hCk_ok hC' k y hb hp.2 hn hp2 h1 h2
      · cases h
    · rename_i hne
      have he : ex ≠ .norm := fun e => by subst e; exact hne _ _ _ _ h
      refine T.seq (T.post (hC_ok hC' x h hp) hn hp2) ?_
      rintro q rfl
      cases ex with
      | norm => exact absurd rfl he
      | exit i => exact h2 he
      | ret => exact h2 he
      | pan _ => exact h2 he
def hRunK (P : Program) (C : Cfg) (n base k : Nat) (c : Code) (rs : List RH) (ps : List (Option Bool)) (tds : List Td) (m keep : List Nat) (st : Tr × Hp) : Option ((Ex × Tr × Hp) × List Prop) :=
  match hCk P C n k c rs ps st with
  | some ((ex, st1), cs, [], []) => (match norm base tds m keep st1 with
    | some (st2, cs2) => some ((ex, st2), cs ++ cs2)
    | none => none)
  | _ => none
theorem runK_norm (hC' : CfgOK P C) {k : Nat} {c : Code} {Q : Ex × Tr × Hp → Prop} {rs : List RH} {ps : List (Option Bool)} {tds : List Td} {m keep : List Nat} {cs : List Prop} (h : hRunK P C n base k c rs ps tds m keep st = some ((.norm, st'), cs)) (hp : AllP cs) (hT : T P n base (dropC k c) st' Q) : T P n base c st Q := by
  unfold hRunK at h
  split at h
  · rename_i ex st1 cs1 h1
    split at h
    · rename_i st2 cs2 h2
      simp only [Option.some.injEq, Prod.mk.injEq] at h; obtain ⟨⟨rfl, rfl⟩, rfl⟩ := h
      rw [allP_append] at hp
      exact hCk_ok hC' k c h1 hp.1 h2 hp.2 (fun _ => hT) fun h => absurd rfl h
    · cases h
  · cases h
theorem runK_end (hC' : CfgOK P C) {k : Nat} {c : Code} {Q : Ex × Tr × Hp → Prop} {rs : List RH} {ps : List (Option Bool)} {tds : List Td} {m keep : List Nat} {cs : List Prop} {ex : Ex} (h : hRunK P C n base k c rs ps tds m keep st = some ((ex, st'), cs)) (hp : AllP cs) (he : ex ≠ .norm) (hQ : Q (ex, st')) : T P n base c st Q := by
  unfold hRunK at h
  split at h
  · rename_i ex st1 cs1 h1
    split at h
    · rename_i st2 cs2 h2
      simp only [Option.some.injEq, Prod.mk.injEq] at h; obtain ⟨⟨rfl, rfl⟩, rfl⟩ := h
      rw [allP_append] at hp
      exact hCk_ok hC' k c h1 hp.1 h2 hp.2 (fun h => absurd h he) fun _ => hQ
    · cases h
  · cases h
theorem run_end (hC' : CfgOK P C) {c : Code} {Q : Ex × Tr × Hp → Prop} {rs : List RH} {ps : List (Option Bool)} {tds : List Td} {m keep : List Nat} {cs : List Prop} {r : Ex × Tr × Hp} (h : hRun P C n base c rs ps tds m keep st = some (r, cs)) (hp : AllP cs) (hQ : Q r) : T P n base c st Q :=
  (run_ok hC' h hp).mono fun q e => by subst e; exact hQ
theorem T.one {c : Code} {Q1 Q : Ex × Tr × Hp → Prop} (hs : isSeq c = true) (h1 : T P n base (cL c) st Q1) (h2 : ∀ r, Q1 r → match r.1 with | .norm => T P n base (dropC 1 c) r.2 Q | _ => Q r) : T P n base c st Q := by
  cases c <;> first | (simp [isSeq] at hs; done) | skip
  refine T.seq h1 fun r hr => ?_
  have := h2 r hr
  obtain ⟨ex, st2⟩ := r
  cases ex <;> exact this


end
abbrev wr64 (n : Int) : Int := IntKind.i64.wrap n
abbrev wru64 (n : Int) : Int := IntKind.u64.wrap n
abbrev seq (a b : ByteArray) : Bool := decide (a.data.toList = b.data.toList)
abbrev slt (a b : ByteArray) : Bool := bytesLt a.data.toList b.data.toList
def fit (n b : Nat) : Bool := Nat.ble (n * b) 140737488355328 && Nat.ble n 9223372036854775807
def at? {α : Type} (l : List α) (n : Int) : Option α := if 0 ≤ n then l[n.toNat]? else none
theorem at_some {α : Type} {l : List α} {n : Int} {x : α} (h : at? l n = some x) : n = ((n.toNat : Nat) : Int) ∧ l[n.toNat]? = some x := by
  unfold at? at h
  split at h
  · exact ⟨by omega, h⟩
  · cases h
theorem at_map {α β : Type} {l : List α} {k : Nat} {x : α} (f : α → β) (h : l[k]? = some x) : (l.map f)[k]? = some (f x) := by rw [List.getElem?_map, h]; rfl
theorem at_nat {α : Type} {l : List α} {k : Nat} : at? l (k : Int) = l[k]? := by unfold at?; rw [if_pos (by omega)]; rfl
theorem lt_of_at {α : Type} {l : List α} {k : Nat} {x : α} (h : l[k]? = some x) : k < l.length := (List.getElem?_eq_some_iff.1 h).1
end Go.Proofs.Ytkcafackfihmiaa
namespace Go.Proofs.Ytkcafackfihmiaa
set_option linter.unusedSimpArgs false
set_option linter.unusedVariables false
open Go.RowKit
def mkS : List (Nat × AV) → Tr
  | [] => .leaf
  | (t, v) :: r => (mkS r).put 12 t v
def FUEL : Nat := 18446744073709551616
def req {α : Type} (b : Bool) (k : Option α) : Option α := bif b then k else none
def cInt (k : IntKind) (n : Int) : List PV := [.int k n]
def cStr (s : ByteArray) : List PV := [.str s]
def cLst {α : Type} (sz : Nat) (c : α → List PV) (l : List α) : List PV := [.sl .any sz (l.map c)]
theorem ap {p : Prop} {l : List Prop} (h : p) (t : AllP l) : AllP (p :: l) := ⟨h, t⟩
theorem an : AllP [] := trivial
theorem cond_cases {α : Type} {b : Bool} {x y : Option α} {o : α} (h : (bif b then x else y) = some o) : (b = true ∧ x = some o) ∨ (b = false ∧ y = some o) := by
  cases b
  · exact .inr ⟨rfl, h⟩
  · exact .inl ⟨rfl, h⟩
theorem bind_cases {α β : Type} {m : Option α} {f : α → Option β} {o : β} (h : m.bind f = some o) : ∃ x, m = some x ∧ f x = some o := by
  cases m with
  | none => cases h
  | some x => exact ⟨x, rfl, h⟩
theorem req_cases {α : Type} {b : Bool} {k : Option α} {o : α} (h : req b k = some o) : b = true ∧ k = some o := by
  cases b
  · cases h
  · exact ⟨rfl, h⟩
theorem some_inj {α : Type} {a b : α} (h : some a = some b) : a = b := Option.some.inj h
theorem not_t {b : Bool} (h : b = true) : (!b) = false := by rw [h]; rfl
theorem not_f {b : Bool} (h : b = false) : (!b) = true := by rw [h]; rfl
section
variable {α : Type} {c : α → List PV} {xs ys : List α} {k n m : Nat} {x : α}
theorem len_cv : AV.pl (.int .i64 (((xs.map c).length : Nat) : Int)) = AV.pl (.int .i64 ((xs.length : Nat) : Int)) := by rw [List.length_map]
theorem lt_map (c : α → List PV) (h : xs[k]? = some x) : k < (xs.map c).length := by rw [List.length_map]; exact lt_of_at h
theorem app_cv : xs.map c ++ ys.map c = (xs ++ ys).map c := List.map_append.symm
theorem set_cv : (xs.map c).set k (c x) = (xs.set k x).map c := List.map_set.symm
theorem ne_map (h : xs.isEmpty = false) : xs.map c ≠ [] := by
  cases xs with
  | nil => cases h
  | cons a l => intro h; cases h
theorem nil_map (h : xs.isEmpty = true) : xs.map c = [] := by
  cases xs with
  | nil => rfl
  | cons a l => cases h
theorem len_all (hc : ∀ x, (c x).length = n) : ∀ r ∈ xs.map c, r.length = n := by
  intro r hr
  obtain ⟨x, _, rfl⟩ := List.mem_map.1 hr
  exact hc x
theorem fit_of {n b : Nat} {te : TI} (h : fit n b = true) (hb : te.bytes = b) : fitsB n te = true := by subst hb; exact h
theorem fit_map {b : Nat} {te : TI} (h : fit (xs.length + n) b = true) (hb : te.bytes = b) : fitsB ((xs.map c).length + n) te = true := by rw [List.length_map]; exact fit_of h hb
theorem fit_map0z {b : Nat} {te : TI} (h : fit xs.length b = true) (hb : te.bytes = b) : fitsB (0 + (xs.map c).length) te = true := by rw [List.length_map, Nat.zero_add]; exact fit_of h hb
theorem fit_map2 {d : α → List PV} {b : Nat} {te : TI} (h : fit (xs.length + ys.length) b = true) (hb : te.bytes = b) : fitsB ((xs.map c).length + (ys.map d).length) te = true := by rw [List.length_map, List.length_map]; exact fit_of h hb
end
def isN : Ex → Bool
  | .norm => true
  | _ => false
section
variable {P : Program} {C : Cfg} {n base : Nat} {st st' : Tr × Hp}
theorem T.oneN {c : Code} {Q : Ex × Tr × Hp → Prop} {e : Ex × Tr × Hp} {st2 : Tr × Hp} (hs : isSeq c = true) (h1 : T P n base (cL c) st fun r => r = e) (he : e = (.norm, st2)) (h2 : T P n base (dropC 1 c) st2 Q) : T P n base c st Q :=
  T.one hs h1 fun r hr => by subst hr; subst he; exact h2
theorem T.bl {i f : Nat} {c : Code} {e : Ex × Tr × Hp} (hb : isBlk c = some i) (hl : isLoop (cL c) = true) (h : TL P n base f (cL (cL c)) st fun r => r = e) : T P n base c st fun r => r = (blkEx i e.1, e.2) :=
  T.block' hb ((T.loop' hl h).mono fun r hr => by subst hr; rfl)
end
theorem T.oneX' {P : Program} {n base : Nat} {st : Tr × Hp} {c : Code} {Q : Ex × Tr × Hp → Prop} {e : Ex × Tr × Hp} {tds : List Td} {m keep : List Nat} {st2 : Tr × Hp} {cs : List Prop} (hs : isSeq c = true) (h1 : T P n base (cL c) st fun r => r = e) (hn : norm base tds m keep e.2 = some (st2, cs)) (hp : AllP cs) (he : isN e.1 = false) (h2 : Q (e.1, st2)) : T P n base c st Q := by
  obtain ⟨ex, s⟩ := e
  refine T.one hs (T.post h1 hn hp) fun r hr => ?_
  subst hr
  cases ex with
  | norm => cases he
  | exit i => exact h2
  | ret => exact h2
  | pan _ => exact h2
theorem T.last' {P : Program} {n base : Nat} {st : Tr × Hp} {c : Code} {Q : Ex × Tr × Hp → Prop} {e : Ex × Tr × Hp} {tds : List Td} {m keep : List Nat} {st2 : Tr × Hp} {cs : List Prop} (h1 : T P n base c st fun r => r = e) (hn : norm base tds m keep e.2 = some (st2, cs)) (hp : AllP cs) (h2 : Q (e.1, st2)) : T P n base c st Q := by
  obtain ⟨ex, s⟩ := e
  exact (T.post h1 hn hp).mono fun r hr => by subst hr; exact h2
theorem T.condT {P : Program} {n base : Nat} {st : Tr × Hp} {c : Code} {o : Operand} {b : Bool} {Q : Ex × Tr × Hp → Prop} (hs : isCond c = some o) (hv : val st.1 o = .pl (.bool b)) (hb : b = true) (h : T P n base (cL c) st Q) : T P n base c st Q :=
  T.cond' hs hv (fun _ => h) fun e => by rw [hb] at e; cases e
theorem T.condF {P : Program} {n base : Nat} {st : Tr × Hp} {c : Code} {o : Operand} {b : Bool} {Q : Ex × Tr × Hp → Prop} (hs : isCond c = some o) (hv : val st.1 o = .pl (.bool b)) (hb : b = false) (h : T P n base (cR c) st Q) : T P n base c st Q :=
  T.cond' hs hv (fun e => by rw [hb] at e; cases e) fun _ => h


def LoopQ (K : Tr × Hp → Prop) (e r : Ex × Tr × Hp) : Prop := match r.1 with | .norm => K r.2 | _ => r = e
section
variable {P : Program} {n base f : Nat} {st s : Tr × Hp} {c : Code} {K : Tr × Hp → Prop} {e : Ex × Tr × Hp} {ex : Ex}
theorem LoopQ.norm (h : K s) : LoopQ K e (.norm, s) := h
theorem LoopQ.out (he : (ex, s) = e) (hn : isN ex = false) : LoopQ K e (ex, s) := by
  cases ex with
  | norm => cases hn
  | exit i => exact he
  | ret => exact he
  | pan _ => exact he
theorem TL.body (h1 : T P n base c st (LoopQ K e)) (h2 : ∀ s, K s → TL P n base f c s fun r => r = e) : TL P n base (f + 1) c st fun r => r = e :=
  TL.step h1 fun r hr => by
    obtain ⟨ex, s⟩ := r
    cases ex with
    | norm => exact h2 s hr
    | exit i => exact hr
    | ret => exact hr
    | pan _ => exact hr
end
end Go.Proofs.Ytkcafackfihmiaa
namespace Go.Proofs.Ytkcafackfihmiaa
set_option linter.unusedSimpArgs false
set_option linter.unusedVariables false
open Go.RowKit
section
variable {P : Program} {C : Cfg} {w w' : World} {X : Nat → Prop} {φ φ' : Phi} {H H' : Hp} {nid n base : Nat} {s : Tr} {a : Act} {D : List Deferred} {st st' : Tr × Hp}
def ThenQ (P : Program) (n base : Nat) (c : Code) (Q : Ex × Tr × Hp → Prop) (r : Ex × Tr × Hp) : Prop := match r.1 with | .norm => T P n base c r.2 Q | _ => Q r
theorem ThenQ.norm {c : Code} {Q : Ex × Tr × Hp → Prop} (h : T P n base c st Q) : ThenQ P n base c Q (.norm, st) := h
end
end Go.Proofs.Ytkcafackfihmiaa
