/- The clean machine and the model: drawn regions are sound; so are all calls. No condition. -/
import Derived.Test.YtelblamgfbkhbaaZU
namespace Go.Proofs.Ytelblamgfbkhbaa
set_option linter.unusedSimpArgs false
set_option linter.unusedVariables false
open Go.RowKit
section
variable {P : Program} {C : Cfg} {w w' : World} {X : Nat → Prop} {φ φ' : Phi} {a : Act} {D : List Deferred}
variable {H H' H1 H2 : Hp} {nid n base : Nat} {call : Bool → Nat → List AV → Hp → Outs (AV × Hp)} {ops : List Oper} {s : Tr}
theorem items_mem : ∀ (l : List Oper) (k : Nat) (x : It), x ∈ items k l → k ≤ x.i ∧ l[x.i - k]? = some x.o ∧ x.need = needL x.o.after.toList
  | [], _, _, h => by cases h
  | o :: r, k, x, h => by
    rcases List.mem_cons.1 h with rfl | h
    · exact ⟨Nat.le_refl _, by simp, rfl⟩
    · obtain ⟨h1, h2, h3⟩ := items_mem r (k + 1) x h
      refine ⟨by omega, ?_, h3⟩
      rw [show x.i - k = (x.i - (k + 1)) + 1 from by omega]; simpa using h2
theorem items_cov : ∀ (l : List Oper) (k j : Nat), j < l.length → ∃ x ∈ items k l, x.i = k + j
  | [], _, _, h => by simp at h
  | o :: r, k, 0, _ => ⟨_, List.mem_cons_self, rfl⟩
  | o :: r, k, j + 1, h => by
    obtain ⟨x, hx, he⟩ := items_cov r (k + 1) j (by simpa using h)
    exact ⟨x, List.mem_cons_of_mem _ hx, by omega⟩
theorem items_len : ∀ (l : List Oper) (k : Nat), (items k l).length = l.length
  | [], _ => rfl
  | o :: r, k => by simp [items, items_len r (k + 1)]
theorem take_mem {done : Nat} : ∀ {l : List It} {x : It} {r : List It}, takeReady done l = some (x, r) → (∀ z, z ∈ l ↔ z = x ∨ z ∈ r) ∧ l.length = r.length + 1
  | [], x, r, h => by cases h
  | y :: l, x, r, h => by
    simp only [takeReady] at h
    cases hb : Nat.beq (Nat.land y.need done) y.need with
    | true =>
      rw [hb] at h; simp only [cond_true, Option.some.injEq, Prod.mk.injEq] at h; obtain ⟨rfl, rfl⟩ := h
      exact ⟨fun z => by simp, rfl⟩
    | false =>
      rw [hb] at h; simp only [cond_false] at h
      split at h
      · rename_i x' r' h'
        simp only [Option.some.injEq, Prod.mk.injEq] at h; obtain ⟨rfl, rfl⟩ := h
        obtain ⟨h1, h2⟩ := take_mem h'
        refine ⟨fun z => ?_, by simp [h2]⟩
        rw [List.mem_cons, h1 z, List.mem_cons]
        constructor
        · rintro (h | h | h)
          · exact .inr (.inl h)
          · exact .inl h
          · exact .inr (.inr h)
        · rintro (h | h | h)
          · exact .inr (.inl h)
          · exact .inl h
          · exact .inr (.inr h)
      · cases h
theorem plan_ok : ∀ (f done k : Nat) (tbl : List (Nat × Nat)) (l L : List It), plan f done k tbl l = some L → L.length = l.length ∧ (∀ z ∈ L, ∃ y ∈ l, y.i = z.i ∧ y.need = z.need ∧ y.o = z.o) ∧ ∀ y ∈ l, ∃ z ∈ L, z.i = y.i
  | f, done, k, tbl, [], L, h => by
    cases f <;> (simp only [plan, Option.some.injEq] at h; subst h; exact ⟨rfl, fun z hz => (by cases hz), fun y hy => (by cases hy)⟩)
  | 0, done, k, tbl, y :: l, L, h => by simp [plan] at h
  | f + 1, done, k, tbl, y :: l, L, h => by
    simp only [plan] at h
    split at h
    · cases h
    · rename_i x r hx
      obtain ⟨h1, h2⟩ := take_mem hx
      split at h
      · rename_i L' hL'
        simp only [Option.some.injEq] at h; subst h
        obtain ⟨k1, k2, k3⟩ := plan_ok f _ _ _ r L' hL'
        refine ⟨by simp only [List.length_cons] at h2 ⊢; omega, fun z hz => ?_, fun z hz => ?_⟩
        · rcases List.mem_cons.1 hz with rfl | hz
          · exact ⟨x, (h1 x).2 (.inl rfl), rfl, rfl, rfl⟩
          · obtain ⟨q, hq, he⟩ := k2 z hz
            exact ⟨q, (h1 q).2 (.inr hq), he⟩
        · rcases (h1 z).1 hz with rfl | hz
          · exact ⟨_, List.mem_cons_self, rfl⟩
          · obtain ⟨q, hq, he⟩ := k3 z hz
            exact ⟨q, List.mem_cons_of_mem _ hq, he⟩
      · cases h
theorem ancOf_bit {need j : Nat} : ∀ {tbl : List (Nat × Nat)}, bit (ancOf need tbl) j = true → bit need j = true ∨ ∃ p ∈ tbl, bit need p.1 = true ∧ bit p.2 j = true
  | [], h => .inl h
  | (i, c) :: r, h => by
    simp only [ancOf] at h
    cases hb : bit need i with
    | false =>
      rw [hb] at h
      rcases ancOf_bit (tbl := r) h with h | ⟨p, hp, h⟩
      · exact .inl h
      · exact .inr ⟨p, List.mem_cons_of_mem _ hp, h⟩
    | true =>
      rw [hb] at h
      simp only [cond_true, bit_or, Bool.or_eq_true] at h
      rcases h with h | h
      · exact .inr ⟨(i, c), List.mem_cons_self, hb, h⟩
      · rcases ancOf_bit (tbl := r) h with h | ⟨p, hp, h⟩
        · exact .inl h
        · exact .inr ⟨p, List.mem_cons_of_mem _ hp, h⟩
theorem chk_ok {m : Nat} : ∀ (L : List It) (tbl : List (Nat × Nat)) (prev : List It) (done k : Nat), chkL ops.toArray m tbl prev done k L = true → tbl = prev.map (fun y => (y.i, y.anc)) → (∀ j, bit done j = true ↔ ∃ y ∈ prev, y.i = j) → (∀ y ∈ prev, creates y.o.op = true → y.nid < k) →
    k ≤ m ∧ (∀ x ∈ L, x.nid ≤ m) ∧ L.Pairwise (Rel ops) ∧ (∀ y ∈ prev, ∀ x ∈ L, k ≤ x.nid ∧ Rel ops y x) ∧ (∀ x ∈ L, k ≤ x.nid) ∧ (∀ L1 x L2, L = L1 ++ x :: L2 → ∀ j, bit x.need j = true → (∃ y ∈ prev, y.i = j) ∨ ∃ y ∈ L1, y.i = j) ∧
    ∀ x ∈ L, ∀ j, bit x.anc j = true → bit x.need j = true ∨ ∃ y, (y ∈ prev ∨ y ∈ L) ∧ bit x.need y.i = true ∧ bit y.anc j = true
  | [], tbl, prev, done, k, h, _, _, _ => by
    simp only [chkL] at h
    exact ⟨by simpa using h, fun x hx => (by cases hx), List.Pairwise.nil, fun y _ x hx => (by cases hx), fun x hx => (by cases hx), fun L1 x L2 hL => (by simp at hL), fun x hx => (by cases hx)⟩
  | x :: L, tbl, prev, done, k, h, ht, hd, hk => by
    simp only [chkL, Bool.and_eq_true] at h
    obtain ⟨⟨⟨⟨⟨h1, h2⟩, h3⟩, h4⟩, h5⟩, h6⟩ := h
    have h1 := Nat.eq_of_beq_eq_true h1
    have h4 := Nat.eq_of_beq_eq_true h4
    rw [List.all_eq_true] at h5
    have hdx : ¬ ∃ y ∈ prev, y.i = x.i := fun hc => by
      rw [(hd x.i).2 hc] at h3; cases h3
    have hkk : k ≤ (bif creates x.o.op then k + 1 else k) := by cases creates x.o.op <;> simp
    obtain ⟨g1, g2, g3, g4, g5, g6, g7⟩ := chk_ok L ((x.i, x.anc) :: tbl) (x :: prev) (orBit done x.i) _ h6 (by rw [ht]; rfl) (fun j => by
      rw [bit_orBit, Bool.or_eq_true, hd j, decide_eq_true_eq]
      constructor
      · rintro (⟨y, hy, he⟩ | he)
        · exact ⟨y, List.mem_cons_of_mem _ hy, he⟩
        · exact ⟨x, List.mem_cons_self, he⟩
      · rintro ⟨y, hy, he⟩
        rcases List.mem_cons.1 hy with rfl | hy
        · exact .inr he
        · exact .inl ⟨y, hy, he⟩) (fun y hy hc => by
      rcases List.mem_cons.1 hy with rfl | hy
      · rw [hc, h4]; simp
      · exact Nat.lt_of_lt_of_le (hk y hy hc) hkk)
    refine ⟨Nat.le_trans hkk g1, fun z hz => ?_, ?_, fun y hy z hz => ?_, fun z hz => ?_, fun L1 z L2 hL j hj => ?_, fun z hz j hj => ?_⟩
    · rcases List.mem_cons.1 hz with rfl | hz
      · rw [h4]; exact Nat.le_trans hkk g1
      · exact g2 z hz
    · rw [List.pairwise_cons]
      exact ⟨fun z hz => (g4 x List.mem_cons_self z hz).2, g3⟩
    · rcases List.mem_cons.1 hz with rfl | hz
      · refine ⟨by omega, ?_, fun e => hdx ⟨y, hy, e⟩, fun hc => by rw [h4]; exact hk y hy hc⟩
        have := h5 y hy
        rwa [Bool.or_eq_true] at this
      · have := g4 y (List.mem_cons_of_mem _ hy) z hz
        exact ⟨Nat.le_trans hkk this.1, this.2⟩
    · rcases List.mem_cons.1 hz with rfl | hz
      · omega
      · exact Nat.le_trans hkk (g5 z hz)
    · cases L1 with
      | nil =>
        simp only [List.nil_append, List.cons.injEq] at hL
        obtain ⟨rfl, rfl⟩ := hL
        exact .inl ((hd j).1 (bit_sub h2 hj))
      | cons y L1 =>
        simp only [List.cons_append, List.cons.injEq] at hL
        obtain ⟨rfl, rfl⟩ := hL
        rcases g6 L1 z L2 rfl j hj with ⟨q, hq, he⟩ | ⟨q, hq, he⟩
        · rcases List.mem_cons.1 hq with rfl | hq
          · exact .inr ⟨_, List.mem_cons_self, he⟩
          · exact .inl ⟨q, hq, he⟩
        · exact .inr ⟨q, List.mem_cons_of_mem _ hq, he⟩
    · rcases List.mem_cons.1 hz with rfl | hz
      · rw [h1] at hj
        rcases ancOf_bit hj with hj | ⟨p, hp, hb1, hb2⟩
        · exact .inl hj
        · rw [ht] at hp
          obtain ⟨y, hy, rfl⟩ := List.mem_map.1 hp
          exact .inr ⟨y, .inl hy, hb1, hb2⟩
      · rcases g7 z hz j hj with h | ⟨y, hy, hb⟩
        · exact .inl h
        · refine .inr ⟨y, ?_, hb⟩
          rcases hy with hy | hy
          · rcases List.mem_cons.1 hy with rfl | hy
            · exact .inr List.mem_cons_self
            · exact .inl hy
          · exact .inr (List.mem_cons_of_mem _ hy)
theorem pw_uniq : ∀ {L : List It}, L.Pairwise (Rel ops) → ∀ x ∈ L, ∀ y ∈ L, x.i = y.i → x = y
  | [], _, x, hx, _, _, _ => by cases hx
  | z :: L, h, x, hx, y, hy, e => by
    rw [List.pairwise_cons] at h
    rcases List.mem_cons.1 hx with e1 | hx'
    · rcases List.mem_cons.1 hy with e2 | hy'
      · rw [e1, e2]
      · rw [e1] at e; exact absurd e (h.1 y hy').2.1
    · rcases List.mem_cons.1 hy with e2 | hy'
      · rw [e2] at e; exact absurd e.symm (h.1 x hx').2.1
      · exact pw_uniq h.2 x hx' y hy' e
theorem hget_pad {k o : Nat} : hget (H ++ List.replicate k none) o = hget H o := by
  unfold hget
  by_cases h : o < H.length
  · rw [List.getElem?_append_left h]
  · rw [List.getElem?_append_right (by omega), List.getElem?_eq_none (l := H) (by omega), List.getElem?_replicate]
    by_cases h2 : o - H.length < k
    · rw [if_pos h2]
    · rw [if_neg h2]
theorem HR.pad (h : HR X φ H w) (k : Nat) : HR X φ (H ++ List.replicate k none) w :=
  h.next (Ev.refl φ w) (fun o ho => h.fresh o (by simp at ho; omega)) (fun o z l ho => by rw [hget_pad]; exact h.live o z l ho) (fun o x hx => .inl ⟨by rw [hget_pad] at hx; exact hx, rfl, fun _ _ _ _ _ => rfl⟩) (fun o l b p ho _ => .inl ho)
theorem draw_ok (hC : CfgOK P C) {call : Bool → Nat → List AV → Hp → Outs (AV × Hp)} (hcall : CallOK P call) : DrawOK P C call := by
  intro D X n ops s H s' H' φ a w id hplan hev hS
  unfold evDrawn at hev
  simp only at hev
  unfold planOK at hplan
  split at hev
  · cases hev
  · rename_i L hL
    rw [hL] at hplan
    simp only at hplan
    obtain ⟨p1, p2, p3⟩ := plan_ok _ _ _ _ _ _ hL
    obtain ⟨c1, c2, c3, _, _, c6, c7⟩ := chk_ok L [] [] 0 0 hplan rfl (fun j => by simp [bit_eq]) (fun y hy => by cases hy)
    refine wp_region_any hC.mixed ?_
    have hsz : ops.toArray.size = ops.length := by simp
    have hI : Inv ops L (Array.replicate ops.toArray.size false) L := by
      refine ⟨fun j => ?_, by simp, fun z hz => hz, fun z hz => ?_, c3, fun L1 x L2 he j hj => ?_, fun x hx j hj => ?_, pw_uniq c3, fun y _ hl => ?_⟩
      · have : ((Array.replicate ops.toArray.size false).getD j true = false) ↔ j < ops.length := by
          rw [Array.getD_eq_getD_getElem?, Array.getElem?_replicate, hsz]
          split <;> simp_all
        rw [this]
        constructor
        · rintro ⟨z, hz, rfl⟩
          obtain ⟨y, hy, he, _⟩ := p2 z hz
          obtain ⟨_, h2, _⟩ := items_mem _ _ _ hy
          have := (List.getElem?_eq_some_iff.1 h2).1
          omega
        · intro hj
          obtain ⟨y, hy, he⟩ := items_cov ops 0 j hj
          obtain ⟨z, hz, he2⟩ := p3 y hy
          exact ⟨z, hz, by omega⟩
      · obtain ⟨y, hy, he, hn, ho⟩ := p2 z hz
        obtain ⟨_, h2, h3⟩ := items_mem _ _ _ hy
        refine ⟨?_, by rw [← hn, ← ho]; exact h3⟩
        rw [← he, ← ho]; simpa using h2
      · rcases c6 L1 x L2 he j hj with ⟨y, hy, _⟩ | h
        · cases hy
        · exact .inr h
      · rcases c7 x hx j hj with h | ⟨y, hy, h⟩
        · exact .inl h
        · rcases hy with hy | hy
          · cases hy
          · exact .inr ⟨y, hy, h⟩
      · have : (Array.replicate ops.toArray.size false).getD y.i false = false := by
          rw [Array.getD_eq_getD_getElem?, Array.getElem?_replicate]; split <;> rfl
        rw [this] at hl; cases hl
    have hS' : SR D X n s (H ++ List.replicate (countNew ops + 1) none) φ a w.drew := ⟨hS.defers, hS.size, fun t => VR.stay Ev.drew X _ _ (hS.slots t), hS.hr.drew.pad _⟩
    have hlen : ops.toArray.size = L.length := by rw [p1, items_len, hsz]
    refine any_ok (base := H.length) hC hcall (st' := (s', H')) ops.toArray.size hlen.symm hI hev hS' (fun z hz => ?_) (fun z hz _ => hS.hr.fresh _ (by omega)) (fun φ' a' w' h1 h2 h3 => ?_)
    · have := c2 z hz; simp; omega
    · refine ⟨_, List.mem_singleton.2 rfl, rfl, φ', h1, Ev.drew.trans h2, ?_, h3.2⟩
      have := h3.1; simp at this; show H.length ≤ H'.length; omega
/-- Every call that the machine carries out is sound. -/
theorem call_ok (hC : CfgOK P C) (N : Nat) : CallOK P (evCall C N) := evCall_ok hC (fun _ h => draw_ok hC h) N
end
end Go.Proofs.Ytelblamgfbkhbaa
