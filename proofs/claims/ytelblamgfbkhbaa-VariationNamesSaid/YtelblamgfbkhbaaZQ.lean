/- The clean machine: what each operation looks at and changes. No condition. -/
import Derived.Test.YtelblamgfbkhbaaZP
namespace Go.Proofs.Ytelblamgfbkhbaa
set_option linter.unusedSimpArgs false
set_option linter.unusedVariables false
open Go.RowKit
def unfl : Option Ob → Option Ob
  | some (.row _ sz es) => some (.row true sz es)
  | x => x
theorem unfl_cases {a b : Option Ob} (e : unfl b = unfl a) : b = a ∨ ∃ f f' sz es, a = some (.row f sz es) ∧ b = some (.row f' sz es) := by
  cases a with
  | none => cases b with
    | none => exact .inl rfl
    | some y => cases y <;> simp [unfl] at e
  | some x => cases b with
    | none => cases x <;> simp [unfl] at e
    | some y =>
      cases x <;> cases y <;> simp only [unfl] at e <;> first
        | exact .inl e
        | (simp at e; done)
        | (simp only [Option.some.injEq, Ob.row.injEq, true_and] at e; obtain ⟨rfl, rfl⟩ := e; exact .inr ⟨_, _, _, _, rfl, rfl⟩)
def Agu (R : List Nat) (H H2 : Hp) : Prop := ∀ o ∈ R, unfl (hget H2 o) = unfl (hget H o)
section
variable {C : Cfg} {H H' H2 : Hp} {nid : Nat}
theorem Agu.app {R S : List Nat} (h : Agu (R ++ S) H H2) : Agu R H H2 ∧ Agu S H H2 := ⟨fun o ho => h o (List.mem_append_left _ ho), fun o ho => h o (List.mem_append_right _ ho)⟩
theorem l_load {t : Nat} {p : AV} (h : Agu (ref1 p) H H2) : evLoad C H2 t p = evLoad C H t p := by
  cases p <;> first
    | rfl
    | (rcases unfl_cases (h _ (List.mem_singleton.2 rfl)) with e | ⟨f, f', sz, es, h1, h2⟩
       · simp only [evLoad, e]
       · simp only [evLoad, h1, h2])
theorem l_alive {o : Nat} (h : unfl (hget H2 o) = unfl (hget H o)) : alive H2 o = alive H o := by
  rcases unfl_cases h with e | ⟨f, f', sz, es, h1, h2⟩
  · simp only [alive, e]
  · simp only [alive, h1, h2]
theorem l_indexAddr {t : Nat} {p i : AV} (h : Agu (ref1 p) H H2) : evIndexAddr C H2 t p i = evIndexAddr C H t p i := by
  cases p with
  | own o =>
    rcases unfl_cases (h _ (List.mem_singleton.2 rfl)) with e | ⟨f, f', sz, es, h1, h2⟩
    · simp only [evIndexAddr, e]
    · simp only [evIndexAddr, h1, h2]
  | vw o _ _ =>
    rcases unfl_cases (h _ (List.mem_singleton.2 rfl)) with e | ⟨f, f', sz, es, h1, h2⟩
    · simp only [evIndexAddr, e]
    · simp only [evIndexAddr, h1, h2]
  | bp o _ => simp only [evIndexAddr, l_alive (h _ (List.mem_singleton.2 rfl))]
  | ep o _ _ => simp only [evIndexAddr, l_alive (h _ (List.mem_singleton.2 rfl))]
  | pl v => cases v <;> simp only [evIndexAddr]
  | _ => simp only [evIndexAddr]
theorem l_slice {t : Nat} {p : AV} {lo hi mx : Option AV} (h : Agu (ref1 p) H H2) : evSlice C H2 t p lo hi mx = evSlice C H t p lo hi mx := by
  cases h1 : C.ty t <;> cases h2 : optNat lo <;> cases h3 : optNat hi <;> rcases h4 : optNat mx with _ | _ | m <;> simp only [evSlice, h1, h2, h3, h4] <;> (
    cases p with
    | own o =>
      rcases unfl_cases (h _ (List.mem_singleton.2 rfl)) with e | ⟨f, f', sz, es, h1, h2⟩
      · simp only [e]
      · simp only [h1, h2]
    | vw o _ _ =>
      rcases unfl_cases (h _ (List.mem_singleton.2 rfl)) with e | ⟨f, f', sz, es, h1, h2⟩
      · simp only [e]
      · simp only [h1, h2]
    | pl v =>
      cases v <;> first | rfl | (rename_i f _ _; cases f <;> rfl)
    | _ => rfl)
theorem l_len {t : Nat} {p : AV} (h : Agu (ref1 p) H H2) : lenA C H2 t p = lenA C H t p := by
  cases p with
  | pl v => cases v <;> simp only [lenA]
  | own o =>
    rcases unfl_cases (h _ (List.mem_singleton.2 rfl)) with e | ⟨f, f', sz, es, h1, h2⟩
    · simp only [lenA, e]
    · simp only [lenA, h1, h2]
  | vw o _ _ => simp only [lenA, l_alive (h _ (List.mem_singleton.2 rfl))]
  | mp o =>
    rcases unfl_cases (h _ (List.mem_singleton.2 rfl)) with e | ⟨f, f', sz, es, h1, h2⟩
    · simp only [lenA, e]
    · simp only [lenA, h1, h2]
  | _ => simp only [lenA]
theorem l_eq {t : Nat} {p q : AV} (h : Agu (ref1 p) H H2) : evEq C H2 t p q = evEq C H t p q := by
  unfold evEq
  cases C.ty t with
  | none => rfl
  | some ti =>
    simp only []
    generalize ti.k = K
    split <;> first
      | rfl
      | (rcases unfl_cases (h _ (List.mem_singleton.2 rfl)) with e | ⟨f, f', sz, es, h1, h2⟩
         · simp only [e]
         · simp only [h1, h2] <;> (cases es <;> rfl))
      | (split <;> simp_all)
theorem l_bin {op : BinOp} {t : Nat} {p q : AV} (h : Agu (ref1 p) H H2) : evBin C H2 op t p q = evBin C H op t p q := by
  unfold evBin
  split <;> first | rfl | rw [l_eq h]
theorem l_elems {p : AV} (h : Agu (ref1 p) H H2) : elems H2 p = elems H p := by
  cases p <;> first
    | rfl
    | (rename_i v; cases v <;> rfl)
    | (rcases unfl_cases (h _ (List.mem_singleton.2 rfl)) with e | ⟨f, f', sz, es, h1, h2⟩
       · simp only [elems, e]
       · simp only [elems, h1, h2])
/-- A step that reads. -/
def RdAt (R : List Nat) (f : Hp → Option (AV × Hp)) (H : Hp) : Prop := ∀ r H', f H = some (r, H') → H' = H ∧ ∀ H2, Agu R H H2 → f H2 = some (r, H2)
theorem rd_map {R : List Nat} {g : Hp → Option AV} (hg : ∀ H2, Agu R H H2 → g H2 = g H) : RdAt R (fun H => (g H).map fun v => (v, H)) H := by
  intro r H' h
  obtain ⟨v, hv, he⟩ := Option.map_eq_some_iff.1 h
  simp only [Prod.mk.injEq] at he; obtain ⟨rfl, rfl⟩ := he
  exact ⟨rfl, fun H2 ha => by simp only [hg H2 ha, hv, Option.map_some]⟩
theorem mem_ref {ρ : Operand → AV} {l : List Operand} {x : Operand} (hx : x ∈ l) (h : Agu (l.flatMap fun x => ref1 (ρ x)) H H2) : Agu (ref1 (ρ x)) H H2 := fun o ho => h o (List.mem_flatMap.2 ⟨x, hx, ho⟩)
theorem rd_const {R : List Nat} {f : Hp → Option (AV × Hp)} (hf : ∀ H, f H = ((f []).map (·.1)).map fun v => (v, H)) : RdAt R f H := by
  intro r H' h
  rw [hf H] at h
  obtain ⟨v, hv, he⟩ := Option.map_eq_some_iff.1 h
  simp only [Prod.mk.injEq] at he; obtain ⟨rfl, rfl⟩ := he
  exact ⟨rfl, fun H2 _ => by rw [hf H2, hv]; rfl⟩
theorem footCall_ne {k : Nat} {args : List AV} {R : List Nat} : footCall C H k args ≠ .rd R := by
  unfold footCall
  cases C.byref k
  · simp only [cond_false]; split <;> simp
  · simp
/-- The operations that read and change nothing. -/
theorem l_mapOf {p : AV} (h : Agu (ref1 p) H H2) : mapOf H2 p = mapOf H p := by
  cases p <;> first
    | rfl
    | (rename_i v; cases v <;> rfl)
    | (rcases unfl_cases (h _ (List.mem_singleton.2 rfl)) with e | ⟨f, f', sz, es, h1, h2⟩
       · simp only [mapOf, e]
       · simp only [mapOf, h1, h2])
theorem pure_rd {ρ : Operand → AV} {op : Op} {R : List Nat} (hf : foot C nid ρ H op = .rd R) : RdAt R (fun H => evPure C nid ρ H op) H := by
  have const : ∀ {g : Option AV} {R : List Nat}, RdAt R (fun H => g.map fun v => (v, H)) H := fun {g R} => rd_map (g := fun _ => g) fun _ _ => rfl
  cases op with
  | load t p =>
    simp only [foot, Fp.rd.injEq] at hf; subst hf
    exact rd_map (g := fun H => evLoad C H t (ρ p)) fun H2 ha => l_load (mem_ref (by simp [Op.operands]) ha)
  | binOp op t x y t' =>
    simp only [foot, Fp.rd.injEq] at hf; subst hf
    exact rd_map (g := fun H => evBin C H op t (ρ x) (ρ y)) fun H2 ha => l_bin (mem_ref (by simp [Op.operands]) ha)
  | slice t x lo hi mx =>
    simp only [foot, Fp.rd.injEq] at hf; subst hf
    exact rd_map (g := fun H => evSlice C H t (ρ x) (lo.map ρ) (hi.map ρ) (mx.map ρ)) fun H2 ha => l_slice (mem_ref (by simp [Op.operands]) ha)
  | indexAddr t x i =>
    simp only [foot, Fp.rd.injEq] at hf; subst hf
    exact rd_map (g := fun H => evIndexAddr C H t (ρ x) (ρ i)) fun H2 ha => l_indexAddr (mem_ref (by simp [Op.operands]) ha)
  | index t x i => exact const
  | lookup t x k ok =>
    simp only [foot, Fp.rd.injEq] at hf; subst hf
    exact rd_map (g := fun H => evLookup C H t (ρ x) (ρ k) ok) fun H2 ha => by unfold evLookup; rw [l_mapOf (mem_ref (by simp [Op.operands]) ha)]
  | unOp op t x => exact const
  | nilCheck x =>
    simp only [foot, Fp.rd.injEq] at hf; subst hf
    intro r H' h
    have hm : ∀ {H2 : Hp}, Agu ((Op.nilCheck x).operands.toList.flatMap fun x => ref1 (ρ x)) H H2 → Agu (ref1 (ρ x)) H H2 := fun ha => mem_ref (by simp [Op.operands]) ha
    cases hx : ρ x <;> simp only [evPure, hx] at h hm ⊢ <;> first
      | (cases h; done)
      | (simp only [Option.some.injEq, Prod.mk.injEq] at h; obtain ⟨rfl, rfl⟩ := h; exact ⟨rfl, fun H2 ha => rfl⟩)
      | (rename_i v; cases v <;> first
          | (simp at h; done)
          | (simp only [Option.some.injEq, Prod.mk.injEq] at h; obtain ⟨rfl, rfl⟩ := h; exact ⟨rfl, fun H2 ha => rfl⟩))
      | (revert h
         cases hb : alive H _ <;> intro h
         · simp at h
         · simp only [cond_true, Option.some.injEq, Prod.mk.injEq] at h; obtain ⟨rfl, rfl⟩ := h
           exact ⟨rfl, fun H2 ha => by rw [l_alive (hm ha _ (List.mem_singleton.2 rfl)), hb]; rfl⟩)
  | fieldAddr t x f =>
    simp only [foot, Fp.rd.injEq] at hf; subst hf
    intro r H' h
    simp only [evPure] at h ⊢
    cases hf : evField C t f with
    | none => rw [hf] at h; cases h
    | some q =>
      obtain ⟨ft, off⟩ := q
      rw [hf] at h
      simp only at h ⊢
      cases hp : posSize C ft with
      | false => rw [hp] at h; simp at h
      | true =>
        rw [hp] at h
        simp only [cond_true] at h ⊢
        have hm : ∀ {H2 : Hp}, Agu ((Op.fieldAddr t x f).operands.toList.flatMap fun x => ref1 (ρ x)) H H2 → Agu (ref1 (ρ x)) H H2 := fun ha => mem_ref (by simp [Op.operands]) ha
        cases hx : ρ x <;> simp only [hx] at h hm ⊢ <;> first
          | (cases h; done)
          | (simp only [Option.some.injEq, Prod.mk.injEq] at h; obtain ⟨rfl, rfl⟩ := h; exact ⟨rfl, fun H2 ha => rfl⟩)
          | (revert h
             cases hb : alive H _ <;> intro h
             · simp at h
             · simp only [cond_true, Option.some.injEq, Prod.mk.injEq] at h; obtain ⟨rfl, rfl⟩ := h
               exact ⟨rfl, fun H2 ha => by rw [l_alive (hm ha _ (List.mem_singleton.2 rfl)), hb]; rfl⟩)
  | move x => exact rd_const fun H => rfl
  | assign x => exact rd_const fun H => rfl
  | pick c x y => exact rd_const fun H => by simp only [evPure]; split <;> rfl
  | build t ps =>
    exact rd_const fun H => by
      simp only [evPure]
      split
      · split
        · split
          · simp [Option.map_map]; rfl
          · rfl
        · split
          · simp [Option.map_map]; rfl
          · rfl
        · rfl
      · rfl
  | convert s t x => exact rd_const fun H => by simp only [evPure]; cases evConv C s t (ρ x) <;> rfl
  | makeFunc fn first cs =>
    cases fn with
    | func k =>
      exact rd_const fun H => by
        simp only [evPure]
        cases first.isEmpty <;> simp only [cond_true, cond_false]
        · rfl
        · split <;> rfl
    | _ => exact rd_const fun H => rfl
  | field t x f =>
    exact rd_const fun H => by
      simp only [evPure]
      split
      · split
        · rename_i ft off _ _ tf _
          cases (Nat.ble (off + tf.size) (ρ x).cells.length && isAggA (ρ x) && !(Nat.beq tf.size 0)) <;> simp only [cond_true, cond_false]
          · rfl
          · cases tf.k.row <;> simp only [cond_true, cond_false]
            · simp [Option.map_map]; rfl
            · rfl
        · rfl
      · rfl
  | extract t i =>
    exact rd_const fun H => by
      simp only [evPure]
      split
      · simp [Option.map_map]; rfl
      · rfl
  | call c =>
    obtain ⟨callee, ⟨args⟩, ⟨ts⟩⟩ := c
    cases callee with
    | value f =>
      simp only [foot] at hf
      split at hf <;> first | exact absurd hf footCall_ne | cases hf
    | invoke _ _ => simp [foot] at hf
    | builtin b =>
      cases b with
      | len =>
        simp only [foot, Fp.rd.injEq] at hf; subst hf
        simp only [evPure]
        rcases args with _ | ⟨x, _ | ⟨y, r⟩⟩
        · rcases ts with _ | ⟨t, _ | ⟨u, r⟩⟩ <;> exact rd_const fun H => rfl
        · rcases ts with _ | ⟨t, _ | ⟨u, r⟩⟩
          · exact rd_const fun H => rfl
          · intro r H' h
            simp only [List.map_cons, List.map_nil, evBuiltin] at h ⊢
            cases hn : lenA C H t (ρ x) with
            | none => rw [hn] at h; cases h
            | some n =>
              rw [hn] at h
              simp only [Option.pure_def, Option.bind_eq_bind, Option.bind_some, Option.map_some, Option.some.injEq, Prod.mk.injEq] at h
              obtain ⟨rfl, rfl⟩ := h
              refine ⟨rfl, fun H2 ha => ?_⟩
              rw [l_len (mem_ref (x := x) (by simp) ha), hn]; rfl
          · exact rd_const fun H => rfl
        · rcases ts with _ | ⟨t, _ | ⟨u, r⟩⟩ <;> exact rd_const fun H => rfl
      | min =>
        exact rd_const fun H => by
          simp only [evPure, evBuiltin]
          simp [Option.map_map]; rfl
      | max =>
        exact rd_const fun H => by
          simp only [evPure, evBuiltin]
          simp [Option.map_map]; rfl
      | append => simp [foot] at hf
      | _ => simp [foot] at hf
  | alloc e => simp [foot] at hf
  | box e x => simp [foot] at hf
  | buildSlice t n ps => simp [foot] at hf
  | makeSlice t l c => simp [foot] at hf
  | store t p v => simp [foot] at hf
  | _ => first | (simp [foot] at hf; done) | (intro r H' h; simp [evPure] at h)
end
end Go.Proofs.Ytelblamgfbkhbaa
