/- The clean machine: what the operations that make or change look at. No condition. -/
import Derived.Test.YtelblamgfbkhbaaZQ
namespace Go.Proofs.Ytelblamgfbkhbaa
set_option linter.unusedSimpArgs false
set_option linter.unusedVariables false
open Go.RowKit
section
variable {C : Cfg} {H H' H2 : Hp} {nid m : Nat} {α β : Type}
/-- At this memory the step changes F alone, W but for the giving up of rows, and looks at F alone. -/
def LocAt (m : Nat) (F W : List Nat) (f : Hp → Option (α × Hp)) (H : Hp) : Prop :=
  ∀ r H', f H = some (r, H') → H'.length = H.length ∧ (∀ o, o ∉ F → hget H' o = hget H o) ∧ (∀ o, o ∉ W → unfl (hget H' o) = unfl (hget H o)) ∧
    ∀ H2 : Hp, m ≤ H2.length → (∀ o, o ∈ F → hget H2 o = hget H o) → ∃ H2', f H2 = some (r, H2') ∧ H2'.length = H2.length ∧ ∀ o, hget H2' o = if o ∈ F then hget H' o else hget H2 o
theorem LocAt.pure {F W : List Nat} {r : α} : LocAt m F W (fun H => some (r, H)) H := by
  intro r' H' h
  simp only [Option.some.injEq, Prod.mk.injEq] at h; obtain ⟨rfl, rfl⟩ := h
  exact ⟨rfl, fun _ _ => rfl, fun _ _ => rfl, fun H2 hl ha => ⟨H2, rfl, rfl, fun o => by split <;> first | exact ha _ (by assumption) | rfl⟩⟩
theorem LocAt.none {F W : List Nat} {f : Hp → Option (α × Hp)} (h : f H = none) : LocAt m F W f H := fun r H' h' => by rw [h] at h'; cases h'
theorem LocAt.mono {F G W V : List Nat} {f : Hp → Option (α × Hp)} (h : LocAt m F W f H) (hF : ∀ o, o ∈ F → o ∈ G) (hW : ∀ o, o ∈ W → o ∈ V) : LocAt m G V f H := by
  intro r H' hf
  obtain ⟨h1, h2, h3, h4⟩ := h r H' hf
  refine ⟨h1, fun o ho => h2 o fun hc => ho (hF o hc), fun o ho => h3 o fun hc => ho (hW o hc), fun H2 hl ha => ?_⟩
  obtain ⟨H2', k1, k2, k3⟩ := h4 H2 hl fun o ho => ha o (hF o ho)
  refine ⟨H2', k1, k2, fun o => ?_⟩
  rw [k3 o]
  by_cases e : o ∈ F
  · rw [if_pos e, if_pos (hF o e)]
  · rw [if_neg e]
    by_cases e2 : o ∈ G
    · rw [if_pos e2, ha o e2, h2 o e]
    · rw [if_neg e2]
theorem LocAt.bind {F W : List Nat} {f : Hp → Option (α × Hp)} {g : α → Hp → Option (β × Hp)} (hf : LocAt m F W f H) (hg : ∀ a H1, f H = some (a, H1) → LocAt m F W (g a) H1) :
    LocAt m F W (fun H => match f H with | some (a, H1) => g a H1 | .none => Option.none) H := by
  intro r H' h
  simp only at h
  split at h
  · rename_i a H1 h1
    obtain ⟨k1, k2, k3, k4⟩ := hf a H1 h1
    obtain ⟨l1, l2, l3, l4⟩ := hg a H1 h1 r H' h
    refine ⟨l1.trans k1, fun o ho => (l2 o ho).trans (k2 o ho), fun o ho => (l3 o ho).trans (k3 o ho), fun H2 hl ha => ?_⟩
    obtain ⟨H3, m1, m2, m3⟩ := k4 H2 hl ha
    obtain ⟨H4, n1, n2, n3⟩ := l4 H3 (by rw [m2]; exact hl) fun o ho => by rw [m3 o, if_pos ho]
    refine ⟨H4, by simp only [m1, n1], n2.trans m2, fun o => ?_⟩
    rw [n3 o]
    by_cases e : o ∈ F
    · rw [if_pos e, if_pos e]
    · rw [if_neg e, if_neg e, m3 o, if_neg e]
  · cases h
theorem LocAt.congr {F W : List Nat} {f g : Hp → Option (α × Hp)} (h : ∀ H, f H = g H) (hg : LocAt m F W g H) : LocAt m F W f H := by
  have : f = g := funext h
  rw [this]; exact hg
theorem LocAt.map {F W : List Nat} {f : Hp → Option (α × Hp)} {g : α → β} (hf : LocAt m F W f H) : LocAt m F W (fun H => match f H with | some (a, H1) => some (g a, H1) | .none => Option.none) H :=
  hf.bind fun _ _ _ => LocAt.pure
theorem loc_put {F W : List Nat} {r : α} {x : Ob} (h : nid < H.length) (hm : nid < m) (hF : nid ∈ F) (hW : nid ∈ W) : LocAt m F W (fun H => some (r, hput H nid x)) H := by
  have hlen : ∀ {H : Hp}, nid < H.length → (hput H nid x).length = H.length := fun {H} h => by
    unfold hput; rw [show Nat.blt nid H.length = true from by rw [Nat.blt_eq]; exact h]; simp
  intro r' H' h'
  simp only [Option.some.injEq, Prod.mk.injEq] at h'; obtain ⟨rfl, rfl⟩ := h'
  refine ⟨hlen h, fun o ho => ?_, fun o ho => ?_, fun H2 hl ha => ⟨_, rfl, hlen (by omega), fun o => ?_⟩⟩
  · rw [hget_put (by omega), if_neg fun e => ho (by rw [e]; exact hF)]
  · rw [hget_put (by omega), if_neg fun e => ho (by rw [e]; exact hW)]
  · rw [hget_put (by omega), hget_put (by omega)]
    by_cases e : o = nid
    · subst e; rw [if_pos rfl, if_pos hF, if_pos rfl]
    · rw [if_neg e, if_neg e]
      split
      · rename_i ho; exact ha o ho
      · rfl
theorem loc_set {F W : List Nat} {r : α} {k : Nat} {y : Option Ob} (hs : ∃ x, hget H k = some x) (hF : k ∈ F) (hW : k ∈ W ∨ unfl y = unfl (hget H k)) : LocAt m F W (fun H => some (r, hset H k y)) H := by
  obtain ⟨x, hx⟩ := hs
  have h := hget_lt hx
  intro r' H' h'
  simp only [Option.some.injEq, Prod.mk.injEq] at h'; obtain ⟨rfl, rfl⟩ := h'
  refine ⟨length_set, fun o ho => ?_, fun o ho => ?_, fun H2 hl ha => ⟨_, rfl, length_set, fun o => ?_⟩⟩
  · rw [hget_set h, if_neg fun e => ho (by rw [e]; exact hF)]
  · rw [hget_set h]
    by_cases e : o = k
    · rw [if_pos e, e]
      rcases hW with hW | hW
      · exact absurd (by rw [e]; exact hW) ho
      · exact hW
    · rw [if_neg e]
  · rw [hget_set (hget_lt (x := x) (by rw [ha k hF]; exact hx)), hget_set h]
    by_cases e : o = k
    · subst e; rw [if_pos rfl, if_pos hF, if_pos rfl]
    · rw [if_neg e, if_neg e]
      split
      · rename_i ho; exact ha o ho
      · rfl
/-- A step that looks at one piece first. -/
theorem loc_get {F W : List Nat} {o : Nat} {g : Option Ob → Hp → Option (α × Hp)} (ho : o ∈ F) (h : LocAt m F W (g (hget H o)) H) : LocAt m F W (fun H => g (hget H o) H) H := by
  intro r H' h'
  obtain ⟨h1, h2, h3, h4⟩ := h r H' h'
  refine ⟨h1, h2, h3, fun H2 hl ha => ?_⟩
  obtain ⟨H2', k1, k2, k3⟩ := h4 H2 hl ha
  exact ⟨H2', by simp only [ha o ho]; exact k1, k2, k3⟩
theorem loc_plain1 (v : AV) : LocAt m (ref1 v) [] (fun H => plain1 H v) H := by
  cases v with
  | pl p => exact LocAt.pure
  | own o =>
    refine loc_get (o := o) (g := fun x H => match x with | some (.row _ sz es) => some (PV.sl .any sz es, hset H o (some (.row true sz es))) | _ => none) (by simp [ref1]) ?_
    split
    · rename_i z sz es hx
      exact loc_set ⟨_, hx⟩ (by simp [ref1]) (.inr (by rw [hx]; rfl))
    · exact LocAt.none rfl
  | vw o off len =>
    refine loc_get (o := o) (g := fun x H => match x with | some (.row _ sz es) => bif Nat.ble (off + len) es.length then some (PV.sl .any sz ((es.drop off).take len), hset H o (some (.row true sz es))) else none | _ => none) (by simp [ref1]) ?_
    split
    · rename_i z sz es hx
      cases Nat.ble (off + len) es.length
      · exact LocAt.none rfl
      · exact loc_set ⟨_, hx⟩ (by simp [ref1]) (.inr (by rw [hx]; rfl))
    · exact LocAt.none rfl
  | clo f cs => cases cs with
    | nil => exact LocAt.pure
    | cons c r => exact LocAt.none rfl
  | _ => exact LocAt.none rfl
theorem sub_l {r : List AV} {v : AV} {f : AV → List Nat} : ∀ o, o ∈ f v → o ∈ (v :: r).flatMap f := fun o ho => by rw [List.flatMap_cons]; exact List.mem_append_left _ ho
theorem sub_r {r : List AV} {v : AV} {f : AV → List Nat} : ∀ o, o ∈ r.flatMap f → o ∈ (v :: r).flatMap f := fun o ho => by rw [List.flatMap_cons]; exact List.mem_append_right _ ho
theorem loc_plainL : ∀ (l : List AV) (H : Hp), LocAt m (l.flatMap ref1) [] (fun H => plainL H l) H
  | [], H => LocAt.pure
  | v :: r, H => by
    have h1 : LocAt m ((v :: r).flatMap ref1) [] (fun H => plain1 H v) H := (loc_plain1 v).mono sub_l (fun _ h => h)
    refine LocAt.congr (fun H => ?_) (h1.bind fun p H1 _ => LocAt.map (g := fun ps => p :: ps) ((loc_plainL r H1).mono (sub_r (v := v)) (fun _ h => h)))
    simp only [plainL]
    cases plain1 H v with
    | none => rfl
    | some q => obtain ⟨p, H1⟩ := q; simp only; cases plainL H1 r <;> rfl
theorem loc_plain (v : AV) (H : Hp) : LocAt m (refC v) [] (fun H => plain H v) H := by
  cases v with
  | agg cs =>
    have h1 : LocAt m (refC (.agg cs)) [] (fun H => plainL H cs) H := loc_plainL cs H
    refine LocAt.congr (fun H => ?_) (LocAt.map (g := fun ps => PV.agg ps) h1)
    simp only [plain]; cases plainL H cs <;> rfl
  | pl p => exact LocAt.pure
  | un => exact LocAt.none rfl
  | tup _ => exact LocAt.none rfl
  | clo f cs => exact (loc_plain1 (.clo f cs)).mono (fun o ho => by simp [ref1] at ho) (fun _ h => h)
  | own o => exact (loc_plain1 (.own o)).mono (fun k hk => by simpa [refC, AV.cells] using hk) (fun _ h => h)
  | vw o off len => exact (loc_plain1 (.vw o off len)).mono (fun k hk => by simpa [refC, AV.cells] using hk) (fun _ h => h)
  | bp _ _ => exact LocAt.none rfl
  | ep _ _ _ => exact LocAt.none rfl
  | ip _ _ => exact LocAt.none rfl
  | mp _ => exact LocAt.none rfl
  | it _ => exact LocAt.none rfl
theorem loc_plains : ∀ (l : List AV) (H : Hp), LocAt m (l.flatMap refC) [] (fun H => plains H l) H
  | [], H => LocAt.pure
  | v :: r, H => by
    have h1 : LocAt m ((v :: r).flatMap refC) [] (fun H => plain H v) H := (loc_plain v H).mono sub_l (fun _ h => h)
    refine LocAt.congr (fun H => ?_) (h1.bind fun p H1 _ => LocAt.map (g := fun ps => p :: ps) ((loc_plains r H1).mono (sub_r (v := v)) (fun _ h => h)))
    simp only [plains]
    cases plain H v with
    | none => rfl
    | some q => obtain ⟨p, H1⟩ := q; simp only; cases plains H1 r <;> rfl
theorem loc_fillE (sz : Nat) : ∀ (l : List (Nat × AV)) (es : List (List PV)) (H : Hp), LocAt m (l.flatMap fun p => refC p.2) [] (fun H => fillE sz H es l) H
  | [], es, H => LocAt.pure
  | (i, v) :: r, es, H => by
    have h1 : LocAt m (((i, v) :: r).flatMap fun p => refC p.2) [] (fun H => plain H v) H := (loc_plain v H).mono (fun o ho => by rw [List.flatMap_cons]; exact List.mem_append_left _ ho) (fun _ h => h)
    have h2 : ∀ p H1, plain H v = some (p, H1) → LocAt m (((i, v) :: r).flatMap fun p => refC p.2) [] (fun H => bif Nat.beq p.cells.length sz && Nat.blt i es.length then fillE sz H (es.set i p.cells) r else none) H1 := fun p H1 _ => by
      cases (Nat.beq p.cells.length sz && Nat.blt i es.length)
      · exact LocAt.none rfl
      · exact (loc_fillE sz r _ H1).mono (fun o ho => by rw [List.flatMap_cons]; exact List.mem_append_right _ ho) (fun _ h => h)
    refine LocAt.congr (fun H => ?_) (h1.bind h2)
    simp only [fillE]
    cases plain H v <;> rfl
end
end Go.Proofs.Ytelblamgfbkhbaa
