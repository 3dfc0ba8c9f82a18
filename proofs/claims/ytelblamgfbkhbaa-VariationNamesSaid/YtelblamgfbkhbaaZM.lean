/- The clean machine and the model: every operation that is no call. No condition. -/
import Derived.Test.YtelblamgfbkhbaaZL
namespace Go.Proofs.Ytelblamgfbkhbaa
set_option linter.unusedSimpArgs false
set_option linter.unusedVariables false
open Go.RowKit
section
variable {P : Program} {C : Cfg} {w w' : World} {Y Y' X : Nat → Prop} {φ : Phi} {H : Hp}
variable {nid : Nat} {ρ : Operand → Value} {ra : Operand → AV} {d : Option Tmp} {ty : TypeId} {pos : String} {af : Array Edge} {g : Option (Nat × Bool)}
theorem good_u {v : AV} {H' : Hp} {r : Result Next} (hH : HR X φ H w) (h : H' = H ∧ ∃ u, r = .ok (.value u) w ∧ VR w (YOf X φ) φ v u) : Good nid H X φ w v H' r := by
  obtain ⟨rfl, u, h1, h2⟩ := h
  exact good_val h1 h2 hH
theorem map_h {α β : Type} {o : Option α} {H H' : β} {v : α} (h : (o.map fun v => (v, H)) = some (v, H')) : o = some v ∧ H' = H := by
  cases o with
  | none => simp at h
  | some a => simp at h; exact ⟨by rw [h.1], h.2.symm⟩
theorem g_pure (hC : CfgOK P C) (hH : HR X φ H w) (hf : Free φ H nid) (hρ : ∀ x, VR w (YOf X φ) φ (ra x) (ρ x)) {op : Op} {v : AV} {H' : Hp} (h : evPure C nid ra H op = some (v, H')) :
    Good nid H X φ w v H' ((execOp ρ ⟨d, op, ty, pos, af, g⟩).run P w) := by
  cases op with
  | move x => simp only [evPure, Option.some.injEq, Prod.mk.injEq] at h; obtain ⟨rfl, rfl⟩ := h; exact good_val (x_move rfl) (hρ x) hH
  | assign x => simp only [evPure, Option.some.injEq, Prod.mk.injEq] at h; obtain ⟨rfl, rfl⟩ := h; exact good_val (x_assign rfl) (hρ x) hH
  | pick c x y => exact good_u hH (g_pick hρ h)
  | alloc e =>
    simp only [evPure] at h
    split at h
    · rename_i ti hti
      simp only [Option.some.injEq, Prod.mk.injEq] at h; obtain ⟨rfl, rfl⟩ := h
      exact g_alloc hC hH hf hti
    · cases h
  | box e x =>
    simp only [evPure] at h
    cases hb : (ra x).cells.all oneA with
    | false => simp [hb] at h
    | true =>
      simp only [hb, cond_true, Option.some.injEq, Prod.mk.injEq] at h; obtain ⟨rfl, rfl⟩ := h
      exact g_box hH hf (hρ x) hb
  | build t ps => exact good_u hH (g_build hC hρ h)
  | buildSlice t n ps => exact g_buildSlice hC hH hf hρ h
  | load t p =>
    simp only [evPure] at h
    obtain ⟨h1, rfl⟩ := map_h h
    exact good_u hH ⟨rfl, g_load hC hH h1 (hρ p)⟩
  | store t p x =>
    simp only [evPure, Option.map_eq_some_iff, Prod.mk.injEq] at h
    obtain ⟨H1, h1, rfl, rfl⟩ := h
    exact g_store hC hH h1 (hρ p) (hρ x)
  | nilCheck x => exact good_u hH (g_nilCheck hH hρ h)
  | binOp op t x y t' =>
    simp only [evPure] at h
    obtain ⟨h1, rfl⟩ := map_h h
    exact good_u hH ⟨rfl, evBin_ok hC hH h1 (hρ x) (hρ y)⟩
  | unOp op t x =>
    simp only [evPure] at h
    obtain ⟨h1, rfl⟩ := map_h h
    exact good_u hH ⟨rfl, g_un h1 (hρ x)⟩
  | convert s t x => exact g_convert hC hH hρ h
  | makeFunc fn first cs => exact good_u hH (g_makeFunc hρ h)
  | makeSlice t l c => exact g_makeSlice hC hH hf hρ h
  | slice t x lo hi mx =>
    simp only [evPure] at h
    obtain ⟨h1, rfl⟩ := map_h h
    exact good_u hH ⟨rfl, g_slice hC hH hρ h1⟩
  | fieldAddr t x f => exact good_u hH (g_fieldAddr hC hH hρ h)
  | field t x f => exact good_u hH (g_field hC hρ h)
  | indexAddr t x i =>
    simp only [evPure] at h
    obtain ⟨h1, rfl⟩ := map_h h
    exact good_u hH ⟨rfl, g_indexAddr hC hH h1 (hρ x) (hρ i)⟩
  | index t x i =>
    simp only [evPure] at h
    obtain ⟨h1, rfl⟩ := map_h h
    exact good_u hH ⟨rfl, g_index hC h1 (hρ x) (hρ i)⟩
  | extract t i => exact good_u hH (g_extract hρ h)
  | call c =>
    obtain ⟨callee, ⟨args⟩, ⟨ts⟩⟩ := c
    simp only [evPure] at h
    split at h
    · rename_i b hb
      unfold evBuiltin at h
      split at h
      · rename_i t x hargs
        obtain ⟨a, rfl, rfl⟩ := List.map_eq_singleton_iff.1 hargs
        cases hn : lenA C H t (ra a) with
        | none => simp [hn] at h
        | some n =>
          simp [hn] at h; obtain ⟨rfl, rfl⟩ := h
          exact good_val (g_len hC hH hn (hρ a)) (by simp only [VR, PR]) hH
      · rename_i t t1 x y hargs
        obtain ⟨a, l, rfl, rfl, hl2⟩ := List.map_eq_cons_iff.1 hargs
        obtain ⟨b, rfl, rfl⟩ := List.map_eq_singleton_iff.1 hl2
        exact g_append hC hH hf h (hρ a) (hρ b)
      · rename_i t t1 x y hargs
        obtain ⟨a, l, rfl, rfl, hl2⟩ := List.map_eq_cons_iff.1 hargs
        obtain ⟨b, rfl, rfl⟩ := List.map_eq_singleton_iff.1 hl2
        exact g_copy hC hH h (hρ a) (hρ b)
      · rename_i t x hargs
        obtain ⟨a, rfl, rfl⟩ := List.map_eq_singleton_iff.1 hargs
        exact g_clear hC hH h (hρ a)
      · obtain ⟨h1, rfl⟩ := map_h h
        exact good_u hH ⟨rfl, g_minmax (b := true) hρ (by simpa using h1)⟩
      · obtain ⟨h1, rfl⟩ := map_h h
        exact good_u hH ⟨rfl, g_minmax (b := false) hρ (by simpa using h1)⟩
      · cases h
    · cases h
  | makeMap t r =>
    cases r with
    | some _ => simp [evPure] at h
    | none =>
      simp only [evPure, Option.some.injEq, Prod.mk.injEq] at h; obtain ⟨rfl, rfl⟩ := h
      exact g_makeMap hH hf
  | lookup t x k ok =>
    simp only [evPure] at h
    obtain ⟨h1, rfl⟩ := map_h h
    exact good_u hH ⟨rfl, g_lookup hC hH h1 (hρ x) (hρ k)⟩
  | mapUpdate t m k x =>
    simp only [evPure, Option.map_eq_some_iff, Prod.mk.injEq] at h
    obtain ⟨H1, h1, rfl, rfl⟩ := h
    exact g_mapUpdate hC hH (.inl rfl) h1 hρ
  | insert t m k x =>
    simp only [evPure, Option.map_eq_some_iff, Prod.mk.injEq] at h
    obtain ⟨H1, h1, rfl, rfl⟩ := h
    exact g_mapUpdate hC hH (.inr rfl) h1 hρ
  | mapEntry t m k => exact g_mapEntry hC hH h hρ
  | entryStore t m s x =>
    simp only [evPure, Option.map_eq_some_iff, Prod.mk.injEq] at h
    obtain ⟨H1, h1, rfl, rfl⟩ := h
    exact g_entryStore hH h1 hρ
  | range t x => exact g_range hC hH hf h (hρ x)
  | entry x =>
    simp only [evPure] at h
    obtain ⟨h1, rfl⟩ := map_h h
    exact good_u hH ⟨rfl, g_entry hH h1 (hρ x)⟩
  | _ => simp [evPure] at h
end
end Go.Proofs.Ytelblamgfbkhbaa
