/- The clean machine is sound, fifth part: slices of slices and strings, and the rest. No condition. -/
import Derived.Test.YtkimdlpfbojkgaaZF
namespace Go.Proofs.Ytkimdlpfbojkgaa
set_option linter.unusedSimpArgs false
set_option linter.unusedVariables false
open Go.RowKit
section
variable {P : Program} {C : Cfg} {w w' : World} {Y X : Nat → Prop} {φ : Phi} {H : Hp}
variable {nid : Nat} {ρ : Operand → Value} {ra : Operand → AV} {d : Option Tmp} {ty : TypeId} {pos : String} {af : Array Edge} {g : Option (Nat × Bool)}
theorem g_index {t : Nat} {x y : Operand} {a i v : AV} (hC : CfgOK P C) (h : evIndex C t a i = some v) (hx : VR w (YOf X φ) φ a (ρ x)) (hy : VR w (YOf X φ) φ i (ρ y)) :
    ∃ u, (execOp ρ ⟨d, .index t x y, ty, pos, af, g⟩).run P w = .ok (.value u) w ∧ VR w (YOf X φ) φ v u := by
  unfold evIndex at h
  split at h
  · rename_i ti s k n hti
    simp only [VR, PR] at hx hy
    split at h
    · rename_i i' hk hn
      have hn := natOf_eq hn
      subst hn
      simp only [Option.map_eq_some_iff] at h
      obtain ⟨b, hb, rfl⟩ := h
      have hlt : i' < s.size := by have := (List.getElem?_eq_some_iff.1 hb).1; simpa using this
      have hb2 : s[i']? = some b := by
        have : s.data[i']? = some b := by simpa using hb
        obtain ⟨h1, h2⟩ := Array.getElem?_eq_some_iff.1 this
        rw [getElem?_pos s i' hlt]; exact congrArg some h2
      have h0 : (0 : Int) ≤ i' := by omega
      refine ⟨.int .u8 b.toNat, ?_, by simp only [VR, PR]⟩
      simp [execOp, hx, hy, Instr.index, asIntOf, run_underlying (und_str (hC.ty t ti hti) hk), h0, hb2]
    · cases h
  · rename_i ti cs k n hti
    simp only [VR, PR] at hx hy
    obtain ⟨vs, hv, hl⟩ := hx
    split at h
    · rename_i m e i' hk hn
      have hn := natOf_eq hn
      subst hn
      split at h
      · rename_i te hte
        cases hb : (Nat.blt i' m && Nat.ble ((i' + 1) * te.size) cs.length) with
        | false => simp [hb] at h
        | true =>
          simp only [hb, cond_true] at h
          rw [Bool.and_eq_true, Nat.blt_eq] at hb
          obtain ⟨hb1, hb2⟩ := hb
          have hb2 : (i' + 1) * te.size ≤ cs.length := by simpa using hb2
          rw [Nat.succ_mul] at hb2
          have hlen := hl.length
          have hE := hC.ty e te hte
          have h0 : (0 : Int) ≤ i' := by omega
          have hz := run_size (w := w) hE
          cases hr : te.k.row with
          | true =>
            simp only [hr, cond_true, Option.some.injEq] at h; subst h
            have hp := run_part (w := w) (off := i' * te.size) hE (vs := vs) (by omega) (fun h => by rw [hr] at h; cases h)
            refine ⟨_, ?_, by simp only [VR, PR]; exact ⟨_, rfl, (hl.drop (i' * te.size)).take te.size⟩⟩
            rw [hr] at hp
            simp [execOp, hv, hy, Instr.index, asIntOf, run_underlying (und_arr (hC.ty t ti hti) hk), h0, hb1, hz, hp, vAt]
          | false =>
            simp only [hr, cond_false, Option.map_eq_some_iff] at h
            obtain ⟨c, hc, rfl⟩ := h
            have hlt : i' * te.size < cs.length := (List.getElem?_eq_some_iff.1 hc).1
            obtain ⟨u, h1, _, h2⟩ := VRL.at (φ := φ) hl.vrl (i := i' * te.size) (c := .pl c) (by rw [List.getElem?_map, hc]; rfl)
            have hag : (isAgg e).run P w = .ok false w := by
              obtain ⟨uu, hu, hrr⟩ := und_row hE
              exact run_isAgg_no hu (by rw [hrr, hr])
            refine ⟨u, ?_, h2⟩
            have h3 : vs.toArray[i' * te.size]? = some u := by simpa using h1
            simp [execOp, hv, hy, Instr.index, asIntOf, run_underlying (und_arr (hC.ty t ti hti) hk), h0, hb1, hz, part, hag]
            simp only [List.getElem?_toArray] at h3
            rw [h3]; simp
      · cases h
    · cases h
  · cases h
theorem g_pick {c x y : Operand} {v : AV} {H' : Hp} (hρ : ∀ x, VR w (YOf X φ) φ (ra x) (ρ x)) (h : evPure C nid ra H (.pick c x y) = some (v, H')) :
    H' = H ∧ ∃ u, (execOp ρ ⟨d, .pick c x y, ty, pos, af, g⟩).run P w = .ok (.value u) w ∧ VR w (YOf X φ) φ v u := by
  simp only [evPure] at h
  split at h
  · rename_i b hb
    simp only [Option.some.injEq, Prod.mk.injEq] at h; obtain ⟨rfl, rfl⟩ := h
    have hc := hρ c
    rw [hb] at hc
    simp only [VR, PR] at hc
    refine ⟨rfl, _, x_pick hc rfl, ?_⟩
    cases b
    · exact hρ y
    · exact hρ x
  · cases h
theorem g_extract {t : Operand} {i : Nat} {v : AV} {H' : Hp} (hρ : ∀ x, VR w (YOf X φ) φ (ra x) (ρ x)) (h : evPure C nid ra H (.extract t i) = some (v, H')) :
    H' = H ∧ ∃ u, (execOp ρ ⟨d, .extract t i, ty, pos, af, g⟩).run P w = .ok (.value u) w ∧ VR w (YOf X φ) φ v u := by
  simp only [evPure] at h
  split at h
  · rename_i vs hv
    simp only [Option.map_eq_some_iff, Prod.mk.injEq] at h
    obtain ⟨a, ha, rfl, rfl⟩ := h
    have ht := hρ t
    rw [hv] at ht
    simp only [VR] at ht
    obtain ⟨us, he, hl⟩ := ht
    obtain ⟨u, h1, h2⟩ := VRT.at hl ha
    exact ⟨rfl, u, x_extract he (by simpa using h1), h2⟩
  · cases h
theorem x_nilCheckF {x : Operand} {f : Nat} {a b : Array Value} (hx : ρ x = .func (.func f) a b) : (execOp ρ ⟨d, .nilCheck x, ty, pos, af, g⟩).run P w = .ok (.value (.func (.func f) a b)) w := by
  simp [execOp, hx]
theorem g_nilCheck {x : Operand} {v : AV} {H' : Hp} (hH : HR X φ H w) (hρ : ∀ x, VR w (YOf X φ) φ (ra x) (ρ x)) (h : evPure C nid ra H (.nilCheck x) = some (v, H')) :
    H' = H ∧ ∃ u, (execOp ρ ⟨d, .nilCheck x, ty, pos, af, g⟩).run P w = .ok (.value u) w ∧ VR w (YOf X φ) φ v u := by
  simp only [evPure] at h
  have hx := hρ x
  split at h
  · rename_i f hv
    simp only [Option.some.injEq, Prod.mk.injEq] at h; obtain ⟨rfl, rfl⟩ := h
    rw [hv] at hx
    have hx' := hx
    simp only [VR, PR] at hx
    exact ⟨rfl, _, x_nilCheckF hx, by rw [← hx]; exact hx'⟩
  · rename_i f cs hv
    simp only [Option.some.injEq, Prod.mk.injEq] at h; obtain ⟨rfl, rfl⟩ := h
    rw [hv] at hx
    have hx' := hx
    simp only [VR] at hx
    obtain ⟨us, he, _⟩ := hx
    exact ⟨rfl, _, x_nilCheckF he, by rw [← he]; exact hx'⟩
  · rename_i o i hv
    cases ha : alive H o with
    | false => simp [ha] at h
    | true =>
      simp only [ha, cond_true, Option.some.injEq, Prod.mk.injEq] at h; obtain ⟨rfl, rfl⟩ := h
      obtain ⟨_, l, hl⟩ := alive_live hH ha
      rw [hv] at hx
      have hx' := hx
      simp only [VR] at hx
      obtain ⟨b, _, he⟩ := hx.2.2 _ l hl
      exact ⟨rfl, _, x_nilCheck he, by rw [← he]; exact hx'⟩
  · rename_i o i j hv
    cases ha : alive H o with
    | false => simp [ha] at h
    | true =>
      simp only [ha, cond_true, Option.some.injEq, Prod.mk.injEq] at h; obtain ⟨rfl, rfl⟩ := h
      obtain ⟨_, l, hl⟩ := alive_live hH ha
      rw [hv] at hx
      have hx' := hx
      simp only [VR] at hx
      obtain ⟨b, p, _, he⟩ := hx.2.2 _ l hl
      exact ⟨rfl, _, x_nilCheck he, by rw [← he]; exact hx'⟩
  · rename_i c i hv
    simp only [Option.some.injEq, Prod.mk.injEq] at h; obtain ⟨rfl, rfl⟩ := h
    rw [hv] at hx
    have hx' := hx
    simp only [VR] at hx
    obtain ⟨b, o, he, _⟩ := hx
    exact ⟨rfl, _, x_nilCheck he, by rw [← he]; exact hx'⟩
  · cases h
theorem g_un {op : UnOp} {t : Nat} {x : Operand} {a v : AV} (h : evUn op a = some v) (hx : VR w (YOf X φ) φ a (ρ x)) :
    ∃ u, (execOp ρ ⟨d, .unOp op t x, ty, pos, af, g⟩).run P w = .ok (.value u) w ∧ VR w (YOf X φ) φ v u := by
  unfold evUn at h
  split at h
  · simp only [Option.some.injEq] at h; subst h
    simp only [VR, PR] at hx
    exact ⟨_, by simp [execOp, hx, Op.unary, Op.intArith]; rfl, by simp [VR, PR]⟩
  · simp only [Option.some.injEq] at h; subst h
    simp only [VR, PR] at hx
    exact ⟨_, x_not hx, by simp only [VR, PR]⟩
  · simp only [VR, PR] at hx
    rename_i k n
    simp only [binI, Option.map_some, Option.some.injEq] at h; subst h
    exact ⟨_, by simp [execOp, hx, Op.unary, Op.intBits]; rfl, by simp [VR, PR]⟩
  · cases h
theorem g_convert {s t : Nat} {x : Operand} {v : AV} {H' : Hp} (hC : CfgOK P C) (hρ : ∀ x, VR w (YOf X φ) φ (ra x) (ρ x)) (h : evPure C nid ra H (.convert s t x) = some (v, H')) :
    H' = H ∧ ∃ u, (execOp ρ ⟨d, .convert s t x, ty, pos, af, g⟩).run P w = .ok (.value u) w ∧ VR w (YOf X φ) φ v u := by
  simp only [evPure] at h
  have hx := hρ x
  split at h
  · rename_i ts td k n hs ht hv
    rw [hv] at hx
    simp only [VR, PR] at hx
    split at h
    · rename_i k' hk
      simp only [Option.some.injEq, Prod.mk.injEq] at h; obtain ⟨rfl, rfl⟩ := h
      obtain ⟨us, hu, _⟩ := tyOK_und (hC.ty s ts hs)
      refine ⟨rfl, .int k' (k'.wrap n), ?_, by simp only [VR, PR]⟩
      cases us <;> simp [execOp, hx, convert, run_underlying hu, run_underlying (und_int (hC.ty t td ht) hk), Conv.intToInt]
    · cases h
  · rename_i ts td b hs ht hv
    rw [hv] at hx
    simp only [VR, PR] at hx
    split at h
    · rename_i hk
      simp only [Option.some.injEq, Prod.mk.injEq] at h; obtain ⟨rfl, rfl⟩ := h
      obtain ⟨us, hu, _⟩ := tyOK_und (hC.ty s ts hs)
      refine ⟨rfl, .string b, ?_, by simp only [VR, PR]⟩
      cases us <;> simp [execOp, hx, convert, run_underlying hu, run_underlying (und_str (hC.ty t td ht) hk)]
    · cases h
  · cases h
theorem vrt_of (hρ : ∀ x, VR w Y φ (ra x) (ρ x)) : ∀ xs : List Operand, VRT w Y φ (xs.map ra) (xs.map ρ)
  | [] => by simp [VRT]
  | x :: xs => by simp only [List.map_cons, VRT]; exact ⟨_, _, rfl, hρ x, vrt_of hρ xs⟩
theorem g_makeFunc {fn : Fn} {first cs : Array Operand} {v : AV} {H' : Hp} (hρ : ∀ x, VR w (YOf X φ) φ (ra x) (ρ x)) (h : evPure C nid ra H (.makeFunc fn first cs) = some (v, H')) :
    H' = H ∧ ∃ u, (execOp ρ ⟨d, .makeFunc fn first cs, ty, pos, af, g⟩).run P w = .ok (.value u) w ∧ VR w (YOf X φ) φ v u := by
  obtain ⟨f, rfl⟩ : ∃ f, fn = .func f := by cases fn <;> first | exact ⟨_, rfl⟩ | cases h
  simp only [evPure] at h
  cases hf : first.isEmpty with
  | false => simp [hf] at h
  | true =>
    simp only [hf, cond_true] at h
    have hfe : first = #[] := Array.isEmpty_iff.1 hf
    subst hfe
    have hvs := vrt_of (w := w) (Y := YOf X φ) (φ := φ) hρ cs.toList
    have hmap : cs.map ρ = (cs.toList.map ρ).toArray := by rw [← List.map_toArray]
    split at h
    · rename_i hnil
      simp only [Option.some.injEq, Prod.mk.injEq] at h; obtain ⟨rfl, rfl⟩ := h
      have hcs : cs = #[] := by
        have : cs.toList = [] := List.map_eq_nil_iff.1 hnil
        exact Array.toList_eq_nil_iff.1 this
      subst hcs
      exact ⟨rfl, .func (.func f) #[] #[], x_makeFunc (by simp) (by simp), by simp only [VR, PR]⟩
    · simp only [Option.some.injEq, Prod.mk.injEq] at h; obtain ⟨rfl, rfl⟩ := h
      exact ⟨rfl, _, x_makeFunc (fs := #[]) (by simp) hmap, by simp only [VR]; exact ⟨_, rfl, hvs⟩⟩
end
end Go.Proofs.Ytkimdlpfbojkgaa
