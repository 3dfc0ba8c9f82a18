/- The clean machine is sound, fourth part: slices. No condition. -/
import Derived.Test.YtelblamgfbkhbaaZE
namespace Go.Proofs.Ytelblamgfbkhbaa
set_option linter.unusedSimpArgs false
set_option linter.unusedVariables false
open Go.RowKit
section
variable {P : Program} {C : Cfg} {w w' : World} {Y X : Nat → Prop} {φ : Phi} {H : Hp}
variable {nid : Nat} {ρ : Operand → Value} {ra : Operand → AV} {d : Option Tmp} {ty : TypeId} {pos : String} {af : Array Edge} {g : Option (Nat × Bool)}
theorem natOf_eq {n : Int} {k : Nat} (h : natOf n = some k) : n = (k : Int) := by
  cases n <;> simp [natOf] at h
  subst h; rfl
theorem fits_of {n : Nat} {te : TI} (h : fitsB n te = true) : n * te.bytes ≤ 140737488355328 ∧ n ≤ maxLen := by
  unfold fitsB at h
  rw [Bool.and_eq_true] at h
  exact ⟨by simpa using h.1, by unfold maxLen; simpa using h.2⟩
theorem g_makeSlice {t : Nat} {l c : Operand} {v : AV} {H' : Hp} (hC : CfgOK P C) (hH : HR X φ H w) (hfr : Free φ H nid) (hρ : ∀ x, VR w (YOf X φ) φ (ra x) (ρ x)) (h : evPure C nid ra H (.makeSlice t l c) = some (v, H')) :
    Good nid H X φ w v H' ((execOp ρ ⟨d, .makeSlice t l c, ty, pos, af, g⟩).run P w) := by
  simp only [evPure] at h
  split at h
  · rename_i ti k n k' m hti hl hc
    have h1 := hρ l
    have h2 := hρ c
    rw [hl] at h1; rw [hc] at h2
    simp only [VR, PR] at h1 h2
    split at h
    · rename_i e n' hk hn
      have hn' := natOf_eq hn
      subst hn'
      split at h
      · rename_i te hte
        cases hb : (decide (m = (n' : Int)) && fitsB n' te && !Nat.beq te.size 0) with
        | false => simp [hb] at h
        | true =>
          simp only [hb, cond_true, Option.some.injEq, Prod.mk.injEq] at h; obtain ⟨rfl, rfl⟩ := h
          rw [Bool.and_eq_true, Bool.and_eq_true] at hb
          obtain ⟨⟨hm, hf⟩, hz0⟩ := hb
          have hm : m = (n' : Int) := by simpa using hm
          subst hm
          obtain ⟨hf1, hf2⟩ := fits_of hf
          have hpos : te.size ≠ 0 := fun e => by rw [e] at hz0; simp at hz0
          obtain ⟨ie, ze, hie, hse, hbe, hze, hzl⟩ := tyOK_info (hC.ty e te hte)
          have hzl2 := tyOK_len (hC.ty e te hte)
          have hzs : ze.cells.size = te.size := by rw [← hzl2, ← (hzl w (YOf X φ)).length, Array.length_toList]
          have hb' : (ie.bytes : Int) * (n' : Int) ≤ 281474976710656 := by
            have : ie.bytes * n' ≤ 140737488355328 := by rw [hbe, Nat.mul_comm]; exact hf1
            have h3 : ((ie.bytes * n' : Nat) : Int) ≤ 281474976710656 := by omega
            rwa [Int.natCast_mul] at h3
          have hm63 : (n' : Int) ≤ 9223372036854775807 := by unfold maxLen at hf2; omega
          have hr := run_make (P := P) w t e ie ze (und_sl (hC.ty t ti hti) hk) hie hze k k' n' n' (by omega) (Int.le_refl _) hb' hm63
          simp only [Int.toNat_natCast] at hr
          have hrun : (execOp ρ ⟨d, .makeSlice t l c, ty, pos, af, g⟩).run P w = .ok (.value (.slice (some ⟨w.heap.size, 0, none⟩) n' n')) (w.alloc (.cells (madeCells ze.cells (n' * ie.size)) e)) := by
            simp [execOp, h1, h2, hr]
          refine good_row hH hfr hrun (by simp) hf2 (vss := List.replicate n' ze.cells.toList) ?_ (PRLL.replicate hzl2 (hzl w (YOf X φ)))
          unfold madeCells
          rw [hse, zeros_eq hzs (by omega)]
      · cases h
    · cases h
  · cases h
/-! ### fields, indexes -/
theorem alive_live (hH : HR X φ H w) {o : Nat} (h : alive H o = true) : ∃ z l, φ o = .at z l := by
  unfold alive at h
  cases hg : hget H o with
  | none => simp [hg] at h
  | some x => obtain ⟨z, l, hl, _⟩ := hH.ob o x hg; exact ⟨z, l, hl⟩
theorem g_fieldAddr {t f : Nat} {x : Operand} {v : AV} {H' : Hp} (hC : CfgOK P C) (hH : HR X φ H w) (hρ : ∀ x, VR w (YOf X φ) φ (ra x) (ρ x)) (h : evPure C nid ra H (.fieldAddr t x f) = some (v, H')) :
    H' = H ∧ ∃ u, (execOp ρ ⟨d, .fieldAddr t x f, ty, pos, af, g⟩).run P w = .ok (.value u) w ∧ VR w (YOf X φ) φ v u := by
  simp only [evPure] at h
  split at h
  · rename_i ft off hf
    cases hps : posSize C ft with
    | false => simp [hps] at h
    | true =>
      simp only [hps, cond_true] at h
      have hF : FieldAt P t f off := by
        unfold evField at hf
        cases hti : C.ty t with
        | none => simp [hti] at hf
        | some ti =>
          simp only [hti] at hf
          split at hf
          · rename_i fs hk
            obtain ⟨gs, hu, hfo⟩ := und_struct (hC.ty t ti hti) hk
            obtain ⟨fd, hfd, rfl, rfl, _⟩ := fieldsOK_at hfo hf
            unfold posSize at hps
            cases htf : C.ty fd.type with
            | none => simp [htf] at hps
            | some tf =>
              simp only [htf] at hps
              obtain ⟨i, z, hi, hs, _⟩ := tyOK_info (hC.ty _ tf htf)
              refine fieldAt_of hu (by simpa using hfd) (sz := tf.size) (by simp [hi, hs]) ?_ rfl
              rw [Bool.eq_false_iff]; intro e; simp at e; rw [e] at hps; simp at hps
          · cases hf
      have hx := hρ x
      split at h
      · rename_i o i hx'
        cases ha : alive H o with
        | false => simp [ha] at h
        | true =>
          simp only [ha, cond_true, Option.some.injEq, Prod.mk.injEq] at h; obtain ⟨rfl, rfl⟩ := h
          rw [hx'] at hx
          simp only [VR] at hx
          obtain ⟨_, l, hl⟩ := alive_live hH ha
          obtain ⟨b, hA, he⟩ := hx.2.2 _ l hl
          refine ⟨rfl, _, x_field hF he, ?_⟩
          simp only [VR]
          exact ⟨rfl, hx.2.1, fun _ l' hl' => by rw [hl] at hl'; cases hl'; exact ⟨b, hA, rfl⟩⟩
      · rename_i o k i hx'
        cases ha : alive H o with
        | false => simp [ha] at h
        | true =>
          simp only [ha, cond_true, Option.some.injEq, Prod.mk.injEq] at h; obtain ⟨rfl, rfl⟩ := h
          rw [hx'] at hx
          simp only [VR] at hx
          obtain ⟨_, l, hl⟩ := alive_live hH ha
          obtain ⟨b, p, hA, he⟩ := hx.2.2 _ l hl
          refine ⟨rfl, _, x_field hF he, ?_⟩
          simp only [VR]
          exact ⟨rfl, hx.2.1, fun _ l' hl' => by rw [hl] at hl'; cases hl'; exact ⟨b, p, hA, by rw [Nat.add_assoc]⟩⟩
      · rename_i c i hx'
        simp only [Option.some.injEq, Prod.mk.injEq] at h; obtain ⟨rfl, rfl⟩ := h
        rw [hx'] at hx
        simp only [VR] at hx
        obtain ⟨b, o, he, hY, hlt, hc⟩ := hx
        exact ⟨rfl, _, x_field hF he, by simp only [VR]; exact ⟨b, o, by rw [Nat.add_assoc], hY, hlt, hc⟩⟩
      · cases h
  · cases h
theorem agg_cells {a : AV} {v : Value} (ha : isAggA a = true) (h : VR w Y φ a v) : ∃ vs, v = .agg vs.toArray ∧ VRL w Y φ a.cells vs := by
  cases a with
  | agg cs => simp only [VR] at h; exact h
  | pl p =>
    cases p with
    | agg cs => simp only [VR, PR] at h; obtain ⟨vs, e, hl⟩ := h; exact ⟨vs, e, hl.vrl⟩
    | _ => simp [isAggA] at ha
  | _ => simp [isAggA] at ha
theorem g_field {t f : Nat} {x : Operand} {v : AV} {H' : Hp} (hC : CfgOK P C) (hρ : ∀ x, VR w (YOf X φ) φ (ra x) (ρ x)) (h : evPure C nid ra H (.field t x f) = some (v, H')) :
    H' = H ∧ ∃ u, (execOp ρ ⟨d, .field t x f, ty, pos, af, g⟩).run P w = .ok (.value u) w ∧ VR w (YOf X φ) φ v u := by
  simp only [evPure] at h
  split at h
  · rename_i ft off hf
    cases htf : C.ty ft with
    | none => simp [htf] at h
    | some tf =>
      simp only [htf] at h
      cases hb : (Nat.ble (off + tf.size) (ra x).cells.length && isAggA (ra x) && !Nat.beq tf.size 0) with
      | false => simp [hb] at h
      | true =>
        simp only [hb, cond_true] at h
        rw [Bool.and_eq_true, Bool.and_eq_true] at hb
        obtain ⟨⟨hb1, hb2⟩, hb3⟩ := hb
        obtain ⟨vs, hv, hl⟩ := agg_cells hb2 (hρ x)
        have hlen := hl.length
        have hpos : 0 < tf.size := by
          rcases Nat.eq_zero_or_pos tf.size with e | e
          · rw [e] at hb3; simp at hb3
          · exact e
        have hle : off + tf.size ≤ vs.length := by rw [hlen]; simpa using hb1
        have hrun : (execOp ρ ⟨d, .field t x f, ty, pos, af, g⟩).run P w = .ok (.value (vAt tf.k.row ((vs.drop off).take tf.size))) w := by
          unfold evField at hf
          cases hti : C.ty t with
          | none => simp [hti] at hf
          | some ti =>
            simp only [hti] at hf
            split at hf
            · rename_i fs hk
              obtain ⟨gs, hu, hfo⟩ := und_struct (hC.ty t ti hti) hk
              obtain ⟨fd, hfd, rfl, rfl, _⟩ := fieldsOK_at hfo hf
              have hp := run_part (w := w) (hC.ty _ tf htf) hle (fun _ => hpos)
              have hfd' : gs[f]? = some fd := by simpa using hfd
              simp [execOp, hv, Instr.field, run_underlying hu, hfd', asAgg, hp]
            · cases hf
        cases hr : tf.k.row with
        | true =>
          simp only [hr, cond_true, Option.some.injEq, Prod.mk.injEq] at h; obtain ⟨rfl, rfl⟩ := h
          rw [hr] at hrun
          exact ⟨rfl, _, hrun, VR.mkAgg ((hl.drop off).take tf.size)⟩
        | false =>
          simp only [hr, cond_false, Option.map_eq_some_iff, Prod.mk.injEq] at h
          obtain ⟨c, hc, rfl, rfl⟩ := h
          rw [hr] at hrun
          obtain ⟨u, h1, _, h2⟩ := VRL.at hl hc
          refine ⟨rfl, _, hrun, ?_⟩
          have : vAt false ((vs.drop off).take tf.size) = u := by
            have hlt : off < vs.length := by omega
            rw [List.getElem?_eq_getElem hlt] at h1
            cases h1
            simp only [vAt, Bool.false_eq_true, if_false]
            rw [List.drop_eq_getElem_cons hlt]
            obtain ⟨n, hn⟩ : ∃ n, tf.size = n + 1 := ⟨tf.size - 1, by omega⟩
            rw [hn]; rfl
          rw [this]; exact h2
  · cases h
theorem run_indexAt_sl {t e : Nat} {te : TI} {b o n c i : Nat} {k : IntKind} (ht : P.underlying t = some (.slice e)) (he : tyOKB P e te = true) (hi : i < n) :
    (Instr.indexAt t (.slice (some ⟨b, o, none⟩) n c) (.int k (i : Int))).run P w = .ok (.pointer (some ⟨b, o + i * te.size, none⟩)) w := by
  have h0 : (0 : Int) ≤ i := by omega
  have hs := run_size (w := w) he
  simp [Instr.indexAt, asIntOf, run_underlying ht, h0, hi, hs, Addr.add_mid]
theorem run_indexAt_arr {t m e : Nat} {te : TI} {b o i : Nat} {k : IntKind} (ht : P.underlying t = some (.array m e)) (he : tyOKB P e te = true) (hi : i < m) :
    (Instr.indexAt t (.pointer (some ⟨b, o, none⟩)) (.int k (i : Int))).run P w = .ok (.pointer (some ⟨b, o + i * te.size, none⟩)) w := by
  have h0 : (0 : Int) ≤ i := by omega
  have hs := run_size (w := w) he
  simp [Instr.indexAt, asIntOf, run_underlying ht, h0, hi, hs, Addr.add_mid, Instr.sureAddr]
theorem x_indexAddr {t : Nat} {x y : Operand} {v : Value} (h : (Instr.indexAt t (ρ x) (ρ y)).run P w = .ok v w) : (execOp ρ ⟨d, .indexAddr t x y, ty, pos, af, g⟩).run P w = .ok (.value v) w := by
  simp [execOp, h]
theorem g_indexAddr {t : Nat} {x y : Operand} {a i v : AV} (hC : CfgOK P C) (hH : HR X φ H w) (h : evIndexAddr C H t a i = some v) (hx : VR w (YOf X φ) φ a (ρ x)) (hy : VR w (YOf X φ) φ i (ρ y)) :
    ∃ u, (execOp ρ ⟨d, .indexAddr t x y, ty, pos, af, g⟩).run P w = .ok (.value u) w ∧ VR w (YOf X φ) φ v u := by
  unfold evIndexAddr at h
  split at h
  · rename_i ti k n hti
    simp only [VR, PR] at hy
    split at h
    · cases h
    · rename_i i' hi'
      have hn := natOf_eq hi'
      subst hn
      split at h
      · rename_i e hk
        have hu := und_sl (hC.ty t ti hti) hk
        split at h
        · cases h
        · rename_i te hte
          have hE := hC.ty e te hte
          split at h
          · rename_i f sz es
            cases hb : Nat.beq sz te.size with
            | false => simp [hb] at h
            | true =>
              simp only [hb, cond_true, Option.map_eq_some_iff] at h
              rw [Nat.beq_eq] at hb; subst hb
              obtain ⟨c, hc, rfl⟩ := h
              have hlt : i' < es.length := (List.getElem?_eq_some_iff.1 hc).1
              simp only [VR, PR] at hx
              obtain ⟨A, cp, hv, _, _, _, hA⟩ := hx
              rcases hA with hA | ⟨b, o, rfl, hY, hltb, hPE⟩
              · omega
              · refine ⟨_, x_indexAddr (by rw [hv, hy]; exact run_indexAt_sl hu hE hlt), ?_⟩
                simp only [VR]
                exact ⟨b, o + i' * te.size, rfl, hY, hltb, (hPE.at hc).2⟩
          · rename_i o
            split at h
            · rename_i fz sz es ho
              cases hb : (Nat.beq sz te.size && Nat.blt i' es.length) with
              | false => simp [hb] at h
              | true =>
                simp only [hb, cond_true, Option.some.injEq] at h; subst h
                rw [Bool.and_eq_true, Nat.beq_eq, Nat.blt_eq] at hb
                obtain ⟨rfl, hlt⟩ := hb
                obtain ⟨z, l, hl, hO⟩ := hH.ob _ _ ho
                simp only [VR] at hx
                have hv := hx.2.2 _ l hl
                simp only [OR] at hO
                obtain ⟨hz, h1, h2, h3, h4, h5⟩ := hO
                rcases h5 with ⟨_, h6⟩ | ⟨b, p, t', cs, hA, hg, hs, hPE, _⟩
                · omega
                · simp only [Loc.addr, hA, Option.map_some, Nat.zero_mul, Nat.add_zero] at hv
                  refine ⟨_, x_indexAddr (by rw [hv, hy]; exact run_indexAt_sl hu hE (by omega)), ?_⟩
                  simp only [VR]
                  exact ⟨rfl, hx.2.1, fun _ l' hl' => by rw [hl] at hl'; cases hl'; exact ⟨b, p, hA, by rw [h2, Nat.add_zero]⟩⟩
            · cases h
          · rename_i o off len
            split at h
            · rename_i fz sz es ho
              cases hb : (Nat.beq sz te.size && (Nat.blt i' len && Nat.ble (off + len) es.length)) with
              | false => simp [hb] at h
              | true =>
                simp only [hb, cond_true, Option.some.injEq] at h; subst h
                rw [Bool.and_eq_true, Bool.and_eq_true, Nat.beq_eq, Nat.blt_eq] at hb
                obtain ⟨rfl, hlt, hle⟩ := hb
                have hle : off + len ≤ es.length := by simpa using hle
                obtain ⟨z, l, hl, hO⟩ := hH.ob _ _ ho
                simp only [VR] at hx
                obtain ⟨A, c, hv, _, hc, hA0⟩ := hx.2.2 _ l hl
                simp only [OR] at hO
                obtain ⟨hz, h1, h2, h3, h4, h5⟩ := hO
                rcases h5 with ⟨_, h6⟩ | ⟨b, p, t', cs, hA, hg, hs, hPE, _⟩
                · omega
                · obtain ⟨hA1, _⟩ := hA0 (by omega)
                  simp only [Loc.addr, hA, Option.map_some] at hA1
                  subst hA1
                  refine ⟨_, x_indexAddr (by rw [hv, hy]; exact run_indexAt_sl hu hE hlt), ?_⟩
                  simp only [VR]
                  exact ⟨rfl, hx.2.1, fun _ l' hl' => by rw [hl] at hl'; cases hl'; exact ⟨b, p, hA, by rw [h2, Nat.add_zero, Nat.add_mul, Nat.add_assoc]⟩⟩
            · cases h
          · cases h
      · rename_i m e hk
        have hu := und_arr (hC.ty t ti hti) hk
        split at h
        · cases h
        · rename_i te hte
          have hE := hC.ty e te hte
          cases hb : Nat.blt i' m with
          | false => simp [hb] at h
          | true =>
            simp only [hb, cond_true] at h
            rw [Nat.blt_eq] at hb
            split at h
            · rename_i o off
              cases ha : alive H o with
              | false => simp [ha] at h
              | true =>
                simp only [ha, cond_true, Option.some.injEq] at h; subst h
                obtain ⟨_, l, hl⟩ := alive_live hH ha
                simp only [VR] at hx
                obtain ⟨b, hA, hv⟩ := hx.2.2 _ l hl
                refine ⟨_, x_indexAddr (by rw [hv, hy]; exact run_indexAt_arr hu hE hb), ?_⟩
                simp only [VR]
                exact ⟨rfl, hx.2.1, fun _ l' hl' => by rw [hl] at hl'; cases hl'; exact ⟨b, hA, rfl⟩⟩
            · rename_i c off
              simp only [Option.some.injEq] at h; subst h
              simp only [VR] at hx
              obtain ⟨b, o, hv, hY, hlt, hc⟩ := hx
              refine ⟨_, x_indexAddr (by rw [hv, hy]; exact run_indexAt_arr hu hE hb), ?_⟩
              simp only [VR]
              exact ⟨b, o, by rw [Nat.add_assoc], hY, hlt, hc⟩
            · rename_i o j off
              cases ha : alive H o with
              | false => simp [ha] at h
              | true =>
                simp only [ha, cond_true, Option.some.injEq] at h; subst h
                obtain ⟨_, l, hl⟩ := alive_live hH ha
                simp only [VR] at hx
                obtain ⟨b, p, hA, hv⟩ := hx.2.2 _ l hl
                refine ⟨_, x_indexAddr (by rw [hv, hy]; exact run_indexAt_arr hu hE hb), ?_⟩
                simp only [VR]
                exact ⟨rfl, hx.2.1, fun _ l' hl' => by rw [hl] at hl'; cases hl'; exact ⟨b, p, hA, by rw [Nat.add_assoc]⟩⟩
            · cases h
      · cases h
  · cases h
end
end Go.Proofs.Ytelblamgfbkhbaa
