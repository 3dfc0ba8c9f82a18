/- The clean machine is sound, sixth part: slice expressions, lengths. No condition. -/
import Derived.Test.YtelblamgfbkhbaaZG
namespace Go.Proofs.Ytelblamgfbkhbaa
set_option linter.unusedSimpArgs false
set_option linter.unusedVariables false
open Go.RowKit
section
variable {P : Program} {C : Cfg} {w w' : World} {Y X : Nat → Prop} {φ : Phi} {H : Hp}
variable {ρ : Operand → Value} {ra : Operand → AV} {d : Option Tmp} {ty : TypeId} {pos : String} {af : Array Edge} {g : Option (Nat × Bool)}
/-- An index that may be left out, and its value. -/
def optV : Option Nat → Option Value → Prop
  | none, none => True
  | some n, some v => ∃ k, v = .int k (n : Int)
  | _, _ => False
theorem optV_of (hρ : ∀ x, VR w Y φ (ra x) (ρ x)) {o : Option Operand} {n : Option Nat} (h : optNat (o.map ra) = some n) : optV n (o.map ρ) := by
  cases o with
  | none => simp [optNat] at h; subst h; trivial
  | some x =>
    have hx := hρ x
    simp only [Option.map_some] at h
    unfold optNat at h
    split at h
    · simp at *
    · rename_i k m heq
      simp only [Option.some.injEq] at heq
      simp only [Option.map_eq_some_iff] at h
      obtain ⟨q, hq, rfl⟩ := h
      rw [heq] at hx
      simp only [VR, PR] at hx
      exact ⟨k, by rw [hx, natOf_eq hq]⟩
    · cases h
theorem run_sliceBound {n y : Nat} {k : IntKind} {c : BoundsCode} (h : n ≤ y) : (Instr.sliceBound (.int k (n : Int)) y c).run P w = .ok n w := by
  have h0 : (0 : Int) ≤ n := by omega
  simp [Instr.sliceBound, asIntOf, h0, h]
theorem run_sliceBound0 {y : Nat} {k : IntKind} {c : BoundsCode} : (Instr.sliceBound (.int k 0) y c).run P w = .ok 0 w := run_sliceBound (n := 0) (Nat.zero_le y)
theorem run_bounds {isS : Bool} {len cap : Nat} {lo hi : Option Nat} {vl vh : Option Value} (hl : optV lo vl) (hh : optV hi vh) (h1 : lo.getD 0 ≤ hi.getD len) (h2 : hi.getD len ≤ cap) :
    (Instr.sliceBounds isS len cap vl vh none).run P w = .ok (lo.getD 0, hi.getD len, cap) w := by
  cases lo with
  | none =>
    cases vl with
    | some v => exact hl.elim
    | none =>
      cases hi with
      | none => cases vh with
        | some v => exact hh.elim
        | none => simp [Instr.sliceBounds]
      | some h => cases vh with
        | none => exact hh.elim
        | some v => obtain ⟨k, rfl⟩ := hh; simp only [Option.getD_some] at h2; simp [Instr.sliceBounds, run_sliceBound h2]
  | some l =>
    cases vl with
    | none => exact hl.elim
    | some v =>
      obtain ⟨k, rfl⟩ := hl
      cases hi with
      | none => cases vh with
        | some v => exact hh.elim
        | none => simp only [Option.getD_some, Option.getD_none] at h1; simp [Instr.sliceBounds, run_sliceBound h1]
      | some h => cases vh with
        | none => exact hh.elim
        | some v => obtain ⟨k', rfl⟩ := hh; simp only [Option.getD_some] at h1 h2; simp [Instr.sliceBounds, run_sliceBound h1, run_sliceBound h2]
theorem run_bounds3 {isS : Bool} {len cap m : Nat} {lo hi : Option Nat} {vl vh vm : Option Value} (hl : optV lo vl) (hh : optV hi vh) (hm : optV (some m) vm) (h1 : lo.getD 0 = m) (h2 : hi.getD (m + 1) = m) (h3 : m ≤ cap) :
    (Instr.sliceBounds isS len cap vl vh vm).run P w = .ok (m, m, m) w := by
  cases vm with
  | none => exact hm.elim
  | some v =>
    obtain ⟨k, rfl⟩ := hm
    cases hi with
    | none => simp at h2
    | some h =>
      cases vh with
      | none => exact hh.elim
      | some v =>
        obtain ⟨k', rfl⟩ := hh
        simp only [Option.getD_some] at h2; subst h2
        cases lo with
        | none =>
          cases vl with
          | some v => exact hl.elim
          | none => simp only [Option.getD_none] at h1; subst h1; simp [Instr.sliceBounds, run_sliceBound0]
        | some l =>
          cases vl with
          | none => exact hl.elim
          | some v =>
            obtain ⟨k'', rfl⟩ := hl
            simp only [Option.getD_some] at h1; subst h1
            simp [Instr.sliceBounds, run_sliceBound h3, run_sliceBound (Nat.le_refl _)]
theorem x_slice {t e : Nat} {te : TI} {x : Operand} {lo hi mx : Option Operand} {A : Option Addr} {len cap l h m : Nat} (ht : P.underlying t = some (.slice e)) (he : tyOKB P e te = true) (hx : ρ x = .slice A len cap)
    (hb : (Instr.sliceBounds true len cap (lo.map ρ) (hi.map ρ) (mx.map ρ)).run P w = .ok (l, h, m) w) :
    (execOp ρ ⟨d, .slice t x lo hi mx, ty, pos, af, g⟩).run P w = .ok (.value (.slice (if m = l then A else A.map (·.add (l * te.size))) (h - l) (m - l))) w := by
  have hs := run_size (w := w) he
  simp [execOp, hx, Instr.sliceAt, Instr.slice, run_underlying ht, hb, hs]
theorem x_sliceS {t : Nat} {x : Operand} {lo hi : Option Operand} {s : ByteArray} {l h m : Nat} (ht : P.underlying t = some .string) (hx : ρ x = .string s)
    (hb : (Instr.sliceBounds false s.size s.size (lo.map ρ) (hi.map ρ) none).run P w = .ok (l, h, m) w) :
    (execOp ρ ⟨d, .slice t x lo hi none, ty, pos, af, g⟩).run P w = .ok (.value (.string (s.extract l h))) w := by
  simp [execOp, hx, Instr.sliceAt, Instr.slice, run_underlying ht, hb]
theorem ble_t {a b : Nat} (h : Nat.ble a b = true) : a ≤ b := by simpa using h
theorem vw_ok {zz : Bool} {o off n m lc : Nat} {l : Loc} {lo hi : Option Nat} {a : AV} {A0 : Option Addr} (hl : φ o = .at zz l) (h : vwOf o off n m lo hi = some a) (hn : off + m ≤ l.n) (hc : lc + off = l.c) (hnc : l.n ≤ l.c) (hA : 0 < lc → A0 = l.addr off ∧ A0 ≠ none) :
    lo.getD 0 ≤ hi.getD n ∧ hi.getD n ≤ lc ∧ VR w Y φ a (.slice (if lc = lo.getD 0 then A0 else A0.map (·.add (lo.getD 0 * l.sz))) (hi.getD n - lo.getD 0) (lc - lo.getD 0)) := by
  unfold vwOf at h
  cases hb : (Nat.ble (lo.getD 0) (hi.getD n) && Nat.ble (hi.getD n) m) with
  | false => simp [hb] at h
  | true =>
    simp only [hb, cond_true, Option.some.injEq] at h; subst h
    rw [Bool.and_eq_true] at hb
    have h1 := ble_t hb.1
    have h2 := ble_t hb.2
    refine ⟨h1, by omega, ?_⟩
    simp only [VR]
    refine ⟨rfl, (by rw [hl]; intro k; cases k), fun _ l' hl' => ?_⟩
    rw [hl] at hl'; cases hl'
    refine ⟨_, _, rfl, by omega, by omega, fun hpos => ?_⟩
    rw [if_neg (by omega)]
    obtain ⟨h3, h4⟩ := hA (by omega)
    rw [h3] at h4 ⊢
    unfold Loc.addr at h4 ⊢
    cases hA' : l.A with
    | none => simp [hA'] at h4
    | some a =>
      simp only [Option.map_some, Addr.add_mid]
      exact ⟨by rw [Nat.add_mul, Nat.add_assoc], by simp⟩
theorem g_slice {t : Nat} {x : Operand} {lo hi mx : Option Operand} {v : AV} (hC : CfgOK P C) (hH : HR X φ H w) (hρ : ∀ x, VR w (YOf X φ) φ (ra x) (ρ x)) (h : evSlice C H t (ra x) (lo.map ra) (hi.map ra) (mx.map ra) = some v) :
    ∃ u, (execOp ρ ⟨d, .slice t x lo hi mx, ty, pos, af, g⟩).run P w = .ok (.value u) w ∧ VR w (YOf X φ) φ v u := by
  unfold evSlice at h
  have hx := hρ x
  split at h
  · rename_i ti lo' hi' mx' hti hlo hhi hmx
    have vlo := optV_of hρ hlo
    have vhi := optV_of hρ hhi
    have vmx := optV_of hρ hmx
    have mxn : mx' = none → mx.map ρ = none := fun e => by
      subst e
      cases hm : mx with
      | none => rfl
      | some q => rw [hm] at vmx; exact vmx.elim
    split at h
    · rename_i hk
      split at h
      · rename_i s hv
        rw [hv] at hx
        simp only [VR, PR] at hx
        have hmn := mxn rfl
        have : mx = none := by cases mx <;> simp_all
        subst this
        cases hb : (Nat.ble (lo'.getD 0) (hi'.getD s.size) && Nat.ble (hi'.getD s.size) s.size) with
        | false => simp [hb] at h
        | true =>
          simp only [hb, cond_true, Option.some.injEq] at h; subst h
          rw [Bool.and_eq_true] at hb
          refine ⟨_, x_sliceS (und_str (hC.ty t ti hti) hk) hx (run_bounds vlo vhi (ble_t hb.1) (ble_t hb.2)), ?_⟩
          simp only [VR, PR]
          congr 1
          apply bytes_eq
          rw [ByteArray.data_extract]
          simp [List.drop_take]
      · cases h
    · rename_i e hk
      have hu := und_sl (hC.ty t ti hti) hk
      split at h
      · cases h
      · rename_i te hte
        have hE := hC.ty e te hte
        split at h
        · rename_i sz es hv
          cases hb : (Nat.beq (lo'.getD 0) 0 && Nat.beq (hi'.getD 0) 0) with
          | false => simp [hb] at h
          | true =>
            simp only [hb, cond_true, Option.some.injEq] at h; subst h
            rw [Bool.and_eq_true, Nat.beq_eq, Nat.beq_eq] at hb
            rw [hv] at hx
            simp only [VR, PR, flOk] at hx
            obtain ⟨A, c, he, h1, h2, ⟨rfl, rfl⟩, h3⟩ := hx
            have hl0 : es.length = 0 := by omega
            rw [hl0] at he
            have hmn := mxn rfl
            refine ⟨_, x_slice hu hE he (by rw [hmn]; exact run_bounds vlo vhi (by omega) (by omega)), ?_⟩
            simp only [VR, PR, flOk]
            refine ⟨none, 0, ?_, by omega, by simp [maxLen], ⟨rfl, rfl⟩, .inl hl0⟩
            rw [hb.1, hb.2, hl0]; simp
        · rename_i sz es m hv
          cases hb : (Nat.beq (lo'.getD 0) 0 && Nat.beq (hi'.getD 1) 0 && Nat.beq m 0) with
          | false => simp [hb] at h
          | true =>
            simp only [hb, cond_true, Option.some.injEq] at h; subst h
            rw [Bool.and_eq_true, Bool.and_eq_true, Nat.beq_eq, Nat.beq_eq, Nat.beq_eq] at hb
            obtain ⟨⟨hb1, hb2⟩, rfl⟩ := hb
            rw [hv] at hx
            simp only [VR, PR, flOk] at hx
            obtain ⟨A, c, he, h1, h2, ⟨rfl, rfl⟩, h3⟩ := hx
            have hl0 : es.length = 0 := by omega
            rw [hl0] at he
            refine ⟨_, x_slice hu hE he (run_bounds3 vlo vhi vmx hb1 hb2 (Nat.le_refl _)), ?_⟩
            simp only [VR, PR, flOk]
            refine ⟨none, 0, ?_, by omega, by simp [maxLen], ⟨rfl, rfl⟩, .inl hl0⟩
            rw [hl0]; simp
        · rename_i f sz es _ hv
          cases hsz : Nat.beq sz te.size with
          | false => simp [hsz] at h
          | true =>
            rw [Nat.beq_eq] at hsz; subst hsz
            cases hb : (Nat.ble (lo'.getD 0) (hi'.getD es.length) && Nat.ble (hi'.getD es.length) es.length) with
            | false => simp [hb] at h
            | true =>
              simp [hb] at h; subst h
              rw [Bool.and_eq_true] at hb
              have hb1 := ble_t hb.1
              have hb2 := ble_t hb.2
              rw [hv] at hx
              simp only [VR, PR] at hx
              obtain ⟨A, c, he, h1, h2, _, h3⟩ := hx
              have hmn := mxn rfl
              refine ⟨_, x_slice hu hE he (by rw [hmn]; exact run_bounds vlo vhi hb1 (by omega)), ?_⟩
              simp only [VR, PR]
              have hlen : ((takeO hi' es).drop (lo'.getD 0)).length = hi'.getD es.length - lo'.getD 0 := by
                cases hi' with
                | none => simp [takeO]
                | some q => simp [takeO] at hb2 ⊢; omega
              refine ⟨_, c - lo'.getD 0, by rw [hlen], by omega, by omega, trivial, ?_⟩
              rw [hlen]
              rcases Nat.eq_zero_or_pos (hi'.getD es.length - lo'.getD 0) with h0 | hpos
              · exact .inl h0
              · rcases h3 with h3 | ⟨b, o, rfl, hY, hlt, hPE⟩
                · omega
                · right
                  rw [if_neg (by omega)]
                  refine ⟨b, o + lo'.getD 0 * te.size, by simp [Addr.add_mid], hY, hlt, PRE.drop ?_ _⟩
                  cases hi' with
                  | none => exact hPE
                  | some q => exact hPE.take q
        · rename_i f sz es m _ hv
          cases hb : (Nat.beq (lo'.getD 0) m && Nat.beq (hi'.getD (m + 1)) m && Nat.ble m es.length) with
          | false => simp [hb] at h
          | true =>
            simp only [hb, cond_true, Option.some.injEq] at h; subst h
            rw [Bool.and_eq_true, Bool.and_eq_true, Nat.beq_eq, Nat.beq_eq] at hb
            obtain ⟨⟨hb1, hb2⟩, hb3⟩ := hb
            have hb3 := ble_t hb3
            rw [hv] at hx
            simp only [VR, PR] at hx
            obtain ⟨A, c, he, h1, h2, _, h3⟩ := hx
            refine ⟨_, x_slice hu hE he (run_bounds3 vlo vhi vmx hb1 hb2 (by omega)), ?_⟩
            simp only [VR, PR, flOk]
            exact ⟨A, 0, by simp, by simp, by simp [maxLen], rfl, .inl rfl⟩
        · rename_i o hv
          split at h
          · rename_i fz sz es ho
            cases hsz : Nat.beq sz te.size with
            | false => simp [hsz] at h
            | true =>
              simp only [hsz, cond_true] at h
              rw [Nat.beq_eq] at hsz; subst hsz
              obtain ⟨z, l, hl, hO⟩ := hH.ob _ _ ho
              rw [hv] at hx
              simp only [VR] at hx
              have he := hx.2.2 _ l hl
              simp only [OR] at hO
              obtain ⟨hz, h1, h2, h3, h4, h5⟩ := hO
              have hmn := mxn rfl
              obtain ⟨k1, k2, k3⟩ := vw_ok (w := w) (Y := YOf X φ) (A0 := l.addr 0) (lc := l.c) hl h (by omega) (by omega) h3 (fun hc => ⟨rfl, by
                rcases h5 with ⟨_, h6⟩ | ⟨b, p, t, cs, hAl, _⟩
                · omega
                · simp [Loc.addr, hAl]⟩)
              rw [h1] at he
              refine ⟨_, x_slice hu hE he (by rw [hmn]; exact run_bounds vlo vhi k1 (by omega)), ?_⟩
              rw [← h2]; exact k3
          · cases h
        · rename_i o m hv
          split at h
          · rename_i fz sz es ho
            cases hb : (Nat.beq (lo'.getD 0) m && Nat.beq (hi'.getD (m + 1)) m && Nat.ble m es.length) with
            | false => simp [hb] at h
            | true =>
              simp only [hb, cond_true, Option.some.injEq] at h; subst h
              rw [Bool.and_eq_true, Bool.and_eq_true, Nat.beq_eq, Nat.beq_eq] at hb
              obtain ⟨⟨hb1, hb2⟩, hb3⟩ := hb
              have hb3 := ble_t hb3
              obtain ⟨z, l, hl, hO⟩ := hH.ob _ _ ho
              rw [hv] at hx
              simp only [VR] at hx
              have he := hx.2.2 _ l hl
              simp only [OR] at hO
              obtain ⟨hz, h1, h2, h3, h4, h5⟩ := hO
              refine ⟨_, x_slice hu hE he (run_bounds3 vlo vhi vmx hb1 hb2 (by omega)), ?_⟩
              simp only [VR, PR, flOk]
              exact ⟨l.addr 0, 0, by simp, by simp, by simp [maxLen], rfl, .inl rfl⟩
          · cases h
        · rename_i o off len hv
          split at h
          · rename_i fz sz es ho
            cases hsz : (Nat.beq sz te.size && Nat.ble off es.length) with
            | false => simp [hsz] at h
            | true =>
              simp only [hsz, cond_true] at h
              rw [Bool.and_eq_true, Nat.beq_eq] at hsz
              obtain ⟨hsz, hoff⟩ := hsz
              have hoff := ble_t hoff
              subst hsz
              obtain ⟨z, l, hl, hO⟩ := hH.ob _ _ ho
              rw [hv] at hx
              simp only [VR] at hx
              obtain ⟨A, c, he, hle, hc, hA⟩ := hx.2.2 _ l hl
              simp only [OR] at hO
              obtain ⟨hz, h1, h2, h3, h4, h5⟩ := hO
              have hmn := mxn rfl
              obtain ⟨k1, k2, k3⟩ := vw_ok (w := w) (Y := YOf X φ) hl h (by omega) hc h3 hA
              refine ⟨_, x_slice hu hE he (by rw [hmn]; exact run_bounds vlo vhi k1 k2), ?_⟩
              rw [← h2]; exact k3
          · cases h
        · cases h
    · cases h
  · cases h
end
end Go.Proofs.Ytelblamgfbkhbaa
