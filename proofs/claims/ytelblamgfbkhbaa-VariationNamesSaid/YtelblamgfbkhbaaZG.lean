/- The clean machine is sound, fifth part: slices of slices and strings, and the rest. No condition. -/
import Derived.Test.YtelblamgfbkhbaaZF
import Derived.Lib.ConvBytes
import Derived.Laws.AppendOwn
import Derived.Laws.BytesString
namespace Go.Proofs.Ytelblamgfbkhbaa
set_option linter.unusedSimpArgs false
set_option linter.unusedVariables false
open Go.RowKit
section
variable {P : Program} {C : Cfg} {w w' : World} {Y X : Nat → Prop} {φ : Phi} {H : Hp}
variable {nid : Nat} {ρ : Operand → Value} {ra : Operand → AV} {d : Option Tmp} {ty : TypeId} {pos : String} {af : Array Edge} {g : Option (Nat × Bool)}
theorem g_index {t : Nat} {x y : Operand} {a i v : AV} (hC : CfgOK P C) (h : evIndex C t a i = some v) (hx : VR w (YOf X φ) φ a (ρ x)) (hy : VR w (YOf X φ) φ i (ρ y)) :
    ∃ u, (execOp ρ ⟨d, .index t x y, ty, pos, af, g⟩).run P w = .ok (.value u) w ∧ VR w (YOf X φ) φ v u := by
  unfold evIndex at h
  split at h
  · rename_i ti s k n hti
    simp only [VR, PR] at hx hy
    split at h
    · rename_i i' hk hn
      have hn := natOf_eq hn
      subst hn
      simp only [Option.map_eq_some_iff] at h
      obtain ⟨b, hb, rfl⟩ := h
      have hlt : i' < s.size := by have := (List.getElem?_eq_some_iff.1 hb).1; simpa using this
      have hb2 : s[i']? = some b := by
        have : s.data[i']? = some b := by simpa using hb
        obtain ⟨h1, h2⟩ := Array.getElem?_eq_some_iff.1 this
        rw [getElem?_pos s i' hlt]; exact congrArg some h2
      have h0 : (0 : Int) ≤ i' := by omega
      refine ⟨.int .u8 b.toNat, ?_, by simp only [VR, PR]⟩
      simp [execOp, hx, hy, Instr.index, asIntOf, run_underlying (und_str (hC.ty t ti hti) hk), h0, hb2]
    · cases h
  · rename_i ti cs k n hti
    simp only [VR, PR] at hx hy
    obtain ⟨vs, hv, hl⟩ := hx
    split at h
    · rename_i m e i' hk hn
      have hn := natOf_eq hn
      subst hn
      split at h
      · rename_i te hte
        cases hb : (Nat.blt i' m && Nat.ble ((i' + 1) * te.size) cs.length) with
        | false => simp [hb] at h
        | true =>
          simp only [hb, cond_true] at h
          rw [Bool.and_eq_true, Nat.blt_eq] at hb
          obtain ⟨hb1, hb2⟩ := hb
          have hb2 : (i' + 1) * te.size ≤ cs.length := by simpa using hb2
          rw [Nat.succ_mul] at hb2
          have hlen := hl.length
          have hE := hC.ty e te hte
          have h0 : (0 : Int) ≤ i' := by omega
          have hz := run_size (w := w) hE
          cases hr : te.k.row with
          | true =>
            simp only [hr, cond_true, Option.some.injEq] at h; subst h
            have hp := run_part (w := w) (off := i' * te.size) hE (vs := vs) (by omega) (fun h => by rw [hr] at h; cases h)
            refine ⟨_, ?_, by simp only [VR, PR]; exact ⟨_, rfl, (hl.drop (i' * te.size)).take te.size⟩⟩
            rw [hr] at hp
            simp [execOp, hv, hy, Instr.index, asIntOf, run_underlying (und_arr (hC.ty t ti hti) hk), h0, hb1, hz, hp, vAt]
          | false =>
            simp only [hr, cond_false, Option.map_eq_some_iff] at h
            obtain ⟨c, hc, rfl⟩ := h
            have hlt : i' * te.size < cs.length := (List.getElem?_eq_some_iff.1 hc).1
            obtain ⟨u, h1, _, h2⟩ := VRL.at (φ := φ) hl.vrl (i := i' * te.size) (c := .pl c) (by rw [List.getElem?_map, hc]; rfl)
            have hag : (isAgg e).run P w = .ok false w := by
              obtain ⟨uu, hu, hrr⟩ := und_row hE
              exact run_isAgg_no hu (by rw [hrr, hr])
            refine ⟨u, ?_, h2⟩
            have h3 : vs.toArray[i' * te.size]? = some u := by simpa using h1
            simp [execOp, hv, hy, Instr.index, asIntOf, run_underlying (und_arr (hC.ty t ti hti) hk), h0, hb1, hz, part, hag]
            simp only [List.getElem?_toArray] at h3
            rw [h3]; simp
      · cases h
    · cases h
  · cases h
theorem g_pick {c x y : Operand} {v : AV} {H' : Hp} (hρ : ∀ x, VR w (YOf X φ) φ (ra x) (ρ x)) (h : evPure C nid ra H (.pick c x y) = some (v, H')) :
    H' = H ∧ ∃ u, (execOp ρ ⟨d, .pick c x y, ty, pos, af, g⟩).run P w = .ok (.value u) w ∧ VR w (YOf X φ) φ v u := by
  simp only [evPure] at h
  split at h
  · rename_i b hb
    simp only [Option.some.injEq, Prod.mk.injEq] at h; obtain ⟨rfl, rfl⟩ := h
    have hc := hρ c
    rw [hb] at hc
    simp only [VR, PR] at hc
    refine ⟨rfl, _, x_pick hc rfl, ?_⟩
    cases b
    · exact hρ y
    · exact hρ x
  · cases h
theorem g_extract {t : Operand} {i : Nat} {v : AV} {H' : Hp} (hρ : ∀ x, VR w (YOf X φ) φ (ra x) (ρ x)) (h : evPure C nid ra H (.extract t i) = some (v, H')) :
    H' = H ∧ ∃ u, (execOp ρ ⟨d, .extract t i, ty, pos, af, g⟩).run P w = .ok (.value u) w ∧ VR w (YOf X φ) φ v u := by
  simp only [evPure] at h
  split at h
  · rename_i vs hv
    simp only [Option.map_eq_some_iff, Prod.mk.injEq] at h
    obtain ⟨a, ha, rfl, rfl⟩ := h
    have ht := hρ t
    rw [hv] at ht
    simp only [VR] at ht
    obtain ⟨us, he, hl⟩ := ht
    obtain ⟨u, h1, h2⟩ := VRT.at hl ha
    exact ⟨rfl, u, x_extract he (by simpa using h1), h2⟩
  · cases h
theorem x_nilCheckF {x : Operand} {f : Nat} {a b : Array Value} (hx : ρ x = .func (.func f) a b) : (execOp ρ ⟨d, .nilCheck x, ty, pos, af, g⟩).run P w = .ok (.value (.func (.func f) a b)) w := by
  simp [execOp, hx]
theorem g_nilCheck {x : Operand} {v : AV} {H' : Hp} (hH : HR X φ H w) (hρ : ∀ x, VR w (YOf X φ) φ (ra x) (ρ x)) (h : evPure C nid ra H (.nilCheck x) = some (v, H')) :
    H' = H ∧ ∃ u, (execOp ρ ⟨d, .nilCheck x, ty, pos, af, g⟩).run P w = .ok (.value u) w ∧ VR w (YOf X φ) φ v u := by
  simp only [evPure] at h
  have hx := hρ x
  split at h
  · rename_i f hv
    simp only [Option.some.injEq, Prod.mk.injEq] at h; obtain ⟨rfl, rfl⟩ := h
    rw [hv] at hx
    have hx' := hx
    simp only [VR, PR] at hx
    exact ⟨rfl, _, x_nilCheckF hx, by rw [← hx]; exact hx'⟩
  · rename_i f cs hv
    simp only [Option.some.injEq, Prod.mk.injEq] at h; obtain ⟨rfl, rfl⟩ := h
    rw [hv] at hx
    have hx' := hx
    simp only [VR] at hx
    obtain ⟨us, he, _⟩ := hx
    exact ⟨rfl, _, x_nilCheckF he, by rw [← he]; exact hx'⟩
  · rename_i o i hv
    cases ha : alive H o with
    | false => simp [ha] at h
    | true =>
      simp only [ha, cond_true, Option.some.injEq, Prod.mk.injEq] at h; obtain ⟨rfl, rfl⟩ := h
      obtain ⟨_, l, hl⟩ := alive_live hH ha
      rw [hv] at hx
      have hx' := hx
      simp only [VR] at hx
      obtain ⟨b, _, he⟩ := hx.2.2 _ l hl
      exact ⟨rfl, _, x_nilCheck he, by rw [← he]; exact hx'⟩
  · rename_i o i j hv
    cases ha : alive H o with
    | false => simp [ha] at h
    | true =>
      simp only [ha, cond_true, Option.some.injEq, Prod.mk.injEq] at h; obtain ⟨rfl, rfl⟩ := h
      obtain ⟨_, l, hl⟩ := alive_live hH ha
      rw [hv] at hx
      have hx' := hx
      simp only [VR] at hx
      obtain ⟨b, p, _, he⟩ := hx.2.2 _ l hl
      exact ⟨rfl, _, x_nilCheck he, by rw [← he]; exact hx'⟩
  · rename_i c i hv
    simp only [Option.some.injEq, Prod.mk.injEq] at h; obtain ⟨rfl, rfl⟩ := h
    rw [hv] at hx
    have hx' := hx
    simp only [VR] at hx
    obtain ⟨b, o, he, _⟩ := hx
    exact ⟨rfl, _, x_nilCheck he, by rw [← he]; exact hx'⟩
  · cases h
theorem g_un {op : UnOp} {t : Nat} {x : Operand} {a v : AV} (h : evUn op a = some v) (hx : VR w (YOf X φ) φ a (ρ x)) :
    ∃ u, (execOp ρ ⟨d, .unOp op t x, ty, pos, af, g⟩).run P w = .ok (.value u) w ∧ VR w (YOf X φ) φ v u := by
  unfold evUn at h
  split at h
  · simp only [Option.some.injEq] at h; subst h
    simp only [VR, PR] at hx
    exact ⟨_, by simp [execOp, hx, Op.unary, Op.intArith]; rfl, by simp [VR, PR]⟩
  · simp only [Option.some.injEq] at h; subst h
    simp only [VR, PR] at hx
    exact ⟨_, x_not hx, by simp only [VR, PR]⟩
  · simp only [VR, PR] at hx
    rename_i k n
    simp only [binI, Option.map_some, Option.some.injEq] at h; subst h
    exact ⟨_, by simp [execOp, hx, Op.unary, Op.intBits]; rfl, by simp [VR, PR]⟩
  · cases h
theorem pre_bytes {b : Nat} : ∀ (l : List UInt8) (o : Nat), (∀ j c, l[j]? = some c → w.cell? ⟨b, o + j, none⟩ = some (.int .u8 (c.toNat : Int))) → PRE w Y b 1 o (l.map fun c => [.int .u8 (c.toNat : Int)])
  | [], o, _ => by simp only [List.map_nil, PRE]
  | c :: l, o, h => by
    simp only [List.map_cons, PRE, PRC, PR]
    refine ⟨rfl, ⟨⟨_, by simpa using h 0 c rfl, rfl, rfl⟩, trivial⟩, pre_bytes l (o + 1) fun j d hd => ?_⟩
    have := h (j + 1) d (by simpa using hd)
    rwa [show o + 1 + j = o + (j + 1) from by omega]
theorem bytes_cells {b : Nat} : ∀ {es : List (List PV)} {bs : List UInt8} {o : Nat}, bytesOf es = some bs → PRE w Y b 1 o es → ∃ ns : List Int, bs = ns.map (fun n => UInt8.ofNat n.toNat) ∧ ns.length = es.length ∧ ∀ j n, ns[j]? = some n → w.cell? ⟨b, o + j, none⟩ = some (.int .u8 n)
  | [], bs, o, h, _ => by
    simp only [bytesOf, Option.some.injEq] at h; subst h
    exact ⟨[], rfl, rfl, fun j n h => by simp at h⟩
  | e :: es, bs, o, h, hp => by
    unfold bytesOf at h
    split at h
    · simp at *
    · rename_i n r heq
      simp only [List.cons.injEq] at heq
      obtain ⟨rfl, rfl⟩ := heq
      obtain ⟨bs', h1, rfl⟩ := Option.map_eq_some_iff.1 h
      simp only [PRE, PRC, PR] at hp
      obtain ⟨_, ⟨⟨v, hv, _, rfl⟩, _⟩, hr⟩ := hp
      obtain ⟨ns, rfl, k2, k3⟩ := bytes_cells h1 hr
      refine ⟨n :: ns, rfl, by simp [k2], fun j m hj => ?_⟩
      cases j with
      | zero => simp at hj; subst hj; simpa using hv
      | succ j =>
        have := k3 j m (by simpa using hj)
        rwa [show o + (j + 1) = o + 1 + j from by omega]
    · cases h
theorem fold_push : ∀ (ns : List Int) (s : ByteArray), (ns.foldl (fun r n => r.push (UInt8.ofNat n.toNat)) s).data.toList = s.data.toList ++ ns.map (fun n => UInt8.ofNat n.toNat)
  | [], s => by simp
  | n :: ns, s => by rw [List.foldl_cons, fold_push ns]; simp [ByteArray.push]
theorem g_convert {s t : Nat} {x : Operand} {v : AV} {H' : Hp} (hC : CfgOK P C) (hH : HR X φ H w) (hρ : ∀ x, VR w (YOf X φ) φ (ra x) (ρ x)) (h : evPure C nid ra H (.convert s t x) = some (v, H')) :
    Good nid H X φ w v H' ((execOp ρ ⟨d, .convert s t x, ty, pos, af, g⟩).run P w) := by
  simp only [evPure, Option.map_eq_some_iff, Prod.mk.injEq] at h
  obtain ⟨v0, h, rfl, rfl⟩ := h
  unfold evConv at h
  have hx := hρ x
  split at h
  · rename_i ts td k n hs ht hv
    rw [hv] at hx
    simp only [VR, PR] at hx
    split at h
    · rename_i k' hk
      simp only [Option.some.injEq] at h; subst h
      obtain ⟨us, hu, _⟩ := tyOK_und (hC.ty s ts hs)
      refine good_val (v' := .int k' (k'.wrap n)) ?_ (by simp only [VR, PR]) hH
      cases us <;> simp [execOp, hx, convert, run_underlying hu, run_underlying (und_int (hC.ty t td ht) hk), Conv.intToInt]
    · cases h
  · rename_i ts td b hs ht hv
    rw [hv] at hx
    simp only [VR, PR] at hx
    obtain ⟨us, hu, _⟩ := tyOK_und (hC.ty s ts hs)
    split at h
    · rename_i hk
      simp only [Option.some.injEq] at h; subst h
      refine good_val (v' := .string b) ?_ (by simp only [VR, PR]) hH
      cases us <;> simp [execOp, hx, convert, run_underlying hu, run_underlying (und_str (hC.ty t td ht) hk)]
    · rename_i e hk
      split at h
      · rename_i te hte
        split at h
        · rename_i hke
          cases hb : (Nat.ble b.size 9223372036854775807 && Nat.beq te.size 1) with
          | false => simp [hb] at h
          | true =>
            simp only [hb, cond_true, Option.some.injEq] at h; subst h
            rw [Bool.and_eq_true] at hb
            have hmax : b.size ≤ maxLen := Nat.le_of_ble_eq_true hb.1
            have hlen : (b.data.toList.map fun c => ([.int .u8 (c.toNat : Int)] : List PV)).length = b.size := by rw [List.length_map]; exact Array.length_toList
            have hrun := Go.Lib.run_convert_string_bytes (P := P) w s t e b hu (und_sl (hC.ty t td ht) hk) (und_int (hC.ty e te hte) hke)
            have ev : Ev φ w φ (Go.Lib.bytesWorld w e b) := ⟨rfl, rfl, ⟨rfl, by unfold Go.Lib.bytesWorld; exact Nat.le_succ _⟩, by rw [Go.Lib.bytesWorld_size]; omega, fun q hq _ => Go.Lib.bytesWorld_at_old w e b q hq, fun _ _ h => h, fun _ _ => .inl rfl⟩
            have hnY : ¬ YOf X φ w.heap.size := fun hc => by
              rcases hc with hc | ⟨o, l, p, ho, hA⟩
              · exact absurd (hH.xlt _ hc) (Nat.lt_irrefl _)
              · exact absurd (hH.out o l _ p ho hA).2 (Nat.lt_irrefl _)
            refine ⟨_, .slice (some ⟨w.heap.size, 0, none⟩) b.size (grownCap w b.size 0 e), Go.Lib.bytesWorld w e b, φ, by simp [execOp, hx, hrun, Result.andThen], .inl rfl, ?_, ?_, ev, Nat.le_refl _, fun _ _ h => h⟩
            · simp only [VR, PR, flOk]
              refine ⟨some ⟨w.heap.size, 0, none⟩, grownCap w b.size 0 e, by rw [hlen], by rw [hlen]; exact grownCap_ge w b.size 0 e, grownCap_le_maxLen w _ _ e hmax, trivial, .inr ⟨w.heap.size, 0, rfl, hnY, by rw [Go.Lib.bytesWorld_size]; omega, pre_bytes _ 0 fun j c hj => ?_⟩⟩
              have hjl : j < b.size := by have := (List.getElem?_eq_some_iff.1 hj).1; rw [Array.length_toList] at this; exact this
              rw [Nat.zero_add, Go.Lib.bytesWorld_cell w e b j hjl, List.getD, hj]; rfl
            · exact hH.next ev hH.fresh hH.live (fun o x hx => .inl ⟨hx, rfl, fun l q p hl hA => Go.Lib.bytesWorld_at_old w e b q (hH.out o l q p hl hA).2⟩) (fun o l q p ho _ => .inl ho)
        · cases h
      · cases h
    · cases h
  · rename_i ts td f sz es hs ht hv
    rw [hv] at hx
    simp only [VR, PR] at hx
    obtain ⟨A, c, hxv, hle, hc, _, hA⟩ := hx
    split at h
    · rename_i e hk hks
      split at h
      · rename_i te hte
        split at h
        · rename_i bs hke hbs
          cases hb : Nat.beq sz 1 with
          | false => simp [hb] at h
          | true =>
            simp only [hb, cond_true, Option.some.injEq] at h; subst h
            have hrun : (Conv.bytesToString (ρ x)).run P w = .ok (.string ⟨bs.toArray⟩) w := by
              rw [hxv]
              cases A with
              | none =>
                have : es.length = 0 := hA.elim id fun ⟨b, o, e, _⟩ => by cases e
                have he : es = [] := List.eq_nil_of_length_eq_zero this
                subst he
                simp only [bytesOf, Option.some.injEq] at hbs; subst hbs
                rfl
              | some a =>
                rcases hA with h0 | ⟨b, o, e, _, _, hpre⟩
                · have he : es = [] := List.eq_nil_of_length_eq_zero h0
                  subst he
                  simp only [bytesOf, Option.some.injEq] at hbs; subst hbs
                  exact run_bytesToString (P := P) w a 0 c [] (run_loadCells_list w a [] (fun j v h => by simp at h))
                · cases e
                  have hsz : sz = 1 := Nat.eq_of_beq_eq_true hb
                  subst hsz
                  obtain ⟨ns, k1, k2, k3⟩ := bytes_cells hbs hpre
                  have hl := run_loadCells_list (P := P) w ⟨b, o, none⟩ (ns.map (Value.int .u8)) (fun j v hj => by
                    rw [List.getElem?_map] at hj
                    cases hn : ns[j]? with
                    | none => rw [hn] at hj; cases hj
                    | some n =>
                      rw [hn] at hj; simp only [Option.map_some, Option.some.injEq] at hj; subst hj
                      have := k3 j n hn
                      unfold Addr.add
                      split
                      · rename_i h0; subst h0; simpa using this
                      · exact this)
                  rw [List.length_map, k2] at hl
                  rw [run_bytesToString w ⟨b, o, none⟩ es.length c ns hl, k1]
                  congr 2
                  exact bytes_eq (by rw [fold_push]; simp)
            refine good_val (v' := .string ⟨bs.toArray⟩) ?_ (by simp only [VR, PR]) hH
            have hcv := run_convert_bytes_string (P := P) w s t e A es.length c (und_sl (hC.ty s ts hs) hks) (und_int (hC.ty e te hte) hke) (und_str (hC.ty t td ht) hk)
            rw [hxv] at hrun
            simp [execOp, hxv, hcv, hrun, Result.andThen]
        · cases h
      · cases h
    · cases h
  · cases h
theorem vrt_of (hρ : ∀ x, VR w Y φ (ra x) (ρ x)) : ∀ xs : List Operand, VRT w Y φ (xs.map ra) (xs.map ρ)
  | [] => by simp [VRT]
  | x :: xs => by simp only [List.map_cons, VRT]; exact ⟨_, _, rfl, hρ x, vrt_of hρ xs⟩
theorem g_makeFunc {fn : Fn} {first cs : Array Operand} {v : AV} {H' : Hp} (hρ : ∀ x, VR w (YOf X φ) φ (ra x) (ρ x)) (h : evPure C nid ra H (.makeFunc fn first cs) = some (v, H')) :
    H' = H ∧ ∃ u, (execOp ρ ⟨d, .makeFunc fn first cs, ty, pos, af, g⟩).run P w = .ok (.value u) w ∧ VR w (YOf X φ) φ v u := by
  obtain ⟨f, rfl⟩ : ∃ f, fn = .func f := by cases fn <;> first | exact ⟨_, rfl⟩ | cases h
  simp only [evPure] at h
  cases hf : first.isEmpty with
  | false => simp [hf] at h
  | true =>
    simp only [hf, cond_true] at h
    have hfe : first = #[] := Array.isEmpty_iff.1 hf
    subst hfe
    have hvs := vrt_of (w := w) (Y := YOf X φ) (φ := φ) hρ cs.toList
    have hmap : cs.map ρ = (cs.toList.map ρ).toArray := by rw [← List.map_toArray]
    split at h
    · rename_i hnil
      simp only [Option.some.injEq, Prod.mk.injEq] at h; obtain ⟨rfl, rfl⟩ := h
      have hcs : cs = #[] := by
        have : cs.toList = [] := List.map_eq_nil_iff.1 hnil
        exact Array.toList_eq_nil_iff.1 this
      subst hcs
      exact ⟨rfl, .func (.func f) #[] #[], x_makeFunc (by simp) (by simp), by simp only [VR, PR]⟩
    · simp only [Option.some.injEq, Prod.mk.injEq] at h; obtain ⟨rfl, rfl⟩ := h
      exact ⟨rfl, _, x_makeFunc (fs := #[]) (by simp) hmap, by simp only [VR]; exact ⟨_, rfl, hvs⟩⟩
end
end Go.Proofs.Ytelblamgfbkhbaa
