/- A walk through a map: one step gives any entry that was not met yet. No condition. -/
import Derived.Test.YtelblamgfbkhbaaTK
namespace Go.Proofs.Ytelblamgfbkhbaa
set_option linter.unusedSimpArgs false
set_option linter.unusedVariables false
open Go.RowKit
section
variable {P : Program} {C : Cfg} {w w' : World} {X : Nat → Prop} {φ φ' : Phi} {H H' : Hp} {nid n base : Nat} {s : Tr} {a : Act} {D : List Deferred} {st st' : Tr × Hp}
/-- A region that takes a step of a walk. -/
def isNextQ : Code → Option (Operand × Nat × Nat)
  | .region _ ops false => match ops.toList with
    | [⟨some t, .next x false, _, _, _, none⟩, ⟨some tb, .extract (.tmp t') 0, _, _, _, none⟩] => bif Nat.beq t t' then some (x, t, tb) else none
    | _ => none
  | _ => none
def nextS (n : Nat) (st : Tr × Hp) (t tb : Nat) (v : List AV) (b : Bool) (H : Hp) : Tr × Hp := (putO n (putO n st.1 (some t) (.tup (.pl (.bool b) :: v))) (some tb) (.pl (.bool b)), H)
theorem T.next (hC : CfgOK P C) {c : Code} {x : Operand} {t tb i o m : Nat} {seen : List Nat} {kvs : List (PV × PV)} {Q : Ex × Tr × Hp → Prop} (hq : isNextQ c = some (x, t, tb)) (ht : Nat.blt t n = true) (hx : val st.1 x = .it i) (hi : hget st.2 i = some (.iter o m seen)) (ho : hget st.2 o = some (.map kvs)) (hm : kvs.length = m)
    (h0 : (∀ j, j < m → j ∈ seen) → Q (.norm, nextS n st t tb [] false st.2))
    (h1 : ∀ j k v, j < m → j ∉ seen → kvs[j]? = some (k, v) → Q (.norm, nextS n st t tb [.pl k, .pl v] true (hset st.2 i (some (.iter o m (seen ++ [j])))))) : T P n base c st Q := by
  unfold isNextQ at hq
  split at hq
  · rename_i id ops
    split at hq
    · rename_i d3 x0 ty1 p1 a1 d4 t' ty2 p2 a2 hops
      cases hb3 : Nat.beq d3 t' with
      | false => simp [hb3] at hq
      | true =>
        simp only [hb3, cond_true, Option.some.injEq, Prod.mk.injEq] at hq
        obtain ⟨rfl, rfl, rfl⟩ := hq
        obtain rfl : d3 = t' := Nat.eq_of_beq_eq_true hb3
        intro _ D X φ a w hS hb
        refine wp_region_list ?_
        rw [hops]
        unfold wpList
        rw [if_pos (by rfl)]
        have hcall : CallOK P (fun _ _ _ _ => none) := fun _ _ _ _ _ h => by cases h
        obtain ⟨outs, hev, hout⟩ : ∃ outs, evNext st.2 (.it i) = some outs ∧ ∀ r ∈ outs, Q (.norm, (putO n (putO n st.1 (some d3) r.1) (some d4) (match r.1 with | .tup (b :: _) => b | _ => .un), r.2)) ∧ ∃ b vs, r.1 = .tup (b :: vs) := by
          unfold evNext
          simp only [hi, ho]
          rw [hm]
          simp only [Nat.beq_refl, cond_true]
          cases hl : (List.range m).filter (fun j => !(seen.any (Nat.beq j))) with
          | nil =>
            refine ⟨_, rfl, fun r hr => ?_⟩
            rw [List.mem_singleton] at hr; subst hr
            refine ⟨h0 fun j hj => ?_, _, _, rfl⟩
            have := List.filter_eq_nil_iff.1 hl j (List.mem_range.2 hj)
            simp only [Bool.not_eq_true', Bool.not_eq_false, List.any_eq_true] at this
            obtain ⟨q, hq, e⟩ := this
            rw [Nat.eq_of_beq_eq_true e]; exact hq
          | cons a0 l0 =>
            refine ⟨_, rfl, fun r hr => ?_⟩
            obtain ⟨j, hj, rfl⟩ := List.mem_map.1 hr
            have hj2 : j ∈ (List.range m).filter (fun j => !(seen.any (Nat.beq j))) := by rw [hl]; exact hj
            rw [List.mem_filter, List.mem_range] at hj2
            obtain ⟨hlt, hns⟩ := hj2
            have hx2 : kvs[j]? = some kvs[j] := List.getElem?_eq_getElem (by omega)
            simp only [hx2]
            refine ⟨h1 j kvs[j].1 kvs[j].2 hlt (fun hc => ?_) hx2, _, _, rfl⟩
            have : seen.any (Nat.beq j) = true := List.any_eq_true.2 ⟨j, hc, by simp⟩
            rw [this] at hns; cases hns
        refine .inl (op_ok hC hcall hS.hr hS.hr.free hS.val (outs := outs) (by unfold evOp; simp only [hx, hev]) fun v' w' hn => ?_)
        obtain ⟨r, hr, φ', k1, k2, k3, k4, k5⟩ := hn
        obtain ⟨hQ, b, vs, hr1⟩ := hout r hr
        have hS2 := hS.put k3 k2 k1 (some d3)
        unfold wpList
        rw [if_pos (by rfl)]
        have hg : (putO n st.1 (some d3) r.1).get 12 d3 = r.1 ∨ (putO n st.1 (some d3) r.1).get 12 d3 = .un := by
          simp only [putO, ht, cond_true]
          exact get_put_self 12 _ _ _
        have hd : d3 < a.tmps.size := by rw [hS.size]; exact (Nat.blt_eq ▸ ht : d3 < n)
        have hval : (a.put (some d3) v').eval (.tmp d3) = v' := by
          simp only [Act.eval, Act.put]
          simp [Array.getD_eq_getD_getElem?, Array.getElem?_setIfInBounds, hd]
        have hvr : ∀ y, VR w' (YOf X φ') φ' ((fun y => match y with | .tmp q => bif Nat.beq q d3 then r.1 else .un | _ => .un : Operand → AV) y) ((a.put (some d3) v').eval y) := fun y => by
          cases y with
          | tmp q =>
            simp only
            rcases beq_cases q d3 with ⟨hb, e⟩ | ⟨hb, e⟩
            · subst e; rw [hb, cond_true, hval]; exact k1
            · rw [hb]; simp only [cond_false, VR]
          | _ => simp only [VR]
        refine .inl (op_pure (nid := r.2.length) hC k2 k2.free hvr (outs := [(b, r.2)]) (by simp only [evPure, Nat.beq_refl, cond_true, hr1]; rfl) fun v2 w2 hn2 => ?_)
        obtain ⟨r2, hr2, φ2, m1, m2, m3, m4, m5⟩ := hn2
        rw [List.mem_singleton] at hr2; subst hr2
        unfold wpList
        refine ⟨_, hQ, rfl, φ2, ?_, ?_, ?_⟩
        · have := hS2.put m3 m2 m1 (some d4)
          rw [hr1]; rw [hr1] at this; exact this
        · exact (k3.b fun o ho e => k5 o (by omega) (by omega) e).trans (m3.b fun o ho e => m5 o (by simp only at m4 k4; omega) (by omega) e)
        · simp only at m4 ⊢; omega
    · cases hq
  · cases hq
end
end Go.Proofs.Ytelblamgfbkhbaa
