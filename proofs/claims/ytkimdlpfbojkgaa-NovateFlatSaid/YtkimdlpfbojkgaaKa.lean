/- Regions that draw their order, with guards that are known. No condition. -/
import Derived.Test.YtkimdlpfbojkgaaM
namespace Go.Proofs.Ytkimdlpfbojkgaa
open Go.RowKit
section
variable {P : Program} {ops : Array Oper} {Q : Exit → Act → World → Prop} {K : Act → World → Prop} {n : Nat} {l : List (Nat × Value)} {w w' : World} {S : World → Prop} {fuel : Nat} {listed : Array Bool}
variable {N : Act → World → Prop} {X : Nat → Act → World → Prop} {R : Act → World → Prop}
theorem dTg {i d j t : Nat} {b : Bool} {op : Op} {ty : TypeId} {pos : String} {af : Array Edge} {v : Value} (hi : ops[i]? = some ⟨some d, op, ty, pos, af, some (j, b)⟩)
    (h1 : (ops[j]?).bind (·.dst) = some t) (hn : Nat.blt t n = true) (h2 : look l t = .bool b) (hs : Region.noSelect ops = true) (hf : (Region.free .any ops listed i && (Region.ready .any ops listed).contains i) = true)
    (hd : Nat.blt d n = true) (hS : S w) (hy : ∀ w, S w → (execOp (fr n l).eval ⟨some d, op, ty, pos, af, some (j, b)⟩).run P w = .ok (.value v) w)
    (h : wpAnyH P .any ops (post4 N X R) S fuel (listed.setIfInBounds i true) (fr n ((d, v) :: l)) w) : wpAnyH P .any ops (post4 N X R) S (fuel + 1) listed (fr n l) w := by
  rw [Bool.and_eq_true] at hf
  refine wpAnyH_take hi hs hf.1 hf.2 (fun _ _ _ h => h) (.inl ⟨by simp [Region.wanted, yielded_fr h1 hn h2], hy⟩) hS ?_
  rw [put_fr hd]
  exact h
theorem dTf {i d j t : Nat} {b b' : Bool} {op : Op} {ty : TypeId} {pos : String} {af : Array Edge} (hi : ops[i]? = some ⟨some d, op, ty, pos, af, some (j, b)⟩)
    (h1 : (ops[j]?).bind (·.dst) = some t) (hn : Nat.blt t n = true) (h2 : look l t = .bool b') (hb : (b' == b) = false) (hs : Region.noSelect ops = true) (hf : (Region.free .any ops listed i && (Region.ready .any ops listed).contains i) = true)
    (hd : Nat.blt d n = true) (hS : S w)
    (h : wpAnyH P .any ops (post4 N X R) S fuel (listed.setIfInBounds i true) (fr n ((d, undef) :: l)) w) : wpAnyH P .any ops (post4 N X R) S (fuel + 1) listed (fr n l) w := by
  rw [Bool.and_eq_true] at hf
  refine wpAnyH_take hi hs hf.1 hf.2 (fun _ _ _ h => h) (.inr ⟨?_, rfl⟩) hS ?_
  · simp [Region.wanted, yielded_fr h1 hn h2]; simpa using hb
  rw [put_fr hd]
  exact h
theorem dTu {i d j t : Nat} {b : Bool} {op : Op} {ty : TypeId} {pos : String} {af : Array Edge} (hi : ops[i]? = some ⟨some d, op, ty, pos, af, some (j, b)⟩)
    (h1 : (ops[j]?).bind (·.dst) = some t) (hn : Nat.blt t n = true) (h2 : look l t = undef) (hs : Region.noSelect ops = true) (hf : (Region.free .any ops listed i && (Region.ready .any ops listed).contains i) = true)
    (hd : Nat.blt d n = true) (hS : S w)
    (h : wpAnyH P .any ops (post4 N X R) S fuel (listed.setIfInBounds i true) (fr n ((d, undef) :: l)) w) : wpAnyH P .any ops (post4 N X R) S (fuel + 1) listed (fr n l) w := by
  rw [Bool.and_eq_true] at hf
  refine wpAnyH_take hi hs hf.1 hf.2 (fun _ _ _ h => h) (.inr ⟨by simp [Region.wanted, yielded_undef h1 hn h2], rfl⟩) hS ?_
  rw [put_fr hd]
  exact h
theorem dsCg {i d j t : Nat} {b : Bool} {op : Op} {ty : TypeId} {pos : String} {af : Array Edge} {f : Nat} {args : Array Value} {Rr : Ending → World → Prop} (hi : ops[i]? = some ⟨some d, op, ty, pos, af, some (j, b)⟩)
    (h1 : (ops[j]?).bind (·.dst) = some t) (hn : Nat.blt t n = true) (h2 : look l t = .bool b) (hd : Nat.blt d n = true)
    (hrun : (execOp (fr n l).eval ⟨some d, op, ty, pos, af, some (j, b)⟩).run P w = .ok (.enter f args) w) (hc : Calls P f args w Rr)
    (h : ∀ e w', Rr e w' → ∃ v, e = .returned v ∧ K (fr n ((d, v) :: l)) w') : wpOp P ops Q i K (fr n l) w := by
  refine wpOp_step hi fun K' hK => ?_
  rw [if_pos (by simp [Region.wanted, yielded_fr h1 hn h2])]
  refine o_call hrun hc fun e w' hr => ?_
  obtain ⟨v, he, hk⟩ := h e w' hr
  exact ⟨v, he, by rw [put_fr hd]; exact hK _ _ hk⟩
theorem dstg {i d j t : Nat} {b : Bool} {op : Op} {ty : TypeId} {pos : String} {af : Array Edge} {v : Value} (hi : ops[i]? = some ⟨some d, op, ty, pos, af, some (j, b)⟩)
    (h1 : (ops[j]?).bind (·.dst) = some t) (hn : Nat.blt t n = true) (h2 : look l t = .bool b) (hd : Nat.blt d n = true)
    (hrun : (execOp (fr n l).eval ⟨some d, op, ty, pos, af, some (j, b)⟩).run P w = .ok (.value v) w') (h : K (fr n ((d, v) :: l)) w') : wpOp P ops Q i K (fr n l) w := by
  refine wpOp_step hi fun K' hK => ?_
  rw [if_pos (by simp [Region.wanted, yielded_fr h1 hn h2])]
  unfold Oper.wp
  rw [hrun, Oper.upon_value, put_fr hd]
  exact hK _ _ h
end
end Go.Proofs.Ytkimdlpfbojkgaa
