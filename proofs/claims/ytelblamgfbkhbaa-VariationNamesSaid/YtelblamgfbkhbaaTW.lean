/- A walk by explicit values: frames as lists of slots, one lemma for each step. No condition. -/
import Derived.Test.YtelblamgfbkhbaaTO
import Derived.WalkKit
import Derived.WalkLawsBesides
namespace Go.Proofs.Ytelblamgfbkhbaa.W
set_option linter.unusedVariables false
set_option linter.unusedSimpArgs false
open Go.RowKit
/-! ### frames -/
def look : List (Nat × Value) → Nat → Value
  | [], _ => undef
  | (k, v) :: l, i => bif Nat.beq k i then v else look l i

def fr (n : Nat) (l : List (Nat × Value)) : Act := { tmps := ((List.range n).map (look l)).toArray, defers := [] }

theorem getD_fr (n : Nat) (l : List (Nat × Value)) (t : Nat) (h : t < n) : (fr n l).tmps.getD t undef = look l t := by
  simp [fr, Array.getD, h]
theorem get_fr (n : Nat) (l : List (Nat × Value)) (t : Nat) (h : t < n) : (fr n l).tmps[t]? = some (look l t) := by
  simp [fr, h]

theorem ev_tmp {n t : Nat} {l : List (Nat × Value)} {v : Value} (h : Nat.blt t n = true) (hv : look l t = v) : (fr n l).eval (.tmp t) = v := by
  rw [← hv]; exact getD_fr n l t (by simpa [Nat.blt_eq] using h)
theorem ev_const {n : Nat} {l : List (Nat × Value)} {v : Value} : (fr n l).eval (.const v) = v := rfl
theorem ev_func {n f : Nat} {l : List (Nat × Value)} : (fr n l).eval (.func f) = .func (.func f) #[] #[] := rfl

theorem look_cons (k : Nat) (v : Value) (l : List (Nat × Value)) (i : Nat) : look ((k, v) :: l) i = if k = i then v else look l i := by
  simp only [look]
  by_cases h : k = i
  · subst h; simp
  · have : Nat.beq k i = false := by
      cases hb : Nat.beq k i
      · rfl
      · exact absurd (Nat.eq_of_beq_eq_true hb) h
    simp [this, h]

theorem put_fr {n d : Nat} {l : List (Nat × Value)} {v : Value} (h : Nat.blt d n = true) : (fr n l).put (some d) v = fr n ((d, v) :: l) := by
  have hd : d < n := by simpa [Nat.blt_eq] using h
  simp only [Act.put, fr]
  congr 1
  apply Array.ext
  · simp
  · intro i h1 h2
    have hi : i < n := by simpa using h2
    rw [Array.getElem_setIfInBounds (by simpa using hi)]
    simp only [List.getElem_toArray, List.getElem_map, List.getElem_range, look_cons]

theorem fr_live {n : Nat} {l live : List (Nat × Value)} (hl : ∀ t, look (live ++ l) t = look l t) : fr n l = fr n (live ++ l) := by
  unfold fr
  congr 3
  exact funext fun t => (hl t).symm

/-- A list of slots all of which the frame holds already may be laid in front of it. -/
def Held (l : List (Nat × Value)) : List (Nat × Value) → Prop
  | [] => True
  | (k, v) :: r => look l k = v ∧ Held l r
theorem held_look {l : List (Nat × Value)} : ∀ {live : List (Nat × Value)}, Held l live → ∀ t, look (live ++ l) t = look l t
  | [], _, _ => rfl
  | (k, v) :: r, h, t => by
    rw [List.cons_append, look_cons, held_look h.2 t]
    by_cases e : k = t
    · subst e; rw [if_pos rfl, h.1]
    · rw [if_neg e]
theorem fr_held {n : Nat} {l live : List (Nat × Value)} (h : Held l live) : fr n l = fr n (live ++ l) := fr_live (held_look h)

def numbered : Nat → List Value → List (Nat × Value)
  | _, [] => []
  | i, v :: r => (i, v) :: numbered (i + 1) r

theorem look_numbered : ∀ (args : List Value) (i t : Nat), look (numbered i args) (i + t) = (args[t]?).getD undef
  | [], _, _ => rfl
  | v :: r, i, 0 => by simp [numbered, look_cons]
  | v :: r, i, t + 1 => by
    rw [numbered, look_cons, if_neg (by omega)]
    have := look_numbered r (i + 1) t
    rw [show i + 1 + t = i + (t + 1) from by omega] at this
    rw [this]; simp

theorem fr_args (n : Nat) (args : List Value) (h : args.length ≤ n) :
    ({ tmps := args.toArray ++ Array.replicate (n - args.toArray.size) undef, defers := [] } : Act) = fr n (numbered 0 args) := by
  unfold fr
  congr 1
  apply Array.ext
  · simp; omega
  · intro i h1 h2
    have hi : i < n := by simpa using h2
    have := look_numbered args 0 i
    rw [Nat.zero_add] at this
    simp only [List.getElem_toArray, List.getElem_map, List.getElem_range, this]
    rw [Array.getElem_append]
    split
    · rename_i hlt; simp at hlt; simp [hlt]
    · rename_i hge; simp at hge; simp [hge]

/-! ### control -/
def post4 (N : Act → World → Prop) (X : Nat → Act → World → Prop) (R : Act → World → Prop) : Exit → Act → World → Prop
  | .normal => N
  | .exit i => X i
  | .ret => R
  | _ => fun _ _ => False

def wpC (P : Program) (c : Code) (N : Act → World → Prop) (X : Nat → Act → World → Prop) (R : Act → World → Prop) (a : Act) (w : World) : Prop := c.wp P (post4 N X R) a w

section
variable {P : Program} {N : Act → World → Prop} {X : Nat → Act → World → Prop} {R : Act → World → Prop} {a : Act} {w : World} {c x y : Code}

theorem then_post4 (K : Act → World → Prop) : Exit.then K (post4 N X R) = post4 K X R := by
  funext e; cases e <;> rfl

theorem c_seq (h : ∀ K : Act → World → Prop, (∀ a w, wpC P y N X R a w → K a w) → wpC P x K X R a w) : wpC P (x.seq y) N X R a w := by
  refine wp_seq_k fun K hK => ?_
  rw [then_post4]
  exact h K hK
theorem c_skip (h : N a w) : wpC P .skip N X R a w := wp_skip h
theorem c_ret (h : R a w) : wpC P .ret N X R a w := wp_ret h
theorem c_exit {i : Nat} (h : X i a w) : wpC P (.exit i) N X R a w := wp_exit h

def xb (id : Nat) (N : Act → World → Prop) (X : Nat → Act → World → Prop) : Nat → Act → World → Prop := fun i => if i = id then N else X i
theorem xb_here {id : Nat} (h : N a w) : xb id N X id a w := by unfold xb; rw [if_pos rfl]; exact h
theorem xb_up {i id : Nat} (hne : Nat.beq i id = false) (h : X i a w) : xb id N X i a w := by
  unfold xb; rw [if_neg (by rintro rfl; simp at hne)]; exact h

theorem c_block {id : Nat} (h : wpC P c N (xb id N X) R a w) : wpC P (.block id c) N X R a w := by
  refine wp_block ?_
  refine Code.wp_mono (fun e a w q => ?_) h
  cases e <;> first | exact q | skip
  rename_i i
  simp only [post4, xb] at q
  simp only [Exit.inBlock, post4]
  split
  · rename_i h1; rw [if_pos h1] at q; exact q
  · rename_i h1; rw [if_neg h1] at q; exact q

theorem c_cond {n : Nat} {l : List (Nat × Value)} {o : Operand} {b : Bool} (hc : (fr n l).eval o = .bool b) (ht : b = true → wpC P x N X R (fr n l) w) (hf : b = false → wpC P y N X R (fr n l) w) :
    wpC P (.cond o x y) N X R (fr n l) w := wp_cond_split hc ht hf

theorem c_loop {n : Nat} {l : List (Nat × Value)} (I : Nat → List (Nat × Value) → World → Prop) {m : Nat} (h0 : I m l w)
    (round : ∀ m l w, I m l w → wpC P c (fun a w => ∃ m' l', m' < m ∧ a = fr n l' ∧ I m' l' w) X R (fr n l) w) : wpC P (.loop c) N X R (fr n l) w := by
  intro b k cs
  have key : ∀ m l w, I m l w → ∃ e a' w', post4 N X R e a' w' ∧ Arrives P (lone (b.at (fr n l) (.code c :: .inLoop c :: k)) cs w) b k cs e a' w' := by
    intro m
    induction m using Nat.strongRecOn with
    | _ m ih =>
      intro l w hI
      obtain ⟨e, a₁, w₁, hq, harr⟩ := round m l w hI b (.inLoop c :: k) cs
      cases e with
      | normal =>
        obtain ⟨m', l', hlt, rfl, hI'⟩ := hq
        obtain ⟨e₂, a₂, w₂, hq₂, harr₂⟩ := ih m' hlt l' w₁ hI'
        exact ⟨e₂, a₂, w₂, hq₂, .of_steps (Steps.trans harr (.one step_inLoop)) harr₂⟩
      | exit id => exact ⟨.exit id, a₁, w₁, hq, .pass (x := .inLoop c) rfl (fun _ _ => .inl (by simp)) harr⟩
      | goto l => exact hq.elim
      | ret => exact ⟨.ret, a₁, w₁, hq, .pass (x := .inLoop c) rfl (fun _ _ => .inl (by simp)) harr⟩
      | panic ch => exact hq.elim
      | outgrown => exact hq.elim
  obtain ⟨e, a', w', hq, harr⟩ := key m l w h0
  exact ⟨e, a', w', hq, .of_steps (.one step_loop) harr⟩
end

def retP (P : Program) (fn : Func) (R : Ending → World → Prop) (a : Act) (w : World) : Prop := a.defers = [] ∧ ∃ v, (results fn a.tmps).run P w = .ok v w ∧ R (.returned v) w

theorem enter {P : Program} {f n : Nat} {fn : Func} {c : Code} {args : List Value} {w : World} {R : Ending → World → Prop}
    (hf : P.funcs[f]? = some fn) (hb : fn.body = some c) (hn : fn.ntmps = n) (ha : Nat.ble args.length n = true)
    (h : ∀ T : Act → World → Prop, (∀ a w, retP P fn R a w → T a w) → wpC P c T (fun _ _ _ => False) T (fr n (numbered 0 args)) w) : Calls P f args.toArray w R := by
  have h := h (retP P fn R) (fun _ _ h => h)
  refine calls_of_wp hf hb ?_
  rw [hn, fr_args n args (by simpa using ha)]
  refine Code.wp_mono (fun e a w q => ?_) h
  cases e <;> first | exact q | exact q.elim

section
variable {P : Program} {fn : Func} {R : Ending → World → Prop} {n : Nat} {l : List (Nat × Value)} {w : World}
theorem r0 (hr : fn.results = #[]) (h : R (.returned (.tuple #[])) w) : retP P fn R (fr n l) w :=
  ⟨rfl, _, results_none hr _ _ _, h⟩
theorem r1 {t : Nat} {v : Value} (hr : fn.results = #[.tmp t]) (hv : (fr n l).eval (.tmp t) = v) (h : R (.returned v) w) : retP P fn R (fr n l) w :=
  ⟨rfl, _, by rw [results_tmp hr]; exact congrArg (Result.ok · w) hv, h⟩
theorem r2 {t u : Nat} {v1 v2 : Value} (hr : fn.results = #[.tmp t, .tmp u]) (hv : (fr n l).eval (.tmp t) = v1) (hu : (fr n l).eval (.tmp u) = v2) (h : R (.returned (.tuple #[v1, v2])) w) : retP P fn R (fr n l) w :=
  ⟨rfl, _, by rw [results_tmp2 hr, ← hv, ← hu]; rfl, h⟩
theorem r3 {t u s : Nat} {v1 v2 v3 : Value} (hr : fn.results = #[.tmp t, .tmp u, .tmp s]) (hv : (fr n l).eval (.tmp t) = v1) (hu : (fr n l).eval (.tmp u) = v2) (hs : (fr n l).eval (.tmp s) = v3)
    (h : R (.returned (.tuple #[v1, v2, v3])) w) : retP P fn R (fr n l) w :=
  ⟨rfl, .tuple #[v1, v2, v3], by rw [results_tmp3 hr, ← hv, ← hu, ← hs]; rfl, h⟩
end

/-! ### regions -/
def wpS (P : Program) (ops : Array Oper) (Q : Exit → Act → World → Prop) : List Oper → (Act → World → Prop) → Act → World → Prop
  | [], K => K
  | o :: rest, K => fun a w =>
    if Region.wanted o (yielded ops a.tmps) then o.wp P a w (wpS P ops Q rest K) Q ∨ (o.asks P a w ∧ LetsOut Q) else wpS P ops Q rest K (a.put o.dst undef) w

section
variable {P : Program} {ops : Array Oper} {Q : Exit → Act → World → Prop} {K : Act → World → Prop} {rest : List Oper} {o : Oper} {n : Nat} {l : List (Nat × Value)} {w w' : World}

theorem wpS_eq : ∀ os : List Oper, wpS P ops Q os (Q .normal) = wpList P ops Q os
  | [] => rfl
  | o :: os => by
    funext a w
    simp only [wpS, wpList, wpS_eq os]

theorem c_reg {N : Act → World → Prop} {X : Nat → Act → World → Prop} {R : Act → World → Prop} {a : Act} {id : Nat} {os : List Oper}
    (h : wpS P os.toArray (post4 N X R) os N a w) : wpC P (.region id os.toArray false) N X R a w := by
  refine wp_region_lit ?_
  rw [← wpS_eq]
  exact h

theorem s_nil {a : Act} (h : K a w) : wpS P ops Q [] K a w := h

/-- One operation that gives a value. -/
theorem st {d : Nat} {op : Op} {ty : TypeId} {pos : String} {af : Array Edge} {v : Value} (hd : Nat.blt d n = true)
    (hrun : (execOp (fr n l).eval ⟨some d, op, ty, pos, af, none⟩).run P w = .ok (.value v) w') (h : wpS P ops Q rest K (fr n ((d, v) :: l)) w') :
    wpS P ops Q (⟨some d, op, ty, pos, af, none⟩ :: rest) K (fr n l) w := by
  unfold wpS
  rw [if_pos (by simp [Region.wanted])]
  refine .inl ?_
  unfold Oper.wp
  rw [hrun, Oper.upon_value, put_fr hd]
  exact h
/-- One operation that gives no value (a store). -/
theorem su {op : Op} {ty : TypeId} {pos : String} {af : Array Edge}
    (hrun : (execOp (fr n l).eval ⟨none, op, ty, pos, af, none⟩).run P w = .ok .skip w') (h : wpS P ops Q rest K (fr n l) w') :
    wpS P ops Q (⟨none, op, ty, pos, af, none⟩ :: rest) K (fr n l) w := by
  unfold wpS
  rw [if_pos (by simp [Region.wanted])]
  refine .inl ?_
  unfold Oper.wp
  rw [hrun, Oper.upon_skip]
  exact h

theorem su2 {op : Op} {ty : TypeId} {pos : String} {af : Array Edge} {v : Value}
    (hrun : (execOp (fr n l).eval ⟨none, op, ty, pos, af, none⟩).run P w = .ok (.value v) w') (h : wpS P ops Q rest K (fr n l) w') :
    wpS P ops Q (⟨none, op, ty, pos, af, none⟩ :: rest) K (fr n l) w := by
  unfold wpS
  rw [if_pos (by simp [Region.wanted])]
  refine .inl ?_
  unfold Oper.wp
  rw [hrun, Oper.upon_value]
  exact h

def dstAt : List Oper → Nat → Option Tmp
  | [], _ => none
  | o :: _, 0 => o.dst
  | _ :: os, j + 1 => dstAt os j
theorem dstAt_eq : ∀ (os : List Oper) (j : Nat), ((os.toArray)[j]?).bind (·.dst) = dstAt os j
  | [], _ => by simp [dstAt]
  | o :: os, 0 => by simp [dstAt]
  | o :: os, j + 1 => by
    have := dstAt_eq os j
    simp only [List.getElem?_toArray, List.getElem?_cons_succ, dstAt] at this ⊢
    exact this
theorem yielded_fr {j t : Nat} {b : Bool} (h1 : (ops[j]?).bind (·.dst) = some t) (hn : Nat.blt t n = true) (h2 : look l t = .bool b) : yielded ops (fr n l).tmps j = some b := by
  have ht : t < n := by simpa [Nat.blt_eq] using hn
  unfold yielded
  rw [h1, Option.bind_some, get_fr n l t ht, h2]
theorem yielded_undef {j t : Nat} (h1 : (ops[j]?).bind (·.dst) = some t) (hn : Nat.blt t n = true) (h2 : look l t = undef) : yielded ops (fr n l).tmps j = none := by
  have ht : t < n := by simpa [Nat.blt_eq] using hn
  unfold yielded
  rw [h1, Option.bind_some, get_fr n l t ht, h2]
  rfl

/-- A guarded operation whose guard says yes. -/
theorem gt {os : List Oper} {d j t : Nat} {b : Bool} {op : Op} {ty : TypeId} {pos : String} {af : Array Edge} {v : Value} (hd : Nat.blt d n = true)
    (h1 : dstAt os j = some t) (hn : Nat.blt t n = true) (h2 : look l t = .bool b)
    (hrun : (execOp (fr n l).eval ⟨some d, op, ty, pos, af, some (j, b)⟩).run P w = .ok (.value v) w') (h : wpS P os.toArray Q rest K (fr n ((d, v) :: l)) w') :
    wpS P os.toArray Q (⟨some d, op, ty, pos, af, some (j, b)⟩ :: rest) K (fr n l) w := by
  unfold wpS
  rw [if_pos (by simp [Region.wanted, yielded_fr ((dstAt_eq os j).trans h1) hn h2])]
  refine .inl ?_
  unfold Oper.wp
  rw [hrun, Oper.upon_value, put_fr hd]
  exact h
/-- A guarded operation whose guard says no. -/
theorem gf {os : List Oper} {d j t : Nat} {b b' : Bool} {op : Op} {ty : TypeId} {pos : String} {af : Array Edge} (hd : Nat.blt d n = true)
    (h1 : dstAt os j = some t) (hn : Nat.blt t n = true) (h2 : look l t = .bool b') (hb : (b' == b) = false) (h : wpS P os.toArray Q rest K (fr n ((d, undef) :: l)) w) :
    wpS P os.toArray Q (⟨some d, op, ty, pos, af, some (j, b)⟩ :: rest) K (fr n l) w := by
  unfold wpS
  rw [if_neg (by simp [Region.wanted, yielded_fr ((dstAt_eq os j).trans h1) hn h2]; simpa using hb), put_fr hd]
  exact h
/-- A guarded operation whose guard was not reckoned. -/
theorem gu {os : List Oper} {d j t : Nat} {b : Bool} {op : Op} {ty : TypeId} {pos : String} {af : Array Edge} (hd : Nat.blt d n = true)
    (h1 : dstAt os j = some t) (hn : Nat.blt t n = true) (h2 : look l t = undef) (h : wpS P os.toArray Q rest K (fr n ((d, undef) :: l)) w) :
    wpS P os.toArray Q (⟨some d, op, ty, pos, af, some (j, b)⟩ :: rest) K (fr n l) w := by
  unfold wpS
  rw [if_neg (by simp [Region.wanted, yielded_undef ((dstAt_eq os j).trans h1) hn h2]), put_fr hd]
  exact h

end
/-! ### regions that draw their order -/
section
variable {P : Program} {ops : Array Oper} {Q : Exit → Act → World → Prop} {K : Act → World → Prop} {o : Oper} {n : Nat} {l : List (Nat × Value)} {w w' : World} {S : World → Prop} {fuel : Nat} {listed : Array Bool}
variable {N : Act → World → Prop} {X : Nat → Act → World → Prop} {R : Act → World → Prop}
theorem c_drawn {a : Act} {id : Nat} (S : World → Prop) (hm : P.follows .mixedOrders = true) (h : wpAnyH P .any ops (post4 N X R) S ops.size (Array.replicate ops.size false) a w.drew) : wpC P (.region id ops true) N X R a w :=
  wp_region_held hm h
/-- Taken first: an operation that yields its value in every world that meets S. -/
theorem dT {i d : Nat} {op : Op} {ty : TypeId} {pos : String} {af : Array Edge} {v : Value} (hi : ops[i]? = some ⟨some d, op, ty, pos, af, none⟩) (hs : Region.noSelect ops = true) (hf : (Region.free .any ops listed i && (Region.ready .any ops listed).contains i) = true)
    (hd : Nat.blt d n = true) (hS : S w) (hy : ∀ w, S w → (execOp (fr n l).eval ⟨some d, op, ty, pos, af, none⟩).run P w = .ok (.value v) w)
    (h : wpAnyH P .any ops (post4 N X R) S fuel (listed.setIfInBounds i true) (fr n ((d, v) :: l)) w) : wpAnyH P .any ops (post4 N X R) S (fuel + 1) listed (fr n l) w := by
  rw [Bool.and_eq_true] at hf
  refine wpAnyH_take hi hs hf.1 hf.2 (fun _ _ _ h => h) (.inl ⟨by simp [Region.wanted], hy⟩) hS ?_
  rw [put_fr hd]
  exact h
theorem dA {rs : List Nat} (hr : Region.ready .any ops listed = rs) (hne : rs.isEmpty = false)
    (h : ∀ i ∈ rs, wpOp P ops (post4 N X R) i (fun a' w' => S w' ∧ wpAnyH P .any ops (post4 N X R) S fuel (listed.setIfInBounds i true) a' w') (fr n l) w) : wpAnyH P .any ops (post4 N X R) S (fuel + 1) listed (fr n l) w :=
  wpAnyH_all hr (by intro h; subst h; cases hne) h
theorem dN {p : Nat → Prop} : ∀ i ∈ ([] : List Nat), p i := by simp
theorem dC {p : Nat → Prop} {i : Nat} {rs : List Nat} (h1 : p i) (h2 : ∀ j ∈ rs, p j) : ∀ j ∈ i :: rs, p j := by
  intro j hj
  rcases List.mem_cons.1 hj with rfl | hj
  · exact h1
  · exact h2 j hj
theorem dst {i d : Nat} {op : Op} {ty : TypeId} {pos : String} {af : Array Edge} {v : Value} (hi : ops[i]? = some ⟨some d, op, ty, pos, af, none⟩) (hd : Nat.blt d n = true)
    (hrun : (execOp (fr n l).eval ⟨some d, op, ty, pos, af, none⟩).run P w = .ok (.value v) w') (h : K (fr n ((d, v) :: l)) w') : wpOp P ops Q i K (fr n l) w := by
  refine wpOp_step hi fun K' hK => ?_
  rw [if_pos (by simp [Region.wanted])]
  unfold Oper.wp
  rw [hrun, Oper.upon_value, put_fr hd]
  exact hK _ _ h
theorem dsu {i : Nat} {op : Op} {ty : TypeId} {pos : String} {af : Array Edge} (hi : ops[i]? = some ⟨none, op, ty, pos, af, none⟩)
    (hrun : (execOp (fr n l).eval ⟨none, op, ty, pos, af, none⟩).run P w = .ok .skip w') (h : K (fr n l) w') : wpOp P ops Q i K (fr n l) w := by
  refine wpOp_step hi fun K' hK => ?_
  rw [if_pos (by simp [Region.wanted])]
  unfold Oper.wp
  rw [hrun, Oper.upon_skip]
  exact hK _ _ h
theorem dE {a : Act} (hr : Region.ready .any ops listed = []) (h : N a w) : wpAnyH P .any ops (post4 N X R) S fuel listed a w := wpAnyH_done hr h fuel
end

end Go.Proofs.Ytelblamgfbkhbaa.W
