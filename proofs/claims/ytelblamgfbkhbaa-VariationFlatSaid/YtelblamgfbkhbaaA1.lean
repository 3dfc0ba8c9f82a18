/- Several texts in one. No condition. -/
import Derived.Test.YtelblamgfbkhbaaTV
import Derived.WalkKit
import Derived.WalkLawsBesides
import Derived.Lib.Overlaps
import Derived.Lib.AppendZerosOnto
import Derived.Test.YtelblamgfbkhbaaProg
namespace Go.Proofs.Ytelblamgfbkhbaa.W
set_option linter.unusedVariables false
set_option linter.unusedSimpArgs false
open Go.RowKit
def look : List (Nat × Value) → Nat → Value
  | [], _ => undef
  | (k, v) :: l, i => bif Nat.beq k i then v else look l i

def fr (n : Nat) (l : List (Nat × Value)) : Act := { tmps := ((List.range n).map (look l)).toArray, defers := [] }

theorem getD_fr (n : Nat) (l : List (Nat × Value)) (t : Nat) (h : t < n) : (fr n l).tmps.getD t undef = look l t := by
  simp [fr, Array.getD, h]
theorem ev_tmp {n t : Nat} {l : List (Nat × Value)} {v : Value} (h : Nat.blt t n = true) (hv : look l t = v) : (fr n l).eval (.tmp t) = v := by
  rw [← hv]; exact getD_fr n l t (by simpa [Nat.blt_eq] using h)
theorem look_cons (k : Nat) (v : Value) (l : List (Nat × Value)) (i : Nat) : look ((k, v) :: l) i = if k = i then v else look l i := by
  simp only [look]
  by_cases h : k = i
  · subst h; simp
  · have : Nat.beq k i = false := by
      cases hb : Nat.beq k i
      · rfl
      · exact absurd (Nat.eq_of_beq_eq_true hb) h
    simp [this, h]

theorem put_fr {n d : Nat} {l : List (Nat × Value)} {v : Value} (h : Nat.blt d n = true) : (fr n l).put (some d) v = fr n ((d, v) :: l) := by
  have hd : d < n := by simpa [Nat.blt_eq] using h
  simp only [Act.put, fr]
  congr 1
  apply Array.ext
  · simp
  · intro i h1 h2
    have hi : i < n := by simpa using h2
    rw [Array.getElem_setIfInBounds (by simpa using hi)]
    simp only [List.getElem_toArray, List.getElem_map, List.getElem_range, look_cons]

def numbered : Nat → List Value → List (Nat × Value)
  | _, [] => []
  | i, v :: r => (i, v) :: numbered (i + 1) r

theorem look_numbered : ∀ (args : List Value) (i t : Nat), look (numbered i args) (i + t) = (args[t]?).getD undef
  | [], _, _ => rfl
  | v :: r, i, 0 => by simp [numbered, look_cons]
  | v :: r, i, t + 1 => by
    rw [numbered, look_cons, if_neg (by omega)]
    have := look_numbered r (i + 1) t
    rw [show i + 1 + t = i + (t + 1) from by omega] at this
    rw [this]; simp

theorem fr_args (n : Nat) (args : List Value) (h : args.length ≤ n) :
    ({ tmps := args.toArray ++ Array.replicate (n - args.toArray.size) undef, defers := [] } : Act) = fr n (numbered 0 args) := by
  unfold fr
  congr 1
  apply Array.ext
  · simp; omega
  · intro i h1 h2
    have hi : i < n := by simpa using h2
    have := look_numbered args 0 i
    rw [Nat.zero_add] at this
    simp only [List.getElem_toArray, List.getElem_map, List.getElem_range, this]
    rw [Array.getElem_append]
    split
    · rename_i hlt; simp at hlt; simp [hlt]
    · rename_i hge; simp at hge; simp [hge]


def post4 (N : Act → World → Prop) (X : Nat → Act → World → Prop) (R : Act → World → Prop) : Exit → Act → World → Prop
  | .normal => N
  | .exit i => X i
  | .ret => R
  | _ => fun _ _ => False

def wpC (P : Program) (c : Code) (N : Act → World → Prop) (X : Nat → Act → World → Prop) (R : Act → World → Prop) (a : Act) (w : World) : Prop := c.wp P (post4 N X R) a w

section
variable {P : Program} {N : Act → World → Prop} {X : Nat → Act → World → Prop} {R : Act → World → Prop} {a : Act} {w : World} {c x y : Code}

theorem then_post4 (K : Act → World → Prop) : Exit.then K (post4 N X R) = post4 K X R := by
  funext e; cases e <;> rfl

theorem c_seq (h : ∀ K : Act → World → Prop, (∀ a w, wpC P y N X R a w → K a w) → wpC P x K X R a w) : wpC P (x.seq y) N X R a w := by
  refine wp_seq_k fun K hK => ?_
  rw [then_post4]
  exact h K hK
theorem c_skip (h : N a w) : wpC P .skip N X R a w := wp_skip h
theorem c_ret (h : R a w) : wpC P .ret N X R a w := wp_ret h
theorem c_cond {n : Nat} {l : List (Nat × Value)} {o : Operand} {b : Bool} (hc : (fr n l).eval o = .bool b) (ht : b = true → wpC P x N X R (fr n l) w) (hf : b = false → wpC P y N X R (fr n l) w) :
    wpC P (.cond o x y) N X R (fr n l) w := wp_cond_split hc ht hf

end

def retP (P : Program) (fn : Func) (R : Ending → World → Prop) (a : Act) (w : World) : Prop := a.defers = [] ∧ ∃ v, (results fn a.tmps).run P w = .ok v w ∧ R (.returned v) w

theorem enter {P : Program} {f n : Nat} {fn : Func} {c : Code} {args : List Value} {w : World} {R : Ending → World → Prop}
    (hf : P.funcs[f]? = some fn) (hb : fn.body = some c) (hn : fn.ntmps = n) (ha : Nat.ble args.length n = true)
    (h : ∀ T : Act → World → Prop, (∀ a w, retP P fn R a w → T a w) → wpC P c T (fun _ _ _ => False) T (fr n (numbered 0 args)) w) : Calls P f args.toArray w R := by
  have h := h (retP P fn R) (fun _ _ h => h)
  refine calls_of_wp hf hb ?_
  rw [hn, fr_args n args (by simpa using ha)]
  refine Code.wp_mono (fun e a w q => ?_) h
  cases e <;> first | exact q | exact q.elim

section
variable {P : Program} {fn : Func} {R : Ending → World → Prop} {n : Nat} {l : List (Nat × Value)} {w : World}
theorem r0 (hr : fn.results = #[]) (h : R (.returned (.tuple #[])) w) : retP P fn R (fr n l) w :=
  ⟨rfl, _, results_none hr _ _ _, h⟩
theorem r1 {t : Nat} {v : Value} (hr : fn.results = #[.tmp t]) (hv : (fr n l).eval (.tmp t) = v) (h : R (.returned v) w) : retP P fn R (fr n l) w :=
  ⟨rfl, _, by rw [results_tmp hr]; exact congrArg (Result.ok · w) hv, h⟩
theorem r2 {t u : Nat} {v1 v2 : Value} (hr : fn.results = #[.tmp t, .tmp u]) (hv : (fr n l).eval (.tmp t) = v1) (hu : (fr n l).eval (.tmp u) = v2) (h : R (.returned (.tuple #[v1, v2])) w) : retP P fn R (fr n l) w :=
  ⟨rfl, _, by rw [results_tmp2 hr, ← hv, ← hu]; rfl, h⟩
theorem r3 {t u s : Nat} {v1 v2 v3 : Value} (hr : fn.results = #[.tmp t, .tmp u, .tmp s]) (hv : (fr n l).eval (.tmp t) = v1) (hu : (fr n l).eval (.tmp u) = v2) (hs : (fr n l).eval (.tmp s) = v3)
    (h : R (.returned (.tuple #[v1, v2, v3])) w) : retP P fn R (fr n l) w :=
  ⟨rfl, .tuple #[v1, v2, v3], by rw [results_tmp3 hr, ← hv, ← hu, ← hs]; rfl, h⟩
end

def wpS (P : Program) (ops : Array Oper) (Q : Exit → Act → World → Prop) : List Oper → (Act → World → Prop) → Act → World → Prop
  | [], K => K
  | o :: rest, K => fun a w =>
    if Region.wanted o (yielded ops a.tmps) then o.wp P a w (wpS P ops Q rest K) Q ∨ (o.asks P a w ∧ LetsOut Q) else wpS P ops Q rest K (a.put o.dst undef) w

section
variable {P : Program} {ops : Array Oper} {Q : Exit → Act → World → Prop} {K : Act → World → Prop} {rest : List Oper} {o : Oper} {n : Nat} {l : List (Nat × Value)} {w w' : World}

theorem wpS_eq : ∀ os : List Oper, wpS P ops Q os (Q .normal) = wpList P ops Q os
  | [] => rfl
  | o :: os => by
    funext a w
    simp only [wpS, wpList, wpS_eq os]

theorem c_reg {N : Act → World → Prop} {X : Nat → Act → World → Prop} {R : Act → World → Prop} {a : Act} {id : Nat} {os : List Oper}
    (h : wpS P os.toArray (post4 N X R) os N a w) : wpC P (.region id os.toArray false) N X R a w := by
  refine wp_region_lit ?_
  rw [← wpS_eq]
  exact h

theorem s_nil {a : Act} (h : K a w) : wpS P ops Q [] K a w := h

theorem st {d : Nat} {op : Op} {ty : TypeId} {pos : String} {af : Array Edge} {v : Value} (hd : Nat.blt d n = true)
    (hrun : (execOp (fr n l).eval ⟨some d, op, ty, pos, af, none⟩).run P w = .ok (.value v) w') (h : wpS P ops Q rest K (fr n ((d, v) :: l)) w') :
    wpS P ops Q (⟨some d, op, ty, pos, af, none⟩ :: rest) K (fr n l) w := by
  unfold wpS
  rw [if_pos (by simp [Region.wanted])]
  refine .inl ?_
  unfold Oper.wp
  rw [hrun, Oper.upon_value, put_fr hd]
  exact h
theorem su2 {op : Op} {ty : TypeId} {pos : String} {af : Array Edge} {v : Value}
    (hrun : (execOp (fr n l).eval ⟨none, op, ty, pos, af, none⟩).run P w = .ok (.value v) w') (h : wpS P ops Q rest K (fr n l) w') :
    wpS P ops Q (⟨none, op, ty, pos, af, none⟩ :: rest) K (fr n l) w := by
  unfold wpS
  rw [if_pos (by simp [Region.wanted])]
  refine .inl ?_
  unfold Oper.wp
  rw [hrun, Oper.upon_value]
  exact h

end
section
variable {P : Program} {ops : Array Oper} {Q : Exit → Act → World → Prop} {K : Act → World → Prop} {o : Oper} {n : Nat} {l : List (Nat × Value)} {w w' : World} {S : World → Prop} {fuel : Nat} {listed : Array Bool}
variable {N : Act → World → Prop} {X : Nat → Act → World → Prop} {R : Act → World → Prop}
theorem c_drawn {a : Act} {id : Nat} (S : World → Prop) (hm : P.follows .mixedOrders = true) (h : wpAnyH P .any ops (post4 N X R) S ops.size (Array.replicate ops.size false) a w.drew) : wpC P (.region id ops true) N X R a w :=
  wp_region_held hm h
theorem dT {i d : Nat} {op : Op} {ty : TypeId} {pos : String} {af : Array Edge} {v : Value} (hi : ops[i]? = some ⟨some d, op, ty, pos, af, none⟩) (hs : Region.noSelect ops = true) (hf : (Region.free .any ops listed i && (Region.ready .any ops listed).contains i) = true)
    (hd : Nat.blt d n = true) (hS : S w) (hy : ∀ w, S w → (execOp (fr n l).eval ⟨some d, op, ty, pos, af, none⟩).run P w = .ok (.value v) w)
    (h : wpAnyH P .any ops (post4 N X R) S fuel (listed.setIfInBounds i true) (fr n ((d, v) :: l)) w) : wpAnyH P .any ops (post4 N X R) S (fuel + 1) listed (fr n l) w := by
  rw [Bool.and_eq_true] at hf
  refine wpAnyH_take hi hs hf.1 hf.2 (fun _ _ _ h => h) (.inl ⟨by simp [Region.wanted], hy⟩) hS ?_
  rw [put_fr hd]
  exact h
theorem dA {rs : List Nat} (hr : Region.ready .any ops listed = rs) (hne : rs.isEmpty = false)
    (h : ∀ i ∈ rs, wpOp P ops (post4 N X R) i (fun a' w' => S w' ∧ wpAnyH P .any ops (post4 N X R) S fuel (listed.setIfInBounds i true) a' w') (fr n l) w) : wpAnyH P .any ops (post4 N X R) S (fuel + 1) listed (fr n l) w :=
  wpAnyH_all hr (by intro h; subst h; cases hne) h
theorem dN {p : Nat → Prop} : ∀ i ∈ ([] : List Nat), p i := by simp
theorem dC {p : Nat → Prop} {i : Nat} {rs : List Nat} (h1 : p i) (h2 : ∀ j ∈ rs, p j) : ∀ j ∈ i :: rs, p j := by
  intro j hj
  rcases List.mem_cons.1 hj with rfl | hj
  · exact h1
  · exact h2 j hj
theorem dst {i d : Nat} {op : Op} {ty : TypeId} {pos : String} {af : Array Edge} {v : Value} (hi : ops[i]? = some ⟨some d, op, ty, pos, af, none⟩) (hd : Nat.blt d n = true)
    (hrun : (execOp (fr n l).eval ⟨some d, op, ty, pos, af, none⟩).run P w = .ok (.value v) w') (h : K (fr n ((d, v) :: l)) w') : wpOp P ops Q i K (fr n l) w := by
  refine wpOp_step hi fun K' hK => ?_
  rw [if_pos (by simp [Region.wanted])]
  unfold Oper.wp
  rw [hrun, Oper.upon_value, put_fr hd]
  exact hK _ _ h
theorem dE {a : Act} (hr : Region.ready .any ops listed = []) (h : N a w) : wpAnyH P .any ops (post4 N X R) S fuel listed a w := wpAnyH_done hr h fuel
end

end Go.Proofs.Ytelblamgfbkhbaa.W
namespace Go.Proofs.Ytelblamgfbkhbaa
set_option linter.unusedVariables false
set_option linter.unusedSimpArgs false
open Go.RowKit Go.Lib
section
variable {P : Program} {ρ : Operand → Value} {w w' : World} {d : Option Tmp} {ty : TypeId} {pos : String} {af : Array Edge} {g : Option (Nat × Bool)} {t e : Nat} {te : TI}
theorem nmin {a b m : Nat} (h : m = min a b) : Nat.min a b = m := by subst h; rfl
theorem x_addE {t t' : TypeId} {k : IntKind} {x y : Operand} {p q r : Int} (hx : ρ x = .int k p) (hy : ρ y = .int k q) (h : k.wrap (p + q) = r) : (execOp ρ ⟨d, .binOp .add t x y t', ty, pos, af, g⟩).run P w = .ok (.value (.int k r)) w := by subst h; exact x_add hx hy
theorem x_subE {t t' : TypeId} {k : IntKind} {x y : Operand} {p q r : Int} (hx : ρ x = .int k p) (hy : ρ y = .int k q) (h : k.wrap (p - q) = r) : (execOp ρ ⟨d, .binOp .sub t x y t', ty, pos, af, g⟩).run P w = .ok (.value (.int k r)) w := by subst h; exact x_sub hx hy
theorem x_cap {x : Operand} {A : Option Addr} {n c : Nat} (ht : P.underlying t = some (.slice e)) (hx : ρ x = .slice A n c) :
    (execOp ρ ⟨d, .call { callee := .builtin .cap, args := #[x], argTypes := #[t] }, ty, pos, af, g⟩).run P w = .ok (.value (.int .i64 c)) w := by
  refine x_bi (f := Builtin.cap_) (fun _ _ _ _ => rfl) ?_
  simp [hx, Builtin.cap_, run_underlying ht, goInt]
theorem x_slA {x y : Operand} {A : Option Addr} {len cap l : Nat} (ht : P.underlying t = some (.slice e)) (he : tyOKB P e te = true) (hx : ρ x = .slice A len cap) (hy : ρ y = .int .i64 l) (h1 : l ≤ len) (h2 : len ≤ cap) :
    (execOp ρ ⟨d, .slice t x (some y) none none, ty, pos, af, g⟩).run P w = .ok (.value (.slice (if cap = l then A else A.map (·.add (l * te.size))) (len - l) (cap - l))) w :=
  x_slice ht he hx (run_bounds (lo := some l) (hi := none) (vl := some (ρ y)) (vh := none) ⟨.i64, hy⟩ trivial h1 h2)
theorem x_slL {x y : Operand} {b o len cap l : Nat} (ht : P.underlying t = some (.slice e)) (he : tyOKB P e te = true) (hx : ρ x = .slice (some ⟨b, o, none⟩) len cap) (hy : ρ y = .int .i64 l) (h1 : l ≤ len) (h2 : len ≤ cap) (h3 : l < cap) :
    (execOp ρ ⟨d, .slice t x (some y) none none, ty, pos, af, g⟩).run P w = .ok (.value (.slice (some ⟨b, o + l * te.size, none⟩) (len - l) (cap - l))) w := by
  have := x_slA (w := w) (d := d) (ty := ty) (pos := pos) (af := af) (g := g) ht he hx hy h1 h2
  rwa [if_neg (by omega), Option.map_some, Addr.add_mid] at this
theorem x_slH {x y : Operand} {A : Option Addr} {len cap h : Nat} (ht : P.underlying t = some (.slice e)) (he : tyOKB P e te = true) (hx : ρ x = .slice A len cap) (hA : A = none ∨ ∃ b o, A = some ⟨b, o, none⟩) (hy : ρ y = .int .i64 h) (h1 : h ≤ cap) :
    (execOp ρ ⟨d, .slice t x none (some y) none, ty, pos, af, g⟩).run P w = .ok (.value (.slice A h cap)) w := by
  have := x_slice (w := w) (d := d) (ty := ty) (pos := pos) (af := af) (g := g) (lo := none) (hi := some y) (mx := none) ht he hx (run_bounds (lo := none) (hi := some h) (vl := none) (vh := some (ρ y)) trivial ⟨.i64, hy⟩ (Nat.zero_le _) h1)
  rw [this]
  rcases hA with rfl | ⟨b, o, rfl⟩
  · simp
  · simp only [Option.getD_none, Option.getD_some, Option.map_some, Addr.add_mid, Nat.zero_mul, Nat.add_zero, ite_self, Nat.sub_zero]
theorem x_slLH {x y z : Operand} {A : Option Addr} {len cap l h : Nat} (ht : P.underlying t = some (.slice e)) (he : tyOKB P e te = true) (hx : ρ x = .slice A len cap) (hy : ρ y = .int .i64 l) (hz : ρ z = .int .i64 h) (h1 : l ≤ h) (h2 : h ≤ cap) :
    (execOp ρ ⟨d, .slice t x (some y) (some z) none, ty, pos, af, g⟩).run P w = .ok (.value (.slice (if cap = l then A else A.map (·.add (l * te.size))) (h - l) (cap - l))) w :=
  x_slice ht he hx (run_bounds (lo := some l) (hi := some h) (vl := some (ρ y)) (vh := some (ρ z)) ⟨.i64, hy⟩ ⟨.i64, hz⟩ h1 h2)
theorem x_slLHM {x y z u : Operand} {A : Option Addr} {len cap l h m : Nat} (ht : P.underlying t = some (.slice e)) (he : tyOKB P e te = true) (hx : ρ x = .slice A len cap) (hy : ρ y = .int .i64 l) (hz : ρ z = .int .i64 h) (hu : ρ u = .int .i64 m) (h1 : l ≤ h) (h2 : h ≤ m) (h3 : m ≤ cap) :
    (execOp ρ ⟨d, .slice t x (some y) (some z) (some u), ty, pos, af, g⟩).run P w = .ok (.value (.slice (if m = l then A else A.map (·.add (l * te.size))) (h - l) (m - l))) w := by
  refine x_slice ht he hx ?_
  simp only [Option.map_some, hy, hz, hu]
  simp [Instr.sliceBounds, run_sliceBound h3, run_sliceBound h2, run_sliceBound h1]
theorem run_first {b o n len cap : Nat} {cs : List Value} (hl : cs.length = n * te.size) (hr : w.rangeAt b o cs) : (Builtin.firstCells te.size n (.slice (some ⟨b, o, none⟩) len cap)).run P w = .ok cs.toArray w :=
  run_firstCells_some w te.size n ⟨b, o, none⟩ len cap cs hl fun j v hj => by rw [Addr.add_mid]; exact hr j v hj
theorem x_cp {x y : Operand} {b o dl dc b2 o2 sl sc m : Nat} {cs : List Value} (ht : P.underlying t = some (.slice e)) (he : tyOKB P e te = true) (hx : ρ x = .slice (some ⟨b, o, none⟩) dl dc) (hy : ρ y = .slice (some ⟨b2, o2, none⟩) sl sc)
    (hm : Nat.min sl dl = m) (hl : cs.length = m * te.size) (hr : w.rangeAt b2 o2 cs) (hth : w.there b o cs.length) (h1 : ∀ u ∈ cs, u.oneCell' = true) :
    (execOp ρ ⟨d, .call { callee := .builtin .copy, args := #[x, y], argTypes := #[t, t] }, ty, pos, af, g⟩).run P w = .ok (.value (.int .i64 m)) (w.setCells b o cs) := by
  refine x_copy ?_
  have hs := run_size (w := w) he
  have hf := run_first (P := P) (len := sl) (cap := sc) hl hr
  have hst := run_cells (P := P) hth h1
  subst hm
  simp [hx, hy, Builtin.copy_, run_underlying ht, Builtin.lenOf, hs, hf, hst, goInt]
theorem x_appR {x y : Operand} {b o n c b2 o2 m mc : Nat} {cs : List Value} (ht : P.underlying t = some (.slice e)) (he : tyOKB P e te = true) (hx : ρ x = .slice (some ⟨b, o, none⟩) n c) (hy : ρ y = .slice (some ⟨b2, o2, none⟩) m mc)
    (hl : cs.length = m * te.size) (hr : w.rangeAt b2 o2 cs) (hth : w.there b (o + n * te.size) cs.length) (h1 : ∀ u ∈ cs, u.oneCell' = true) (hroom : n + m ≤ c) :
    (execOp ρ ⟨d, .call { callee := .builtin .append, args := #[x, y], argTypes := #[t, t] }, ty, pos, af, g⟩).run P w = .ok (.value (.slice (some ⟨b, o, none⟩) (n + m) c)) (w.setCells b (o + n * te.size) cs) := by
  refine x_append ?_
  rw [hx, hy]
  exact run_app_room ht he ht (fun _ h => by cases h) (by simp [Builtin.lenOf]) (run_first hl hr) hroom (.inr ⟨b, o, rfl, hth, h1, rfl⟩)
theorem x_app2 {x y : Operand} {t t1 : Nat} {vx vy v : Value} (hx : ρ x = vx) (hy : ρ y = vy) (h : (Builtin.append_ #[t, t1] ty #[vx, vy]).run P w = .ok v w') :
    (execOp ρ ⟨d, .call { callee := .builtin .append, args := #[x, y], argTypes := #[t, t1] }, ty, pos, af, g⟩).run P w = .ok (.value v) w' := x_append (by rw [hx, hy]; exact h)
theorem x_appR2 {x y : Operand} {b o n c m mc : Nat} {A2 : Option Addr} {cs : List Value} (ht : P.underlying t = some (.slice e)) (he : tyOKB P e te = true) (hx : ρ x = .slice (some ⟨b, o, none⟩) n c) (hy : ρ y = .slice A2 m mc)
    (hf : (Builtin.firstCells te.size m (.slice A2 m mc)).run P w = .ok cs.toArray w) (hth : w.there b (o + n * te.size) cs.length) (h1 : ∀ u ∈ cs, u.oneCell' = true) (hroom : n + m ≤ c) :
    (execOp ρ ⟨d, .call { callee := .builtin .append, args := #[x, y], argTypes := #[t, t] }, ty, pos, af, g⟩).run P w = .ok (.value (.slice (some ⟨b, o, none⟩) (n + m) c)) (w.setCells b (o + n * te.size) cs) := by
  refine x_append ?_
  rw [hx, hy]
  exact run_app_room ht he ht (fun _ h => by cases h) (by simp [Builtin.lenOf]) hf hroom (.inr ⟨b, o, rfl, hth, h1, rfl⟩)
theorem run_appG {A : Option Addr} {n c b2 o2 m mc : Nat} {cs olds : List Value} (ht : P.underlying t = some (.slice e)) (he : tyOKB P e te = true)
    (hl : cs.length = m * te.size) (hr : w.rangeAt b2 o2 cs) (hroom : c < n + m) (hfit : fitsB (n + m) te = true) (ho : (Builtin.firstCells te.size n (.slice A n c)).run P w.drew = .ok olds.toArray w.drew) :
    ∃ (c' : Nat) (rest : Array Value), n + m ≤ c' ∧ c' ≤ maxLen ∧ rest.size = (c' - (n + m)) * te.size ∧
    ∀ ty, (Builtin.append_ #[t, t] ty #[.slice A n c, .slice (some ⟨b2, o2, none⟩) m mc]).run P w = .ok (.slice (some ⟨w.heap.size, 0, none⟩) (n + m) c') (w.drew.alloc (.cells ((olds ++ cs).toArray ++ rest) e)) := by
  obtain ⟨hf1, hf2⟩ := fits_of hfit
  obtain ⟨ie, ze, hie, hse, hbe, hze, hzl⟩ := tyOK_info he
  have hzs : ze.cells.size = te.size := by rw [← tyOK_len he, ← (hzl w (fun _ => False)).length, Array.length_toList]
  refine ⟨grownCap w (n + m) c e, Builtin.zeroCells ze.cells (grownCap w (n + m) c e - (n + m)), grownCap_ge w _ _ e, grownCap_le_maxLen w _ _ e hf2, by rw [size_zeroCells, hzs], fun ty => ?_⟩
  have hf := run_first (P := P) (w := w.drew) (te := te) (len := m) (cap := mc) hl (by simpa using hr)
  have hn : ¬ (n + m ≤ c) := by omega
  have hgf := growslice_fits (bytes := te.bytes) hroom hf1
  have hs := run_size (w := w) he
  have h48 : ¬ (281474976710656 < Builtin.nextslicecap (n + m) c * ie.bytes) := by rw [hbe]; omega
  have hzv : (zeroValue e).run P w.drew = .ok ze w.drew := by simp [zeroValue, typeInfo, hie, hze]
  have h63 : ¬ (9223372036854775807 < (n : Int) + (m : Int)) := by unfold maxLen at hf2; omega
  have hl2 : (Builtin.lenOf (.slice (some ⟨b2, o2, none⟩) m mc)).run P w = .ok m w := by simp [Builtin.lenOf]
  simp [Builtin.append_, run_underlying ht, hs, hl2, hn, h48, Question.forced, ho, hf, newRow, grownCap, hzv, typeInfo, hie, h63]
  congr 2
  apply Array.ext'
  simp [List.append_assoc]
theorem run_appZ {A : Option Addr} {t3 n c k : Nat} {olds : List Value} (ht : P.underlying t = some (.slice e)) (h3 : P.underlying t3 = some (.int .i64)) (he : tyOKB P e te = true)
    (h0 : 0 < k) (hs : 0 < te.size) (hroom : c < n + k) (hfit : fitsB (n + k) te = true) (ho : (Builtin.firstCells te.size n (.slice A n c)).run P w.drew = .ok olds.toArray w.drew) :
    ∃ (c' : Nat) (rest : Array Value), n + k ≤ c' ∧ c' ≤ maxLen ∧ rest.size = (k + (c' - (n + k))) * te.size ∧
    ∀ ty, (Builtin.append_ #[t, t3] ty #[.slice A n c, .int .i64 k]).run P w = .ok (.slice (some ⟨w.heap.size, 0, none⟩) (n + k) c') (w.drew.alloc (.cells (olds.toArray ++ rest) e)) := by
  obtain ⟨hf1, hf2⟩ := fits_of hfit
  obtain ⟨ie, ze, hie, hse, hbe, hze, hzl⟩ := tyOK_info he
  have hzs : ze.cells.size = te.size := by rw [← tyOK_len he, ← (hzl w (fun _ => False)).length, Array.length_toList]
  have h48 : k * te.bytes ≤ 281474976710656 := Nat.le_trans (Nat.mul_le_mul_right _ (by omega)) (Nat.le_trans hf1 (by omega))
  refine ⟨grownCap w (n + k) c e, Builtin.zeroCells ze.cells k ++ Builtin.zeroCells ze.cells (grownCap w (n + k) c e - (n + k)), grownCap_ge w _ _ e, grownCap_le_maxLen w _ _ e hf2, by rw [Array.size_append, size_zeroCells, size_zeroCells, hzs, Nat.add_mul], fun ty => ?_⟩
  have := run_append_grow_zeros (P := P) w t t3 ty e ie ze .i64 .i64 ht h3 hie hze A n c olds (by rw [hse]; exact ho) k h0 (by rw [hse]; exact hs) hroom (by unfold maxLen at hf2; omega) (by rw [hbe]; exact h48) (by rw [hbe]; exact growslice_fits hroom hf1)
  rw [this, Array.append_assoc]
theorem x_slLH2 {x y z : Operand} {b o len cap l h : Nat} (ht : P.underlying t = some (.slice e)) (he : tyOKB P e te = true) (hx : ρ x = .slice (some ⟨b, o, none⟩) len cap) (hy : ρ y = .int .i64 l) (hz : ρ z = .int .i64 h) (h1 : l ≤ h) (h2 : h ≤ cap) (h3 : l < cap) :
    (execOp ρ ⟨d, .slice t x (some y) (some z) none, ty, pos, af, g⟩).run P w = .ok (.value (.slice (some ⟨b, o + l * te.size, none⟩) (h - l) (cap - l))) w := by
  have := x_slLH (w := w) (d := d) (ty := ty) (pos := pos) (af := af) (g := g) ht he hx hy hz h1 h2
  rwa [if_neg (by omega), Option.map_some, Addr.add_mid] at this
theorem run_clr (ht : P.underlying t = some (.slice e)) (he : tyOKB P e te = true) : ∃ zs : List Value, zs.length = te.size ∧ ∀ (w : World) (b o m mc : Nat) (ty : TypeId), m = 1 → w.there b o te.size → (Builtin.clear_ #[t] ty #[.slice (some ⟨b, o, none⟩) m mc]).run P w = .ok (.tuple #[]) (w.setCells b o zs) := by
  obtain ⟨ie, ze, hie, hse, hbe, hze, hzl⟩ := tyOK_info he
  have hzs : ∀ w : World, ze.cells.size = te.size := fun w => by rw [← tyOK_len he, ← (hzl w (fun _ => False)).length, Array.length_toList]
  refine ⟨ze.cells.toList, ?_, fun w b o m mc ty hm hth => ?_⟩
  · have := hzl (World.mk #[] default default default default) (fun _ => False)
    rw [this.length, tyOK_len he]
  · subst hm
    have h1 : ∀ u ∈ ze.cells.toList, u.oneCell' = true := PRL.one (hzl w (fun _ => False))
    have hst := run_cells (P := P) (w := w) (b := b) (o := o) (vs := ze.cells.toList) (by rw [Array.length_toList, hzs w]; exact hth) h1
    have hzc : (Builtin.zeroCells ze.cells 1).toList = ze.cells.toList := by
      simp only [Builtin.zeroCells, Nat.one_mul, Array.toList_map, Array.toList_range]
      refine List.ext_getElem (by simp) fun i h2 h3 => ?_
      have h4 : i < ze.cells.size := by simpa using h3
      simp [Nat.mod_eq_of_lt h4, h4]
    simp [Builtin.clear_, run_underlying ht, zeroValue, typeInfo, hie, hze, hzc, hst]
theorem x_callV2 {k : Nat} {f x y : Operand} {ts : Array TypeId} {vx vy v : Value} (hE : (callFunc k #[vx, vy]).run P w = .ok (.value v) w) (hf : ρ f = .func (.func k) #[] #[]) (hx : ρ x = vx) (hy : ρ y = vy) :
    (execOp ρ ⟨d, .call { callee := .value f, args := #[x, y], argTypes := ts }, ty, pos, af, g⟩).run P w = .ok (.value v) w := by
  subst hx; subst hy
  simp [execOp, resolve, hf, Deferred.ofValue, invoke, hE]
end
def Far (b : Nat) (w w' : World) : Prop := w'.os = w.os ∧ w'.tape = w.tape ∧ (w'.output = w.output ∧ w.drawn ≤ w'.drawn) ∧ w.heap.size ≤ w'.heap.size ∧ ∀ k, k < w.heap.size → k ≠ b → w'.heap[k]? = w.heap[k]?
section
variable {w w' w'' : World} {b : Nat}
theorem Far.refl : Far b w w := ⟨rfl, rfl, ⟨rfl, Nat.le_refl _⟩, Nat.le_refl _, fun _ _ _ => rfl⟩
theorem Far.trans (h : Far b w w') (k : Far b w' w'') : Far b w w'' :=
  ⟨k.1.trans h.1, k.2.1.trans h.2.1, ⟨k.2.2.1.1.trans h.2.2.1.1, Nat.le_trans h.2.2.1.2 k.2.2.1.2⟩, Nat.le_trans h.2.2.2.1 k.2.2.2.1, fun j hj hn => (k.2.2.2.2 j (Nat.lt_of_lt_of_le hj h.2.2.2.1) hn).trans (h.2.2.2.2 j hj hn)⟩
theorem Far.put (h : Far b w w') (o : Nat) (vs : List Value) : Far b w (w'.setCells b o vs) := by
  obtain ⟨f1, f2, f3, f4, f5⟩ := setCells_far b vs o w'
  exact h.trans ⟨f1, f2, f3, by omega, fun k _ hk => f5 k hk⟩
theorem Far.drew (h : Far b w w') : Far b w w'.drew := h.trans ⟨rfl, rfl, ⟨rfl, Nat.le_succ _⟩, Nat.le_refl _, fun _ _ _ => rfl⟩
theorem Far.alloc (h : Far b w w') (o : Obj) : Far b w (w'.alloc o) := h.trans ⟨rfl, rfl, ⟨rfl, Nat.le_refl _⟩, (by show _ ≤ (w'.heap.push o).size; rw [Array.size_push]; omega), fun k hk _ => Below.heap_alloc w' o k hk⟩
theorem setCells_heap {o m : Nat} {vs : List Value} (hg : ∃ t cs, w.heap[b]? = some (.cells cs t (0, 0)) ∧ m ≤ cs.size) (hle : o + vs.length ≤ m) : ∃ t cs, (w.setCells b o vs).heap[b]? = some (.cells cs t (0, 0)) ∧ m ≤ cs.size := by
  obtain ⟨t, cs, h1, h2⟩ := hg
  obtain ⟨cs', h3, h4⟩ := setCells_size (vs := vs) (o := o) h1 (by omega)
  exact ⟨t, cs', h3, by omega⟩
theorem rangeAt_app {o : Nat} {us vs : List Value} (h : w.rangeAt b o us) (k : w.rangeAt b (o + us.length) vs) : w.rangeAt b o (us ++ vs) := fun j v hj => by
  rcases Nat.lt_or_ge j us.length with hl | hl
  · rw [List.getElem?_append_left hl] at hj; exact h j v hj
  · rw [List.getElem?_append_right hl] at hj
    have := k (j - us.length) v hj
    rwa [show o + us.length + (j - us.length) = o + j by omega] at this
variable {P : Program} {X : Nat → Prop} {φ : Phi} {H : Hp}
theorem moved {k sz b' o' c' : Nat} {l : Loc} {es' : List (List PV)} {vss : List (List Value)} (hH : HR X φ H w) (hk : H.length = k) (hl : φ 0 = .at false l) (hnc : es'.length ≤ c') (hc' : c' ≤ maxLen)
    {b0 : Nat} (hf : Far b0 w w') (hb0 : b0 < w.heap.size → ∃ p, l.A = some (b0, p)) (hA : (∃ p, l.A = some (b', p)) ∨ (w.heap.size ≤ b' ∧ b' < w'.heap.size))
    (hcell : ∃ t cs, w'.heap[b']? = some (.cells cs t (0, 0)) ∧ o' + c' * sz ≤ cs.size) (hv : PRLL w (YOf X φ) sz es' vss) (hr : w'.rangeAt b' o' vss.flatten) :
    Ret X φ H w [(.own k, hput (hset H 0 none) k (.row false sz es'))] (.returned (.slice (some ⟨b', o', none⟩) es'.length c')) w' := by
  subst hk
  obtain ⟨f1, f2, f3, f4, f5⟩ := hf
  have hfr := hH.free
  obtain ⟨h1, ev⟩ := HR.move (l' := ⟨some (b', o'), es'.length, c', sz⟩) (x := .row false sz es') hH hfr hl f1 f2 f3 f4 (fun k hk hn => f5 k hk fun e => by subst e; obtain ⟨p, hp⟩ := hb0 hk; exact hn p hp)
    (fun b p' e => by simp only [Option.some.injEq, Prod.mk.injEq] at e; obtain ⟨rfl, rfl⟩ := e; exact hA) (fun ev => by
      obtain ⟨t, cs, h3, h4⟩ := hcell
      simp only [OR]
      exact ⟨trivial, trivial, trivial, hnc, hc', .inr ⟨b', o', t, cs, rfl, h3, h4, PRE.of_flat (PRLL.stay (ev.stay X) hv) hr, fun h => by cases h⟩⟩)
  refine ⟨_, List.mem_singleton.2 rfl, _, _, rfl, ?_, h1, ev, length_move (Nat.le_refl _), fun j hj hfj => ?_⟩
  · simp only [VR]
    refine ⟨rfl, (by rw [Phi.set_self]; intro h; cases h), fun z l' hz => ?_⟩
    rw [Phi.set_self] at hz
    cases hz
    simp [Loc.addr]
  · have hj0 : j ≠ 0 := fun e => by subst e; rw [hl] at hfj; cases hfj
    rw [Phi.set_ne (by omega), Phi.set_ne hj0]; exact hfj
end
end Go.Proofs.Ytelblamgfbkhbaa
namespace Go.Proofs.Ytelblamgfbkhbaa
set_option linter.unusedVariables false
set_option linter.unusedSimpArgs false
open Go.RowKit Go.Lib Go.Proofs.Ytelblamgfbkhbaa.W
def te52 : TI := ⟨.struct [(9, 0), (9, 1), (3, 2), (3, 3)], 4, 48, [.str ByteArray.empty, .str ByteArray.empty, .int .i64 0, .int .i64 0]⟩
theorem in_hu : Try.prog.underlying 25 = some (.slice 52) := Try.underlying25
theorem in_he : tyOKB Try.prog 52 te52 = true := by kernel_rfl
theorem in_i3 : Try.prog.underlying 3 = some (.int .i64) := Try.underlying3
theorem in_mixed : Try.prog.follows .mixedOrders = true := by kernel_rfl
theorem there_new {w : World} {C : Array Value} {t o n : Nat} (h : o + n ≤ C.size) : (w.alloc (.cells C t)).there w.heap.size o n := fun j hj =>
  ⟨by rw [World.cell?_alloc_new, Array.getElem?_eq_getElem (by omega)]; rfl, World.frozen?_alloc_new w C t (o + j)⟩
section
variable {b off n c i vb voff vc : Nat} {ca cd vs cs : List Value} {w : World} {R : Ending → World → Prop}
set_option maxHeartbeats 4000000 in
set_option maxRecDepth 20000 in
theorem ins_er (hn : n + 1 ≤ c) (hc : c ≤ 9223372036854775807) (hvl : vs.length = 1 * te52.size) (hv : w.rangeAt vb voff vs) (htv : w.there b (off + n * te52.size) vs.length) (h1v : ∀ u ∈ vs, u.oneCell' = true)
    (hpost : R (.returned (.slice (some ⟨b, off, none⟩) (n + 1) c)) (w.setCells b (off + n * te52.size) vs)) :
    Calls Try.prog 64 #[.slice (some ⟨b, off, none⟩) n c, .int .i64 ((n : Nat) : Int), .slice (some ⟨vb, voff, none⟩) 1 vc] w R := by
  have hu := in_hu; have he := in_he; have hi3 := in_i3; have mixed := in_mixed
  refine W.enter (args := [Value.slice (some (⟨b, off, none⟩ : Addr)) n c, Value.int .i64 ((n : Nat) : Int), Value.slice (some ⟨vb, voff, none⟩) 1 vc]) Try.func64 rfl (n := 95) rfl rfl fun T hT => ?_
  refine c_seq fun K1 hK1 => ?_
  refine c_reg ?_
  refine st (v := Value.slice none 0 0) rfl (x_assign (v := Value.slice none 0 0) rfl) ?_
  refine s_nil ?_
  refine hK1 _ _ ?_
  refine c_seq fun K2 hK2 => ?_
  refine c_reg ?_
  refine st (v := Value.slice (some (⟨b, off, none⟩ : Addr)) n c) rfl (x_move (v := Value.slice (some (⟨b, off, none⟩ : Addr)) n c) (ev_tmp (v := Value.slice (some (⟨b, off, none⟩ : Addr)) n c) rfl rfl)) ?_
  refine st (v := Value.int .i64 ((n : Nat) : Int)) rfl (x_move (v := Value.int .i64 ((n : Nat) : Int)) (ev_tmp (v := Value.int .i64 ((n : Nat) : Int)) rfl rfl)) ?_
  refine st (v := Value.slice (if c = n then (some (⟨b, off, none⟩ : Addr)) else (some (⟨b, off, none⟩ : Addr)).map (·.add (n * te52.size))) (n - n) (c - n)) rfl (x_slA hu he (ev_tmp (v := Value.slice (some (⟨b, off, none⟩ : Addr)) n c) rfl rfl) (ev_tmp (v := Value.int .i64 ((n : Nat) : Int)) rfl rfl) (by omega) (by omega)) ?_
  refine s_nil ?_
  refine hK2 _ _ ?_
  refine c_seq fun K3 hK3 => ?_
  refine c_reg ?_
  refine st (v := Value.slice (some ⟨vb, voff, none⟩) 1 vc) rfl (x_move (v := Value.slice (some ⟨vb, voff, none⟩) 1 vc) (ev_tmp (v := Value.slice (some ⟨vb, voff, none⟩) 1 vc) rfl rfl)) ?_
  refine st (v := Value.int .i64 ((1 : Nat) : Int)) rfl (x_lensl hu (ev_tmp (v := Value.slice (some ⟨vb, voff, none⟩) 1 vc) rfl rfl)) ?_
  refine st (v := Value.int .i64 ((1 : Nat) : Int)) rfl (x_assign (v := Value.int .i64 ((1 : Nat) : Int)) (ev_tmp (v := Value.int .i64 ((1 : Nat) : Int)) rfl rfl)) ?_
  refine s_nil ?_
  refine hK3 _ _ ?_
  refine c_seq fun K4 hK4 => ?_
  refine c_seq fun K5 hK5 => ?_
  refine c_reg ?_
  refine st (v := Value.int .i64 ((1 : Nat) : Int)) rfl (x_move (v := Value.int .i64 ((1 : Nat) : Int)) (ev_tmp (v := Value.int .i64 ((1 : Nat) : Int)) rfl rfl)) ?_
  refine st (v := Value.bool (decide (((1 : Nat) : Int) = 0))) rfl (x_eql (k := .i64) (p := ((1 : Nat) : Int)) (q := 0) (ev_tmp (v := Value.int .i64 ((1 : Nat) : Int)) rfl rfl) rfl) ?_
  refine s_nil ?_
  refine hK5 _ _ ?_
  refine c_cond (b := decide (((1 : Nat) : Int) = 0)) (ev_tmp rfl rfl) (fun hc => absurd (of_decide_eq_true hc) (by omega)) (fun hc => ?_)
  refine c_skip ?_
  refine hK4 _ _ ?_
  refine c_seq fun K6 hK6 => ?_
  refine c_reg ?_
  refine st (v := Value.slice (some (⟨b, off, none⟩ : Addr)) n c) rfl (x_move (v := Value.slice (some (⟨b, off, none⟩ : Addr)) n c) (ev_tmp (v := Value.slice (some (⟨b, off, none⟩ : Addr)) n c) rfl rfl)) ?_
  refine st (v := Value.int .i64 ((n : Nat) : Int)) rfl (x_lensl hu (ev_tmp (v := Value.slice (some (⟨b, off, none⟩ : Addr)) n c) rfl rfl)) ?_
  refine st (v := Value.int .i64 ((n : Nat) : Int)) rfl (x_assign (v := Value.int .i64 ((n : Nat) : Int)) (ev_tmp (v := Value.int .i64 ((n : Nat) : Int)) rfl rfl)) ?_
  refine s_nil ?_
  refine hK6 _ _ ?_
  refine c_seq fun K7 hK7 => ?_
  refine c_seq fun K8 hK8 => ?_
  refine c_reg ?_
  refine st (v := Value.int .i64 ((n : Nat) : Int)) rfl (x_move (v := Value.int .i64 ((n : Nat) : Int)) (ev_tmp (v := Value.int .i64 ((n : Nat) : Int)) rfl rfl)) ?_
  refine st (v := Value.int .i64 ((n : Nat) : Int)) rfl (x_move (v := Value.int .i64 ((n : Nat) : Int)) (ev_tmp (v := Value.int .i64 ((n : Nat) : Int)) rfl rfl)) ?_
  refine st (v := Value.bool (decide (((n : Nat) : Int) = ((n : Nat) : Int)))) rfl (x_eql (k := .i64) (p := ((n : Nat) : Int)) (q := ((n : Nat) : Int)) (ev_tmp (v := Value.int .i64 ((n : Nat) : Int)) rfl rfl) (ev_tmp (v := Value.int .i64 ((n : Nat) : Int)) rfl rfl)) ?_
  refine s_nil ?_
  refine hK8 _ _ ?_
  refine c_cond (b := decide (((n : Nat) : Int) = ((n : Nat) : Int))) (ev_tmp rfl rfl) (fun hc => ?_) (fun hc => absurd rfl (of_decide_eq_false hc))
  refine c_seq fun K9 hK9 => ?_
  refine c_reg ?_
  refine st (v := Value.slice (some (⟨b, off, none⟩ : Addr)) n c) rfl (x_move (v := Value.slice (some (⟨b, off, none⟩ : Addr)) n c) (ev_tmp (v := Value.slice (some (⟨b, off, none⟩ : Addr)) n c) rfl rfl)) ?_
  refine st (v := Value.slice (some ⟨vb, voff, none⟩) 1 vc) rfl (x_move (v := Value.slice (some ⟨vb, voff, none⟩) 1 vc) (ev_tmp (v := Value.slice (some ⟨vb, voff, none⟩) 1 vc) rfl rfl)) ?_
  refine st (v := Value.slice (some (⟨b, off, none⟩ : Addr)) (n + 1) c) rfl (x_appR (te := te52) (n := n) (m := 1) (cs := vs) hu he (ev_tmp (v := Value.slice (some (⟨b, off, none⟩ : Addr)) n c) rfl rfl) (ev_tmp (v := Value.slice (some ⟨vb, voff, none⟩) 1 vc) rfl rfl) hvl hv htv h1v (by omega)) ?_
  refine st (v := Value.slice (some (⟨b, off, none⟩ : Addr)) (n + 1) c) rfl (x_assign (v := Value.slice (some (⟨b, off, none⟩ : Addr)) (n + 1) c) (ev_tmp (v := Value.slice (some (⟨b, off, none⟩ : Addr)) (n + 1) c) rfl rfl)) ?_
  refine s_nil ?_
  refine hK9 _ _ ?_
  refine c_ret ?_
  refine hT _ _ ?_
  refine r1 rfl (ev_tmp (v := Value.slice (some (⟨b, off, none⟩ : Addr)) (n + 1) c) rfl rfl) ?_
  exact hpost
set_option maxHeartbeats 4000000 in
set_option maxRecDepth 20000 in
theorem ins_eg {A : Option Addr} (hnc : n ≤ c) (hn : c < n + 1) (hfit : fitsB (n + 1) te52 = true) (hold : (Builtin.firstCells te52.size n (.slice A n c)).run Try.prog w.drew = .ok cs.toArray w.drew) (hvl : vs.length = 1 * te52.size) (hv : w.rangeAt vb voff vs)
    (hpost : ∀ c1 rest, n + 1 ≤ c1 → c1 ≤ maxLen → rest.size = (c1 - (n + 1)) * te52.size → R (.returned (.slice (some ⟨w.heap.size, 0, none⟩) (n + 1) c1)) (w.drew.alloc (.cells ((cs ++ vs).toArray ++ rest) 52))) :
    Calls Try.prog 64 #[.slice A n c, .int .i64 ((n : Nat) : Int), .slice (some ⟨vb, voff, none⟩) 1 vc] w R := by
  have hu := in_hu; have he := in_he; have hi3 := in_i3; have mixed := in_mixed
  refine W.enter (args := [Value.slice A n c, Value.int .i64 ((n : Nat) : Int), Value.slice (some ⟨vb, voff, none⟩) 1 vc]) Try.func64 rfl (n := 95) rfl rfl fun T hT => ?_
  refine c_seq fun K1 hK1 => ?_
  refine c_reg ?_
  refine st (v := Value.slice none 0 0) rfl (x_assign (v := Value.slice none 0 0) rfl) ?_
  refine s_nil ?_
  refine hK1 _ _ ?_
  refine c_seq fun K2 hK2 => ?_
  refine c_reg ?_
  refine st (v := Value.slice A n c) rfl (x_move (v := Value.slice A n c) (ev_tmp (v := Value.slice A n c) rfl rfl)) ?_
  refine st (v := Value.int .i64 ((n : Nat) : Int)) rfl (x_move (v := Value.int .i64 ((n : Nat) : Int)) (ev_tmp (v := Value.int .i64 ((n : Nat) : Int)) rfl rfl)) ?_
  refine st (v := Value.slice (if c = n then A else A.map (·.add (n * te52.size))) (n - n) (c - n)) rfl (x_slA hu he (ev_tmp (v := Value.slice A n c) rfl rfl) (ev_tmp (v := Value.int .i64 ((n : Nat) : Int)) rfl rfl) (by omega) (by omega)) ?_
  refine s_nil ?_
  refine hK2 _ _ ?_
  refine c_seq fun K3 hK3 => ?_
  refine c_reg ?_
  refine st (v := Value.slice (some ⟨vb, voff, none⟩) 1 vc) rfl (x_move (v := Value.slice (some ⟨vb, voff, none⟩) 1 vc) (ev_tmp (v := Value.slice (some ⟨vb, voff, none⟩) 1 vc) rfl rfl)) ?_
  refine st (v := Value.int .i64 ((1 : Nat) : Int)) rfl (x_lensl hu (ev_tmp (v := Value.slice (some ⟨vb, voff, none⟩) 1 vc) rfl rfl)) ?_
  refine st (v := Value.int .i64 ((1 : Nat) : Int)) rfl (x_assign (v := Value.int .i64 ((1 : Nat) : Int)) (ev_tmp (v := Value.int .i64 ((1 : Nat) : Int)) rfl rfl)) ?_
  refine s_nil ?_
  refine hK3 _ _ ?_
  refine c_seq fun K4 hK4 => ?_
  refine c_seq fun K5 hK5 => ?_
  refine c_reg ?_
  refine st (v := Value.int .i64 ((1 : Nat) : Int)) rfl (x_move (v := Value.int .i64 ((1 : Nat) : Int)) (ev_tmp (v := Value.int .i64 ((1 : Nat) : Int)) rfl rfl)) ?_
  refine st (v := Value.bool (decide (((1 : Nat) : Int) = 0))) rfl (x_eql (k := .i64) (p := ((1 : Nat) : Int)) (q := 0) (ev_tmp (v := Value.int .i64 ((1 : Nat) : Int)) rfl rfl) rfl) ?_
  refine s_nil ?_
  refine hK5 _ _ ?_
  refine c_cond (b := decide (((1 : Nat) : Int) = 0)) (ev_tmp rfl rfl) (fun hc => absurd (of_decide_eq_true hc) (by omega)) (fun hc => ?_)
  refine c_skip ?_
  refine hK4 _ _ ?_
  refine c_seq fun K6 hK6 => ?_
  refine c_reg ?_
  refine st (v := Value.slice A n c) rfl (x_move (v := Value.slice A n c) (ev_tmp (v := Value.slice A n c) rfl rfl)) ?_
  refine st (v := Value.int .i64 ((n : Nat) : Int)) rfl (x_lensl hu (ev_tmp (v := Value.slice A n c) rfl rfl)) ?_
  refine st (v := Value.int .i64 ((n : Nat) : Int)) rfl (x_assign (v := Value.int .i64 ((n : Nat) : Int)) (ev_tmp (v := Value.int .i64 ((n : Nat) : Int)) rfl rfl)) ?_
  refine s_nil ?_
  refine hK6 _ _ ?_
  refine c_seq fun K7 hK7 => ?_
  refine c_seq fun K8 hK8 => ?_
  refine c_reg ?_
  refine st (v := Value.int .i64 ((n : Nat) : Int)) rfl (x_move (v := Value.int .i64 ((n : Nat) : Int)) (ev_tmp (v := Value.int .i64 ((n : Nat) : Int)) rfl rfl)) ?_
  refine st (v := Value.int .i64 ((n : Nat) : Int)) rfl (x_move (v := Value.int .i64 ((n : Nat) : Int)) (ev_tmp (v := Value.int .i64 ((n : Nat) : Int)) rfl rfl)) ?_
  refine st (v := Value.bool (decide (((n : Nat) : Int) = ((n : Nat) : Int)))) rfl (x_eql (k := .i64) (p := ((n : Nat) : Int)) (q := ((n : Nat) : Int)) (ev_tmp (v := Value.int .i64 ((n : Nat) : Int)) rfl rfl) (ev_tmp (v := Value.int .i64 ((n : Nat) : Int)) rfl rfl)) ?_
  refine s_nil ?_
  refine hK8 _ _ ?_
  refine c_cond (b := decide (((n : Nat) : Int) = ((n : Nat) : Int))) (ev_tmp rfl rfl) (fun hc => ?_) (fun hc => absurd rfl (of_decide_eq_false hc))
  refine c_seq fun K9 hK9 => ?_
  obtain ⟨c1, rest, hc1, hc2, hrs, hrun⟩ := run_appG (te := te52) (A := A) (n := n) (c := c) (m := 1) (cs := vs) (olds := cs) (mc := vc) hu he hvl hv (by omega) hfit hold
  refine c_reg ?_
  refine st (v := Value.slice A n c) rfl (x_move (v := Value.slice A n c) (ev_tmp (v := Value.slice A n c) rfl rfl)) ?_
  refine st (v := Value.slice (some ⟨vb, voff, none⟩) 1 vc) rfl (x_move (v := Value.slice (some ⟨vb, voff, none⟩) 1 vc) (ev_tmp (v := Value.slice (some ⟨vb, voff, none⟩) 1 vc) rfl rfl)) ?_
  refine st (v := Value.slice (some ⟨w.heap.size, 0, none⟩) (n + 1) c1) rfl (x_app2 (ev_tmp (v := Value.slice A n c) rfl rfl) (ev_tmp (v := Value.slice (some ⟨vb, voff, none⟩) 1 vc) rfl rfl) (hrun _)) ?_
  refine st (v := Value.slice (some ⟨w.heap.size, 0, none⟩) (n + 1) c1) rfl (x_assign (v := Value.slice (some ⟨w.heap.size, 0, none⟩) (n + 1) c1) (ev_tmp (v := Value.slice (some ⟨w.heap.size, 0, none⟩) (n + 1) c1) rfl rfl)) ?_
  refine s_nil ?_
  refine hK9 _ _ ?_
  refine c_ret ?_
  refine hT _ _ ?_
  refine r1 rfl (ev_tmp (v := Value.slice (some ⟨w.heap.size, 0, none⟩) (n + 1) c1) rfl rfl) ?_
  exact hpost _ _ hc1 hc2 hrs
set_option maxHeartbeats 4000000 in
set_option maxRecDepth 20000 in
theorem ins_g (hi : i < n) (hnc : n ≤ c) (hn : c < n + 1) (hfit : fitsB (i + (n + 1 - i)) te52 = true) (hb : b < w.heap.size) (hal : ca.length = i * te52.size) (hdl : cd.length = (n - i) * te52.size) (hvl : vs.length = 1 * te52.size)
    (ha : w.rangeAt b off ca) (hd : w.rangeAt b (off + i * te52.size) cd) (hv : w.rangeAt vb voff vs) (h1v : ∀ u ∈ vs, u.oneCell' = true) (h1d : ∀ u ∈ cd, u.oneCell' = true)
    (hpost : ∀ c1 rest, i + (n + 1 - i) ≤ c1 → c1 ≤ maxLen → rest.size = (n + 1 - i + (c1 - (i + (n + 1 - i)))) * te52.size →
      R (.returned (.slice (some ⟨w.heap.size, 0, none⟩) (i + (n + 1 - i)) c1)) ((((w.drew.alloc (.cells (ca.toArray ++ rest) 52)).setCells w.heap.size (0 + i * te52.size) vs).drew).setCells w.heap.size (0 + (i + 1) * te52.size) cd)) :
    Calls Try.prog 64 #[.slice (some ⟨b, off, none⟩) n c, .int .i64 ((i : Nat) : Int), .slice (some ⟨vb, voff, none⟩) 1 vc] w R := by
  have hu := in_hu; have he := in_he; have hi3 := in_i3; have mixed := in_mixed
  have hn63 : n + 1 ≤ 9223372036854775807 := by have := (fits_of hfit).2; unfold maxLen at this; omega
  have hold : (Builtin.firstCells te52.size i (.slice (some ⟨b, off, none⟩) i c)).run Try.prog w.drew = .ok ca.toArray w.drew := run_first hal (by simpa using ha)
  have hfacts : ∀ c1 rest, i + (n + 1 - i) ≤ c1 → c1 ≤ maxLen → rest.size = (n + 1 - i + (c1 - (i + (n + 1 - i)))) * te52.size →
      (w.drew.alloc (.cells (ca.toArray ++ rest) 52)).rangeAt vb voff vs ∧ (w.drew.alloc (.cells (ca.toArray ++ rest) 52)).there w.heap.size (0 + i * te52.size) vs.length ∧
      (((w.drew.alloc (.cells (ca.toArray ++ rest) 52)).setCells w.heap.size (0 + i * te52.size) vs).drew).rangeAt b (off + i * te52.size) cd ∧ (((w.drew.alloc (.cells (ca.toArray ++ rest) 52)).setCells w.heap.size (0 + i * te52.size) vs).drew).there w.heap.size (0 + (i + 1) * te52.size) cd.length := by
    intro c1 rest k1 k2 k3
    have hsz : (ca.toArray ++ rest).size = c1 * te52.size := by
      rw [Array.size_append, List.size_toArray, hal, k3, ← Nat.add_mul]; congr 1; omega
    have m1 : (i + 1) * te52.size ≤ c1 * te52.size := Nat.mul_le_mul_right _ (by omega)
    have m2 : (i + 1) * te52.size + (n - i) * te52.size ≤ c1 * te52.size := by rw [← Nat.add_mul]; exact Nat.mul_le_mul_right _ (by omega)
    have m3 : (i + 1) * te52.size = i * te52.size + 1 * te52.size := Nat.add_mul _ _ _
    refine ⟨World.rangeAt_alloc (by simpa using hv) _, there_new (w := w.drew) (by rw [hsz]; omega), ?_, ?_⟩
    · rw [World.rangeAt_drew]
      exact World.rangeAt_setCells_apart (World.rangeAt_alloc (by simpa using hd) _) _ _ _ (.inl (by omega))
    · rw [World.there_drew]
      exact World.there_setCells (there_new (w := w.drew) (by rw [hsz]; omega)) _ _ _
  refine W.enter (args := [Value.slice (some (⟨b, off, none⟩ : Addr)) n c, Value.int .i64 ((i : Nat) : Int), Value.slice (some ⟨vb, voff, none⟩) 1 vc]) Try.func64 rfl (n := 95) rfl rfl fun T hT => ?_
  refine c_seq fun K1 hK1 => ?_
  refine c_reg ?_
  refine st (v := Value.slice none 0 0) rfl (x_assign (v := Value.slice none 0 0) rfl) ?_
  refine s_nil ?_
  refine hK1 _ _ ?_
  refine c_seq fun K2 hK2 => ?_
  refine c_reg ?_
  refine st (v := Value.slice (some (⟨b, off, none⟩ : Addr)) n c) rfl (x_move (v := Value.slice (some (⟨b, off, none⟩ : Addr)) n c) (ev_tmp (v := Value.slice (some (⟨b, off, none⟩ : Addr)) n c) rfl rfl)) ?_
  refine st (v := Value.int .i64 ((i : Nat) : Int)) rfl (x_move (v := Value.int .i64 ((i : Nat) : Int)) (ev_tmp (v := Value.int .i64 ((i : Nat) : Int)) rfl rfl)) ?_
  refine st (v := Value.slice (if c = i then (some (⟨b, off, none⟩ : Addr)) else (some (⟨b, off, none⟩ : Addr)).map (·.add (i * te52.size))) (n - i) (c - i)) rfl (x_slA hu he (ev_tmp (v := Value.slice (some (⟨b, off, none⟩ : Addr)) n c) rfl rfl) (ev_tmp (v := Value.int .i64 ((i : Nat) : Int)) rfl rfl) (by omega) (by omega)) ?_
  refine s_nil ?_
  refine hK2 _ _ ?_
  refine c_seq fun K3 hK3 => ?_
  refine c_reg ?_
  refine st (v := Value.slice (some ⟨vb, voff, none⟩) 1 vc) rfl (x_move (v := Value.slice (some ⟨vb, voff, none⟩) 1 vc) (ev_tmp (v := Value.slice (some ⟨vb, voff, none⟩) 1 vc) rfl rfl)) ?_
  refine st (v := Value.int .i64 ((1 : Nat) : Int)) rfl (x_lensl hu (ev_tmp (v := Value.slice (some ⟨vb, voff, none⟩) 1 vc) rfl rfl)) ?_
  refine st (v := Value.int .i64 ((1 : Nat) : Int)) rfl (x_assign (v := Value.int .i64 ((1 : Nat) : Int)) (ev_tmp (v := Value.int .i64 ((1 : Nat) : Int)) rfl rfl)) ?_
  refine s_nil ?_
  refine hK3 _ _ ?_
  refine c_seq fun K4 hK4 => ?_
  refine c_seq fun K5 hK5 => ?_
  refine c_reg ?_
  refine st (v := Value.int .i64 ((1 : Nat) : Int)) rfl (x_move (v := Value.int .i64 ((1 : Nat) : Int)) (ev_tmp (v := Value.int .i64 ((1 : Nat) : Int)) rfl rfl)) ?_
  refine st (v := Value.bool (decide (((1 : Nat) : Int) = 0))) rfl (x_eql (k := .i64) (p := ((1 : Nat) : Int)) (q := 0) (ev_tmp (v := Value.int .i64 ((1 : Nat) : Int)) rfl rfl) rfl) ?_
  refine s_nil ?_
  refine hK5 _ _ ?_
  refine c_cond (b := decide (((1 : Nat) : Int) = 0)) (ev_tmp rfl rfl) (fun hc => absurd (of_decide_eq_true hc) (by omega)) (fun hc => ?_)
  refine c_skip ?_
  refine hK4 _ _ ?_
  refine c_seq fun K6 hK6 => ?_
  refine c_reg ?_
  refine st (v := Value.slice (some (⟨b, off, none⟩ : Addr)) n c) rfl (x_move (v := Value.slice (some (⟨b, off, none⟩ : Addr)) n c) (ev_tmp (v := Value.slice (some (⟨b, off, none⟩ : Addr)) n c) rfl rfl)) ?_
  refine st (v := Value.int .i64 ((n : Nat) : Int)) rfl (x_lensl hu (ev_tmp (v := Value.slice (some (⟨b, off, none⟩ : Addr)) n c) rfl rfl)) ?_
  refine st (v := Value.int .i64 ((n : Nat) : Int)) rfl (x_assign (v := Value.int .i64 ((n : Nat) : Int)) (ev_tmp (v := Value.int .i64 ((n : Nat) : Int)) rfl rfl)) ?_
  refine s_nil ?_
  refine hK6 _ _ ?_
  refine c_seq fun K7 hK7 => ?_
  refine c_seq fun K8 hK8 => ?_
  refine c_reg ?_
  refine st (v := Value.int .i64 ((i : Nat) : Int)) rfl (x_move (v := Value.int .i64 ((i : Nat) : Int)) (ev_tmp (v := Value.int .i64 ((i : Nat) : Int)) rfl rfl)) ?_
  refine st (v := Value.int .i64 ((n : Nat) : Int)) rfl (x_move (v := Value.int .i64 ((n : Nat) : Int)) (ev_tmp (v := Value.int .i64 ((n : Nat) : Int)) rfl rfl)) ?_
  refine st (v := Value.bool (decide (((i : Nat) : Int) = ((n : Nat) : Int)))) rfl (x_eql (k := .i64) (p := ((i : Nat) : Int)) (q := ((n : Nat) : Int)) (ev_tmp (v := Value.int .i64 ((i : Nat) : Int)) rfl rfl) (ev_tmp (v := Value.int .i64 ((n : Nat) : Int)) rfl rfl)) ?_
  refine s_nil ?_
  refine hK8 _ _ ?_
  refine c_cond (b := decide (((i : Nat) : Int) = ((n : Nat) : Int))) (ev_tmp rfl rfl) (fun hc => absurd (of_decide_eq_true hc) (by omega)) (fun hc => ?_)
  refine c_skip ?_
  refine hK7 _ _ ?_
  refine c_seq fun K9 hK9 => ?_
  refine c_seq fun K10 hK10 => ?_
  refine c_reg ?_
  refine st (v := Value.int .i64 ((n : Nat) : Int)) rfl (x_move (v := Value.int .i64 ((n : Nat) : Int)) (ev_tmp (v := Value.int .i64 ((n : Nat) : Int)) rfl rfl)) ?_
  refine st (v := Value.int .i64 ((1 : Nat) : Int)) rfl (x_move (v := Value.int .i64 ((1 : Nat) : Int)) (ev_tmp (v := Value.int .i64 ((1 : Nat) : Int)) rfl rfl)) ?_
  refine st (v := Value.int .i64 ((n + 1 : Nat) : Int)) rfl (x_addE (k := .i64) (p := ((n : Nat) : Int)) (q := ((1 : Nat) : Int)) (r := ((n + 1 : Nat) : Int)) (ev_tmp (v := Value.int .i64 ((n : Nat) : Int)) rfl rfl) (ev_tmp (v := Value.int .i64 ((1 : Nat) : Int)) rfl rfl) (w64 (by omega) (by omega) (by omega))) ?_
  refine st (v := Value.slice (some (⟨b, off, none⟩ : Addr)) n c) rfl (x_move (v := Value.slice (some (⟨b, off, none⟩ : Addr)) n c) (ev_tmp (v := Value.slice (some (⟨b, off, none⟩ : Addr)) n c) rfl rfl)) ?_
  refine st (v := Value.int .i64 ((c : Nat) : Int)) rfl (x_cap hu (ev_tmp (v := Value.slice (some (⟨b, off, none⟩ : Addr)) n c) rfl rfl)) ?_
  refine st (v := Value.bool (decide (((c : Nat) : Int) < ((n + 1 : Nat) : Int)))) rfl (x_gtr (k := .i64) (p := ((n + 1 : Nat) : Int)) (q := ((c : Nat) : Int)) (ev_tmp (v := Value.int .i64 ((n + 1 : Nat) : Int)) rfl rfl) (ev_tmp (v := Value.int .i64 ((c : Nat) : Int)) rfl rfl)) ?_
  refine s_nil ?_
  refine hK10 _ _ ?_
  refine c_cond (b := decide (((c : Nat) : Int) < ((n + 1 : Nat) : Int))) (ev_tmp rfl rfl) (fun hc => ?_) (fun hc => absurd (of_decide_eq_false hc) (by omega))
  refine c_seq fun K11 hK11 => ?_
  obtain ⟨c1, rest, hc1, hc2, hrs, hrun⟩ := run_appZ (te := te52) (A := (some (⟨b, off, none⟩ : Addr))) (n := i) (c := c) (k := n + 1 - i) (olds := ca) hu hi3 he (by omega) (by decide) (by omega) hfit hold
  refine c_reg ?_
  refine st (v := Value.slice (some (⟨b, off, none⟩ : Addr)) n c) rfl (x_move (v := Value.slice (some (⟨b, off, none⟩ : Addr)) n c) (ev_tmp (v := Value.slice (some (⟨b, off, none⟩ : Addr)) n c) rfl rfl)) ?_
  refine st (v := Value.int .i64 ((i : Nat) : Int)) rfl (x_move (v := Value.int .i64 ((i : Nat) : Int)) (ev_tmp (v := Value.int .i64 ((i : Nat) : Int)) rfl rfl)) ?_
  refine st (v := Value.slice (some (⟨b, off, none⟩ : Addr)) i c) rfl (x_slH hu he (ev_tmp (v := Value.slice (some (⟨b, off, none⟩ : Addr)) n c) rfl rfl) (.inr ⟨_, _, rfl⟩) (ev_tmp (v := Value.int .i64 ((i : Nat) : Int)) rfl rfl) (by omega)) ?_
  refine st (v := Value.int .i64 ((n : Nat) : Int)) rfl (x_move (v := Value.int .i64 ((n : Nat) : Int)) (ev_tmp (v := Value.int .i64 ((n : Nat) : Int)) rfl rfl)) ?_
  refine st (v := Value.int .i64 ((1 : Nat) : Int)) rfl (x_move (v := Value.int .i64 ((1 : Nat) : Int)) (ev_tmp (v := Value.int .i64 ((1 : Nat) : Int)) rfl rfl)) ?_
  refine st (v := Value.int .i64 ((n + 1 : Nat) : Int)) rfl (x_addE (k := .i64) (p := ((n : Nat) : Int)) (q := ((1 : Nat) : Int)) (r := ((n + 1 : Nat) : Int)) (ev_tmp (v := Value.int .i64 ((n : Nat) : Int)) rfl rfl) (ev_tmp (v := Value.int .i64 ((1 : Nat) : Int)) rfl rfl) (w64 (by omega) (by omega) (by omega))) ?_
  refine st (v := Value.int .i64 ((i : Nat) : Int)) rfl (x_move (v := Value.int .i64 ((i : Nat) : Int)) (ev_tmp (v := Value.int .i64 ((i : Nat) : Int)) rfl rfl)) ?_
  refine st (v := Value.int .i64 ((n + 1 - i : Nat) : Int)) rfl (x_subE (k := .i64) (p := ((n + 1 : Nat) : Int)) (q := ((i : Nat) : Int)) (r := ((n + 1 - i : Nat) : Int)) (ev_tmp (v := Value.int .i64 ((n + 1 : Nat) : Int)) rfl rfl) (ev_tmp (v := Value.int .i64 ((i : Nat) : Int)) rfl rfl) (w64 (by omega) (by omega) (by omega))) ?_
  refine st (v := Value.slice (some ⟨w.heap.size, 0, none⟩) (i + (n + 1 - i)) c1) rfl (x_app2 (ev_tmp (v := Value.slice (some (⟨b, off, none⟩ : Addr)) i c) rfl rfl) (ev_tmp (v := Value.int .i64 ((n + 1 - i : Nat) : Int)) rfl rfl) (hrun _)) ?_
  refine st (v := Value.slice (some ⟨w.heap.size, 0, none⟩) (i + (n + 1 - i)) c1) rfl (x_assign (v := Value.slice (some ⟨w.heap.size, 0, none⟩) (i + (n + 1 - i)) c1) (ev_tmp (v := Value.slice (some ⟨w.heap.size, 0, none⟩) (i + (n + 1 - i)) c1) rfl rfl)) ?_
  refine s_nil ?_
  refine hK11 _ _ ?_
  obtain ⟨hW1a, hW1b, hW1c, hW1d⟩ := hfacts c1 rest hc1 hc2 hrs
  refine c_seq fun K12 hK12 => ?_
  refine c_reg ?_
  refine st (v := Value.slice (some ⟨w.heap.size, 0, none⟩) (i + (n + 1 - i)) c1) rfl (x_move (v := Value.slice (some ⟨w.heap.size, 0, none⟩) (i + (n + 1 - i)) c1) (ev_tmp (v := Value.slice (some ⟨w.heap.size, 0, none⟩) (i + (n + 1 - i)) c1) rfl rfl)) ?_
  refine st (v := Value.int .i64 ((i : Nat) : Int)) rfl (x_move (v := Value.int .i64 ((i : Nat) : Int)) (ev_tmp (v := Value.int .i64 ((i : Nat) : Int)) rfl rfl)) ?_
  refine st (v := Value.slice (some ⟨w.heap.size, 0 + i * te52.size, none⟩) (i + (n + 1 - i) - i) (c1 - i)) rfl (x_slL hu he (ev_tmp (v := Value.slice (some ⟨w.heap.size, 0, none⟩) (i + (n + 1 - i)) c1) rfl rfl) (ev_tmp (v := Value.int .i64 ((i : Nat) : Int)) rfl rfl) (by omega) (by omega) (by omega)) ?_
  refine st (v := Value.slice (some ⟨vb, voff, none⟩) 1 vc) rfl (x_move (v := Value.slice (some ⟨vb, voff, none⟩) 1 vc) (ev_tmp (v := Value.slice (some ⟨vb, voff, none⟩) 1 vc) rfl rfl)) ?_
  refine st (v := Value.int .i64 ((1 : Nat) : Int)) rfl (x_cp (te := te52) (m := 1) (cs := vs) hu he (ev_tmp (v := Value.slice (some ⟨w.heap.size, 0 + i * te52.size, none⟩) (i + (n + 1 - i) - i) (c1 - i)) rfl rfl) (ev_tmp (v := Value.slice (some ⟨vb, voff, none⟩) 1 vc) rfl rfl) (nmin (by omega)) hvl hW1a hW1b h1v) ?_
  refine s_nil ?_
  refine hK12 _ _ ?_
  refine c_seq fun K13 hK13 => ?_
  refine c_drawn (fun _ => True) mixed ?_
  refine dT (i := 0) (v := Value.slice (some ⟨w.heap.size, 0, none⟩) (i + (n + 1 - i)) c1) rfl (by kernel_rfl) (by kernel_rfl) rfl trivial (fun _ _ => x_move (v := Value.slice (some ⟨w.heap.size, 0, none⟩) (i + (n + 1 - i)) c1) (ev_tmp (v := Value.slice (some ⟨w.heap.size, 0, none⟩) (i + (n + 1 - i)) c1) rfl rfl)) ?_
  refine dT (i := 1) (v := Value.int .i64 ((i : Nat) : Int)) rfl (by kernel_rfl) (by kernel_rfl) rfl trivial (fun _ _ => x_move (v := Value.int .i64 ((i : Nat) : Int)) (ev_tmp (v := Value.int .i64 ((i : Nat) : Int)) rfl rfl)) ?_
  refine dT (i := 2) (v := Value.int .i64 ((1 : Nat) : Int)) rfl (by kernel_rfl) (by kernel_rfl) rfl trivial (fun _ _ => x_move (v := Value.int .i64 ((1 : Nat) : Int)) (ev_tmp (v := Value.int .i64 ((1 : Nat) : Int)) rfl rfl)) ?_
  refine dT (i := 3) (v := Value.int .i64 ((i + 1 : Nat) : Int)) rfl (by kernel_rfl) (by kernel_rfl) rfl trivial (fun _ _ => x_addE (k := .i64) (p := ((i : Nat) : Int)) (q := ((1 : Nat) : Int)) (r := ((i + 1 : Nat) : Int)) (ev_tmp (v := Value.int .i64 ((i : Nat) : Int)) rfl rfl) (ev_tmp (v := Value.int .i64 ((1 : Nat) : Int)) rfl rfl) (w64 (by omega) (by omega) (by omega))) ?_
  refine dT (i := 4) (v := Value.slice (some ⟨w.heap.size, 0 + (i + 1) * te52.size, none⟩) (i + (n + 1 - i) - (i + 1)) (c1 - (i + 1))) rfl (by kernel_rfl) (by kernel_rfl) rfl trivial (fun _ _ => x_slL hu he (ev_tmp (v := Value.slice (some ⟨w.heap.size, 0, none⟩) (i + (n + 1 - i)) c1) rfl rfl) (ev_tmp (v := Value.int .i64 ((i + 1 : Nat) : Int)) rfl rfl) (by omega) (by omega) (by omega)) ?_
  refine dT (i := 5) (v := Value.slice (some (⟨b, off, none⟩ : Addr)) n c) rfl (by kernel_rfl) (by kernel_rfl) rfl trivial (fun _ _ => x_move (v := Value.slice (some (⟨b, off, none⟩ : Addr)) n c) (ev_tmp (v := Value.slice (some (⟨b, off, none⟩ : Addr)) n c) rfl rfl)) ?_
  refine dT (i := 6) (v := Value.int .i64 ((i : Nat) : Int)) rfl (by kernel_rfl) (by kernel_rfl) rfl trivial (fun _ _ => x_move (v := Value.int .i64 ((i : Nat) : Int)) (ev_tmp (v := Value.int .i64 ((i : Nat) : Int)) rfl rfl)) ?_
  refine dT (i := 7) (v := Value.slice (some ⟨b, off + i * te52.size, none⟩) (n - i) (c - i)) rfl (by kernel_rfl) (by kernel_rfl) rfl trivial (fun _ _ => x_slL hu he (ev_tmp (v := Value.slice (some (⟨b, off, none⟩ : Addr)) n c) rfl rfl) (ev_tmp (v := Value.int .i64 ((i : Nat) : Int)) rfl rfl) (by omega) (by omega) (by omega)) ?_
  refine dA (rs := [8]) (by kernel_rfl) rfl (dC (dst (v := Value.int .i64 ((n - i : Nat) : Int)) rfl rfl (x_cp (te := te52) (m := n - i) (cs := cd) hu he (ev_tmp (v := Value.slice (some ⟨w.heap.size, 0 + (i + 1) * te52.size, none⟩) (i + (n + 1 - i) - (i + 1)) (c1 - (i + 1))) rfl rfl) (ev_tmp (v := Value.slice (some ⟨b, off + i * te52.size, none⟩) (n - i) (c - i)) rfl rfl) (nmin (by omega)) hdl hW1c hW1d h1d) ⟨trivial, ?_⟩) dN)
  refine dE (by kernel_rfl) ?_
  refine hK13 _ _ ?_
  refine c_seq fun K14 hK14 => ?_
  refine c_reg ?_
  refine st (v := Value.slice (some ⟨w.heap.size, 0, none⟩) (i + (n + 1 - i)) c1) rfl (x_move (v := Value.slice (some ⟨w.heap.size, 0, none⟩) (i + (n + 1 - i)) c1) (ev_tmp (v := Value.slice (some ⟨w.heap.size, 0, none⟩) (i + (n + 1 - i)) c1) rfl rfl)) ?_
  refine st (v := Value.slice (some ⟨w.heap.size, 0, none⟩) (i + (n + 1 - i)) c1) rfl (x_assign (v := Value.slice (some ⟨w.heap.size, 0, none⟩) (i + (n + 1 - i)) c1) (ev_tmp (v := Value.slice (some ⟨w.heap.size, 0, none⟩) (i + (n + 1 - i)) c1) rfl rfl)) ?_
  refine s_nil ?_
  refine hK14 _ _ ?_
  refine c_ret ?_
  refine hT _ _ ?_
  refine r1 rfl (ev_tmp (v := Value.slice (some ⟨w.heap.size, 0, none⟩) (i + (n + 1 - i)) c1) rfl rfl) ?_
  exact hpost c1 rest hc1 hc2 hrs
set_option maxHeartbeats 4000000 in
set_option maxRecDepth 20000 in
theorem ins_r {C Cv : Array Value} {t tv : Nat} (hi : i < n) (hn : n + 1 ≤ c) (hc : c ≤ 9223372036854775807) (hdl : cd.length = (n - i) * te52.size) (hvl : vs.length = 1 * te52.size) (hvb : vb ≠ b)
    (hb : w.heap[b]? = some (.cells C t (0, 0))) (hC : off + c * te52.size ≤ C.size) (hvh : w.heap[vb]? = some (.cells Cv tv (0, 0)))
    (hd : w.rangeAt b (off + i * te52.size) cd) (hv : w.rangeAt vb voff vs) (h1v : ∀ u ∈ vs, u.oneCell' = true) (h1d : ∀ u ∈ cd, u.oneCell' = true)
    (hpost : R (.returned (.slice (some ⟨b, off, none⟩) (n + 1) c)) ((w.drew.setCells b (off + (i + 1) * te52.size) cd).setCells b (off + i * te52.size) vs)) :
    Calls Try.prog 64 #[.slice (some ⟨b, off, none⟩) n c, .int .i64 ((i : Nat) : Int), .slice (some ⟨vb, voff, none⟩) 1 vc] w R := by
  have hu := in_hu; have he := in_he; have hi3 := in_i3; have mixed := in_mixed
  have m2 : (i + 1) * te52.size + (n - i) * te52.size ≤ c * te52.size := by rw [← Nat.add_mul]; exact Nat.mul_le_mul_right _ (by omega)
  have m3 : (i + 1) * te52.size = i * te52.size + 1 * te52.size := Nat.add_mul _ _ _
  have thereb : ∀ o k, o + k ≤ C.size → w.there b o k := fun o k h j hj => ⟨by simp [World.cell?, hb, show o + j < C.size by omega], by simp [World.frozen?, hb]⟩
  have htd : w.drew.there b (off + (i + 1) * te52.size) cd.length := by rw [World.there_drew]; exact thereb _ _ (by omega)
  have hv1 : (w.drew.setCells b (off + (i + 1) * te52.size) cd).rangeAt vb voff vs := World.rangeAt_setCells_apart (by simpa using hv) _ _ _ (.inl hvb)
  have hth1 : (w.drew.setCells b (off + (i + 1) * te52.size) cd).there b (off + i * te52.size) vs.length := World.there_setCells (by rw [World.there_drew]; exact thereb _ _ (by omega)) _ _ _
  replace hd : w.drew.rangeAt b (off + i * te52.size) cd := by simpa using hd
  have hov : ∀ lb cb, (callFunc 77 #[.slice (some ⟨vb, voff, none⟩) 1 vc, .slice (some ⟨b, off + (i + 1) * te52.size, none⟩) lb cb]).run Try.prog w = .ok (.value (.bool false)) w := fun lb cb => by
    rw [run_callFunc_extern Try.func77 (by kernel_rfl) (by kernel_rfl) (by kernel_rfl) (e := Extern.SlicesOverlaps.overlaps #[25, 25] #[4]) (by kernel_rfl),
      Lib.run_overlaps_apart w 25 4 52 in_hu te52.size (fun w => run_size in_he) ⟨vb, voff, none⟩ ⟨b, off + (i + 1) * te52.size, none⟩ 1 vc lb cb hvb tv t Cv.size C.size (by simp [World.shape?, hvh]) (by simp [World.shape?, hb]) (by have : 1 * te52.size = 4 := rfl; omega) (by simp [World.frozen?, hvh]) (by simp [World.frozen?, hvh])]
    rfl
  refine W.enter (args := [Value.slice (some (⟨b, off, none⟩ : Addr)) n c, Value.int .i64 ((i : Nat) : Int), Value.slice (some ⟨vb, voff, none⟩) 1 vc]) Try.func64 rfl (n := 95) rfl rfl fun T hT => ?_
  refine c_seq fun K1 hK1 => ?_
  refine c_reg ?_
  refine st (v := Value.slice none 0 0) rfl (x_assign (v := Value.slice none 0 0) rfl) ?_
  refine s_nil ?_
  refine hK1 _ _ ?_
  refine c_seq fun K2 hK2 => ?_
  refine c_reg ?_
  refine st (v := Value.slice (some (⟨b, off, none⟩ : Addr)) n c) rfl (x_move (v := Value.slice (some (⟨b, off, none⟩ : Addr)) n c) (ev_tmp (v := Value.slice (some (⟨b, off, none⟩ : Addr)) n c) rfl rfl)) ?_
  refine st (v := Value.int .i64 ((i : Nat) : Int)) rfl (x_move (v := Value.int .i64 ((i : Nat) : Int)) (ev_tmp (v := Value.int .i64 ((i : Nat) : Int)) rfl rfl)) ?_
  refine st (v := Value.slice (if c = i then (some (⟨b, off, none⟩ : Addr)) else (some (⟨b, off, none⟩ : Addr)).map (·.add (i * te52.size))) (n - i) (c - i)) rfl (x_slA hu he (ev_tmp (v := Value.slice (some (⟨b, off, none⟩ : Addr)) n c) rfl rfl) (ev_tmp (v := Value.int .i64 ((i : Nat) : Int)) rfl rfl) (by omega) (by omega)) ?_
  refine s_nil ?_
  refine hK2 _ _ ?_
  refine c_seq fun K3 hK3 => ?_
  refine c_reg ?_
  refine st (v := Value.slice (some ⟨vb, voff, none⟩) 1 vc) rfl (x_move (v := Value.slice (some ⟨vb, voff, none⟩) 1 vc) (ev_tmp (v := Value.slice (some ⟨vb, voff, none⟩) 1 vc) rfl rfl)) ?_
  refine st (v := Value.int .i64 ((1 : Nat) : Int)) rfl (x_lensl hu (ev_tmp (v := Value.slice (some ⟨vb, voff, none⟩) 1 vc) rfl rfl)) ?_
  refine st (v := Value.int .i64 ((1 : Nat) : Int)) rfl (x_assign (v := Value.int .i64 ((1 : Nat) : Int)) (ev_tmp (v := Value.int .i64 ((1 : Nat) : Int)) rfl rfl)) ?_
  refine s_nil ?_
  refine hK3 _ _ ?_
  refine c_seq fun K4 hK4 => ?_
  refine c_seq fun K5 hK5 => ?_
  refine c_reg ?_
  refine st (v := Value.int .i64 ((1 : Nat) : Int)) rfl (x_move (v := Value.int .i64 ((1 : Nat) : Int)) (ev_tmp (v := Value.int .i64 ((1 : Nat) : Int)) rfl rfl)) ?_
  refine st (v := Value.bool (decide (((1 : Nat) : Int) = 0))) rfl (x_eql (k := .i64) (p := ((1 : Nat) : Int)) (q := 0) (ev_tmp (v := Value.int .i64 ((1 : Nat) : Int)) rfl rfl) rfl) ?_
  refine s_nil ?_
  refine hK5 _ _ ?_
  refine c_cond (b := decide (((1 : Nat) : Int) = 0)) (ev_tmp rfl rfl) (fun hc => absurd (of_decide_eq_true hc) (by omega)) (fun hc => ?_)
  refine c_skip ?_
  refine hK4 _ _ ?_
  refine c_seq fun K6 hK6 => ?_
  refine c_reg ?_
  refine st (v := Value.slice (some (⟨b, off, none⟩ : Addr)) n c) rfl (x_move (v := Value.slice (some (⟨b, off, none⟩ : Addr)) n c) (ev_tmp (v := Value.slice (some (⟨b, off, none⟩ : Addr)) n c) rfl rfl)) ?_
  refine st (v := Value.int .i64 ((n : Nat) : Int)) rfl (x_lensl hu (ev_tmp (v := Value.slice (some (⟨b, off, none⟩ : Addr)) n c) rfl rfl)) ?_
  refine st (v := Value.int .i64 ((n : Nat) : Int)) rfl (x_assign (v := Value.int .i64 ((n : Nat) : Int)) (ev_tmp (v := Value.int .i64 ((n : Nat) : Int)) rfl rfl)) ?_
  refine s_nil ?_
  refine hK6 _ _ ?_
  refine c_seq fun K7 hK7 => ?_
  refine c_seq fun K8 hK8 => ?_
  refine c_reg ?_
  refine st (v := Value.int .i64 ((i : Nat) : Int)) rfl (x_move (v := Value.int .i64 ((i : Nat) : Int)) (ev_tmp (v := Value.int .i64 ((i : Nat) : Int)) rfl rfl)) ?_
  refine st (v := Value.int .i64 ((n : Nat) : Int)) rfl (x_move (v := Value.int .i64 ((n : Nat) : Int)) (ev_tmp (v := Value.int .i64 ((n : Nat) : Int)) rfl rfl)) ?_
  refine st (v := Value.bool (decide (((i : Nat) : Int) = ((n : Nat) : Int)))) rfl (x_eql (k := .i64) (p := ((i : Nat) : Int)) (q := ((n : Nat) : Int)) (ev_tmp (v := Value.int .i64 ((i : Nat) : Int)) rfl rfl) (ev_tmp (v := Value.int .i64 ((n : Nat) : Int)) rfl rfl)) ?_
  refine s_nil ?_
  refine hK8 _ _ ?_
  refine c_cond (b := decide (((i : Nat) : Int) = ((n : Nat) : Int))) (ev_tmp rfl rfl) (fun hc => absurd (of_decide_eq_true hc) (by omega)) (fun hc => ?_)
  refine c_skip ?_
  refine hK7 _ _ ?_
  refine c_seq fun K9 hK9 => ?_
  refine c_seq fun K10 hK10 => ?_
  refine c_reg ?_
  refine st (v := Value.int .i64 ((n : Nat) : Int)) rfl (x_move (v := Value.int .i64 ((n : Nat) : Int)) (ev_tmp (v := Value.int .i64 ((n : Nat) : Int)) rfl rfl)) ?_
  refine st (v := Value.int .i64 ((1 : Nat) : Int)) rfl (x_move (v := Value.int .i64 ((1 : Nat) : Int)) (ev_tmp (v := Value.int .i64 ((1 : Nat) : Int)) rfl rfl)) ?_
  refine st (v := Value.int .i64 ((n + 1 : Nat) : Int)) rfl (x_addE (k := .i64) (p := ((n : Nat) : Int)) (q := ((1 : Nat) : Int)) (r := ((n + 1 : Nat) : Int)) (ev_tmp (v := Value.int .i64 ((n : Nat) : Int)) rfl rfl) (ev_tmp (v := Value.int .i64 ((1 : Nat) : Int)) rfl rfl) (w64 (by omega) (by omega) (by omega))) ?_
  refine st (v := Value.slice (some (⟨b, off, none⟩ : Addr)) n c) rfl (x_move (v := Value.slice (some (⟨b, off, none⟩ : Addr)) n c) (ev_tmp (v := Value.slice (some (⟨b, off, none⟩ : Addr)) n c) rfl rfl)) ?_
  refine st (v := Value.int .i64 ((c : Nat) : Int)) rfl (x_cap hu (ev_tmp (v := Value.slice (some (⟨b, off, none⟩ : Addr)) n c) rfl rfl)) ?_
  refine st (v := Value.bool (decide (((c : Nat) : Int) < ((n + 1 : Nat) : Int)))) rfl (x_gtr (k := .i64) (p := ((n + 1 : Nat) : Int)) (q := ((c : Nat) : Int)) (ev_tmp (v := Value.int .i64 ((n + 1 : Nat) : Int)) rfl rfl) (ev_tmp (v := Value.int .i64 ((c : Nat) : Int)) rfl rfl)) ?_
  refine s_nil ?_
  refine hK10 _ _ ?_
  refine c_cond (b := decide (((c : Nat) : Int) < ((n + 1 : Nat) : Int))) (ev_tmp rfl rfl) (fun hc => absurd (of_decide_eq_true hc) (by omega)) (fun hc => ?_)
  refine c_skip ?_
  refine hK9 _ _ ?_
  refine c_seq fun K11 hK11 => ?_
  refine c_reg ?_
  refine st (v := Value.slice (some (⟨b, off, none⟩ : Addr)) n c) rfl (x_move (v := Value.slice (some (⟨b, off, none⟩ : Addr)) n c) (ev_tmp (v := Value.slice (some (⟨b, off, none⟩ : Addr)) n c) rfl rfl)) ?_
  refine st (v := Value.int .i64 ((n : Nat) : Int)) rfl (x_move (v := Value.int .i64 ((n : Nat) : Int)) (ev_tmp (v := Value.int .i64 ((n : Nat) : Int)) rfl rfl)) ?_
  refine st (v := Value.int .i64 ((1 : Nat) : Int)) rfl (x_move (v := Value.int .i64 ((1 : Nat) : Int)) (ev_tmp (v := Value.int .i64 ((1 : Nat) : Int)) rfl rfl)) ?_
  refine st (v := Value.int .i64 ((n + 1 : Nat) : Int)) rfl (x_addE (k := .i64) (p := ((n : Nat) : Int)) (q := ((1 : Nat) : Int)) (r := ((n + 1 : Nat) : Int)) (ev_tmp (v := Value.int .i64 ((n : Nat) : Int)) rfl rfl) (ev_tmp (v := Value.int .i64 ((1 : Nat) : Int)) rfl rfl) (w64 (by omega) (by omega) (by omega))) ?_
  refine st (v := Value.slice (some (⟨b, off, none⟩ : Addr)) (n + 1) c) rfl (x_slH hu he (ev_tmp (v := Value.slice (some (⟨b, off, none⟩ : Addr)) n c) rfl rfl) (.inr ⟨_, _, rfl⟩) (ev_tmp (v := Value.int .i64 ((n + 1 : Nat) : Int)) rfl rfl) (by omega)) ?_
  refine st (v := Value.slice (some (⟨b, off, none⟩ : Addr)) (n + 1) c) rfl (x_assign (v := Value.slice (some (⟨b, off, none⟩ : Addr)) (n + 1) c) (ev_tmp (v := Value.slice (some (⟨b, off, none⟩ : Addr)) (n + 1) c) rfl rfl)) ?_
  refine s_nil ?_
  refine hK11 _ _ ?_
  refine c_seq fun K12 hK12 => ?_
  refine c_seq fun K13 hK13 => ?_
  refine c_reg ?_
  refine st (v := Value.slice (some ⟨vb, voff, none⟩) 1 vc) rfl (x_move (v := Value.slice (some ⟨vb, voff, none⟩) 1 vc) (ev_tmp (v := Value.slice (some ⟨vb, voff, none⟩) 1 vc) rfl rfl)) ?_
  refine st (v := Value.slice (some (⟨b, off, none⟩ : Addr)) (n + 1) c) rfl (x_move (v := Value.slice (some (⟨b, off, none⟩ : Addr)) (n + 1) c) (ev_tmp (v := Value.slice (some (⟨b, off, none⟩ : Addr)) (n + 1) c) rfl rfl)) ?_
  refine st (v := Value.int .i64 ((i : Nat) : Int)) rfl (x_move (v := Value.int .i64 ((i : Nat) : Int)) (ev_tmp (v := Value.int .i64 ((i : Nat) : Int)) rfl rfl)) ?_
  refine st (v := Value.int .i64 ((1 : Nat) : Int)) rfl (x_move (v := Value.int .i64 ((1 : Nat) : Int)) (ev_tmp (v := Value.int .i64 ((1 : Nat) : Int)) rfl rfl)) ?_
  refine st (v := Value.int .i64 ((i + 1 : Nat) : Int)) rfl (x_addE (k := .i64) (p := ((i : Nat) : Int)) (q := ((1 : Nat) : Int)) (r := ((i + 1 : Nat) : Int)) (ev_tmp (v := Value.int .i64 ((i : Nat) : Int)) rfl rfl) (ev_tmp (v := Value.int .i64 ((1 : Nat) : Int)) rfl rfl) (w64 (by omega) (by omega) (by omega))) ?_
  refine st (v := Value.slice (some ⟨b, off + (i + 1) * te52.size, none⟩) (n + 1 - (i + 1)) (c - (i + 1))) rfl (x_slL hu he (ev_tmp (v := Value.slice (some (⟨b, off, none⟩ : Addr)) (n + 1) c) rfl rfl) (ev_tmp (v := Value.int .i64 ((i + 1 : Nat) : Int)) rfl rfl) (by omega) (by omega) (by omega)) ?_
  refine st (v := Value.bool false) rfl (x_callV2 (hov _ _) rfl (ev_tmp (v := Value.slice (some ⟨vb, voff, none⟩) 1 vc) rfl rfl) (ev_tmp (v := Value.slice (some ⟨b, off + (i + 1) * te52.size, none⟩) (n + 1 - (i + 1)) (c - (i + 1))) rfl rfl)) ?_
  refine st (v := Value.bool (!false)) rfl (x_not (b := false) (ev_tmp (v := Value.bool false) rfl rfl)) ?_
  refine s_nil ?_
  refine hK13 _ _ ?_
  refine c_cond (b := !false) (ev_tmp rfl rfl) (fun hc => ?_) (fun hc => by cases hc)
  refine c_seq fun K14 hK14 => ?_
  refine c_drawn (fun _ => True) mixed ?_
  refine dT (i := 0) (v := Value.slice (some (⟨b, off, none⟩ : Addr)) (n + 1) c) rfl (by kernel_rfl) (by kernel_rfl) rfl trivial (fun _ _ => x_move (v := Value.slice (some (⟨b, off, none⟩ : Addr)) (n + 1) c) (ev_tmp (v := Value.slice (some (⟨b, off, none⟩ : Addr)) (n + 1) c) rfl rfl)) ?_
  refine dT (i := 1) (v := Value.int .i64 ((i : Nat) : Int)) rfl (by kernel_rfl) (by kernel_rfl) rfl trivial (fun _ _ => x_move (v := Value.int .i64 ((i : Nat) : Int)) (ev_tmp (v := Value.int .i64 ((i : Nat) : Int)) rfl rfl)) ?_
  refine dT (i := 2) (v := Value.int .i64 ((1 : Nat) : Int)) rfl (by kernel_rfl) (by kernel_rfl) rfl trivial (fun _ _ => x_move (v := Value.int .i64 ((1 : Nat) : Int)) (ev_tmp (v := Value.int .i64 ((1 : Nat) : Int)) rfl rfl)) ?_
  refine dT (i := 3) (v := Value.int .i64 ((i + 1 : Nat) : Int)) rfl (by kernel_rfl) (by kernel_rfl) rfl trivial (fun _ _ => x_addE (k := .i64) (p := ((i : Nat) : Int)) (q := ((1 : Nat) : Int)) (r := ((i + 1 : Nat) : Int)) (ev_tmp (v := Value.int .i64 ((i : Nat) : Int)) rfl rfl) (ev_tmp (v := Value.int .i64 ((1 : Nat) : Int)) rfl rfl) (w64 (by omega) (by omega) (by omega))) ?_
  refine dT (i := 4) (v := Value.slice (some ⟨b, off + (i + 1) * te52.size, none⟩) (n + 1 - (i + 1)) (c - (i + 1))) rfl (by kernel_rfl) (by kernel_rfl) rfl trivial (fun _ _ => x_slL hu he (ev_tmp (v := Value.slice (some (⟨b, off, none⟩ : Addr)) (n + 1) c) rfl rfl) (ev_tmp (v := Value.int .i64 ((i + 1 : Nat) : Int)) rfl rfl) (by omega) (by omega) (by omega)) ?_
  refine dT (i := 5) (v := Value.slice (some (⟨b, off, none⟩ : Addr)) (n + 1) c) rfl (by kernel_rfl) (by kernel_rfl) rfl trivial (fun _ _ => x_move (v := Value.slice (some (⟨b, off, none⟩ : Addr)) (n + 1) c) (ev_tmp (v := Value.slice (some (⟨b, off, none⟩ : Addr)) (n + 1) c) rfl rfl)) ?_
  refine dT (i := 6) (v := Value.int .i64 ((i : Nat) : Int)) rfl (by kernel_rfl) (by kernel_rfl) rfl trivial (fun _ _ => x_move (v := Value.int .i64 ((i : Nat) : Int)) (ev_tmp (v := Value.int .i64 ((i : Nat) : Int)) rfl rfl)) ?_
  refine dT (i := 7) (v := Value.slice (some ⟨b, off + i * te52.size, none⟩) (n + 1 - i) (c - i)) rfl (by kernel_rfl) (by kernel_rfl) rfl trivial (fun _ _ => x_slL hu he (ev_tmp (v := Value.slice (some (⟨b, off, none⟩ : Addr)) (n + 1) c) rfl rfl) (ev_tmp (v := Value.int .i64 ((i : Nat) : Int)) rfl rfl) (by omega) (by omega) (by omega)) ?_
  refine dA (rs := [8]) (by kernel_rfl) rfl (dC (dst (v := Value.int .i64 ((n - i : Nat) : Int)) rfl rfl (x_cp (te := te52) (m := n - i) (cs := cd) hu he (ev_tmp (v := Value.slice (some ⟨b, off + (i + 1) * te52.size, none⟩) (n + 1 - (i + 1)) (c - (i + 1))) rfl rfl) (ev_tmp (v := Value.slice (some ⟨b, off + i * te52.size, none⟩) (n + 1 - i) (c - i)) rfl rfl) (nmin (by omega)) hdl hd htd h1d) ⟨trivial, ?_⟩) dN)
  refine dE (by kernel_rfl) ?_
  refine hK14 _ _ ?_
  refine c_seq fun K15 hK15 => ?_
  refine c_reg ?_
  refine st (v := Value.slice (some (⟨b, off, none⟩ : Addr)) (n + 1) c) rfl (x_move (v := Value.slice (some (⟨b, off, none⟩ : Addr)) (n + 1) c) (ev_tmp (v := Value.slice (some (⟨b, off, none⟩ : Addr)) (n + 1) c) rfl rfl)) ?_
  refine st (v := Value.int .i64 ((i : Nat) : Int)) rfl (x_move (v := Value.int .i64 ((i : Nat) : Int)) (ev_tmp (v := Value.int .i64 ((i : Nat) : Int)) rfl rfl)) ?_
  refine st (v := Value.slice (some ⟨b, off + i * te52.size, none⟩) (n + 1 - i) (c - i)) rfl (x_slL hu he (ev_tmp (v := Value.slice (some (⟨b, off, none⟩ : Addr)) (n + 1) c) rfl rfl) (ev_tmp (v := Value.int .i64 ((i : Nat) : Int)) rfl rfl) (by omega) (by omega) (by omega)) ?_
  refine st (v := Value.slice (some ⟨vb, voff, none⟩) 1 vc) rfl (x_move (v := Value.slice (some ⟨vb, voff, none⟩) 1 vc) (ev_tmp (v := Value.slice (some ⟨vb, voff, none⟩) 1 vc) rfl rfl)) ?_
  refine st (v := Value.int .i64 ((1 : Nat) : Int)) rfl (x_cp (te := te52) (m := 1) (cs := vs) hu he (ev_tmp (v := Value.slice (some ⟨b, off + i * te52.size, none⟩) (n + 1 - i) (c - i)) rfl rfl) (ev_tmp (v := Value.slice (some ⟨vb, voff, none⟩) 1 vc) rfl rfl) (nmin (by omega)) hvl hv1 hth1 h1v) ?_
  refine s_nil ?_
  refine hK15 _ _ ?_
  refine c_seq fun K16 hK16 => ?_
  refine c_reg ?_
  refine st (v := Value.slice (some (⟨b, off, none⟩ : Addr)) (n + 1) c) rfl (x_move (v := Value.slice (some (⟨b, off, none⟩ : Addr)) (n + 1) c) (ev_tmp (v := Value.slice (some (⟨b, off, none⟩ : Addr)) (n + 1) c) rfl rfl)) ?_
  refine st (v := Value.slice (some (⟨b, off, none⟩ : Addr)) (n + 1) c) rfl (x_assign (v := Value.slice (some (⟨b, off, none⟩ : Addr)) (n + 1) c) (ev_tmp (v := Value.slice (some (⟨b, off, none⟩ : Addr)) (n + 1) c) rfl rfl)) ?_
  refine s_nil ?_
  refine hK16 _ _ ?_
  refine c_ret ?_
  refine hT _ _ ?_
  refine r1 rfl (ev_tmp (v := Value.slice (some (⟨b, off, none⟩ : Addr)) (n + 1) c) rfl rfl) ?_
  exact hpost
set_option maxHeartbeats 4000000 in
set_option maxRecDepth 20000 in
theorem del_w {zs : List Value} (hi : i < n) (hnc : n ≤ c) (hc : c ≤ 9223372036854775807) (hdl : cd.length = (n - (i + 1)) * te52.size)
    (hzl : zs.length = te52.size) (hz : ∀ (w : World) (b o m mc : Nat) (ty : TypeId), m = 1 → w.there b o te52.size → (Builtin.clear_ #[25] ty #[.slice (some ⟨b, o, none⟩) m mc]).run Try.prog w = .ok (.tuple #[]) (w.setCells b o zs))
    (hd : w.rangeAt b (off + (i + 1) * te52.size) cd) (h1d : ∀ u ∈ cd, u.oneCell' = true) (htb : ∀ o k, o + k ≤ off + c * te52.size → w.there b o k)
    (hpost : R (.returned (.slice (some ⟨b, off, none⟩) (i + (n - (i + 1))) c)) ((w.drew.setCells b (off + i * te52.size) cd).setCells b (off + (i + (n - (i + 1))) * te52.size) zs)) :
    Calls Try.prog 65 #[.slice (some ⟨b, off, none⟩) n c, .int .i64 ((i : Nat) : Int), .int .i64 ((i + 1 : Nat) : Int)] w R := by
  have hu := in_hu; have he := in_he; have hi3 := in_i3; have mixed := in_mixed
  have m1 : (i + (n - (i + 1))) * te52.size = i * te52.size + (n - (i + 1)) * te52.size := Nat.add_mul _ _ _
  have m2 : (i + (n - (i + 1))) * te52.size + te52.size ≤ c * te52.size := by rw [← Nat.succ_mul]; exact Nat.mul_le_mul_right _ (by omega)
  have hfd : (Builtin.firstCells te52.size (n - (i + 1)) (.slice (if c = i + 1 then some (⟨b, off, none⟩ : Addr) else (some (⟨b, off, none⟩ : Addr)).map (·.add ((i + 1) * te52.size))) (n - (i + 1)) (c - (i + 1)))).run Try.prog w.drew = .ok cd.toArray w.drew := by
    split
    · have h0 : n - (i + 1) = 0 := by omega
      have : cd = [] := List.length_eq_zero_iff.1 (by rw [hdl, h0]; simp)
      subst this
      exact run_first hdl (fun j v hj => by simp at hj)
    · rw [Option.map_some, Addr.add_mid]
      exact run_first hdl (by simpa using hd)
  have htd : w.drew.there b (off + i * te52.size) cd.length := by rw [World.there_drew]; exact htb _ _ (by omega)
  have hcl : ∀ ty, (Builtin.clear_ #[25] ty #[.slice (some ⟨b, off + (i + (n - (i + 1))) * te52.size, none⟩) (n - (i + (n - (i + 1)))) (c - (i + (n - (i + 1))))]).run Try.prog (w.drew.setCells b (off + i * te52.size) cd) = .ok (.tuple #[]) ((w.drew.setCells b (off + i * te52.size) cd).setCells b (off + (i + (n - (i + 1))) * te52.size) zs) := fun ty =>
    hz _ _ _ _ _ _ (by omega) (World.there_setCells (by rw [World.there_drew]; exact htb _ _ (by omega)) _ _ _)
  refine W.enter (args := [Value.slice (some (⟨b, off, none⟩ : Addr)) n c, Value.int .i64 ((i : Nat) : Int), Value.int .i64 ((i + 1 : Nat) : Int)]) Try.func65 rfl (n := 33) rfl rfl fun T hT => ?_
  refine c_seq fun K1 hK1 => ?_
  refine c_reg ?_
  refine st (v := Value.slice none 0 0) rfl (x_assign (v := Value.slice none 0 0) rfl) ?_
  refine s_nil ?_
  refine hK1 _ _ ?_
  refine c_seq fun K2 hK2 => ?_
  refine c_reg ?_
  refine st (v := Value.slice (some (⟨b, off, none⟩ : Addr)) n c) rfl (x_move (v := Value.slice (some (⟨b, off, none⟩ : Addr)) n c) (ev_tmp (v := Value.slice (some (⟨b, off, none⟩ : Addr)) n c) rfl rfl)) ?_
  refine st (v := Value.int .i64 ((i : Nat) : Int)) rfl (x_move (v := Value.int .i64 ((i : Nat) : Int)) (ev_tmp (v := Value.int .i64 ((i : Nat) : Int)) rfl rfl)) ?_
  refine st (v := Value.int .i64 ((i + 1 : Nat) : Int)) rfl (x_move (v := Value.int .i64 ((i + 1 : Nat) : Int)) (ev_tmp (v := Value.int .i64 ((i + 1 : Nat) : Int)) rfl rfl)) ?_
  refine st (v := Value.slice (some (⟨b, off, none⟩ : Addr)) n c) rfl (x_move (v := Value.slice (some (⟨b, off, none⟩ : Addr)) n c) (ev_tmp (v := Value.slice (some (⟨b, off, none⟩ : Addr)) n c) rfl rfl)) ?_
  refine st (v := Value.int .i64 ((n : Nat) : Int)) rfl (x_lensl hu (ev_tmp (v := Value.slice (some (⟨b, off, none⟩ : Addr)) n c) rfl rfl)) ?_
  refine st (v := Value.slice (if n = i then (some (⟨b, off, none⟩ : Addr)) else (some (⟨b, off, none⟩ : Addr)).map (·.add (i * te52.size))) (i + 1 - i) (n - i)) rfl (x_slLHM hu he (ev_tmp (v := Value.slice (some (⟨b, off, none⟩ : Addr)) n c) rfl rfl) (ev_tmp (v := Value.int .i64 ((i : Nat) : Int)) rfl rfl) (ev_tmp (v := Value.int .i64 ((i + 1 : Nat) : Int)) rfl rfl) (ev_tmp (v := Value.int .i64 ((n : Nat) : Int)) rfl rfl) (by omega) (by omega) (by omega)) ?_
  refine s_nil ?_
  refine hK2 _ _ ?_
  refine c_seq fun K3 hK3 => ?_
  refine c_seq fun K4 hK4 => ?_
  refine c_reg ?_
  refine st (v := Value.int .i64 ((i : Nat) : Int)) rfl (x_move (v := Value.int .i64 ((i : Nat) : Int)) (ev_tmp (v := Value.int .i64 ((i : Nat) : Int)) rfl rfl)) ?_
  refine st (v := Value.int .i64 ((i + 1 : Nat) : Int)) rfl (x_move (v := Value.int .i64 ((i + 1 : Nat) : Int)) (ev_tmp (v := Value.int .i64 ((i + 1 : Nat) : Int)) rfl rfl)) ?_
  refine st (v := Value.bool (decide (((i : Nat) : Int) = ((i + 1 : Nat) : Int)))) rfl (x_eql (k := .i64) (p := ((i : Nat) : Int)) (q := ((i + 1 : Nat) : Int)) (ev_tmp (v := Value.int .i64 ((i : Nat) : Int)) rfl rfl) (ev_tmp (v := Value.int .i64 ((i + 1 : Nat) : Int)) rfl rfl)) ?_
  refine s_nil ?_
  refine hK4 _ _ ?_
  refine c_cond (b := decide (((i : Nat) : Int) = ((i + 1 : Nat) : Int))) (ev_tmp rfl rfl) (fun hc => absurd (of_decide_eq_true hc) (by omega)) (fun hc => ?_)
  refine c_skip ?_
  refine hK3 _ _ ?_
  refine c_seq fun K5 hK5 => ?_
  refine c_reg ?_
  refine st (v := Value.slice (some (⟨b, off, none⟩ : Addr)) n c) rfl (x_move (v := Value.slice (some (⟨b, off, none⟩ : Addr)) n c) (ev_tmp (v := Value.slice (some (⟨b, off, none⟩ : Addr)) n c) rfl rfl)) ?_
  refine st (v := Value.int .i64 ((n : Nat) : Int)) rfl (x_lensl hu (ev_tmp (v := Value.slice (some (⟨b, off, none⟩ : Addr)) n c) rfl rfl)) ?_
  refine st (v := Value.int .i64 ((n : Nat) : Int)) rfl (x_assign (v := Value.int .i64 ((n : Nat) : Int)) (ev_tmp (v := Value.int .i64 ((n : Nat) : Int)) rfl rfl)) ?_
  refine s_nil ?_
  refine hK5 _ _ ?_
  refine c_seq fun K6 hK6 => ?_
  refine c_drawn (fun _ => True) mixed ?_
  refine dT (i := 0) (v := Value.slice (some (⟨b, off, none⟩ : Addr)) n c) rfl (by kernel_rfl) (by kernel_rfl) rfl trivial (fun _ _ => x_move (v := Value.slice (some (⟨b, off, none⟩ : Addr)) n c) (ev_tmp (v := Value.slice (some (⟨b, off, none⟩ : Addr)) n c) rfl rfl)) ?_
  refine dT (i := 1) (v := Value.int .i64 ((i : Nat) : Int)) rfl (by kernel_rfl) (by kernel_rfl) rfl trivial (fun _ _ => x_move (v := Value.int .i64 ((i : Nat) : Int)) (ev_tmp (v := Value.int .i64 ((i : Nat) : Int)) rfl rfl)) ?_
  refine dT (i := 2) (v := Value.slice (some (⟨b, off, none⟩ : Addr)) i c) rfl (by kernel_rfl) (by kernel_rfl) rfl trivial (fun _ _ => x_slH hu he (ev_tmp (v := Value.slice (some (⟨b, off, none⟩ : Addr)) n c) rfl rfl) (.inr ⟨_, _, rfl⟩) (ev_tmp (v := Value.int .i64 ((i : Nat) : Int)) rfl rfl) (by omega)) ?_
  refine dT (i := 3) (v := Value.slice (some (⟨b, off, none⟩ : Addr)) n c) rfl (by kernel_rfl) (by kernel_rfl) rfl trivial (fun _ _ => x_move (v := Value.slice (some (⟨b, off, none⟩ : Addr)) n c) (ev_tmp (v := Value.slice (some (⟨b, off, none⟩ : Addr)) n c) rfl rfl)) ?_
  refine dT (i := 4) (v := Value.int .i64 ((i + 1 : Nat) : Int)) rfl (by kernel_rfl) (by kernel_rfl) rfl trivial (fun _ _ => x_move (v := Value.int .i64 ((i + 1 : Nat) : Int)) (ev_tmp (v := Value.int .i64 ((i + 1 : Nat) : Int)) rfl rfl)) ?_
  refine dT (i := 5) (v := Value.slice (if c = i + 1 then (some (⟨b, off, none⟩ : Addr)) else (some (⟨b, off, none⟩ : Addr)).map (·.add ((i + 1) * te52.size))) (n - (i + 1)) (c - (i + 1))) rfl (by kernel_rfl) (by kernel_rfl) rfl trivial (fun _ _ => x_slA hu he (ev_tmp (v := Value.slice (some (⟨b, off, none⟩ : Addr)) n c) rfl rfl) (ev_tmp (v := Value.int .i64 ((i + 1 : Nat) : Int)) rfl rfl) (by omega) (by omega)) ?_
  refine dA (rs := [6]) (by kernel_rfl) rfl (dC (dst (v := Value.slice (some (⟨b, off, none⟩ : Addr)) (i + (n - (i + 1))) c) rfl rfl (x_appR2 (te := te52) (n := i) (m := n - (i + 1)) (cs := cd) hu he (ev_tmp (v := Value.slice (some (⟨b, off, none⟩ : Addr)) i c) rfl rfl) (ev_tmp (v := Value.slice (if c = i + 1 then (some (⟨b, off, none⟩ : Addr)) else (some (⟨b, off, none⟩ : Addr)).map (·.add ((i + 1) * te52.size))) (n - (i + 1)) (c - (i + 1))) rfl rfl) hfd htd h1d (by omega)) ⟨trivial, ?_⟩) dN)
  refine dT (i := 7) (v := Value.slice (some (⟨b, off, none⟩ : Addr)) (i + (n - (i + 1))) c) rfl (by kernel_rfl) (by kernel_rfl) rfl trivial (fun _ _ => x_assign (v := Value.slice (some (⟨b, off, none⟩ : Addr)) (i + (n - (i + 1))) c) (ev_tmp (v := Value.slice (some (⟨b, off, none⟩ : Addr)) (i + (n - (i + 1))) c) rfl rfl)) ?_
  refine dE (by kernel_rfl) ?_
  refine hK6 _ _ ?_
  refine c_seq fun K7 hK7 => ?_
  refine c_reg ?_
  refine st (v := Value.slice (some (⟨b, off, none⟩ : Addr)) (i + (n - (i + 1))) c) rfl (x_move (v := Value.slice (some (⟨b, off, none⟩ : Addr)) (i + (n - (i + 1))) c) (ev_tmp (v := Value.slice (some (⟨b, off, none⟩ : Addr)) (i + (n - (i + 1))) c) rfl rfl)) ?_
  refine st (v := Value.slice (some (⟨b, off, none⟩ : Addr)) (i + (n - (i + 1))) c) rfl (x_move (v := Value.slice (some (⟨b, off, none⟩ : Addr)) (i + (n - (i + 1))) c) (ev_tmp (v := Value.slice (some (⟨b, off, none⟩ : Addr)) (i + (n - (i + 1))) c) rfl rfl)) ?_
  refine st (v := Value.int .i64 ((i + (n - (i + 1)) : Nat) : Int)) rfl (x_lensl hu (ev_tmp (v := Value.slice (some (⟨b, off, none⟩ : Addr)) (i + (n - (i + 1))) c) rfl rfl)) ?_
  refine st (v := Value.int .i64 ((n : Nat) : Int)) rfl (x_move (v := Value.int .i64 ((n : Nat) : Int)) (ev_tmp (v := Value.int .i64 ((n : Nat) : Int)) rfl rfl)) ?_
  refine st (v := Value.slice (some ⟨b, off + (i + (n - (i + 1))) * te52.size, none⟩) (n - (i + (n - (i + 1)))) (c - (i + (n - (i + 1))))) rfl (x_slLH2 hu he (ev_tmp (v := Value.slice (some (⟨b, off, none⟩ : Addr)) (i + (n - (i + 1))) c) rfl rfl) (ev_tmp (v := Value.int .i64 ((i + (n - (i + 1)) : Nat) : Int)) rfl rfl) (ev_tmp (v := Value.int .i64 ((n : Nat) : Int)) rfl rfl) (by omega) (by omega) (by omega)) ?_
  refine su2 (v := .tuple #[]) (w' := ((w.drew.setCells b (off + i * te52.size) cd).setCells b (off + (i + (n - (i + 1))) * te52.size) zs)) (x_clear (by rw [show _ = Value.slice (some ⟨b, off + (i + (n - (i + 1))) * te52.size, none⟩) (n - (i + (n - (i + 1)))) (c - (i + (n - (i + 1)))) from (ev_tmp (v := Value.slice (some ⟨b, off + (i + (n - (i + 1))) * te52.size, none⟩) (n - (i + (n - (i + 1)))) (c - (i + (n - (i + 1))))) rfl rfl)]; exact hcl _)) ?_
  refine s_nil ?_
  refine hK7 _ _ ?_
  refine c_seq fun K8 hK8 => ?_
  refine c_reg ?_
  refine st (v := Value.slice (some (⟨b, off, none⟩ : Addr)) (i + (n - (i + 1))) c) rfl (x_move (v := Value.slice (some (⟨b, off, none⟩ : Addr)) (i + (n - (i + 1))) c) (ev_tmp (v := Value.slice (some (⟨b, off, none⟩ : Addr)) (i + (n - (i + 1))) c) rfl rfl)) ?_
  refine st (v := Value.slice (some (⟨b, off, none⟩ : Addr)) (i + (n - (i + 1))) c) rfl (x_assign (v := Value.slice (some (⟨b, off, none⟩ : Addr)) (i + (n - (i + 1))) c) (ev_tmp (v := Value.slice (some (⟨b, off, none⟩ : Addr)) (i + (n - (i + 1))) c) rfl rfl)) ?_
  refine s_nil ?_
  refine hK8 _ _ ?_
  refine c_ret ?_
  refine hT _ _ ?_
  refine r1 rfl (ev_tmp (v := Value.slice (some (⟨b, off, none⟩ : Addr)) (i + (n - (i + 1))) c) rfl rfl) ?_
  exact hpost
end
theorem cells_there {w : World} {b t : Nat} {C : Array Value} (hb : w.heap[b]? = some (.cells C t (0, 0))) (o k : Nat) (h : o + k ≤ C.size) : w.there b o k := fun j hj => ⟨by simp [World.cell?, hb, show o + j < C.size by omega], by simp [World.frozen?, hb]⟩
theorem row_loc {w : World} {X : Nat → Prop} {φ : Phi} {H : Hp} (hH : HR X φ H w) {o sz : Nat} {es : List (List PV)} (ho : hget H o = some (.row false sz es)) : ∃ l, φ o = .at false l ∧ l.n = es.length ∧ l.sz = sz ∧ l.n ≤ l.c ∧ l.c ≤ maxLen ∧
    ((l.A = none ∧ l.c = 0) ∨ ∃ b p t cs, l.A = some (b, p) ∧ w.heap[b]? = some (.cells cs t (0, 0)) ∧ p + l.c * sz ≤ cs.size ∧ PRE w (YOf X φ) b sz p es) := by
  obtain ⟨z, l, hl, hO⟩ := hH.ob _ _ ho
  simp only [OR] at hO
  obtain ⟨rfl, h1, h2, h3, h4, h5⟩ := hO
  refine ⟨l, hl, h1, h2, h3, h4, ?_⟩
  rcases h5 with h5 | ⟨b, p, t, cs, k1, k2, k3, k4, _⟩
  · exact .inl h5
  · exact .inr ⟨b, p, t, cs, k1, k2, k3, k4⟩
set_option maxHeartbeats 4000000 in
set_option maxRecDepth 20000 in
theorem ins_callS (es : List (List PV)) (e : List PV) (i : Nat) (hi : i ≤ es.length) (hfit : fitsB (es.length + 1) te52 = true) :
    CallS Try.prog true 64 [.own 0, .pl (.int .i64 ((i : Nat) : Int)), .own 1] [some (.row false te52.size es), some (.row false te52.size [e])] (.own 2) [none, some (.row false te52.size [e]), some (.row false te52.size (es.take i ++ e :: es.drop i))] := by
  refine ⟨enters_of Try.func64 (by kernel_rfl) rfl, ⟨(fun (h : true = false) => by cases h), fun _ X φ w vs hH hvs => ?_⟩⟩
  simp only [VRT] at hvs
  obtain ⟨v0, _, rfl, hv0, v1, _, rfl, hv1, v2, _, rfl, hv2, rfl⟩ := hvs
  obtain ⟨l, hl, h1, h2, h3, h4, h5⟩ := row_loc hH (o := 0) rfl
  obtain ⟨m, hm, k1, k2, k3, k4, k5⟩ := row_loc hH (o := 1) rfl
  simp only [VR, PR] at hv0 hv1 hv2
  have hv0 := hv0.2.2 _ _ hl
  have hv2 := hv2.2.2 _ _ hm
  subst hv0; subst hv1; subst hv2
  simp only [List.length_singleton] at k1
  have hS : (0 : Nat) < te52.size := by decide
  obtain ⟨vb, voff, tv, Cv, hmA, hvh, hvC, hvP⟩ : ∃ b p t cs, m.A = some (b, p) ∧ w.heap[b]? = some (.cells cs t (0, 0)) ∧ p + m.c * te52.size ≤ cs.size ∧ PRE w (YOf X φ) b te52.size p [e] := by
    rcases k5 with ⟨_, h0⟩ | h
    · omega
    · exact h
  obtain ⟨vv, hvl, hvr⟩ := hvP.flat
  have e1 := flat_size hvl.size
  rw [hvl.length] at e1
  have hvlen : vv.flatten.length = 1 * te52.size := by rw [e1]; rfl
  have a1 : m.addr 0 = some ⟨vb, voff, none⟩ := by simp [Loc.addr, hmA]
  rw [a1, k1, h1]
  have fin : ∀ {b' o' c' b0 : Nat} {w' : World} {va vd : List (List Value)}, es.length + 1 ≤ c' → c' ≤ maxLen → Far b0 w w' → (b0 < w.heap.size → ∃ p, l.A = some (b0, p)) → ((∃ p, l.A = some (b', p)) ∨ (w.heap.size ≤ b' ∧ b' < w'.heap.size)) →
      (∃ t cs, w'.heap[b']? = some (.cells cs t (0, 0)) ∧ o' + c' * te52.size ≤ cs.size) → PRLL w (YOf X φ) te52.size (es.take i) va → PRLL w (YOf X φ) te52.size (es.drop i) vd → w'.rangeAt b' o' va.flatten → w'.rangeAt b' (o' + i * te52.size) vv.flatten → w'.rangeAt b' (o' + (i + 1) * te52.size) vd.flatten →
      Ret X φ [some (.row false te52.size es), some (.row false te52.size [e])] w [(.own 2, [none, some (.row false te52.size [e]), some (.row false te52.size (es.take i ++ e :: es.drop i))])] (.returned (.slice (some ⟨b', o', none⟩) (es.length + 1) c')) w' := by
    intro b' o' c' b0 w' va vd q1 q2 q3 q4 q5 q6 q7 q8 q9 q10 q11
    have hlen : (es.take i ++ e :: es.drop i).length = es.length + 1 := by simp; omega
    have ea := flat_size q7.size
    rw [q7.length, List.length_take, Nat.min_eq_left hi] at ea
    have := moved (k := 2) (sz := te52.size) (b' := b') (o' := o') (c' := c') (es' := es.take i ++ e :: es.drop i) (vss := va ++ (vv ++ vd)) hH rfl hl (by rw [hlen]; exact q1) q2 q3 q4 q5 q6
      (q7.append (by have := hvl.append q8; simpa using this)) (by
        rw [List.flatten_append, List.flatten_append]
        have m3 : (i + 1) * te52.size = i * te52.size + 1 * te52.size := Nat.add_mul _ _ _
        exact rangeAt_app q9 (by rw [ea]; exact rangeAt_app q10 (by rw [hvlen, Nat.add_assoc, ← m3]; exact q11)))
    rw [hlen] at this
    exact this
  have hsplitA : ∀ {b p : Nat}, PRE w (YOf X φ) b te52.size p es → ∃ va vd, PRLL w (YOf X φ) te52.size (es.take i) va ∧ w.rangeAt b p va.flatten ∧ va.flatten.length = i * te52.size ∧ PRLL w (YOf X φ) te52.size (es.drop i) vd ∧ w.rangeAt b (p + i * te52.size) vd.flatten ∧ vd.flatten.length = (es.length - i) * te52.size := by
    intro b p hP
    obtain ⟨va, x1, x2⟩ := (hP.take i).flat
    obtain ⟨vd, y1, y2⟩ := (hP.drop i).flat
    have ea := flat_size x1.size
    rw [x1.length, List.length_take, Nat.min_eq_left hi] at ea
    have ed := flat_size y1.size
    rw [y1.length, List.length_drop] at ed
    exact ⟨va, vd, x1, x2, ea, y1, y2, ed⟩
  have hfree : ∀ {C : Array Value} {t : Nat}, ∃ t' cs, (w.drew.alloc (.cells C t)).heap[w.heap.size]? = some (.cells cs t' (0, 0)) ∧ C.size ≤ cs.size := fun {C t} => ⟨t, C, heap_alloc_new w.drew _, Nat.le_refl _⟩
  have hlt : ∀ {C : Array Value} {t : Nat}, w.heap.size < (w.drew.alloc (.cells C t)).heap.size := fun {C t} => by show _ < (w.heap.push _).size; rw [Array.size_push]; omega
  have hmax : maxLen = 9223372036854775807 := rfl
  have hcel : ∀ (C : Array Value) (j : Nat), (w.drew.alloc (.cells C 52)).cell? ⟨w.heap.size, j, none⟩ = C[j]? := fun C j => World.cell?_alloc_at (w := w.drew) _ _ _ _ rfl
  rcases h5 with ⟨hA, hc0⟩ | ⟨b, p, t, C, hA, hb, hC, hP⟩
  · have hes : es = [] := List.length_eq_zero_iff.1 (by omega)
    subst hes
    have hi0 : i = 0 := by simpa using hi
    subst hi0
    have a0 : l.addr 0 = none := by simp [Loc.addr, hA]
    rw [a0]
    refine ins_eg (n := 0) (cs := []) (vs := vv.flatten) (Nat.zero_le _) (by omega) hfit (by simp [Builtin.firstCells]) hvlen hvr fun c1 rest q1 q2 q3 => ?_
    have hn : (w.drew.alloc (.cells (([] ++ vv.flatten).toArray ++ rest) 52)).rangeAt w.heap.size (0 + 0 * te52.size) vv.flatten := fun j v hj => by
      rw [show 0 + 0 * te52.size + j = j by omega, hcel, Array.getElem?_append_left (by have := (List.getElem?_eq_some_iff.1 hj).1; simpa using this)]
      simpa using hj
    refine fin (va := []) (vd := []) (b0 := w.heap.size) q1 q2 (Far.refl.drew.alloc _) (fun h => by omega) (.inr ⟨Nat.le_refl _, hlt⟩) ?_ (by simp [PRLL]) (by simp [PRLL]) (fun j v hj => by simp at hj) hn (fun j v hj => by simp at hj)
    obtain ⟨t', cs, z1, z2⟩ := hfree (C := ([] ++ vv.flatten).toArray ++ rest) (t := 52)
    refine ⟨t', cs, z1, ?_⟩
    have : (([] ++ vv.flatten).toArray ++ rest).size = c1 * te52.size := by
      rw [Array.size_append, List.nil_append, List.size_toArray, hvlen, q3, ← Nat.add_mul]; congr 1; omega
    omega
  · obtain ⟨va, vd, x1, x2, x3, y1, y2, y3⟩ := hsplitA hP
    have a0 : l.addr 0 = some ⟨b, p, none⟩ := by simp [Loc.addr, hA]
    rw [a0]
    have hbw : b < w.heap.size := (Array.getElem?_eq_some_iff.1 hb).1
    have hvb : vb ≠ b := fun e => by subst e; exact absurd (hH.inj 0 1 l m vb p voff hl hm hA hmA) (by decide)
    have m3 : (i + 1) * te52.size = i * te52.size + 1 * te52.size := Nat.add_mul _ _ _
    have m4 : (i + 1) * te52.size + (es.length - i) * te52.size = (es.length + 1) * te52.size := by rw [← Nat.add_mul]; congr 1; omega
    rw [h1] at h3
    by_cases hroom : es.length + 1 ≤ l.c
    · have m5 : (es.length + 1) * te52.size ≤ l.c * te52.size := Nat.mul_le_mul_right _ hroom
      by_cases hin : i = es.length
      · subst hin
        have hd0 : vd.flatten = [] := List.length_eq_zero_iff.1 (by rw [y3]; simp)
        refine ins_er (n := es.length) (vs := vv.flatten) hroom (by omega) hvlen hvr (cells_there hb _ _ (by omega)) (PRLL.one hvl) ?_
        refine fin (va := va) (vd := vd) (b0 := b) hroom h4 (Far.refl.put _ _) (fun _ => ⟨p, hA⟩) (.inl ⟨p, hA⟩) (setCells_heap ⟨t, C, hb, hC⟩ (by omega)) x1 y1 (World.rangeAt_setCells_apart x2 _ _ _ (.inr (.inl (by omega)))) (World.rangeAt_setCells_same _ _ _ _ (cells_there hb _ _ (by omega))) (by rw [hd0]; exact fun j v hj => by simp at hj)
      · refine ins_r (n := es.length) (cd := vd.flatten) (vs := vv.flatten) (by omega) hroom (by omega) y3 hvlen hvb hb hC hvh y2 hvr (PRLL.one hvl) (PRLL.one y1) ?_
        have hw1 : w.drew.heap[b]? = some (.cells C t (0, 0)) := hb
        have hs1 := setCells_heap (o := p + (i + 1) * te52.size) (vs := vd.flatten) ⟨t, C, hw1, hC⟩ (by omega)
        have ht1 : w.drew.there b (p + (i + 1) * te52.size) vd.flatten.length := cells_there hw1 _ _ (by omega)
        refine fin (va := va) (vd := vd) (b0 := b) hroom h4 ((Far.refl.drew.put _ _).put _ _) (fun _ => ⟨p, hA⟩) (.inl ⟨p, hA⟩) (setCells_heap hs1 (by omega)) x1 y1 ?_ ?_ ?_
        · exact World.rangeAt_setCells_apart (World.rangeAt_setCells_apart (by simpa using x2) _ _ _ (.inr (.inl (by omega)))) _ _ _ (.inr (.inl (by omega)))
        · exact World.rangeAt_setCells_same _ _ _ _ (World.there_setCells (cells_there hw1 _ _ (by omega)) _ _ _)
        · exact World.rangeAt_setCells_apart (World.rangeAt_setCells_same _ _ _ _ ht1) _ _ _ (.inr (.inr (by omega)))
    · by_cases hin : i = es.length
      · subst hin
        have hd0 : vd.flatten = [] := List.length_eq_zero_iff.1 (by rw [y3]; simp)
        refine ins_eg (n := es.length) (cs := va.flatten) (vs := vv.flatten) h3 (by omega) hfit (run_first x3 (by simpa using x2)) hvlen hvr fun c1 rest q1 q2 q3 => ?_
        refine fin (va := va) (vd := vd) (b0 := w.heap.size) q1 q2 (Far.refl.drew.alloc _) (fun h => by omega) (.inr ⟨Nat.le_refl _, hlt⟩) ?_ x1 y1 ?_ ?_ (by rw [hd0]; exact fun j v hj => by simp at hj)
        · obtain ⟨t', cs, z1, z2⟩ := hfree (C := (va.flatten ++ vv.flatten).toArray ++ rest) (t := 52)
          refine ⟨t', cs, z1, ?_⟩
          have : ((va.flatten ++ vv.flatten).toArray ++ rest).size = c1 * te52.size := by
            rw [Array.size_append, List.size_toArray, List.length_append, x3, hvlen, q3, ← Nat.add_mul, ← Nat.add_mul]; congr 1; omega
          omega
        · intro j v hj
          have := (List.getElem?_eq_some_iff.1 hj).1
          rw [Nat.zero_add, hcel, Array.getElem?_append_left (by rw [List.size_toArray, List.length_append]; omega), List.getElem?_toArray, List.getElem?_append_left this]; exact hj
        · intro j v hj
          have := (List.getElem?_eq_some_iff.1 hj).1
          rw [Nat.zero_add, hcel, Array.getElem?_append_left (by rw [List.size_toArray, List.length_append, x3]; omega), List.getElem?_toArray, List.getElem?_append_right (by rw [x3]; omega), x3, Nat.add_sub_cancel_left]; exact hj
      · have hfit' : fitsB (i + (es.length + 1 - i)) te52 = true := by rw [show i + (es.length + 1 - i) = es.length + 1 by omega]; exact hfit
        refine ins_g (n := es.length) (ca := va.flatten) (cd := vd.flatten) (vs := vv.flatten) (by omega) h3 (by omega) hfit' hbw x3 y3 hvlen x2 y2 hvr (PRLL.one hvl) (PRLL.one y1) fun c1 rest q1 q2 q3 => ?_
        rw [show i + (es.length + 1 - i) = es.length + 1 by omega] at q1 q3 ⊢
        have hcsz : (va.flatten.toArray ++ rest).size = c1 * te52.size := by
          rw [Array.size_append, List.size_toArray, x3, q3, ← Nat.add_mul]; congr 1; omega
        have m5 : (es.length + 1) * te52.size ≤ c1 * te52.size := Nat.mul_le_mul_right _ q1
        obtain ⟨t', cs, z1, z2⟩ := hfree (C := va.flatten.toArray ++ rest) (t := 52)
        have hg0 : ∃ t cs, (w.drew.alloc (.cells (va.flatten.toArray ++ rest) 52)).heap[w.heap.size]? = some (.cells cs t (0, 0)) ∧ 0 + c1 * te52.size ≤ cs.size := ⟨t', cs, z1, by omega⟩
        have hg1 := setCells_heap (o := 0 + i * te52.size) (vs := vv.flatten) hg0 (by omega)
        have th0 : ∀ o k, o + k ≤ c1 * te52.size → (w.drew.alloc (.cells (va.flatten.toArray ++ rest) 52)).there w.heap.size o k := fun o k h => there_new (w := w.drew) (by rw [hcsz]; exact h)
        refine fin (va := va) (vd := vd) (b0 := w.heap.size) (o' := 0) q1 q2 ((((Far.refl.drew.alloc _).put _ _).drew).put _ _) (fun h => by omega) (.inr ⟨Nat.le_refl _, ?_⟩) (setCells_heap hg1 (by omega)) x1 y1 ?_ ?_ ?_
        · rw [(setCells_far _ _ _ _).2.2.2.1]
          show _ < (World.setCells _ _ _ _).heap.size
          rw [(setCells_far _ _ _ _).2.2.2.1]
          exact hlt
        · refine World.rangeAt_setCells_apart ?_ _ _ _ (.inr (.inl (by omega)))
          rw [World.rangeAt_drew]
          refine World.rangeAt_setCells_apart ?_ _ _ _ (.inr (.inl (by omega)))
          intro j v hj
          have := (List.getElem?_eq_some_iff.1 hj).1
          rw [Nat.zero_add, hcel, Array.getElem?_append_left (by simpa using this), List.getElem?_toArray]; exact hj
        · refine World.rangeAt_setCells_apart ?_ _ _ _ (.inr (.inl (by omega)))
          rw [World.rangeAt_drew]
          exact World.rangeAt_setCells_same _ _ _ _ (th0 _ _ (by omega))
        · exact World.rangeAt_setCells_same _ _ _ _ (by rw [World.there_drew]; exact World.there_setCells (th0 _ _ (by omega)) _ _ _)
theorem del_callS (es : List (List PV)) (i : Nat) (hi : i < es.length) :
    CallS Try.prog true 65 [.own 0, .pl (.int .i64 ((i : Nat) : Int)), .pl (.int .i64 ((i + 1 : Nat) : Int))] [some (.row false te52.size es)] (.own 1) [none, some (.row false te52.size (es.take i ++ es.drop (i + 1)))] := by
  refine ⟨enters_of Try.func65 (by kernel_rfl) rfl, ⟨(fun (h : true = false) => by cases h), fun _ X φ w vs hH hvs => ?_⟩⟩
  simp only [VRT] at hvs
  obtain ⟨v0, _, rfl, hv0, v1, _, rfl, hv1, v2, _, rfl, hv2, rfl⟩ := hvs
  obtain ⟨l, hl, h1, h2, h3, h4, h5⟩ := row_loc hH (o := 0) rfl
  simp only [VR, PR] at hv0 hv1 hv2
  have hv0 := hv0.2.2 _ _ hl
  subst hv0; subst hv1; subst hv2
  rw [h1] at h3 ⊢
  obtain ⟨b, p, t, C, hA, hb, hC, hP⟩ : ∃ b p t cs, l.A = some (b, p) ∧ w.heap[b]? = some (.cells cs t (0, 0)) ∧ p + l.c * te52.size ≤ cs.size ∧ PRE w (YOf X φ) b te52.size p es := by
    rcases h5 with ⟨_, h0⟩ | h
    · omega
    · exact h
  have a0 : l.addr 0 = some ⟨b, p, none⟩ := by simp [Loc.addr, hA]
  rw [a0]
  obtain ⟨zs, hzl, hz⟩ := run_clr (P := Try.prog) in_hu in_he
  obtain ⟨va, x1, x2⟩ := (hP.take i).flat
  obtain ⟨vd, y1, y2⟩ := (hP.drop (i + 1)).flat
  have x3 := flat_size x1.size
  rw [x1.length, List.length_take, Nat.min_eq_left (by omega)] at x3
  have y3 := flat_size y1.size
  rw [y1.length, List.length_drop] at y3
  have hS : (0 : Nat) < te52.size := by decide
  have hmax : maxLen = 9223372036854775807 := rfl
  have m1 : (i + (es.length - (i + 1))) * te52.size = i * te52.size + (es.length - (i + 1)) * te52.size := Nat.add_mul _ _ _
  have m2 : (i + (es.length - (i + 1))) * te52.size + te52.size ≤ l.c * te52.size := by rw [← Nat.succ_mul]; exact Nat.mul_le_mul_right _ (by omega)
  refine del_w (n := es.length) (cd := vd.flatten) (zs := zs) hi h3 (by omega) y3 hzl hz y2 (PRLL.one y1) (fun o k h => cells_there hb o k (by omega)) ?_
  have hw1 : w.drew.heap[b]? = some (.cells C t (0, 0)) := hb
  have hs1 := setCells_heap (o := p + i * te52.size) (vs := vd.flatten) ⟨t, C, hw1, hC⟩ (by omega)
  have hlen : (es.take i ++ es.drop (i + 1)).length = i + (es.length - (i + 1)) := by simp; omega
  have := moved (k := 1) (sz := te52.size) (b' := b) (o' := p) (c' := l.c) (b0 := b) (es' := es.take i ++ es.drop (i + 1)) (vss := va ++ vd) hH rfl hl (by rw [hlen]; omega) h4 (((Far.refl (w := w) (b := b)).drew.put (p + i * te52.size) vd.flatten).put (p + (i + (es.length - (i + 1))) * te52.size) zs) (fun _ => ⟨p, hA⟩) (.inl ⟨p, hA⟩)
    (setCells_heap hs1 (by omega)) (x1.append y1) (by
      rw [List.flatten_append]
      refine rangeAt_app ?_ ?_
      · exact World.rangeAt_setCells_apart (World.rangeAt_setCells_apart (by simpa using x2) _ _ _ (.inr (.inl (by omega)))) _ _ _ (.inr (.inl (by omega)))
      · rw [x3]
        exact World.rangeAt_setCells_apart (World.rangeAt_setCells_same _ _ _ _ (cells_there hw1 _ _ (by omega))) _ _ _ (.inr (.inl (by omega))))
  rw [hlen] at this
  exact this
end Go.Proofs.Ytelblamgfbkhbaa
namespace Go.Proofs.Ytelblamgfbkhbaa
open Go.Shelf
def so_ren : Go.Shelf.Ren := ⟨fun | 6 => 38 | 14 => 59 | 15 => 60 | 20 => 67 | 21 => 68 | 22 => 69 | 23 => 70 | 24 => 71 | 25 => 72 | 26 => 73 | 27 => 74 | 28 => 75 | 29 => 76 | 46 => 79 | 47 => 80 | 48 => 81 | 49 => 82 | 50 => 83 | 57 => 85 | n => n, fun | 22 => 36 | 24 => 48 | 25 => 80 | 39 => 99 | 45 => 106 | 46 => 107 | 50 => 61 | 53 => 113 | 55 => 115 | 66 => 119 | 70 => 123 | 76 => 125 | 77 => 67 | n => n, fun n => n⟩
theorem so_lays : SlLaysF0.n6 Try.prog so_ren := {
  mixed := by kernel_rfl,
  f6 := ⟨Try.f38.name, by kernel_rfl, Try.func38.trans (congrArg some (by kernel_rfl))⟩,
  f14 := ⟨Try.f59.name, by kernel_rfl, Try.func59.trans (congrArg some (by kernel_rfl))⟩,
  f15 := Try.func60.trans (congrArg some (by kernel_rfl)),
  f20 := ⟨Try.f67.name, by kernel_rfl, Try.func67.trans (congrArg some (by kernel_rfl))⟩,
  f21 := ⟨Try.f68.name, by kernel_rfl, Try.func68.trans (congrArg some (by kernel_rfl))⟩,
  f22 := ⟨Try.f69.name, by kernel_rfl, Try.func69.trans (congrArg some (by kernel_rfl))⟩,
  f23 := ⟨Try.f70.name, by kernel_rfl, Try.func70.trans (congrArg some (by kernel_rfl))⟩,
  f24 := ⟨Try.f71.name, by kernel_rfl, Try.func71.trans (congrArg some (by kernel_rfl))⟩,
  f25 := ⟨Try.f72.name, by kernel_rfl, Try.func72.trans (congrArg some (by kernel_rfl))⟩,
  f26 := ⟨Try.f73.name, by kernel_rfl, Try.func73.trans (congrArg some (by kernel_rfl))⟩,
  f27 := ⟨Try.f74.name, by kernel_rfl, Try.func74.trans (congrArg some (by kernel_rfl))⟩,
  f28 := Try.func75.trans (congrArg some (by kernel_rfl)),
  f29 := Try.func76.trans (congrArg some (by kernel_rfl)),
  f46 := ⟨Try.f79.name, by kernel_rfl, Try.func79.trans (congrArg some (by kernel_rfl))⟩,
  f47 := Try.func80.trans (congrArg some (by kernel_rfl)),
  f48 := Try.func81.trans (congrArg some (by kernel_rfl)),
  f49 := ⟨Try.f82.name, by kernel_rfl, Try.func82.trans (congrArg some (by kernel_rfl))⟩,
  f50 := ⟨Try.f83.name, by kernel_rfl, Try.func83.trans (congrArg some (by kernel_rfl))⟩,
  f57 := ⟨Try.f85.name, by kernel_rfl, Try.func85.trans (congrArg some (by kernel_rfl))⟩,
  t0 := Try.underlying0,
  a0 := Try.isAgg0,
  z0 := Try.sizeOf0,
  v0 := Try.zeroValue0,
  t3 := Try.underlying3,
  a3 := Try.isAgg3,
  z3 := Try.sizeOf3,
  v3 := Try.zeroValue3,
  t4 := Try.underlying4,
  a4 := Try.isAgg4,
  z4 := Try.sizeOf4,
  v4 := Try.zeroValue4,
  t5 := Try.underlying5,
  a5 := Try.isAgg5,
  z5 := Try.sizeOf5,
  v5 := Try.zeroValue5,
  t9 := Try.underlying9,
  a9 := Try.isAgg9,
  z9 := Try.sizeOf9,
  v9 := Try.zeroValue9,
  t22 := Try.underlying36,
  a22 := Try.isAgg36,
  z22 := Try.sizeOf36,
  v22 := Try.zeroValue36,
  t25 := Try.underlying80,
  a25 := Try.isAgg80,
  z25 := Try.sizeOf80,
  v25 := Try.zeroValue80,
  t39 := Try.underlying99,
  a39 := Try.isAgg99,
  z39 := Try.sizeOf99,
  v39 := Try.zeroValue99,
  t45 := Try.underlying106,
  a45 := Try.isAgg106,
  z45 := Try.sizeOf106,
  v45 := Try.zeroValue106,
  t46 := Try.underlying107,
  a46 := Try.isAgg107,
  z46 := Try.sizeOf107,
  v46 := Try.zeroValue107,
  t50 := Try.underlying61,
  a50 := Try.isAgg61,
  z50 := Try.sizeOf61,
  v50 := Try.zeroValue61,
  t53 := Try.underlying113,
  a53 := Try.isAgg113,
  z53 := Try.sizeOf113,
  v53 := Try.zeroValue113,
  t55 := Try.underlying115,
  a55 := Try.isAgg115,
  z55 := Try.sizeOf115,
  v55 := Try.zeroValue115,
  t66 := Try.underlying119,
  a66 := Try.isAgg119,
  z66 := Try.sizeOf119,
  v66 := Try.zeroValue119,
  t70 := Try.underlying123,
  a70 := Try.isAgg123,
  z70 := Try.sizeOf123,
  v70 := Try.zeroValue123,
  t76 := Try.underlying125,
  a76 := Try.isAgg125,
  z76 := Try.sizeOf125,
  v76 := Try.zeroValue125,
  t77 := Try.underlying67,
  a77 := Try.isAgg67,
  z77 := Try.sizeOf67,
  v77 := Try.zeroValue67 }
theorem so_agg : ∀ w, (isAgg (so_ren.t 24)).run Try.prog w = .ok true w := Try.isAgg48
theorem so_size : ∀ w, (Go.sizeOf (so_ren.t 24)).run Try.prog w = .ok 2 w := Try.sizeOf48
end Go.Proofs.Ytelblamgfbkhbaa
namespace Go.Proofs.Ytelblamgfbkhbaa
set_option linter.unusedVariables false
set_option linter.unusedSimpArgs false
set_option maxRecDepth 100000
open Go.RowKit
def str_house : ByteArray := ⟨#[104, 111, 117, 115, 101]⟩
def str_x : ByteArray := ⟨#[]⟩
def str_p : ByteArray := ⟨#[112]⟩
def str_a : ByteArray := ⟨#[97]⟩
def str_b : ByteArray := ⟨#[98]⟩
structure VariationPrice where
  Product : ByteArray
  Price : Int
def VariationPrice.cells (x : VariationPrice) : List PV := [.str x.Product, .int .i64 x.Price]
structure Op_ where
  Kind : Int
  Buyer : ByteArray
  Seller : ByteArray
  Product : ByteArray
  Quantity : Int
  Price : Int
  Day : Int
  Prices : List VariationPrice
def Op_.cells (x : Op_) : List PV := [.int .u8 x.Kind, .str x.Buyer, .str x.Seller, .str x.Product, .int .i64 x.Quantity, .int .i64 x.Price, .int .i64 x.Day, .sl .any 2 (x.Prices.map VariationPrice.cells)]
structure VariationPosition where
  Member : ByteArray
  Product : ByteArray
  Quantity : Int
  Basis : Int
def VariationPosition.cells (x : VariationPosition) : List PV := [.str x.Member, .str x.Product, .int .i64 x.Quantity, .int .i64 x.Basis]
structure Variation where
  Day : Int
  Positions : List VariationPosition
def Variation.cells (x : Variation) : List PV := [.int .i64 x.Day, .sl .any 4 (x.Positions.map VariationPosition.cells)]
structure Sums_ where
  quantity : Int
  basis : Int
def Sums_.cells (x : Sums_) : List PV := [.int .i64 x.quantity, .int .i64 x.basis]
structure VariationPayment where
  Member : ByteArray
  Amount : Int
def VariationPayment.cells (x : VariationPayment) : List PV := [.str x.Member, .int .i64 x.Amount]
def VariationPosition.eqb (x y : VariationPosition) : Bool := seq x.Member y.Member && seq x.Product y.Product && decide (x.Quantity = y.Quantity) && decide (x.Basis = y.Basis)
theorem VariationPosition.eqb_ok (x y : VariationPosition) : eqV cfg.ty 52 (.agg (VariationPosition.cells x)) (.agg (VariationPosition.cells y)) = some (VariationPosition.eqb x y) := by
  unfold VariationPosition.eqb
  have e : eqV cfg.ty 52 (.agg (VariationPosition.cells x)) (.agg (VariationPosition.cells y)) = (match some (decide (x.Member.data.toList = y.Member.data.toList)) with | some true => (match some (decide (x.Product.data.toList = y.Product.data.toList)) with | some true => (match some (decide (x.Quantity = y.Quantity)) with | some true => (match some (decide (x.Basis = y.Basis)) with | some true => (some true) | some false => some false | none => none) | some false => some false | none => none) | some false => some false | none => none) | some false => some false | none => none) := by kernel_rfl
  rw [e]
  try simp only [seq]
  cases decide (x.Member.data.toList = y.Member.data.toList) <;> cases decide (x.Product.data.toList = y.Product.data.toList) <;> cases decide (x.Quantity = y.Quantity) <;> cases decide (x.Basis = y.Basis) <;> rfl
def Sums_.eqb (x y : Sums_) : Bool := decide (x.quantity = y.quantity) && decide (x.basis = y.basis)
theorem Sums_.eqb_ok (x y : Sums_) : eqV cfg.ty 92 (.agg (Sums_.cells x)) (.agg (Sums_.cells y)) = some (Sums_.eqb x y) := by
  unfold Sums_.eqb
  have e : eqV cfg.ty 92 (.agg (Sums_.cells x)) (.agg (Sums_.cells y)) = (match some (decide (x.quantity = y.quantity)) with | some true => (match some (decide (x.basis = y.basis)) with | some true => (some true) | some false => some false | none => none) | some false => some false | none => none) := by kernel_rfl
  rw [e]
  try simp only [seq]
  cases decide (x.quantity = y.quantity) <;> cases decide (x.basis = y.basis) <;> rfl
def VariationPayment.eqb (x y : VariationPayment) : Bool := seq x.Member y.Member && decide (x.Amount = y.Amount)
theorem VariationPayment.eqb_ok (x y : VariationPayment) : eqV cfg.ty 48 (.agg (VariationPayment.cells x)) (.agg (VariationPayment.cells y)) = some (VariationPayment.eqb x y) := by
  unfold VariationPayment.eqb
  have e : eqV cfg.ty 48 (.agg (VariationPayment.cells x)) (.agg (VariationPayment.cells y)) = (match some (decide (x.Member.data.toList = y.Member.data.toList)) with | some true => (match some (decide (x.Amount = y.Amount)) with | some true => (some true) | some false => some false | none => none) | some false => some false | none => none) := by kernel_rfl
  rw [e]
  try simp only [seq]
  cases decide (x.Member.data.toList = y.Member.data.toList) <;> cases decide (x.Amount = y.Amount) <;> rfl
theorem key_9 : KeyOK cfg 9 pStr seq := key_str (fun _ _ => by kernel_rfl) (fun _ => by kernel_rfl)
def ti52 : TI := ⟨.struct [(9, 0), (9, 1), (3, 2), (3, 3)], 4, 48, [.str ByteArray.empty, .str ByteArray.empty, .int .i64 0, .int .i64 0]⟩
def ti48 : TI := ⟨.struct [(9, 0), (3, 1)], 2, 24, [.str ByteArray.empty, .int .i64 0]⟩
def ti72 : TI := ⟨.struct [(9, 0), (3, 1)], 2, 24, [.str ByteArray.empty, .int .i64 0]⟩
def ti5 : TI := ⟨.int .u8, 1, 1, [.int .u8 0]⟩
def ti9 : TI := ⟨.str, 1, 16, [.str ByteArray.empty]⟩
def ti3 : TI := ⟨.int .i64, 1, 8, [.int .i64 0]⟩
def ti33 : TI := ⟨.sl 72, 1, 24, [.sl .nil 0 []]⟩
def ti35 : TI := ⟨.struct [(5, 0), (9, 1), (9, 2), (9, 3), (3, 4), (3, 5), (3, 6), (33, 7)], 8, 104, [.int .u8 0, .str ByteArray.empty, .str ByteArray.empty, .str ByteArray.empty, .int .i64 0, .int .i64 0, .int .i64 0, .sl .nil 0 []]⟩
def ti22 : TI := ⟨.sl 35, 1, 24, [.sl .nil 0 []]⟩
def VariationPrice.ok (x : VariationPrice) : Prop := (fun s : ByteArray => s.size ≤ maxLen) x.Product ∧ (okInt .i64) x.Price ∧ True
def Op_.ok (x : Op_) : Prop := (okInt .u8) x.Kind ∧ (fun s : ByteArray => s.size ≤ maxLen) x.Buyer ∧ (fun s : ByteArray => s.size ≤ maxLen) x.Seller ∧ (fun s : ByteArray => s.size ≤ maxLen) x.Product ∧ (okInt .i64) x.Quantity ∧ (okInt .i64) x.Price ∧ (okInt .i64) x.Day ∧ (fun l : List VariationPrice => l.length ≤ maxLen ∧ ∀ x ∈ l, VariationPrice.ok x) x.Prices ∧ True
def VariationPosition.ok (x : VariationPosition) : Prop := (fun s : ByteArray => s.size ≤ maxLen) x.Member ∧ (fun s : ByteArray => s.size ≤ maxLen) x.Product ∧ (okInt .i64) x.Quantity ∧ (okInt .i64) x.Basis ∧ True
def Variation.ok (x : Variation) : Prop := (okInt .i64) x.Day ∧ (fun l : List VariationPosition => l.length ≤ maxLen ∧ ∀ x ∈ l, VariationPosition.ok x) x.Positions ∧ True
def Sums_.ok (x : Sums_) : Prop := (okInt .i64) x.quantity ∧ (okInt .i64) x.basis ∧ True
def VariationPayment.ok (x : VariationPayment) : Prop := (fun s : ByteArray => s.size ≤ maxLen) x.Member ∧ (okInt .i64) x.Amount ∧ True
theorem of_5 {d : Nat} {ps : List PV} (h : WT cfg.ty (d + 1) 5 ps) : ∃ x : Int, ps = (cInt .u8) x ∧ (okInt .u8) x := by
  obtain ⟨n, rfl, k⟩ := wt_int (ti := ti5) (by kernel_rfl) rfl h
  exact ⟨n, rfl, k⟩
theorem of_9 {d : Nat} {ps : List PV} (h : WT cfg.ty (d + 1) 9 ps) : ∃ x : ByteArray, ps = cStr x ∧ (fun s : ByteArray => s.size ≤ maxLen) x := by
  obtain ⟨n, rfl, k⟩ := wt_str (ti := ti9) (by kernel_rfl) rfl h
  exact ⟨n, rfl, k⟩
theorem of_3 {d : Nat} {ps : List PV} (h : WT cfg.ty (d + 1) 3 ps) : ∃ x : Int, ps = (cInt .i64) x ∧ (okInt .i64) x := by
  obtain ⟨n, rfl, k⟩ := wt_int (ti := ti3) (by kernel_rfl) rfl h
  exact ⟨n, rfl, k⟩
theorem of_72 {d : Nat} {ps : List PV} (h : WT cfg.ty (d + 2) 72 ps) : ∃ x : VariationPrice, ps = VariationPrice.cells x ∧ VariationPrice.ok x := by
  have g := wt_struct (ti := ti72) (by kernel_rfl) rfl h
  clear h
  obtain ⟨_, _, _, rfl, _, _, h0, g0⟩ := g
  obtain ⟨x0, rfl, k0⟩ := of_9 h0
  obtain ⟨_, _, _, rfl, _, _, h1, g1⟩ := g0
  obtain ⟨x1, rfl, k1⟩ := of_3 h1
  have e : _ = [] := g1
  subst e
  exact ⟨⟨x0, x1⟩, rfl, k0, k1, trivial⟩
theorem of_33 {d : Nat} {ps : List PV} (h : WT cfg.ty (d + 3) 33 ps) : ∃ x : List VariationPrice, ps = (cLst 2 VariationPrice.cells) x ∧ (fun l : List VariationPrice => l.length ≤ maxLen ∧ ∀ x ∈ l, VariationPrice.ok x) x := by
  obtain ⟨te, es, e1, rfl, hl, hh⟩ := wt_sl (ti := ti33) (by kernel_rfl) rfl h
  obtain rfl : te = ti72 := some_inj (e1.symm.trans (by kernel_rfl : cfg.ty 72 = some ti72))
  obtain ⟨xs, rfl, hx⟩ := list_of (c := VariationPrice.cells) (ok := VariationPrice.ok) (fun ps h => of_72 h) es (fun c hc => (hh c hc).2)
  exact ⟨xs, rfl, by simpa using hl, hx⟩
theorem of_35 {d : Nat} {ps : List PV} (h : WT cfg.ty (d + 4) 35 ps) : ∃ x : Op_, ps = Op_.cells x ∧ Op_.ok x := by
  have g := wt_struct (ti := ti35) (by kernel_rfl) rfl h
  clear h
  obtain ⟨_, _, _, rfl, _, _, h0, g0⟩ := g
  obtain ⟨x0, rfl, k0⟩ := of_5 h0
  obtain ⟨_, _, _, rfl, _, _, h1, g1⟩ := g0
  obtain ⟨x1, rfl, k1⟩ := of_9 h1
  obtain ⟨_, _, _, rfl, _, _, h2, g2⟩ := g1
  obtain ⟨x2, rfl, k2⟩ := of_9 h2
  obtain ⟨_, _, _, rfl, _, _, h3, g3⟩ := g2
  obtain ⟨x3, rfl, k3⟩ := of_9 h3
  obtain ⟨_, _, _, rfl, _, _, h4, g4⟩ := g3
  obtain ⟨x4, rfl, k4⟩ := of_3 h4
  obtain ⟨_, _, _, rfl, _, _, h5, g5⟩ := g4
  obtain ⟨x5, rfl, k5⟩ := of_3 h5
  obtain ⟨_, _, _, rfl, _, _, h6, g6⟩ := g5
  obtain ⟨x6, rfl, k6⟩ := of_3 h6
  obtain ⟨_, _, _, rfl, _, _, h7, g7⟩ := g6
  obtain ⟨x7, rfl, k7⟩ := of_33 h7
  have e : _ = [] := g7
  subst e
  exact ⟨⟨x0, x1, x2, x3, x4, x5, x6, x7⟩, rfl, k0, k1, k2, k3, k4, k5, k6, k7, trivial⟩
theorem of_22 {d : Nat} {ps : List PV} (h : WT cfg.ty (d + 5) 22 ps) : ∃ x : List Op_, ps = (cLst 8 Op_.cells) x ∧ (fun l : List Op_ => l.length ≤ maxLen ∧ ∀ x ∈ l, Op_.ok x) x := by
  obtain ⟨te, es, e1, rfl, hl, hh⟩ := wt_sl (ti := ti22) (by kernel_rfl) rfl h
  obtain rfl : te = ti35 := some_inj (e1.symm.trans (by kernel_rfl : cfg.ty 35 = some ti35))
  obtain ⟨xs, rfl, hx⟩ := list_of (c := Op_.cells) (ok := Op_.ok) (fun ps h => of_35 h) es (fun c hc => (hh c hc).2)
  exact ⟨xs, rfl, by simpa using hl, hx⟩
theorem arg_22 {p : PV} (h : WV cfg.ty 5 22 p) : ∃ x : List Op_, p = (.sl .any 8 (x.map Op_.cells)) ∧ (fun l : List Op_ => l.length ≤ maxLen ∧ ∀ x ∈ l, Op_.ok x) x := by
  obtain ⟨_, g⟩ := wv_one (ti := ti22) (by kernel_rfl) rfl h
  obtain ⟨x, e, k⟩ := of_22 (d := 0) g
  exact ⟨x, (List.cons.inj e).1, k⟩
end Go.Proofs.Ytelblamgfbkhbaa
namespace Go.Proofs.Ytelblamgfbkhbaa
set_option linter.unusedVariables false
set_option linter.unusedSimpArgs false
set_option maxRecDepth 100000
open Go.RowKit
noncomputable def c12 : Code := Try.f12.body.getD .skip
inductive f12n0O where
  | ret (v6 : Int) (v7 : Int)
def f12n0E (a1 : Int) : f12n0O → Ex × Tr × Hp
  | .ret v6 v7 => (.ret, mkS [(2, (.bp 0 0)), (3, (.pl (.int .i64 v6)))], [some (.box [(.pl (.int .i64 v7)), (.pl (.sl .nil 0 []))])])
def f12n0S (a1 : Int) : Tr × Hp := (initS [(.pl (.int .i64 a1))] 0 .leaf, [])
noncomputable def f12n0 (a1 : Int) : Option f12n0O :=
  bif (decide (a1 < 0)) then
    some (.ret 2 0)
  else
    bif (decide (99999 < a1)) then
      some (.ret 2 0)
    else
      some (.ret 0 a1)
theorem f12n0_ok (a1 : Int) {o : f12n0O} (h : (f12n0 a1) = some o) : T Try.prog Try.f12.ntmps 0 c12 (f12n0S a1) (fun r => r = f12n0E a1 o) := by
  unfold f12n0 at h
  rcases cond_cases h with ⟨h4, h⟩ | ⟨h4, h⟩
  · obtain rfl := some_inj h
    exact runK_end cfg_ok (k := 2) (rs := [([], [], []), ([(3, true), (4, true)], [(5, .bool true)], []), ([], [], [])]) (ps := [none]) (tds := []) (m := [0]) (keep := [2, 3]) (ex := .ret) (st' := (f12n0E a1 (.ret 2 0)).2) (by kernel_rfl) (ap h4 (ap h4 (ap h4 an))) (fun h => nomatch h) rfl
  · rcases cond_cases h with ⟨h5, h⟩ | ⟨h5, h⟩
    · obtain rfl := some_inj h
      exact runK_end cfg_ok (k := 2) (rs := [([], [], []), ([(3, false), (4, false)], [(5, .bool false)], []), ([], [], [])]) (ps := [some true]) (tds := []) (m := [0]) (keep := [2, 3]) (ex := .ret) (st' := (f12n0E a1 (.ret 2 0)).2) (by kernel_rfl) (ap h4 (ap h4 (ap h4 (ap h5 an)))) (fun h => nomatch h) rfl
    · obtain rfl := some_inj h
      exact run_end cfg_ok (rs := [([], [], []), ([(3, false), (4, false)], [(5, .bool false)], []), ([], [], [])]) (ps := [some false]) (tds := []) (m := [0]) (keep := [2, 3]) (r := (.ret, (f12n0E a1 (.ret 0 a1)).2)) (by kernel_rfl) (ap h4 (ap h4 (ap h4 (ap h5 an)))) rfl
noncomputable def f12 (a1 : Int) : Option (Variation × Int) := (f12n0 a1).bind fun o => match o with
  | .ret v6 v7 => some ((Variation.mk v7 []), v6)
theorem f12_ok (a1 : Int) {r : Variation × Int} (h : (f12 a1) = some r) : CallS Try.prog false 12 [(.pl (.int .i64 a1))] [] (.tup [(.pl (.agg (Variation.cells r.1))), (.pl (.int .i64 r.2))]) [] := by
  unfold f12 at h
  obtain ⟨o, ho, h⟩ := bind_cases h
  cases o with
  | ret v6 v7 =>
    obtain rfl := some_inj h
    exact CallS.plain cfg_ok (f := Try.f12) (c := c12) (by kernel_rfl) (by kernel_rfl) (by kernel_rfl) (by kernel_rfl) ((f12n0_ok a1 ho).mono fun r e => by subst e; exact ⟨.inl rfl, (.tup [(.pl (.agg [(.int .i64 v7), (.sl .nil 0 [])])), (.pl (.int .i64 v6))]), (.tup [(.pl (.agg [(.int .i64 v7), (.sl .nil 0 [])])), (.pl (.int .i64 v6))]), by kernel_rfl, by kernel_rfl, ((Wk.tup (wlc (Wk.pl (WkP.agg (wpc (WkP.refl _) (wpc (WkP.nil (f := .nil) (sz := 0) (sz' := 4)) wpn)))) (wlc (Wk.refl _) wln))) : Wk (.tup [(.pl (.agg [(.int .i64 v7), (.sl .nil 0 [])])), (.pl (.int .i64 v6))]) (.tup [(.pl (.agg (Variation.cells (Variation.mk v7 [])))), (.pl (.int .i64 v6))]))⟩)

noncomputable def c37 : Code := Try.f37.body.getD .skip
inductive f37n0O where
  | ret (v5 : Bool)
def f37n0E (a1 : Int) (a2 : Int) : f37n0O → Ex × Tr × Hp
  | .ret v5 => (.ret, mkS [(4, (.pl (.bool v5)))], [])
def f37n0S (a1 : Int) (a2 : Int) : Tr × Hp := (initS [(.pl (.int .i64 a1)), (.pl (.int .i64 a2))] 0 .leaf, [])
noncomputable def f37n0 (a1 : Int) (a2 : Int) : Option f37n0O :=
  bif (decide ((wr64 (0 - a2)) ≤ a1)) then
    some (.ret (decide (a1 ≤ a2)))
  else
    some (.ret false)
theorem f37n0_ok (a1 : Int) (a2 : Int) {o : f37n0O} (h : (f37n0 a1 a2) = some o) : T Try.prog Try.f37.ntmps 0 c37 (f37n0S a1 a2) (fun r => r = f37n0E a1 a2 o) := by
  unfold f37n0 at h
  rcases cond_cases h with ⟨h4, h⟩ | ⟨h4, h⟩
  · obtain rfl := some_inj h
    exact run_end cfg_ok (rs := [([], [], []), ([(5, true), (6, true), (7, true)], [(8, .bool true)], [])]) (ps := []) (tds := []) (m := []) (keep := [4]) (r := (.ret, (f37n0E a1 a2 (.ret (decide (a1 ≤ a2)))).2)) (by kernel_rfl) (ap h4 (ap h4 (ap h4 (ap h4 an)))) rfl
  · obtain rfl := some_inj h
    exact run_end cfg_ok (rs := [([], [], []), ([(5, false), (6, false), (7, false)], [(8, .bool false)], [])]) (ps := []) (tds := []) (m := []) (keep := [4]) (r := (.ret, (f37n0E a1 a2 (.ret false)).2)) (by kernel_rfl) (ap h4 (ap h4 (ap h4 (ap h4 an)))) rfl
noncomputable def f37 (a1 : Int) (a2 : Int) : Option Bool := (f37n0 a1 a2).bind fun o => match o with
  | .ret v5 => some v5
theorem f37_ok (a1 : Int) (a2 : Int) {r : Bool} (h : (f37 a1 a2) = some r) : CallS Try.prog false 37 [(.pl (.int .i64 a1)), (.pl (.int .i64 a2))] [] (.pl (.bool r)) [] := by
  unfold f37 at h
  obtain ⟨o, ho, h⟩ := bind_cases h
  cases o with
  | ret v5 =>
    obtain rfl := some_inj h
    exact CallS.plain cfg_ok (f := Try.f37) (c := c37) (by kernel_rfl) (by kernel_rfl) (by kernel_rfl) (by kernel_rfl) ((f37n0_ok a1 a2 ho).mono fun r e => by subst e; exact ⟨.inl rfl, (.pl (.bool v5)), (.pl (.bool v5)), by kernel_rfl, by kernel_rfl, ((Wk.refl _) : Wk (.pl (.bool v5)) (.pl (.bool v5)))⟩)

noncomputable def c62 : Code := Try.f62.body.getD .skip
inductive f62n0O where
  | ret (v10 : Bool)
def f62n0E (a1 : Int) : f62n0O → Ex × Tr × Hp
  | .ret v10 => (.ret, mkS [(2, (.pl (.bool v10)))], [])
def f62n0S (a1 : Int) : Tr × Hp := (initS [(.pl (.int .u8 a1))] 0 .leaf, [])
noncomputable def f62n0 (a1 : Int) : Option f62n0O :=
  bif (decide (97 ≤ a1)) then
    bif (decide (a1 ≤ 122)) then
      some (.ret true)
    else
      bif (decide (65 ≤ a1)) then
        some (.ret (decide (a1 ≤ 90)))
      else
        some (.ret false)
  else
    bif (decide (65 ≤ a1)) then
      some (.ret (decide (a1 ≤ 90)))
    else
      some (.ret false)
theorem f62n0_ok (a1 : Int) {o : f62n0O} (h : (f62n0 a1) = some o) : T Try.prog Try.f62.ntmps 0 c62 (f62n0S a1) (fun r => r = f62n0E a1 o) := by
  unfold f62n0 at h
  rcases cond_cases h with ⟨h6, h⟩ | ⟨h6, h⟩
  · rcases cond_cases h with ⟨h7, h⟩ | ⟨h7, h⟩
    · obtain rfl := some_inj h
      exact run_end cfg_ok (rs := [([], [], []), ([(3, true), (4, true), (7, true), (8, true), (9, true), (12, true)], [(5, .bool true), (13, .bool true)], [])]) (ps := []) (tds := []) (m := []) (keep := [2]) (r := (.ret, (f62n0E a1 (.ret true)).2)) (by kernel_rfl) (ap h6 (ap h6 (ap h6 (ap h7 (ap h7 (ap h7 (ap h7 (ap h7 an)))))))) rfl
    · rcases cond_cases h with ⟨h8, h⟩ | ⟨h8, h⟩
      · obtain rfl := some_inj h
        exact run_end cfg_ok (rs := [([], [], []), ([(3, true), (4, true), (7, false), (8, false), (9, false), (10, true), (11, true), (12, false)], [(5, .bool true), (12, .bool true), (13, .bool false)], [])]) (ps := []) (tds := []) (m := []) (keep := [2]) (r := (.ret, (f62n0E a1 (.ret (decide (a1 ≤ 90)))).2)) (by kernel_rfl) (ap h6 (ap h6 (ap h6 (ap h7 (ap h7 (ap h7 (ap h8 (ap h8 (ap h7 (ap h8 (ap h7 an))))))))))) rfl
      · obtain rfl := some_inj h
        exact run_end cfg_ok (rs := [([], [], []), ([(3, true), (4, true), (7, false), (8, false), (9, false), (10, false), (11, false), (12, false)], [(5, .bool true), (12, .bool false), (13, .bool false)], [])]) (ps := []) (tds := []) (m := []) (keep := [2]) (r := (.ret, (f62n0E a1 (.ret false)).2)) (by kernel_rfl) (ap h6 (ap h6 (ap h6 (ap h7 (ap h7 (ap h7 (ap h8 (ap h8 (ap h7 (ap h8 (ap h7 an))))))))))) rfl
  · rcases cond_cases h with ⟨h9, h⟩ | ⟨h9, h⟩
    · obtain rfl := some_inj h
      exact run_end cfg_ok (rs := [([], [], []), ([(3, false), (4, false), (10, true), (11, true)], [(5, .bool false), (12, .bool true)], [])]) (ps := []) (tds := []) (m := []) (keep := [2]) (r := (.ret, (f62n0E a1 (.ret (decide (a1 ≤ 90)))).2)) (by kernel_rfl) (ap h6 (ap h6 (ap h6 (ap h9 (ap h9 (ap h9 an)))))) rfl
    · obtain rfl := some_inj h
      exact run_end cfg_ok (rs := [([], [], []), ([(3, false), (4, false), (10, false), (11, false)], [(5, .bool false), (12, .bool false)], [])]) (ps := []) (tds := []) (m := []) (keep := [2]) (r := (.ret, (f62n0E a1 (.ret false)).2)) (by kernel_rfl) (ap h6 (ap h6 (ap h6 (ap h9 (ap h9 (ap h9 an)))))) rfl
noncomputable def f62 (a1 : Int) : Option Bool := (f62n0 a1).bind fun o => match o with
  | .ret v10 => some v10
theorem f62_ok (a1 : Int) {r : Bool} (h : (f62 a1) = some r) : CallS Try.prog false 62 [(.pl (.int .u8 a1))] [] (.pl (.bool r)) [] := by
  unfold f62 at h
  obtain ⟨o, ho, h⟩ := bind_cases h
  cases o with
  | ret v10 =>
    obtain rfl := some_inj h
    exact CallS.plain cfg_ok (f := Try.f62) (c := c62) (by kernel_rfl) (by kernel_rfl) (by kernel_rfl) (by kernel_rfl) ((f62n0_ok a1 ho).mono fun r e => by subst e; exact ⟨.inl rfl, (.pl (.bool v10)), (.pl (.bool v10)), by kernel_rfl, by kernel_rfl, ((Wk.refl _) : Wk (.pl (.bool v10)) (.pl (.bool v10)))⟩)

noncomputable def c45 : Code := Try.f45.body.getD .skip
inductive f45n2O where
  | exit0
  | ret
def f45n2E (bb1 : ByteArray) : f45n2O → Ex × Tr × Hp
  | .exit0 => ((.exit 0), mkS [], [])
  | .ret => (.ret, mkS [(2, (.pl (.bool false)))], [])
def f45n2S (bb1 : ByteArray) (v65 : Int) : Tr × Hp := (mkS [(0, (.pl (.str bb1))), (20, (.pl (.int .i64 (bb1.size : Int)))), (21, (.pl (.int .i64 v65)))], [])
noncomputable def f45n2 : Nat → ByteArray → Int → Option f45n2O
  | 0, _, _ => none
  | f + 1, bb1, v65 =>
    bif (decide (v65 < (bb1.size : Int))) then
      (at? bb1.data.toList v65).bind fun x79 =>
      (f62 (x79.toNat : Int)).bind fun x81 =>
      bif x81 then
        (f45n2 f bb1 (wr64 (v65 + 1)))
      else
        bif (decide ((x79.toNat : Int) < 48)) then
          bif (decide ((x79.toNat : Int) = 95)) then
            (f45n2 f bb1 (wr64 (v65 + 1)))
          else
            bif (decide ((x79.toNat : Int) = 45)) then
              (f45n2 f bb1 (wr64 (v65 + 1)))
            else
              some .ret
        else
          bif (decide (57 < (x79.toNat : Int))) then
            bif (decide ((x79.toNat : Int) = 95)) then
              (f45n2 f bb1 (wr64 (v65 + 1)))
            else
              bif (decide ((x79.toNat : Int) = 45)) then
                (f45n2 f bb1 (wr64 (v65 + 1)))
              else
                some .ret
          else
            (f45n2 f bb1 (wr64 (v65 + 1)))
    else
      some .exit0
theorem f45n2_ok : ∀ (f : Nat) (bb1 : ByteArray) (v65 : Int) {o : f45n2O}, (f45n2 f bb1 v65) = some o → TL Try.prog Try.f45.ntmps 0 f (cL (cL (dropC 1 (cL (dropC 2 c45))))) (f45n2S bb1 v65) (fun r => r = f45n2E bb1 o)
  | 0, _, _, o, h => by rw [f45n2] at h; cases h
  | f + 1, bb1, v65, o, h => by
    rw [f45n2] at h
    refine TL.body (K := fun s => ∃ v65 : Int, s = (f45n2S bb1 v65) ∧ (f45n2 f bb1 v65) = some o) ?_ (by rintro _ ⟨v65, rfl, hk⟩; exact f45n2_ok f _ _ hk)
    rcases cond_cases h with ⟨h67, h⟩ | ⟨h67, h⟩
    · obtain ⟨x79, h80, h⟩ := bind_cases h
      obtain ⟨x81, h82, h⟩ := bind_cases h
      rcases cond_cases h with ⟨h83, h⟩ | ⟨h83, h⟩
      · exact run_end cfg_ok (rs := [([], [], []), ([], [], []), ([], [(2, .byte (Int.toNat v65) x79)], []), ([(4, false), (5, false), (6, false), (9, false)], [(1, .call (.pl (.bool x81)) []), (10, .bool false)], []), ([], [], [])]) (ps := [some true, none]) (tds := []) (m := []) (keep := [0, 20, 21]) (r := (.norm, (f45n2S bb1 (wr64 (v65 + 1))))) (by kernel_rfl) (ap h67 (ap (at_some h80).1 (ap (at_some h80).2 (ap (not_t h83) (ap (not_t h83) (ap (not_t h83) (ap (not_t h83) (ap (not_t h83) (ap (f62_ok (x79.toNat : Int) h82) an))))))))) (LoopQ.norm ⟨(wr64 (v65 + 1)), rfl, h⟩)
      · rcases cond_cases h with ⟨h84, h⟩ | ⟨h84, h⟩
        · rcases cond_cases h with ⟨h85, h⟩ | ⟨h85, h⟩
          · exact run_end cfg_ok (rs := [([], [], []), ([], [], []), ([], [(2, .byte (Int.toNat v65) x79)], []), ([(4, true), (5, true), (6, true), (7, true), (8, true), (9, true), (16, false), (17, false)], [(1, .call (.pl (.bool x81)) []), (9, .bool true), (10, .bool true), (18, .bool false)], []), ([], [], [])]) (ps := [some true, none]) (tds := []) (m := []) (keep := [0, 20, 21]) (r := (.norm, (f45n2S bb1 (wr64 (v65 + 1))))) (by kernel_rfl) (ap h67 (ap (at_some h80).1 (ap (at_some h80).2 (ap (not_f h83) (ap (not_f h83) (ap (not_f h83) (ap h84 (ap h84 (ap (not_f h83) (ap h84 (ap (not_f h83) (ap (not_t h85) (ap (not_t h85) (ap (not_t h85) (ap (f62_ok (x79.toNat : Int) h82) an))))))))))))))) (LoopQ.norm ⟨(wr64 (v65 + 1)), rfl, h⟩)
          · rcases cond_cases h with ⟨h86, h⟩ | ⟨h86, h⟩
            · exact run_end cfg_ok (rs := [([], [], []), ([], [], []), ([], [(2, .byte (Int.toNat v65) x79)], []), ([(4, true), (5, true), (6, true), (7, true), (8, true), (9, true), (16, true), (17, true)], [(1, .call (.pl (.bool x81)) []), (9, .bool true), (10, .bool true), (18, .bool true)], []), ([], [], [])]) (ps := [some true, some false]) (tds := []) (m := []) (keep := [0, 20, 21]) (r := (.norm, (f45n2S bb1 (wr64 (v65 + 1))))) (by kernel_rfl) (ap h67 (ap (at_some h80).1 (ap (at_some h80).2 (ap (not_f h83) (ap (not_f h83) (ap (not_f h83) (ap h84 (ap h84 (ap (not_f h83) (ap h84 (ap (not_f h83) (ap (not_f h85) (ap (not_f h85) (ap (not_f h85) (ap (f62_ok (x79.toNat : Int) h82) (ap (not_t h86) an)))))))))))))))) (LoopQ.norm ⟨(wr64 (v65 + 1)), rfl, h⟩)
            · obtain rfl := some_inj h
              exact runK_end cfg_ok (k := 3) (rs := [([], [], []), ([], [], []), ([], [(2, .byte (Int.toNat v65) x79)], []), ([(4, true), (5, true), (6, true), (7, true), (8, true), (9, true), (16, true), (17, true)], [(1, .call (.pl (.bool x81)) []), (9, .bool true), (10, .bool true), (18, .bool true)], []), ([], [], [])]) (ps := [some true, some true]) (tds := []) (m := []) (keep := [2]) (ex := .ret) (st' := (f45n2E bb1 .ret).2) (by kernel_rfl) (ap h67 (ap (at_some h80).1 (ap (at_some h80).2 (ap (not_f h83) (ap (not_f h83) (ap (not_f h83) (ap h84 (ap h84 (ap (not_f h83) (ap h84 (ap (not_f h83) (ap (not_f h85) (ap (not_f h85) (ap (not_f h85) (ap (f62_ok (x79.toNat : Int) h82) (ap (not_f h86) an)))))))))))))))) (fun h => nomatch h) (LoopQ.out rfl rfl)
        · rcases cond_cases h with ⟨h87, h⟩ | ⟨h87, h⟩
          · rcases cond_cases h with ⟨h88, h⟩ | ⟨h88, h⟩
            · exact run_end cfg_ok (rs := [([], [], []), ([], [], []), ([], [(2, .byte (Int.toNat v65) x79)], []), ([(4, true), (5, true), (6, true), (7, false), (8, false), (9, true), (12, true), (13, true), (16, false), (17, false)], [(1, .call (.pl (.bool x81)) []), (9, .bool false), (10, .bool true), (14, .bool true), (18, .bool false)], []), ([], [], [])]) (ps := [some true, none]) (tds := []) (m := []) (keep := [0, 20, 21]) (r := (.norm, (f45n2S bb1 (wr64 (v65 + 1))))) (by kernel_rfl) (ap h67 (ap (at_some h80).1 (ap (at_some h80).2 (ap (not_f h83) (ap (not_f h83) (ap (not_f h83) (ap h84 (ap h84 (ap (not_f h83) (ap h84 (ap (not_f h83) (ap h87 (ap h87 (ap h87 (ap (not_t h88) (ap (not_t h88) (ap (not_t h88) (ap (f62_ok (x79.toNat : Int) h82) an)))))))))))))))))) (LoopQ.norm ⟨(wr64 (v65 + 1)), rfl, h⟩)
            · rcases cond_cases h with ⟨h89, h⟩ | ⟨h89, h⟩
              · exact run_end cfg_ok (rs := [([], [], []), ([], [], []), ([], [(2, .byte (Int.toNat v65) x79)], []), ([(4, true), (5, true), (6, true), (7, false), (8, false), (9, true), (12, true), (13, true), (16, true), (17, true)], [(1, .call (.pl (.bool x81)) []), (9, .bool false), (10, .bool true), (14, .bool true), (18, .bool true)], []), ([], [], [])]) (ps := [some true, some false]) (tds := []) (m := []) (keep := [0, 20, 21]) (r := (.norm, (f45n2S bb1 (wr64 (v65 + 1))))) (by kernel_rfl) (ap h67 (ap (at_some h80).1 (ap (at_some h80).2 (ap (not_f h83) (ap (not_f h83) (ap (not_f h83) (ap h84 (ap h84 (ap (not_f h83) (ap h84 (ap (not_f h83) (ap h87 (ap h87 (ap h87 (ap (not_f h88) (ap (not_f h88) (ap (not_f h88) (ap (f62_ok (x79.toNat : Int) h82) (ap (not_t h89) an))))))))))))))))))) (LoopQ.norm ⟨(wr64 (v65 + 1)), rfl, h⟩)
              · obtain rfl := some_inj h
                exact runK_end cfg_ok (k := 3) (rs := [([], [], []), ([], [], []), ([], [(2, .byte (Int.toNat v65) x79)], []), ([(4, true), (5, true), (6, true), (7, false), (8, false), (9, true), (12, true), (13, true), (16, true), (17, true)], [(1, .call (.pl (.bool x81)) []), (9, .bool false), (10, .bool true), (14, .bool true), (18, .bool true)], []), ([], [], [])]) (ps := [some true, some true]) (tds := []) (m := []) (keep := [2]) (ex := .ret) (st' := (f45n2E bb1 .ret).2) (by kernel_rfl) (ap h67 (ap (at_some h80).1 (ap (at_some h80).2 (ap (not_f h83) (ap (not_f h83) (ap (not_f h83) (ap h84 (ap h84 (ap (not_f h83) (ap h84 (ap (not_f h83) (ap h87 (ap h87 (ap h87 (ap (not_f h88) (ap (not_f h88) (ap (not_f h88) (ap (f62_ok (x79.toNat : Int) h82) (ap (not_f h89) an))))))))))))))))))) (fun h => nomatch h) (LoopQ.out rfl rfl)
          · exact run_end cfg_ok (rs := [([], [], []), ([], [], []), ([], [(2, .byte (Int.toNat v65) x79)], []), ([(4, true), (5, true), (6, true), (7, false), (8, false), (9, true), (12, false), (13, false)], [(1, .call (.pl (.bool x81)) []), (9, .bool false), (10, .bool true), (14, .bool false)], []), ([], [], [])]) (ps := [some true, none]) (tds := []) (m := []) (keep := [0, 20, 21]) (r := (.norm, (f45n2S bb1 (wr64 (v65 + 1))))) (by kernel_rfl) (ap h67 (ap (at_some h80).1 (ap (at_some h80).2 (ap (not_f h83) (ap (not_f h83) (ap (not_f h83) (ap h84 (ap h84 (ap (not_f h83) (ap h84 (ap (not_f h83) (ap h87 (ap h87 (ap h87 (ap (f62_ok (x79.toNat : Int) h82) an))))))))))))))) (LoopQ.norm ⟨(wr64 (v65 + 1)), rfl, h⟩)
    · obtain rfl := some_inj h
      exact runK_end cfg_ok (k := 2) (rs := [([], [], [])]) (ps := [some false]) (tds := []) (m := []) (keep := []) (ex := (.exit 0)) (st' := (f45n2E bb1 .exit0).2) (by kernel_rfl) (ap h67 an) (fun h => nomatch h) (LoopQ.out rfl rfl)
noncomputable def f45n2L (bb1 : ByteArray) : List UInt8 → Int → Option f45n2O
  | [], v65 =>
    some .exit0
  | x0 :: rest, v65 =>
    (f62 (x0.toNat : Int)).bind fun x81 =>
    bif x81 then
      (f45n2L bb1 rest (v65 + 1))
    else
      bif (decide ((x0.toNat : Int) < 48)) then
        bif (decide ((x0.toNat : Int) = 95)) then
          (f45n2L bb1 rest (v65 + 1))
        else
          bif (decide ((x0.toNat : Int) = 45)) then
            (f45n2L bb1 rest (v65 + 1))
          else
            some .ret
      else
        bif (decide (57 < (x0.toNat : Int))) then
          bif (decide ((x0.toNat : Int) = 95)) then
            (f45n2L bb1 rest (v65 + 1))
          else
            bif (decide ((x0.toNat : Int) = 45)) then
              (f45n2L bb1 rest (v65 + 1))
            else
              some .ret
        else
          (f45n2L bb1 rest (v65 + 1))
theorem f45n2L_eq (bb1 : ByteArray) : ∀ (rest : List UInt8) (f k : Nat), bb1.data.toList.drop k = rest → bb1.data.toList.length ≤ maxLen → rest.length < f → f45n2 f bb1 (k : Int) = f45n2L bb1 rest (k : Int)
  | _, 0, _, _, _, hf => absurd hf (Nat.not_lt_zero _)
  | [], f + 1, k, hd, hm, hf => by
    have hk : ¬ ((k : Int) < (bb1.data.toList.length : Int)) := by have := drop_nil hd; omega
    rw [f45n2, f45n2L]
    simp only [size_list, decide_eq_false hk, cond_false]
  | x0 :: rest, f + 1, k, hd, hm, hf => by
    obtain ⟨hx, hlt, hd'⟩ := drop_cons hd
    have hk : (k : Int) < (bb1.data.toList.length : Int) := by omega
    have hw : wr64 ((k : Int) + 1) = (k : Int) + 1 := wr64_of (by omega) (by unfold maxLen at hm; omega)
    have ih : f45n2 f bb1 ((k : Int) + 1) = f45n2L bb1 rest ((k : Int) + 1) := f45n2L_eq bb1 rest f (k + 1) hd' hm (by simpa using hf)
    rw [f45n2, f45n2L]
    simp only [size_list, decide_eq_true hk, cond_true, at_nat, hx, Option.bind_some, hw, ih]
theorem f45n2_run (bb1 : ByteArray) (hm : bb1.data.toList.length ≤ maxLen) : f45n2 FUEL bb1 0 = f45n2L bb1 bb1.data.toList 0 := f45n2L_eq bb1 bb1.data.toList FUEL 0 List.drop_zero hm (lt_FUEL hm)
inductive f45n1O where
  | norm
  | ret
def f45n1E (bb1 : ByteArray) : f45n1O → Ex × Tr × Hp
  | .norm => (.norm, mkS [], [])
  | .ret => (.ret, mkS [(2, (.pl (.bool false)))], [])
def f45n1S (bb1 : ByteArray) : Tr × Hp := (mkS [(0, (.pl (.str bb1)))], [])
noncomputable def f45n1 (bb1 : ByteArray) : Option f45n1O :=
  (f45n2 FUEL bb1 0).bind fun o90 => match o90 with
  | .exit0 => some .norm
  | .ret => some .ret
theorem f45n1_ok (bb1 : ByteArray) {o : f45n1O} (h : (f45n1 bb1) = some o) : T Try.prog Try.f45.ntmps 0 (cL (dropC 2 c45)) (f45n1S bb1) (fun r => r = f45n1E bb1 o) := by
  unfold f45n1 at h
  refine runK_norm cfg_ok (k := 1) (rs := [([], [], [])]) (ps := []) (tds := []) (m := []) (keep := [0, 20, 21]) (st' := (f45n2S bb1 0)) (by kernel_rfl) an ?_
  obtain ⟨o90, h91, h⟩ := bind_cases h
  cases o90 with
  | exit0 =>
    obtain rfl := some_inj h
    exact T.last' (T.bl (i := 0) (by kernel_rfl) (by kernel_rfl) (f45n2_ok FUEL bb1 0 h91)) (tds := []) (m := []) (keep := []) (st2 := (f45n1E bb1 .norm).2) (by kernel_rfl) an rfl
  | ret =>
    obtain rfl := some_inj h
    exact T.last' (T.bl (i := 0) (by kernel_rfl) (by kernel_rfl) (f45n2_ok FUEL bb1 0 h91)) (tds := []) (m := []) (keep := [2]) (st2 := (f45n1E bb1 .ret).2) (by kernel_rfl) an rfl
inductive f45n0O where
  | ret (v94 : Bool)
def f45n0E (a1 : ByteArray) : f45n0O → Ex × Tr × Hp
  | .ret v94 => (.ret, mkS [(2, (.pl (.bool v94)))], [])
def f45n0S (a1 : ByteArray) : Tr × Hp := (initS [(.pl (.str a1))] 0 .leaf, [])
noncomputable def f45n0 (a1 : ByteArray) : Option f45n0O :=
  bif (decide ((a1.size : Int) < 1)) then
    some (.ret false)
  else
    bif (decide (40 < (a1.size : Int))) then
      some (.ret false)
    else
      (at? a1.data.toList 0).bind fun x11 =>
      (f62 (x11.toNat : Int)).bind fun x13 =>
      bif x13 then
        (f45n1 a1).bind fun o92 => match o92 with
        | .norm => some (.ret true)
        | .ret => some (.ret false)
      else
        some (.ret false)
theorem f45n0_ok (a1 : ByteArray) {o : f45n0O} (h : (f45n0 a1) = some o) : T Try.prog Try.f45.ntmps 0 c45 (f45n0S a1) (fun r => r = f45n0E a1 o) := by
  unfold f45n0 at h
  rcases cond_cases h with ⟨h9, h⟩ | ⟨h9, h⟩
  · obtain rfl := some_inj h
    exact runK_end cfg_ok (k := 2) (rs := [([], [], []), ([(4, true), (5, true), (6, true)], [(7, .bool true)], []), ([], [], [])]) (ps := [none]) (tds := []) (m := []) (keep := [2]) (ex := .ret) (st' := (f45n0E a1 (.ret false)).2) (by kernel_rfl) (ap h9 (ap h9 (ap h9 (ap h9 an)))) (fun h => nomatch h) rfl
  · rcases cond_cases h with ⟨h10, h⟩ | ⟨h10, h⟩
    · obtain rfl := some_inj h
      exact runK_end cfg_ok (k := 2) (rs := [([], [], []), ([(4, false), (5, false), (6, false), (9, true), (10, true), (11, true), (12, true)], [(7, .bool false), (13, .bool true)], []), ([], [], [])]) (ps := [none]) (tds := []) (m := []) (keep := [2]) (ex := .ret) (st' := (f45n0E a1 (.ret false)).2) (by kernel_rfl) (ap h9 (ap h9 (ap h9 (ap h9 (ap h10 (ap h10 (ap h10 (ap h10 (ap h10 an))))))))) (fun h => nomatch h) rfl
    · obtain ⟨x11, h12, h⟩ := bind_cases h
      obtain ⟨x13, h14, h⟩ := bind_cases h
      rcases cond_cases h with ⟨h15, h⟩ | ⟨h15, h⟩
      · refine runK_norm cfg_ok (k := 2) (rs := [([], [], []), ([(4, false), (5, false), (6, false), (9, false), (10, false), (11, false), (12, false)], [(7, .bool false), (10, .byte (Int.toNat 0) x11), (11, .call (.pl (.bool x13)) []), (13, .bool false)], [])]) (ps := [some false]) (tds := []) (m := []) (keep := [0]) (st' := (f45n1S a1)) (by kernel_rfl) (ap h9 (ap h9 (ap h9 (ap h9 (ap h10 (ap h10 (ap (at_some h12).1 (ap (at_some h12).2 (ap h10 (ap h10 (ap h10 (ap (f62_ok (x11.toNat : Int) h14) (ap (not_t h15) an))))))))))))) ?_
        obtain ⟨o92, h93, h⟩ := bind_cases h
        cases o92 with
        | norm =>
          refine T.oneN (by kernel_rfl) (f45n1_ok a1 h93) (st2 := (f45n1E a1 .norm).2) rfl ?_
          obtain rfl := some_inj h
          exact run_end cfg_ok (rs := [([], [], [])]) (ps := []) (tds := []) (m := []) (keep := [2]) (r := (.ret, (f45n0E a1 (.ret true)).2)) (by kernel_rfl) an rfl
        | ret =>
          obtain rfl := some_inj h
          exact T.oneX' (by kernel_rfl) (f45n1_ok a1 h93) (tds := []) (m := []) (keep := [2]) (st2 := (f45n0E a1 (.ret false)).2) (by kernel_rfl) an rfl rfl
      · obtain rfl := some_inj h
        exact runK_end cfg_ok (k := 2) (rs := [([], [], []), ([(4, false), (5, false), (6, false), (9, false), (10, false), (11, false), (12, false)], [(7, .bool false), (10, .byte (Int.toNat 0) x11), (11, .call (.pl (.bool x13)) []), (13, .bool false)], []), ([], [], [])]) (ps := [some true]) (tds := []) (m := []) (keep := [2]) (ex := .ret) (st' := (f45n0E a1 (.ret false)).2) (by kernel_rfl) (ap h9 (ap h9 (ap h9 (ap h9 (ap h10 (ap h10 (ap (at_some h12).1 (ap (at_some h12).2 (ap h10 (ap h10 (ap h10 (ap (f62_ok (x11.toNat : Int) h14) (ap (not_f h15) an))))))))))))) (fun h => nomatch h) rfl
noncomputable def f45 (a1 : ByteArray) : Option Bool := (f45n0 a1).bind fun o => match o with
  | .ret v94 => some v94
theorem f45_ok (a1 : ByteArray) {r : Bool} (h : (f45 a1) = some r) : CallS Try.prog false 45 [(.pl (.str a1))] [] (.pl (.bool r)) [] := by
  unfold f45 at h
  obtain ⟨o, ho, h⟩ := bind_cases h
  cases o with
  | ret v94 =>
    obtain rfl := some_inj h
    exact CallS.plain cfg_ok (f := Try.f45) (c := c45) (by kernel_rfl) (by kernel_rfl) (by kernel_rfl) (by kernel_rfl) ((f45n0_ok a1 ho).mono fun r e => by subst e; exact ⟨.inl rfl, (.pl (.bool v94)), (.pl (.bool v94)), by kernel_rfl, by kernel_rfl, ((Wk.refl _) : Wk (.pl (.bool v94)) (.pl (.bool v94)))⟩)

noncomputable def c44 : Code := Try.f44.body.getD .skip
inductive f44n0O where
  | ret (v8 : Bool)
def f44n0E (a1 : ByteArray) : f44n0O → Ex × Tr × Hp
  | .ret v8 => (.ret, mkS [(2, (.pl (.bool v8)))], [])
def f44n0S (a1 : ByteArray) : Tr × Hp := (initS [(.pl (.str a1))] 0 .leaf, [])
noncomputable def f44n0 (a1 : ByteArray) : Option f44n0O :=
  bif (seq a1 str_house) then
    some (.ret false)
  else
    (f45 a1).bind fun x6 =>
    some (.ret x6)
theorem f44n0_ok (a1 : ByteArray) {o : f44n0O} (h : (f44n0 a1) = some o) : T Try.prog Try.f44.ntmps 0 c44 (f44n0S a1) (fun r => r = f44n0E a1 o) := by
  unfold f44n0 at h
  rcases cond_cases h with ⟨h5, h⟩ | ⟨h5, h⟩
  · obtain rfl := some_inj h
    exact run_end cfg_ok (rs := [([], [], []), ([(3, false), (4, false)], [(5, .bool false)], [])]) (ps := []) (tds := []) (m := []) (keep := [2]) (r := (.ret, (f44n0E a1 (.ret false)).2)) (by kernel_rfl) (ap (not_t h5) (ap (not_t h5) (ap (not_t h5) an))) rfl
  · obtain ⟨x6, h7, h⟩ := bind_cases h
    obtain rfl := some_inj h
    exact run_end cfg_ok (rs := [([], [], []), ([(3, true), (4, true)], [(4, .call (.pl (.bool x6)) []), (5, .bool true)], [])]) (ps := []) (tds := []) (m := []) (keep := [2]) (r := (.ret, (f44n0E a1 (.ret x6)).2)) (by kernel_rfl) (ap (not_f h5) (ap (not_f h5) (ap (not_f h5) (ap (f45_ok a1 h7) an)))) rfl
noncomputable def f44 (a1 : ByteArray) : Option Bool := (f44n0 a1).bind fun o => match o with
  | .ret v8 => some v8
theorem f44_ok (a1 : ByteArray) {r : Bool} (h : (f44 a1) = some r) : CallS Try.prog false 44 [(.pl (.str a1))] [] (.pl (.bool r)) [] := by
  unfold f44 at h
  obtain ⟨o, ho, h⟩ := bind_cases h
  cases o with
  | ret v8 =>
    obtain rfl := some_inj h
    exact CallS.plain cfg_ok (f := Try.f44) (c := c44) (by kernel_rfl) (by kernel_rfl) (by kernel_rfl) (by kernel_rfl) ((f44n0_ok a1 ho).mono fun r e => by subst e; exact ⟨.inl rfl, (.pl (.bool v8)), (.pl (.bool v8)), by kernel_rfl, by kernel_rfl, ((Wk.refl _) : Wk (.pl (.bool v8)) (.pl (.bool v8)))⟩)

noncomputable def c61 : Code := Try.f61.body.getD .skip
inductive f61n0O where
  | ret
def f61n0E (a1 : ByteArray) : f61n0O → Ex × Tr × Hp
  | .ret => (.ret, mkS [(2, (.pl (.bool (!(seq a1 a1)))))], [])
def f61n0S (a1 : ByteArray) : Tr × Hp := (initS [(.pl (.str a1))] 0 .leaf, [])
noncomputable def f61n0 (a1 : ByteArray) : Option f61n0O :=
  some .ret
theorem f61n0_ok (a1 : ByteArray) {o : f61n0O} (h : (f61n0 a1) = some o) : T Try.prog Try.f61.ntmps 0 c61 (f61n0S a1) (fun r => r = f61n0E a1 o) := by
  unfold f61n0 at h
  obtain rfl := some_inj h
  exact run_end cfg_ok (rs := [([], [], []), ([], [], [])]) (ps := []) (tds := []) (m := []) (keep := [2]) (r := (.ret, (f61n0E a1 .ret).2)) (by kernel_rfl) an rfl
noncomputable def f61 (a1 : ByteArray) : Option Bool := (f61n0 a1).bind fun o => match o with
  | .ret => some (!(seq a1 a1))
theorem f61_ok (a1 : ByteArray) {r : Bool} (h : (f61 a1) = some r) : CallS Try.prog false 61 [(.pl (.str a1))] [] (.pl (.bool r)) [] := by
  unfold f61 at h
  obtain ⟨o, ho, h⟩ := bind_cases h
  cases o with
  | ret =>
    obtain rfl := some_inj h
    exact CallS.plain cfg_ok (f := Try.f61) (c := c61) (by kernel_rfl) (by kernel_rfl) (by kernel_rfl) (by kernel_rfl) ((f61n0_ok a1 ho).mono fun r e => by subst e; exact ⟨.inl rfl, (.pl (.bool (!(seq a1 a1)))), (.pl (.bool (!(seq a1 a1)))), by kernel_rfl, by kernel_rfl, ((Wk.refl _) : Wk (.pl (.bool (!(seq a1 a1)))) (.pl (.bool (!(seq a1 a1)))))⟩)

noncomputable def c40 : Code := Try.f40.body.getD .skip
inductive f40n0O where
  | ret (v21 : Int)
def f40n0E (a1 : ByteArray) (a2 : ByteArray) : f40n0O → Ex × Tr × Hp
  | .ret v21 => (.ret, mkS [(4, (.pl (.int .i64 v21)))], [])
def f40n0S (a1 : ByteArray) (a2 : ByteArray) : Tr × Hp := (initS [(.pl (.str a1)), (.pl (.str a2))] 0 .leaf, [])
noncomputable def f40n0 (a1 : ByteArray) (a2 : ByteArray) : Option f40n0O :=
  (f61 a1).bind fun x5 =>
  (f61 a2).bind fun x9 =>
  bif x5 then
    bif x9 then
      some (.ret 0)
    else
      some (.ret (-1))
  else
    bif x9 then
      some (.ret 1)
    else
      bif (slt a1 a2) then
        some (.ret (-1))
      else
        bif (slt a1 a2 || seq a1 a2) then
          some (.ret 0)
        else
          some (.ret 1)
theorem f40n0_ok (a1 : ByteArray) (a2 : ByteArray) {o : f40n0O} (h : (f40n0 a1 a2) = some o) : T Try.prog Try.f40.ntmps 0 c40 (f40n0S a1 a2) (fun r => r = f40n0E a1 a2 o) := by
  unfold f40n0 at h
  obtain ⟨x5, h6, h⟩ := bind_cases h
  obtain ⟨x9, h10, h⟩ := bind_cases h
  rcases cond_cases h with ⟨h13, h⟩ | ⟨h13, h⟩
  · rcases cond_cases h with ⟨h14, h⟩ | ⟨h14, h⟩
    · obtain rfl := some_inj h
      exact runK_end cfg_ok (k := 4) (rs := [([], [], []), ([], [(1, .call (.pl (.bool x5)) [])], []), ([], [(1, .call (.pl (.bool x9)) [])], []), ([], [], []), ([], [], []), ([], [], [])]) (ps := [some true, some true]) (tds := []) (m := []) (keep := [4]) (ex := .ret) (st' := (f40n0E a1 a2 (.ret 0)).2) (by kernel_rfl) (ap (f61_ok a1 h6) (ap (f61_ok a2 h10) (ap h13 (ap h14 an)))) (fun h => nomatch h) rfl
    · obtain rfl := some_inj h
      exact runK_end cfg_ok (k := 4) (rs := [([], [], []), ([], [(1, .call (.pl (.bool x5)) [])], []), ([], [(1, .call (.pl (.bool x9)) [])], []), ([], [], []), ([], [], []), ([], [], [])]) (ps := [some true, some false]) (tds := []) (m := []) (keep := [4]) (ex := .ret) (st' := (f40n0E a1 a2 (.ret (-1))).2) (by kernel_rfl) (ap (f61_ok a1 h6) (ap (f61_ok a2 h10) (ap h13 (ap h14 an)))) (fun h => nomatch h) rfl
  · rcases cond_cases h with ⟨h16, h⟩ | ⟨h16, h⟩
    · obtain rfl := some_inj h
      exact runK_end cfg_ok (k := 5) (rs := [([], [], []), ([], [(1, .call (.pl (.bool x5)) [])], []), ([], [(1, .call (.pl (.bool x9)) [])], []), ([], [], []), ([], [], []), ([], [], [])]) (ps := [some false, some true]) (tds := []) (m := []) (keep := [4]) (ex := .ret) (st' := (f40n0E a1 a2 (.ret 1)).2) (by kernel_rfl) (ap (f61_ok a1 h6) (ap (f61_ok a2 h10) (ap h13 (ap h16 an)))) (fun h => nomatch h) rfl
    · rcases cond_cases h with ⟨h18, h⟩ | ⟨h18, h⟩
      · obtain rfl := some_inj h
        exact runK_end cfg_ok (k := 6) (rs := [([], [], []), ([], [(1, .call (.pl (.bool x5)) [])], []), ([], [(1, .call (.pl (.bool x9)) [])], []), ([], [], []), ([], [], []), ([], [], []), ([], [], [])]) (ps := [some false, some false, some true]) (tds := []) (m := []) (keep := [4]) (ex := .ret) (st' := (f40n0E a1 a2 (.ret (-1))).2) (by kernel_rfl) (ap (f61_ok a1 h6) (ap (f61_ok a2 h10) (ap h13 (ap h16 (ap h18 an))))) (fun h => nomatch h) rfl
      · rcases cond_cases h with ⟨h20, h⟩ | ⟨h20, h⟩
        · obtain rfl := some_inj h
          exact run_end cfg_ok (rs := [([], [], []), ([], [(1, .call (.pl (.bool x5)) [])], []), ([], [(1, .call (.pl (.bool x9)) [])], []), ([], [], []), ([], [], []), ([], [], []), ([], [], []), ([], [], [])]) (ps := [some false, some false, some false, some false]) (tds := []) (m := []) (keep := [4]) (r := (.ret, (f40n0E a1 a2 (.ret 0)).2)) (by kernel_rfl) (ap (f61_ok a1 h6) (ap (f61_ok a2 h10) (ap h13 (ap h16 (ap h18 (ap (not_t h20) an)))))) rfl
        · obtain rfl := some_inj h
          exact runK_end cfg_ok (k := 7) (rs := [([], [], []), ([], [(1, .call (.pl (.bool x5)) [])], []), ([], [(1, .call (.pl (.bool x9)) [])], []), ([], [], []), ([], [], []), ([], [], []), ([], [], []), ([], [], [])]) (ps := [some false, some false, some false, some true]) (tds := []) (m := []) (keep := [4]) (ex := .ret) (st' := (f40n0E a1 a2 (.ret 1)).2) (by kernel_rfl) (ap (f61_ok a1 h6) (ap (f61_ok a2 h10) (ap h13 (ap h16 (ap h18 (ap (not_f h20) an)))))) (fun h => nomatch h) rfl
noncomputable def f40 (a1 : ByteArray) (a2 : ByteArray) : Option Int := (f40n0 a1 a2).bind fun o => match o with
  | .ret v21 => some v21
theorem f40_ok (a1 : ByteArray) (a2 : ByteArray) {r : Int} (h : (f40 a1 a2) = some r) : CallS Try.prog false 40 [(.pl (.str a1)), (.pl (.str a2))] [] (.pl (.int .i64 r)) [] := by
  unfold f40 at h
  obtain ⟨o, ho, h⟩ := bind_cases h
  cases o with
  | ret v21 =>
    obtain rfl := some_inj h
    exact CallS.plain cfg_ok (f := Try.f40) (c := c40) (by kernel_rfl) (by kernel_rfl) (by kernel_rfl) (by kernel_rfl) ((f40n0_ok a1 a2 ho).mono fun r e => by subst e; exact ⟨.inl rfl, (.pl (.int .i64 v21)), (.pl (.int .i64 v21)), by kernel_rfl, by kernel_rfl, ((Wk.refl _) : Wk (.pl (.int .i64 v21)) (.pl (.int .i64 v21)))⟩)

noncomputable def c66 : Code := Try.f66.body.getD .skip
inductive f66n2O where
  | exit0
  | ret (v28 : Int)
def f66n2E (bc1 : List Int) : f66n2O → Ex × Tr × Hp
  | .exit0 => ((.exit 0), mkS [(3, (.pl (.int .i64 0)))], [])
  | .ret v28 => (.ret, mkS [(2, (.pl (.int .i64 v28)))], [])
def f66n2S (bc1 : List Int) (v19 : Int) : Tr × Hp := (mkS [(3, (.pl (.int .i64 0))), (6, (.pl (.sl .any 1 (bc1.map (cInt .i64))))), (7, (.pl (.int .i64 (bc1.length : Int)))), (8, (.pl (.int .i64 v19)))], [])
noncomputable def f66n2 : Nat → List Int → Int → Option f66n2O
  | 0, _, _ => none
  | f + 1, bc1, v19 =>
    bif (decide (v19 < (bc1.length : Int))) then
      (at? bc1 v19).bind fun x25 =>
      bif (decide (x25 = 0)) then
        (f66n2 f bc1 (wr64 (v19 + 1)))
      else
        some (.ret x25)
    else
      some .exit0
theorem f66n2_ok : ∀ (f : Nat) (bc1 : List Int) (v19 : Int) {o : f66n2O}, (f66n2 f bc1 v19) = some o → TL Try.prog Try.f66.ntmps 0 f (cL (cL (dropC 1 (cL (dropC 2 c66))))) (f66n2S bc1 v19) (fun r => r = f66n2E bc1 o)
  | 0, _, _, o, h => by rw [f66n2] at h; cases h
  | f + 1, bc1, v19, o, h => by
    rw [f66n2] at h
    refine TL.body (K := fun s => ∃ v19 : Int, s = (f66n2S bc1 v19) ∧ (f66n2 f bc1 v19) = some o) ?_ (by rintro _ ⟨v19, rfl, hk⟩; exact f66n2_ok f _ _ hk)
    rcases cond_cases h with ⟨h21, h⟩ | ⟨h21, h⟩
    · obtain ⟨x25, h26, h⟩ := bind_cases h
      rcases cond_cases h with ⟨h27, h⟩ | ⟨h27, h⟩
      · exact run_end cfg_ok (rs := [([], [], []), ([], [(0, .idx (Int.toNat v19) ((cInt .i64) x25))], []), ([], [], []), ([], [], [])]) (ps := [some true, some false]) (tds := []) (m := []) (keep := [3, 6, 7, 8]) (r := (.norm, (f66n2S bc1 (wr64 (v19 + 1))))) (by kernel_rfl) (ap h21 (ap (at_some h26).1 (ap (at_map (cInt .i64) (at_some h26).2) (ap (not_t h27) an)))) (LoopQ.norm ⟨(wr64 (v19 + 1)), rfl, h⟩)
      · obtain rfl := some_inj h
        exact runK_end cfg_ok (k := 3) (rs := [([], [], []), ([], [(0, .idx (Int.toNat v19) ((cInt .i64) x25))], []), ([], [], []), ([], [], [])]) (ps := [some true, some true]) (tds := []) (m := []) (keep := [2]) (ex := .ret) (st' := (f66n2E bc1 (.ret x25)).2) (by kernel_rfl) (ap h21 (ap (at_some h26).1 (ap (at_map (cInt .i64) (at_some h26).2) (ap (not_f h27) an)))) (fun h => nomatch h) (LoopQ.out rfl rfl)
    · obtain rfl := some_inj h
      exact runK_end cfg_ok (k := 2) (rs := [([], [], [])]) (ps := [some false]) (tds := []) (m := []) (keep := [3]) (ex := (.exit 0)) (st' := (f66n2E bc1 .exit0).2) (by kernel_rfl) (ap h21 an) (fun h => nomatch h) (LoopQ.out rfl rfl)
noncomputable def f66n2L (bc1 : List Int) : List Int → Int → Option f66n2O
  | [], v19 =>
    some .exit0
  | x0 :: rest, v19 =>
    bif (decide (x0 = 0)) then
      (f66n2L bc1 rest (v19 + 1))
    else
      some (.ret x0)
theorem f66n2L_eq (bc1 : List Int) : ∀ (rest : List Int) (f k : Nat), bc1.drop k = rest → bc1.length ≤ maxLen → rest.length < f → f66n2 f bc1 (k : Int) = f66n2L bc1 rest (k : Int)
  | _, 0, _, _, _, hf => absurd hf (Nat.not_lt_zero _)
  | [], f + 1, k, hd, hm, hf => by
    have hk : ¬ ((k : Int) < (bc1.length : Int)) := by have := drop_nil hd; omega
    rw [f66n2, f66n2L]
    simp only [decide_eq_false hk, cond_false]
  | x0 :: rest, f + 1, k, hd, hm, hf => by
    obtain ⟨hx, hlt, hd'⟩ := drop_cons hd
    have hk : (k : Int) < (bc1.length : Int) := by omega
    have hw : wr64 ((k : Int) + 1) = (k : Int) + 1 := wr64_of (by omega) (by unfold maxLen at hm; omega)
    have ih : f66n2 f bc1 ((k : Int) + 1) = f66n2L bc1 rest ((k : Int) + 1) := f66n2L_eq bc1 rest f (k + 1) hd' hm (by simpa using hf)
    rw [f66n2, f66n2L]
    simp only [decide_eq_true hk, cond_true, at_nat, hx, Option.bind_some, hw, ih]
theorem f66n2_run (bc1 : List Int) (hm : bc1.length ≤ maxLen) : f66n2 FUEL bc1 0 = f66n2L bc1 bc1 0 := f66n2L_eq bc1 bc1 FUEL 0 List.drop_zero hm (lt_FUEL hm)
inductive f66n1O where
  | norm
  | ret (v32 : Int)
def f66n1E (bc1 : List Int) : f66n1O → Ex × Tr × Hp
  | .norm => (.norm, mkS [(3, (.pl (.int .i64 0)))], [])
  | .ret v32 => (.ret, mkS [(2, (.pl (.int .i64 v32)))], [])
def f66n1S (bc1 : List Int) : Tr × Hp := (mkS [(0, (.pl (.sl .any 1 (bc1.map (cInt .i64))))), (3, (.pl (.int .i64 0)))], [])
noncomputable def f66n1 (bc1 : List Int) : Option f66n1O :=
  (f66n2 FUEL bc1 0).bind fun o29 => match o29 with
  | .exit0 => some .norm
  | .ret v31 => some (.ret v31)
theorem f66n1_ok (bc1 : List Int) {o : f66n1O} (h : (f66n1 bc1) = some o) : T Try.prog Try.f66.ntmps 0 (cL (dropC 2 c66)) (f66n1S bc1) (fun r => r = f66n1E bc1 o) := by
  unfold f66n1 at h
  refine runK_norm cfg_ok (k := 1) (rs := [([], [], [(1, .val (.pl (.int .i64 (bc1.length : Int))))])]) (ps := []) (tds := []) (m := []) (keep := [3, 6, 7, 8]) (st' := (f66n2S bc1 0)) (by kernel_rfl) (ap (len_cv (xs := bc1) (c := (cInt .i64))) an) ?_
  obtain ⟨o29, h30, h⟩ := bind_cases h
  cases o29 with
  | exit0 =>
    obtain rfl := some_inj h
    exact T.last' (T.bl (i := 0) (by kernel_rfl) (by kernel_rfl) (f66n2_ok FUEL bc1 0 h30)) (tds := []) (m := []) (keep := [3]) (st2 := (f66n1E bc1 .norm).2) (by kernel_rfl) an rfl
  | ret v31 =>
    obtain rfl := some_inj h
    exact T.last' (T.bl (i := 0) (by kernel_rfl) (by kernel_rfl) (f66n2_ok FUEL bc1 0 h30)) (tds := []) (m := []) (keep := [2]) (st2 := (f66n1E bc1 (.ret v31)).2) (by kernel_rfl) an rfl
inductive f66n0O where
  | ret (v36 : Int)
def f66n0E (a1 : List Int) : f66n0O → Ex × Tr × Hp
  | .ret v36 => (.ret, mkS [(2, (.pl (.int .i64 v36)))], [])
def f66n0S (a1 : List Int) : Tr × Hp := (initS [(.pl (.sl .any 1 (a1.map (cInt .i64))))] 0 .leaf, [])
noncomputable def f66n0 (a1 : List Int) : Option f66n0O :=
  (f66n1 a1).bind fun o33 => match o33 with
  | .norm => some (.ret 0)
  | .ret v35 => some (.ret v35)
theorem f66n0_ok (a1 : List Int) {o : f66n0O} (h : (f66n0 a1) = some o) : T Try.prog Try.f66.ntmps 0 c66 (f66n0S a1) (fun r => r = f66n0E a1 o) := by
  unfold f66n0 at h
  refine runK_norm cfg_ok (k := 2) (rs := [([], [], []), ([], [], [])]) (ps := []) (tds := []) (m := []) (keep := [0, 3]) (st' := (f66n1S a1)) (by kernel_rfl) an ?_
  obtain ⟨o33, h34, h⟩ := bind_cases h
  cases o33 with
  | norm =>
    refine T.oneN (by kernel_rfl) (f66n1_ok a1 h34) (st2 := (f66n1E a1 .norm).2) rfl ?_
    obtain rfl := some_inj h
    exact run_end cfg_ok (rs := [([], [], [])]) (ps := []) (tds := []) (m := []) (keep := [2]) (r := (.ret, (f66n0E a1 (.ret 0)).2)) (by kernel_rfl) an rfl
  | ret v35 =>
    obtain rfl := some_inj h
    exact T.oneX' (by kernel_rfl) (f66n1_ok a1 h34) (tds := []) (m := []) (keep := [2]) (st2 := (f66n0E a1 (.ret v35)).2) (by kernel_rfl) an rfl rfl
noncomputable def f66 (a1 : List Int) : Option Int := (f66n0 a1).bind fun o => match o with
  | .ret v36 => some v36
theorem f66_ok (a1 : List Int) {r : Int} (h : (f66 a1) = some r) : CallS Try.prog false 66 [(.pl (.sl .any 1 (a1.map (cInt .i64))))] [] (.pl (.int .i64 r)) [] := by
  unfold f66 at h
  obtain ⟨o, ho, h⟩ := bind_cases h
  cases o with
  | ret v36 =>
    obtain rfl := some_inj h
    exact CallS.plain cfg_ok (f := Try.f66) (c := c66) (by kernel_rfl) (by kernel_rfl) (by kernel_rfl) (by kernel_rfl) ((f66n0_ok a1 ho).mono fun r e => by subst e; exact ⟨.inl rfl, (.pl (.int .i64 v36)), (.pl (.int .i64 v36)), by kernel_rfl, by kernel_rfl, ((Wk.refl _) : Wk (.pl (.int .i64 v36)) (.pl (.int .i64 v36)))⟩)

noncomputable def c53 : Code := Try.f53.body.getD .skip
inductive f53n0O where
  | ret (v15 : Int)
def f53n0E (a1 : VariationPosition) (a2 : VariationPosition) : f53n0O → Ex × Tr × Hp
  | .ret v15 => (.ret, mkS [(4, (.pl (.int .i64 v15)))], [])
def f53n0S (a1 : VariationPosition) (a2 : VariationPosition) : Tr × Hp := (initS [(.pl (.agg (VariationPosition.cells a1))), (.pl (.agg (VariationPosition.cells a2)))] 0 .leaf, [])
noncomputable def f53n0 (a1 : VariationPosition) (a2 : VariationPosition) : Option f53n0O :=
  (f40 a1.Member a2.Member).bind fun x9 =>
  (f40 a1.Product a2.Product).bind fun x11 =>
  (f66 [x9, x11]).bind fun x13 =>
  some (.ret x13)
theorem f53n0_ok (a1 : VariationPosition) (a2 : VariationPosition) {o : f53n0O} (h : (f53n0 a1 a2) = some o) : T Try.prog Try.f53.ntmps 0 c53 (f53n0S a1 a2) (fun r => r = f53n0E a1 a2 o) := by
  unfold f53n0 at h
  obtain ⟨x9, h10, h⟩ := bind_cases h
  obtain ⟨x11, h12, h⟩ := bind_cases h
  obtain ⟨x13, h14, h⟩ := bind_cases h
  obtain rfl := some_inj h
  exact run_end cfg_ok (rs := [([], [], []), ([], [(4, .call (.pl (.int .i64 x9)) []), (9, .call (.pl (.int .i64 x11)) []), (11, .call (.pl (.int .i64 x13)) [])], [])]) (ps := []) (tds := []) (m := []) (keep := [4]) (r := (.ret, (f53n0E a1 a2 (.ret x13)).2)) (by kernel_rfl) (ap (same_val (e := ⟨false, 40, [(.pl (.str a1.Member)), (.pl (.str a2.Member))], [], (.pl (.int .i64 x9)), []⟩) (f := ⟨false, 40, [(.pl (.str a1.Product)), (.pl (.str a2.Product))], [], (.pl (.int .i64 x11)), []⟩) (fun k => by simp only [List.cons.injEq, AV.pl.injEq, PV.str.injEq, PV.int.injEq, PV.bool.injEq, PV.agg.injEq, and_true, true_and] at k; have e0 : x9 = x11 := Option.some.inj (by rw [← h10, ← h12]; simp only [k]); exact ⟨by rw [e0], rfl⟩)) (ap (f40_ok a1.Member a2.Member h10) (ap (f40_ok a1.Product a2.Product h12) (ap (f66_ok [x9, x11] h14) an)))) rfl
noncomputable def f53 (a1 : VariationPosition) (a2 : VariationPosition) : Option Int := (f53n0 a1 a2).bind fun o => match o with
  | .ret v15 => some v15
theorem f53_ok (a1 : VariationPosition) (a2 : VariationPosition) {r : Int} (h : (f53 a1 a2) = some r) : CallS Try.prog false 53 [(.pl (.agg (VariationPosition.cells a1))), (.pl (.agg (VariationPosition.cells a2)))] [] (.pl (.int .i64 r)) [] := by
  unfold f53 at h
  obtain ⟨o, ho, h⟩ := bind_cases h
  cases o with
  | ret v15 =>
    obtain rfl := some_inj h
    exact CallS.plain cfg_ok (f := Try.f53) (c := c53) (by kernel_rfl) (by kernel_rfl) (by kernel_rfl) (by kernel_rfl) ((f53n0_ok a1 a2 ho).mono fun r e => by subst e; exact ⟨.inl rfl, (.pl (.int .i64 v15)), (.pl (.int .i64 v15)), by kernel_rfl, by kernel_rfl, ((Wk.refl _) : Wk (.pl (.int .i64 v15)) (.pl (.int .i64 v15)))⟩)

noncomputable def c26 : Code := Try.f26.body.getD .skip
inductive f26n2O where
  | exit0 (v188 : List (ByteArray × Sums_))
  | ret
def f26n2E (ba1 : Variation) : f26n2O → Ex × Tr × Hp
  | .exit0 v188 => ((.exit 0), mkS [(3, (.mp 0))], [some (.map (v188.map (mkv pStr (pAgg Sums_.cells))))])
  | .ret => (.ret, mkS [(2, (.pl (.int .i64 8)))], [])
def f26n2S (ba1 : Variation) (v114 : Int) (v115 : List (ByteArray × Sums_)) : Tr × Hp := (mkS [(1, (.bp 0 0)), (3, (.mp 1)), (28, (.pl (.sl .any 4 (ba1.Positions.map VariationPosition.cells)))), (29, (.pl (.int .i64 (ba1.Positions.length : Int)))), (30, (.pl (.int .i64 v114)))], [some (.box ((Variation.cells ba1).map .pl)), some (.map (v115.map (mkv pStr (pAgg Sums_.cells))))])
noncomputable def f26n2 : Nat → Variation → Int → List (ByteArray × Sums_) → Option f26n2O
  | 0, _, _, _ => none
  | f + 1, ba1, v114, v115 =>
    bif (decide (v114 < (ba1.Positions.length : Int))) then
      (at? ba1.Positions v114).bind fun x153 =>
      bif (decide (v114 = 0)) then
        (f37 x153.Quantity 1048576).bind fun x156 =>
        bif x156 then
          (f37 x153.Basis 1125899906842624).bind fun x159 =>
          bif x159 then
            bif (VariationPosition.eqb x153 (VariationPosition.mk x153.Member x153.Product 0 0)) then
              some .ret
            else
              (f44 x153.Member).bind fun x163 =>
              bif x163 then
                (f45 x153.Product).bind fun x166 =>
                bif x166 then
                  (f26n2 f ba1 (wr64 (v114 + 1)) (mPut seq x153.Product (Sums_.mk (wr64 ((mGet seq (Sums_.mk 0 0) x153.Product v115).quantity + x153.Quantity)) (wr64 ((mGet seq (Sums_.mk 0 0) x153.Product v115).basis + x153.Basis))) v115))
                else
                  some .ret
              else
                some .ret
          else
            some .ret
        else
          some .ret
      else
        (at? ba1.Positions (wr64 (v114 - 1))).bind fun x169 =>
        (f53 x169 x153).bind fun x171 =>
        (f37 x153.Quantity 1048576).bind fun x173 =>
        bif x173 then
          (f37 x153.Basis 1125899906842624).bind fun x176 =>
          bif (decide (x171 < 0)) then
            bif x176 then
              bif (VariationPosition.eqb x153 (VariationPosition.mk x153.Member x153.Product 0 0)) then
                some .ret
              else
                (f44 x153.Member).bind fun x181 =>
                bif x181 then
                  (f45 x153.Product).bind fun x184 =>
                  bif x184 then
                    (f26n2 f ba1 (wr64 (v114 + 1)) (mPut seq x153.Product (Sums_.mk (wr64 ((mGet seq (Sums_.mk 0 0) x153.Product v115).quantity + x153.Quantity)) (wr64 ((mGet seq (Sums_.mk 0 0) x153.Product v115).basis + x153.Basis))) v115))
                  else
                    some .ret
                else
                  some .ret
            else
              some .ret
          else
            some .ret
        else
          bif (decide (x171 < 0)) then
            some .ret
          else
            some .ret
    else
      some (.exit0 v115)
theorem f26n2_ok : ∀ (f : Nat) (ba1 : Variation) (v114 : Int) (v115 : List (ByteArray × Sums_)) {o : f26n2O}, (f26n2 f ba1 v114 v115) = some o → TL Try.prog Try.f26.ntmps 0 f (cL (cL (dropC 1 (cL (dropC 3 c26))))) (f26n2S ba1 v114 v115) (fun r => r = f26n2E ba1 o)
  | 0, _, _, _, o, h => by rw [f26n2] at h; cases h
  | f + 1, ba1, v114, v115, o, h => by
    rw [f26n2] at h
    refine TL.body (K := fun s => ∃ v114 : Int, ∃ v115 : List (ByteArray × Sums_), s = (f26n2S ba1 v114 v115) ∧ (f26n2 f ba1 v114 v115) = some o) ?_ (by rintro _ ⟨v114, v115, rfl, hk⟩; exact f26n2_ok f _ _ _ hk)
    rcases cond_cases h with ⟨h117, h⟩ | ⟨h117, h⟩
    · obtain ⟨x153, h154, h⟩ := bind_cases h
      rcases cond_cases h with ⟨h155, h⟩ | ⟨h155, h⟩
      · obtain ⟨x156, h157, h⟩ := bind_cases h
        rcases cond_cases h with ⟨h158, h⟩ | ⟨h158, h⟩
        · obtain ⟨x159, h160, h⟩ := bind_cases h
          rcases cond_cases h with ⟨h161, h⟩ | ⟨h161, h⟩
          · rcases cond_cases h with ⟨h162, h⟩ | ⟨h162, h⟩
            · obtain rfl := some_inj h
              exact runK_end cfg_ok (k := 3) (rs := [([], [], []), ([], [(1, .idx (Int.toNat v114) (VariationPosition.cells x153))], []), ([(3, true), (4, true), (5, true), (6, true), (7, true), (8, true), (9, true), (10, true), (11, true)], [(12, .bool true)], []), ([(4, true), (5, true), (6, true)], [(2, .call (.pl (.bool x156)) []), (6, .call (.pl (.bool x159)) []), (7, .bool true)], []), ([], [(6, .bool (VariationPosition.eqb x153 (VariationPosition.mk x153.Member x153.Product 0 0)))], []), ([(7, false), (10, true), (11, true), (12, true), (13, true)], [(8, .bool false), (14, .bool true)], []), ([], [], [])]) (ps := [some true, none]) (tds := []) (m := []) (keep := [2]) (ex := .ret) (st' := (f26n2E ba1 .ret).2) (by kernel_rfl) (ap h117 (ap (at_some h154).1 (ap (at_map VariationPosition.cells (at_some h154).2) (ap h155 (ap h155 (ap h155 (ap h155 (ap h155 (ap h155 (ap h155 (ap h155 (ap h155 (ap h155 (ap h158 (ap h158 (ap h158 (ap h158 (ap (f37_ok x153.Quantity 1048576 h157) (ap (f37_ok x153.Basis 1125899906842624 h160) (ap (VariationPosition.eqb_ok x153 (VariationPosition.mk x153.Member x153.Product 0 0)) (ap (not_t h161) (ap (not_t h161) (ap h162 (ap h162 (ap h162 (ap h162 (ap h162 an))))))))))))))))))))))))))) (fun h => nomatch h) (LoopQ.out rfl rfl)
            · obtain ⟨x163, h164, h⟩ := bind_cases h
              rcases cond_cases h with ⟨h165, h⟩ | ⟨h165, h⟩
              · obtain ⟨x166, h167, h⟩ := bind_cases h
                rcases cond_cases h with ⟨h168, h⟩ | ⟨h168, h⟩
                · exact run_end cfg_ok (rs := [([], [], []), ([], [(1, .idx (Int.toNat v114) (VariationPosition.cells x153))], []), ([(3, true), (4, true), (5, true), (6, true), (7, true), (8, true), (9, true), (10, true), (11, true)], [(12, .bool true)], []), ([(4, true), (5, true), (6, true)], [(2, .call (.pl (.bool x156)) []), (6, .call (.pl (.bool x159)) []), (7, .bool true)], []), ([], [(6, .bool (VariationPosition.eqb x153 (VariationPosition.mk x153.Member x153.Product 0 0)))], []), ([(7, false), (10, false), (11, false), (12, false), (13, false), (16, false), (17, false), (18, false), (19, false)], [(8, .bool false), (12, .call (.pl (.bool x163)) []), (14, .bool false), (18, .call (.pl (.bool x166)) []), (20, .bool false)], []), ([], [(3, .look ((pAgg Sums_.cells) (mGet seq (Sums_.mk 0 0) x153.Product v115)) (mHas seq x153.Product v115))], []), ([], [(14, .mset ((mPut seq x153.Product (Sums_.mk (wr64 ((mGet seq (Sums_.mk 0 0) x153.Product v115).quantity + x153.Quantity)) (wr64 ((mGet seq (Sums_.mk 0 0) x153.Product v115).basis + x153.Basis))) v115).map (mkv pStr (pAgg Sums_.cells))))], []), ([], [], [])]) (ps := [some true, some false]) (tds := []) (m := [0, 1]) (keep := [1, 3, 28, 29, 30]) (r := (.norm, (f26n2S ba1 (wr64 (v114 + 1)) (mPut seq x153.Product (Sums_.mk (wr64 ((mGet seq (Sums_.mk 0 0) x153.Product v115).quantity + x153.Quantity)) (wr64 ((mGet seq (Sums_.mk 0 0) x153.Product v115).basis + x153.Basis))) v115)))) (by kernel_rfl) (ap h117 (ap (at_some h154).1 (ap (at_map VariationPosition.cells (at_some h154).2) (ap h155 (ap h155 (ap h155 (ap h155 (ap h155 (ap h155 (ap h155 (ap h155 (ap h155 (ap h155 (ap h158 (ap h158 (ap h158 (ap h158 (ap (f37_ok x153.Quantity 1048576 h157) (ap (f37_ok x153.Basis 1125899906842624 h160) (ap (VariationPosition.eqb_ok x153 (VariationPosition.mk x153.Member x153.Product 0 0)) (ap (not_t h161) (ap (not_t h161) (ap h162 (ap h162 (ap h162 (ap h162 (ap h162 (ap (not_t h165) (ap (not_t h165) (ap (not_t h165) (ap (not_t h165) (ap (not_t h165) (ap (f44_ok x153.Member h164) (ap (f45_ok x153.Product h167) (ap (not_t h168) (ap (look_map (vp := (pAgg Sums_.cells)) (e := 92) key_9 (Sums_.mk 0 0) (by kernel_rfl) x153.Product v115) (ap (mset_map (vp := (pAgg Sums_.cells)) key_9 x153.Product (Sums_.mk (wr64 ((mGet seq (Sums_.mk 0 0) x153.Product v115).quantity + x153.Quantity)) (wr64 ((mGet seq (Sums_.mk 0 0) x153.Product v115).basis + x153.Basis))) v115) an))))))))))))))))))))))))))))))))))))) (LoopQ.norm ⟨(wr64 (v114 + 1)), (mPut seq x153.Product (Sums_.mk (wr64 ((mGet seq (Sums_.mk 0 0) x153.Product v115).quantity + x153.Quantity)) (wr64 ((mGet seq (Sums_.mk 0 0) x153.Product v115).basis + x153.Basis))) v115), rfl, h⟩)
                · obtain rfl := some_inj h
                  exact runK_end cfg_ok (k := 3) (rs := [([], [], []), ([], [(1, .idx (Int.toNat v114) (VariationPosition.cells x153))], []), ([(3, true), (4, true), (5, true), (6, true), (7, true), (8, true), (9, true), (10, true), (11, true)], [(12, .bool true)], []), ([(4, true), (5, true), (6, true)], [(2, .call (.pl (.bool x156)) []), (6, .call (.pl (.bool x159)) []), (7, .bool true)], []), ([], [(6, .bool (VariationPosition.eqb x153 (VariationPosition.mk x153.Member x153.Product 0 0)))], []), ([(7, false), (10, false), (11, false), (12, false), (13, false), (16, false), (17, false), (18, false), (19, false)], [(8, .bool false), (12, .call (.pl (.bool x163)) []), (14, .bool false), (18, .call (.pl (.bool x166)) []), (20, .bool false)], []), ([], [], [])]) (ps := [some true, some true]) (tds := []) (m := []) (keep := [2]) (ex := .ret) (st' := (f26n2E ba1 .ret).2) (by kernel_rfl) (ap h117 (ap (at_some h154).1 (ap (at_map VariationPosition.cells (at_some h154).2) (ap h155 (ap h155 (ap h155 (ap h155 (ap h155 (ap h155 (ap h155 (ap h155 (ap h155 (ap h155 (ap h158 (ap h158 (ap h158 (ap h158 (ap (f37_ok x153.Quantity 1048576 h157) (ap (f37_ok x153.Basis 1125899906842624 h160) (ap (VariationPosition.eqb_ok x153 (VariationPosition.mk x153.Member x153.Product 0 0)) (ap (not_t h161) (ap (not_t h161) (ap h162 (ap h162 (ap h162 (ap h162 (ap h162 (ap (not_t h165) (ap (not_t h165) (ap (not_t h165) (ap (not_t h165) (ap (not_t h165) (ap (f44_ok x153.Member h164) (ap (f45_ok x153.Product h167) (ap (not_f h168) an))))))))))))))))))))))))))))))))))) (fun h => nomatch h) (LoopQ.out rfl rfl)
              · obtain rfl := some_inj h
                exact runK_end cfg_ok (k := 3) (rs := [([], [], []), ([], [(1, .idx (Int.toNat v114) (VariationPosition.cells x153))], []), ([(3, true), (4, true), (5, true), (6, true), (7, true), (8, true), (9, true), (10, true), (11, true)], [(12, .bool true)], []), ([(4, true), (5, true), (6, true)], [(2, .call (.pl (.bool x156)) []), (6, .call (.pl (.bool x159)) []), (7, .bool true)], []), ([], [(6, .bool (VariationPosition.eqb x153 (VariationPosition.mk x153.Member x153.Product 0 0)))], []), ([(7, false), (10, false), (11, false), (12, false), (13, false), (16, true), (17, true), (18, true), (19, true)], [(8, .bool false), (12, .call (.pl (.bool x163)) []), (14, .bool false), (20, .bool true)], []), ([], [], [])]) (ps := [some true, none]) (tds := []) (m := []) (keep := [2]) (ex := .ret) (st' := (f26n2E ba1 .ret).2) (by kernel_rfl) (ap h117 (ap (at_some h154).1 (ap (at_map VariationPosition.cells (at_some h154).2) (ap h155 (ap h155 (ap h155 (ap h155 (ap h155 (ap h155 (ap h155 (ap h155 (ap h155 (ap h155 (ap h158 (ap h158 (ap h158 (ap h158 (ap (f37_ok x153.Quantity 1048576 h157) (ap (f37_ok x153.Basis 1125899906842624 h160) (ap (VariationPosition.eqb_ok x153 (VariationPosition.mk x153.Member x153.Product 0 0)) (ap (not_t h161) (ap (not_t h161) (ap h162 (ap h162 (ap h162 (ap h162 (ap h162 (ap (not_f h165) (ap (not_f h165) (ap (not_f h165) (ap (not_f h165) (ap (not_f h165) (ap (f44_ok x153.Member h164) an))))))))))))))))))))))))))))))))) (fun h => nomatch h) (LoopQ.out rfl rfl)
          · obtain rfl := some_inj h
            exact runK_end cfg_ok (k := 3) (rs := [([], [], []), ([], [(1, .idx (Int.toNat v114) (VariationPosition.cells x153))], []), ([(3, true), (4, true), (5, true), (6, true), (7, true), (8, true), (9, true), (10, true), (11, true)], [(12, .bool true)], []), ([(4, true), (5, true), (6, true)], [(2, .call (.pl (.bool x156)) []), (6, .call (.pl (.bool x159)) []), (7, .bool true)], []), ([], [(6, .bool (VariationPosition.eqb x153 (VariationPosition.mk x153.Member x153.Product 0 0)))], []), ([(7, true)], [(8, .bool true)], []), ([], [], [])]) (ps := [some true, none]) (tds := []) (m := []) (keep := [2]) (ex := .ret) (st' := (f26n2E ba1 .ret).2) (by kernel_rfl) (ap h117 (ap (at_some h154).1 (ap (at_map VariationPosition.cells (at_some h154).2) (ap h155 (ap h155 (ap h155 (ap h155 (ap h155 (ap h155 (ap h155 (ap h155 (ap h155 (ap h155 (ap h158 (ap h158 (ap h158 (ap h158 (ap (f37_ok x153.Quantity 1048576 h157) (ap (f37_ok x153.Basis 1125899906842624 h160) (ap (VariationPosition.eqb_ok x153 (VariationPosition.mk x153.Member x153.Product 0 0)) (ap (not_f h161) (ap (not_f h161) an)))))))))))))))))))))) (fun h => nomatch h) (LoopQ.out rfl rfl)
        · obtain rfl := some_inj h
          exact runK_end cfg_ok (k := 3) (rs := [([], [], []), ([], [(1, .idx (Int.toNat v114) (VariationPosition.cells x153))], []), ([(3, true), (4, true), (5, true), (6, true), (7, true), (8, true), (9, true), (10, true), (11, true)], [(12, .bool true)], []), ([(4, false), (5, false), (6, false)], [(2, .call (.pl (.bool x156)) []), (7, .bool false)], []), ([], [(6, .bool (VariationPosition.eqb x153 (VariationPosition.mk x153.Member x153.Product 0 0)))], []), ([], [], []), ([], [], [])]) (ps := [some true, none]) (tds := []) (m := []) (keep := [2]) (ex := .ret) (st' := (f26n2E ba1 .ret).2) (by kernel_rfl) (ap h117 (ap (at_some h154).1 (ap (at_map VariationPosition.cells (at_some h154).2) (ap h155 (ap h155 (ap h155 (ap h155 (ap h155 (ap h155 (ap h155 (ap h155 (ap h155 (ap h155 (ap h158 (ap h158 (ap h158 (ap h158 (ap (f37_ok x153.Quantity 1048576 h157) (ap (VariationPosition.eqb_ok x153 (VariationPosition.mk x153.Member x153.Product 0 0)) an))))))))))))))))))) (fun h => nomatch h) (LoopQ.out rfl rfl)
      · obtain ⟨x169, h170, h⟩ := bind_cases h
        obtain ⟨x171, h172, h⟩ := bind_cases h
        obtain ⟨x173, h174, h⟩ := bind_cases h
        rcases cond_cases h with ⟨h175, h⟩ | ⟨h175, h⟩
        · obtain ⟨x176, h177, h⟩ := bind_cases h
          rcases cond_cases h with ⟨h178, h⟩ | ⟨h178, h⟩
          · rcases cond_cases h with ⟨h179, h⟩ | ⟨h179, h⟩
            · rcases cond_cases h with ⟨h180, h⟩ | ⟨h180, h⟩
              · obtain rfl := some_inj h
                exact runK_end cfg_ok (k := 3) (rs := [([], [], []), ([], [(1, .idx (Int.toNat v114) (VariationPosition.cells x153))], []), ([(3, false), (4, false), (5, false), (6, false), (7, false), (8, false), (9, false), (10, false), (11, false)], [(7, .idx (Int.toNat (wr64 (v114 - 1))) (VariationPosition.cells x169)), (10, .call (.pl (.int .i64 x171)) []), (12, .bool false)], []), ([(4, true), (5, true), (6, true)], [(2, .call (.pl (.bool x173)) []), (6, .call (.pl (.bool x176)) []), (7, .bool true)], []), ([], [(6, .bool (VariationPosition.eqb x153 (VariationPosition.mk x153.Member x153.Product 0 0)))], []), ([(3, false), (4, false), (7, false), (10, true), (11, true), (12, true), (13, true)], [(5, .bool false), (8, .bool false), (14, .bool true)], []), ([], [], [])]) (ps := [some true, none]) (tds := []) (m := []) (keep := [2]) (ex := .ret) (st' := (f26n2E ba1 .ret).2) (by kernel_rfl) (ap h117 (ap (at_some h154).1 (ap (at_map VariationPosition.cells (at_some h154).2) (ap h155 (ap h155 (ap h155 (ap h155 (ap h155 (ap (at_some h170).1 (ap (at_map VariationPosition.cells (at_some h170).2) (ap h155 (ap h155 (ap h155 (ap h155 (ap h155 (ap (f53_ok x169 x153 h172) (ap h175 (ap h175 (ap h175 (ap h175 (ap (f37_ok x153.Quantity 1048576 h174) (ap (f37_ok x153.Basis 1125899906842624 h177) (ap (VariationPosition.eqb_ok x153 (VariationPosition.mk x153.Member x153.Product 0 0)) (ap (not_t h178) (ap (not_t h178) (ap (not_t h178) (ap (not_t h179) (ap (not_t h179) (ap h180 (ap h180 (ap h180 (ap h180 (ap h180 an))))))))))))))))))))))))))))))))) (fun h => nomatch h) (LoopQ.out rfl rfl)
              · obtain ⟨x181, h182, h⟩ := bind_cases h
                rcases cond_cases h with ⟨h183, h⟩ | ⟨h183, h⟩
                · obtain ⟨x184, h185, h⟩ := bind_cases h
                  rcases cond_cases h with ⟨h186, h⟩ | ⟨h186, h⟩
                  · exact run_end cfg_ok (rs := [([], [], []), ([], [(1, .idx (Int.toNat v114) (VariationPosition.cells x153))], []), ([(3, false), (4, false), (5, false), (6, false), (7, false), (8, false), (9, false), (10, false), (11, false)], [(7, .idx (Int.toNat (wr64 (v114 - 1))) (VariationPosition.cells x169)), (10, .call (.pl (.int .i64 x171)) []), (12, .bool false)], []), ([(4, true), (5, true), (6, true)], [(2, .call (.pl (.bool x173)) []), (6, .call (.pl (.bool x176)) []), (7, .bool true)], []), ([], [(6, .bool (VariationPosition.eqb x153 (VariationPosition.mk x153.Member x153.Product 0 0)))], []), ([(3, false), (4, false), (7, false), (10, false), (11, false), (12, false), (13, false), (16, false), (17, false), (18, false), (19, false)], [(5, .bool false), (8, .bool false), (12, .call (.pl (.bool x181)) []), (14, .bool false), (18, .call (.pl (.bool x184)) []), (20, .bool false)], []), ([], [(3, .look ((pAgg Sums_.cells) (mGet seq (Sums_.mk 0 0) x153.Product v115)) (mHas seq x153.Product v115))], []), ([], [(14, .mset ((mPut seq x153.Product (Sums_.mk (wr64 ((mGet seq (Sums_.mk 0 0) x153.Product v115).quantity + x153.Quantity)) (wr64 ((mGet seq (Sums_.mk 0 0) x153.Product v115).basis + x153.Basis))) v115).map (mkv pStr (pAgg Sums_.cells))))], []), ([], [], [])]) (ps := [some true, some false]) (tds := []) (m := [0, 1]) (keep := [1, 3, 28, 29, 30]) (r := (.norm, (f26n2S ba1 (wr64 (v114 + 1)) (mPut seq x153.Product (Sums_.mk (wr64 ((mGet seq (Sums_.mk 0 0) x153.Product v115).quantity + x153.Quantity)) (wr64 ((mGet seq (Sums_.mk 0 0) x153.Product v115).basis + x153.Basis))) v115)))) (by kernel_rfl) (ap h117 (ap (at_some h154).1 (ap (at_map VariationPosition.cells (at_some h154).2) (ap h155 (ap h155 (ap h155 (ap h155 (ap h155 (ap (at_some h170).1 (ap (at_map VariationPosition.cells (at_some h170).2) (ap h155 (ap h155 (ap h155 (ap h155 (ap h155 (ap (f53_ok x169 x153 h172) (ap h175 (ap h175 (ap h175 (ap h175 (ap (f37_ok x153.Quantity 1048576 h174) (ap (f37_ok x153.Basis 1125899906842624 h177) (ap (VariationPosition.eqb_ok x153 (VariationPosition.mk x153.Member x153.Product 0 0)) (ap (not_t h178) (ap (not_t h178) (ap (not_t h178) (ap (not_t h179) (ap (not_t h179) (ap h180 (ap h180 (ap h180 (ap h180 (ap h180 (ap (not_t h183) (ap (not_t h183) (ap (not_t h183) (ap (not_t h183) (ap (not_t h183) (ap (f44_ok x153.Member h182) (ap (f45_ok x153.Product h185) (ap (not_t h186) (ap (look_map (vp := (pAgg Sums_.cells)) (e := 92) key_9 (Sums_.mk 0 0) (by kernel_rfl) x153.Product v115) (ap (mset_map (vp := (pAgg Sums_.cells)) key_9 x153.Product (Sums_.mk (wr64 ((mGet seq (Sums_.mk 0 0) x153.Product v115).quantity + x153.Quantity)) (wr64 ((mGet seq (Sums_.mk 0 0) x153.Product v115).basis + x153.Basis))) v115) an))))))))))))))))))))))))))))))))))))))))))) (LoopQ.norm ⟨(wr64 (v114 + 1)), (mPut seq x153.Product (Sums_.mk (wr64 ((mGet seq (Sums_.mk 0 0) x153.Product v115).quantity + x153.Quantity)) (wr64 ((mGet seq (Sums_.mk 0 0) x153.Product v115).basis + x153.Basis))) v115), rfl, h⟩)
                  · obtain rfl := some_inj h
                    exact runK_end cfg_ok (k := 3) (rs := [([], [], []), ([], [(1, .idx (Int.toNat v114) (VariationPosition.cells x153))], []), ([(3, false), (4, false), (5, false), (6, false), (7, false), (8, false), (9, false), (10, false), (11, false)], [(7, .idx (Int.toNat (wr64 (v114 - 1))) (VariationPosition.cells x169)), (10, .call (.pl (.int .i64 x171)) []), (12, .bool false)], []), ([(4, true), (5, true), (6, true)], [(2, .call (.pl (.bool x173)) []), (6, .call (.pl (.bool x176)) []), (7, .bool true)], []), ([], [(6, .bool (VariationPosition.eqb x153 (VariationPosition.mk x153.Member x153.Product 0 0)))], []), ([(3, false), (4, false), (7, false), (10, false), (11, false), (12, false), (13, false), (16, false), (17, false), (18, false), (19, false)], [(5, .bool false), (8, .bool false), (12, .call (.pl (.bool x181)) []), (14, .bool false), (18, .call (.pl (.bool x184)) []), (20, .bool false)], []), ([], [], [])]) (ps := [some true, some true]) (tds := []) (m := []) (keep := [2]) (ex := .ret) (st' := (f26n2E ba1 .ret).2) (by kernel_rfl) (ap h117 (ap (at_some h154).1 (ap (at_map VariationPosition.cells (at_some h154).2) (ap h155 (ap h155 (ap h155 (ap h155 (ap h155 (ap (at_some h170).1 (ap (at_map VariationPosition.cells (at_some h170).2) (ap h155 (ap h155 (ap h155 (ap h155 (ap h155 (ap (f53_ok x169 x153 h172) (ap h175 (ap h175 (ap h175 (ap h175 (ap (f37_ok x153.Quantity 1048576 h174) (ap (f37_ok x153.Basis 1125899906842624 h177) (ap (VariationPosition.eqb_ok x153 (VariationPosition.mk x153.Member x153.Product 0 0)) (ap (not_t h178) (ap (not_t h178) (ap (not_t h178) (ap (not_t h179) (ap (not_t h179) (ap h180 (ap h180 (ap h180 (ap h180 (ap h180 (ap (not_t h183) (ap (not_t h183) (ap (not_t h183) (ap (not_t h183) (ap (not_t h183) (ap (f44_ok x153.Member h182) (ap (f45_ok x153.Product h185) (ap (not_f h186) an))))))))))))))))))))))))))))))))))))))))) (fun h => nomatch h) (LoopQ.out rfl rfl)
                · obtain rfl := some_inj h
                  exact runK_end cfg_ok (k := 3) (rs := [([], [], []), ([], [(1, .idx (Int.toNat v114) (VariationPosition.cells x153))], []), ([(3, false), (4, false), (5, false), (6, false), (7, false), (8, false), (9, false), (10, false), (11, false)], [(7, .idx (Int.toNat (wr64 (v114 - 1))) (VariationPosition.cells x169)), (10, .call (.pl (.int .i64 x171)) []), (12, .bool false)], []), ([(4, true), (5, true), (6, true)], [(2, .call (.pl (.bool x173)) []), (6, .call (.pl (.bool x176)) []), (7, .bool true)], []), ([], [(6, .bool (VariationPosition.eqb x153 (VariationPosition.mk x153.Member x153.Product 0 0)))], []), ([(3, false), (4, false), (7, false), (10, false), (11, false), (12, false), (13, false), (16, true), (17, true), (18, true), (19, true)], [(5, .bool false), (8, .bool false), (12, .call (.pl (.bool x181)) []), (14, .bool false), (20, .bool true)], []), ([], [], [])]) (ps := [some true, none]) (tds := []) (m := []) (keep := [2]) (ex := .ret) (st' := (f26n2E ba1 .ret).2) (by kernel_rfl) (ap h117 (ap (at_some h154).1 (ap (at_map VariationPosition.cells (at_some h154).2) (ap h155 (ap h155 (ap h155 (ap h155 (ap h155 (ap (at_some h170).1 (ap (at_map VariationPosition.cells (at_some h170).2) (ap h155 (ap h155 (ap h155 (ap h155 (ap h155 (ap (f53_ok x169 x153 h172) (ap h175 (ap h175 (ap h175 (ap h175 (ap (f37_ok x153.Quantity 1048576 h174) (ap (f37_ok x153.Basis 1125899906842624 h177) (ap (VariationPosition.eqb_ok x153 (VariationPosition.mk x153.Member x153.Product 0 0)) (ap (not_t h178) (ap (not_t h178) (ap (not_t h178) (ap (not_t h179) (ap (not_t h179) (ap h180 (ap h180 (ap h180 (ap h180 (ap h180 (ap (not_f h183) (ap (not_f h183) (ap (not_f h183) (ap (not_f h183) (ap (not_f h183) (ap (f44_ok x153.Member h182) an))))))))))))))))))))))))))))))))))))))) (fun h => nomatch h) (LoopQ.out rfl rfl)
            · obtain rfl := some_inj h
              exact runK_end cfg_ok (k := 3) (rs := [([], [], []), ([], [(1, .idx (Int.toNat v114) (VariationPosition.cells x153))], []), ([(3, false), (4, false), (5, false), (6, false), (7, false), (8, false), (9, false), (10, false), (11, false)], [(7, .idx (Int.toNat (wr64 (v114 - 1))) (VariationPosition.cells x169)), (10, .call (.pl (.int .i64 x171)) []), (12, .bool false)], []), ([(4, true), (5, true), (6, true)], [(2, .call (.pl (.bool x173)) []), (6, .call (.pl (.bool x176)) []), (7, .bool true)], []), ([], [(6, .bool (VariationPosition.eqb x153 (VariationPosition.mk x153.Member x153.Product 0 0)))], []), ([(3, false), (4, false), (7, true)], [(5, .bool false), (8, .bool true)], []), ([], [], [])]) (ps := [some true, none]) (tds := []) (m := []) (keep := [2]) (ex := .ret) (st' := (f26n2E ba1 .ret).2) (by kernel_rfl) (ap h117 (ap (at_some h154).1 (ap (at_map VariationPosition.cells (at_some h154).2) (ap h155 (ap h155 (ap h155 (ap h155 (ap h155 (ap (at_some h170).1 (ap (at_map VariationPosition.cells (at_some h170).2) (ap h155 (ap h155 (ap h155 (ap h155 (ap h155 (ap (f53_ok x169 x153 h172) (ap h175 (ap h175 (ap h175 (ap h175 (ap (f37_ok x153.Quantity 1048576 h174) (ap (f37_ok x153.Basis 1125899906842624 h177) (ap (VariationPosition.eqb_ok x153 (VariationPosition.mk x153.Member x153.Product 0 0)) (ap (not_t h178) (ap (not_t h178) (ap (not_t h178) (ap (not_f h179) (ap (not_f h179) an)))))))))))))))))))))))))))) (fun h => nomatch h) (LoopQ.out rfl rfl)
          · obtain rfl := some_inj h
            exact runK_end cfg_ok (k := 3) (rs := [([], [], []), ([], [(1, .idx (Int.toNat v114) (VariationPosition.cells x153))], []), ([(3, false), (4, false), (5, false), (6, false), (7, false), (8, false), (9, false), (10, false), (11, false)], [(7, .idx (Int.toNat (wr64 (v114 - 1))) (VariationPosition.cells x169)), (10, .call (.pl (.int .i64 x171)) []), (12, .bool false)], []), ([(4, true), (5, true), (6, true)], [(2, .call (.pl (.bool x173)) []), (6, .call (.pl (.bool x176)) []), (7, .bool true)], []), ([], [(6, .bool (VariationPosition.eqb x153 (VariationPosition.mk x153.Member x153.Product 0 0)))], []), ([(3, true), (4, true)], [(5, .bool true)], []), ([], [], [])]) (ps := [some true, none]) (tds := []) (m := []) (keep := [2]) (ex := .ret) (st' := (f26n2E ba1 .ret).2) (by kernel_rfl) (ap h117 (ap (at_some h154).1 (ap (at_map VariationPosition.cells (at_some h154).2) (ap h155 (ap h155 (ap h155 (ap h155 (ap h155 (ap (at_some h170).1 (ap (at_map VariationPosition.cells (at_some h170).2) (ap h155 (ap h155 (ap h155 (ap h155 (ap h155 (ap (f53_ok x169 x153 h172) (ap h175 (ap h175 (ap h175 (ap h175 (ap (f37_ok x153.Quantity 1048576 h174) (ap (f37_ok x153.Basis 1125899906842624 h177) (ap (VariationPosition.eqb_ok x153 (VariationPosition.mk x153.Member x153.Product 0 0)) (ap (not_f h178) (ap (not_f h178) (ap (not_f h178) an)))))))))))))))))))))))))) (fun h => nomatch h) (LoopQ.out rfl rfl)
        · rcases cond_cases h with ⟨h187, h⟩ | ⟨h187, h⟩
          · obtain rfl := some_inj h
            exact runK_end cfg_ok (k := 3) (rs := [([], [], []), ([], [(1, .idx (Int.toNat v114) (VariationPosition.cells x153))], []), ([(3, false), (4, false), (5, false), (6, false), (7, false), (8, false), (9, false), (10, false), (11, false)], [(7, .idx (Int.toNat (wr64 (v114 - 1))) (VariationPosition.cells x169)), (10, .call (.pl (.int .i64 x171)) []), (12, .bool false)], []), ([(4, false), (5, false), (6, false)], [(2, .call (.pl (.bool x173)) []), (7, .bool false)], []), ([], [(6, .bool (VariationPosition.eqb x153 (VariationPosition.mk x153.Member x153.Product 0 0)))], []), ([(3, false), (4, false)], [(5, .bool false)], []), ([], [], [])]) (ps := [some true, none]) (tds := []) (m := []) (keep := [2]) (ex := .ret) (st' := (f26n2E ba1 .ret).2) (by kernel_rfl) (ap h117 (ap (at_some h154).1 (ap (at_map VariationPosition.cells (at_some h154).2) (ap h155 (ap h155 (ap h155 (ap h155 (ap h155 (ap (at_some h170).1 (ap (at_map VariationPosition.cells (at_some h170).2) (ap h155 (ap h155 (ap h155 (ap h155 (ap h155 (ap (f53_ok x169 x153 h172) (ap h175 (ap h175 (ap h175 (ap h175 (ap (f37_ok x153.Quantity 1048576 h174) (ap (VariationPosition.eqb_ok x153 (VariationPosition.mk x153.Member x153.Product 0 0)) (ap (not_t h187) (ap (not_t h187) (ap (not_t h187) an))))))))))))))))))))))))) (fun h => nomatch h) (LoopQ.out rfl rfl)
          · obtain rfl := some_inj h
            exact runK_end cfg_ok (k := 3) (rs := [([], [], []), ([], [(1, .idx (Int.toNat v114) (VariationPosition.cells x153))], []), ([(3, false), (4, false), (5, false), (6, false), (7, false), (8, false), (9, false), (10, false), (11, false)], [(7, .idx (Int.toNat (wr64 (v114 - 1))) (VariationPosition.cells x169)), (10, .call (.pl (.int .i64 x171)) []), (12, .bool false)], []), ([(4, false), (5, false), (6, false)], [(2, .call (.pl (.bool x173)) []), (7, .bool false)], []), ([], [(6, .bool (VariationPosition.eqb x153 (VariationPosition.mk x153.Member x153.Product 0 0)))], []), ([(3, true), (4, true)], [(5, .bool true)], []), ([], [], [])]) (ps := [some true, none]) (tds := []) (m := []) (keep := [2]) (ex := .ret) (st' := (f26n2E ba1 .ret).2) (by kernel_rfl) (ap h117 (ap (at_some h154).1 (ap (at_map VariationPosition.cells (at_some h154).2) (ap h155 (ap h155 (ap h155 (ap h155 (ap h155 (ap (at_some h170).1 (ap (at_map VariationPosition.cells (at_some h170).2) (ap h155 (ap h155 (ap h155 (ap h155 (ap h155 (ap (f53_ok x169 x153 h172) (ap h175 (ap h175 (ap h175 (ap h175 (ap (f37_ok x153.Quantity 1048576 h174) (ap (VariationPosition.eqb_ok x153 (VariationPosition.mk x153.Member x153.Product 0 0)) (ap (not_f h187) (ap (not_f h187) (ap (not_f h187) an))))))))))))))))))))))))) (fun h => nomatch h) (LoopQ.out rfl rfl)
    · obtain rfl := some_inj h
      exact runK_end cfg_ok (k := 2) (rs := [([], [], [])]) (ps := [some false]) (tds := []) (m := [1]) (keep := [3]) (ex := (.exit 0)) (st' := (f26n2E ba1 (.exit0 v115)).2) (by kernel_rfl) (ap h117 an) (fun h => nomatch h) (LoopQ.out rfl rfl)
noncomputable def f26n2L (ba1 : Variation) : List VariationPosition → Int → (List (ByteArray × Sums_)) → Option f26n2O
  | [], v114, v115 =>
    some (.exit0 v115)
  | x0 :: rest, v114, v115 =>
    bif (decide (v114 = 0)) then
      (f37 x0.Quantity 1048576).bind fun x156 =>
      bif x156 then
        (f37 x0.Basis 1125899906842624).bind fun x159 =>
        bif x159 then
          bif (VariationPosition.eqb x0 (VariationPosition.mk x0.Member x0.Product 0 0)) then
            some .ret
          else
            (f44 x0.Member).bind fun x163 =>
            bif x163 then
              (f45 x0.Product).bind fun x166 =>
              bif x166 then
                (f26n2L ba1 rest (v114 + 1) (mPut seq x0.Product (Sums_.mk (wr64 ((mGet seq (Sums_.mk 0 0) x0.Product v115).quantity + x0.Quantity)) (wr64 ((mGet seq (Sums_.mk 0 0) x0.Product v115).basis + x0.Basis))) v115))
              else
                some .ret
            else
              some .ret
        else
          some .ret
      else
        some .ret
    else
      (at? ba1.Positions (wr64 (v114 - 1))).bind fun x169 =>
      (f53 x169 x0).bind fun x171 =>
      (f37 x0.Quantity 1048576).bind fun x173 =>
      bif x173 then
        (f37 x0.Basis 1125899906842624).bind fun x176 =>
        bif (decide (x171 < 0)) then
          bif x176 then
            bif (VariationPosition.eqb x0 (VariationPosition.mk x0.Member x0.Product 0 0)) then
              some .ret
            else
              (f44 x0.Member).bind fun x181 =>
              bif x181 then
                (f45 x0.Product).bind fun x184 =>
                bif x184 then
                  (f26n2L ba1 rest (v114 + 1) (mPut seq x0.Product (Sums_.mk (wr64 ((mGet seq (Sums_.mk 0 0) x0.Product v115).quantity + x0.Quantity)) (wr64 ((mGet seq (Sums_.mk 0 0) x0.Product v115).basis + x0.Basis))) v115))
                else
                  some .ret
              else
                some .ret
          else
            some .ret
        else
          some .ret
      else
        bif (decide (x171 < 0)) then
          some .ret
        else
          some .ret
theorem f26n2L_eq (ba1 : Variation) : ∀ (rest : List VariationPosition) (f k : Nat) (v115 : List (ByteArray × Sums_)), ba1.Positions.drop k = rest → ba1.Positions.length ≤ maxLen → rest.length < f → f26n2 f ba1 (k : Int) v115 = f26n2L ba1 rest (k : Int) v115
  | _, 0, _, _, _, _, hf => absurd hf (Nat.not_lt_zero _)
  | [], f + 1, k, v115, hd, hm, hf => by
    have hk : ¬ ((k : Int) < (ba1.Positions.length : Int)) := by have := drop_nil hd; omega
    rw [f26n2, f26n2L]
    simp only [decide_eq_false hk, cond_false]
  | x0 :: rest, f + 1, k, v115, hd, hm, hf => by
    obtain ⟨hx, hlt, hd'⟩ := drop_cons hd
    have hk : (k : Int) < (ba1.Positions.length : Int) := by omega
    have hw : wr64 ((k : Int) + 1) = (k : Int) + 1 := wr64_of (by omega) (by unfold maxLen at hm; omega)
    have ih : ∀ (v115 : List (ByteArray × Sums_)), f26n2 f ba1 ((k : Int) + 1) v115 = f26n2L ba1 rest ((k : Int) + 1) v115 := fun v115 => f26n2L_eq ba1 rest f (k + 1) v115 hd' hm (by simpa using hf)
    rw [f26n2, f26n2L]
    simp only [decide_eq_true hk, cond_true, at_nat, hx, Option.bind_some, hw, ih]
theorem f26n2_run (ba1 : Variation) (v115 : List (ByteArray × Sums_)) (hm : ba1.Positions.length ≤ maxLen) : f26n2 FUEL ba1 0 v115 = f26n2L ba1 ba1.Positions 0 v115 := f26n2L_eq ba1 ba1.Positions FUEL 0 v115 List.drop_zero hm (lt_FUEL hm)
inductive f26n1O where
  | norm (v192 : List (ByteArray × Sums_))
  | ret
def f26n1E (ba1 : Variation) : f26n1O → Ex × Tr × Hp
  | .norm v192 => (.norm, mkS [(3, (.mp 0))], [some (.map (v192.map (mkv pStr (pAgg Sums_.cells))))])
  | .ret => (.ret, mkS [(2, (.pl (.int .i64 8)))], [])
def f26n1S (ba1 : Variation) : Tr × Hp := (mkS [(1, (.bp 0 0)), (3, (.mp 1))], [some (.box ((Variation.cells ba1).map .pl)), some (.map ([].map (mkv pStr (pAgg Sums_.cells))))])
noncomputable def f26n1 (ba1 : Variation) : Option f26n1O :=
  (f26n2 FUEL ba1 0 []).bind fun o189 => match o189 with
  | .exit0 v191 => some (.norm v191)
  | .ret => some .ret
theorem f26n1_ok (ba1 : Variation) {o : f26n1O} (h : (f26n1 ba1) = some o) : T Try.prog Try.f26.ntmps 0 (cL (dropC 3 c26)) (f26n1S ba1) (fun r => r = f26n1E ba1 o) := by
  unfold f26n1 at h
  refine runK_norm cfg_ok (k := 1) (rs := [([], [], [(2, .val (.pl (.int .i64 (ba1.Positions.length : Int))))])]) (ps := []) (tds := []) (m := [0, 1]) (keep := [1, 3, 28, 29, 30]) (st' := (f26n2S ba1 0 [])) (by kernel_rfl) (ap (len_cv (xs := ba1.Positions) (c := VariationPosition.cells)) an) ?_
  obtain ⟨o189, h190, h⟩ := bind_cases h
  cases o189 with
  | exit0 v191 =>
    obtain rfl := some_inj h
    exact T.last' (T.bl (i := 0) (by kernel_rfl) (by kernel_rfl) (f26n2_ok FUEL ba1 0 [] h190)) (tds := []) (m := [0]) (keep := [3]) (st2 := (f26n1E ba1 (.norm v191)).2) (by kernel_rfl) an rfl
  | ret =>
    obtain rfl := some_inj h
    exact T.last' (T.bl (i := 0) (by kernel_rfl) (by kernel_rfl) (f26n2_ok FUEL ba1 0 [] h190)) (tds := []) (m := []) (keep := [2]) (st2 := (f26n1E ba1 .ret).2) (by kernel_rfl) an rfl
inductive f26n4O where
  | exit2
  | ret
def f26n4E (bd1 : List (ByteArray × Sums_)) : f26n4O → Ex × Tr × Hp
  | .exit2 => ((.exit 2), mkS [], [])
  | .ret => (.ret, mkS [(2, (.pl (.int .i64 8)))], [])
def f26n4S (bd1 : List (ByteArray × Sums_)) (sn0 : List Nat) : Tr × Hp := (mkS [(104, (.it 0))], [some (.iter 1 (bd1.map (mkv pStr (pAgg Sums_.cells))).length sn0), some (.map (bd1.map (mkv pStr (pAgg Sums_.cells))))])
noncomputable def f26n4 (bd1 : List (ByteArray × Sums_)) : List (ByteArray × Sums_) → Option f26n4O
  | [] =>
    some .exit2
  | x202 :: rest =>
    bif (Sums_.eqb x202.2 (Sums_.mk 0 0)) then
      (f26n4 bd1 rest)
    else
      some .ret
theorem f26n4_ok (bd1 : List (ByteArray × Sums_)) : ∀ (f : Nat) (sn0 rem : List Nat) {o : f26n4O}, Rem bd1.length sn0 rem → rem.length < f → (∀ p, p.Perm rem → f26n4 bd1 (ords bd1 p) = some o) → TL Try.prog Try.f26.ntmps 0 f (cL (cL (dropC 1 (cL (dropC 0 (dropC 1 (dropC 3 c26))))))) (f26n4S bd1 sn0) (fun r => r = f26n4E bd1 o)
  | 0, _, _, _, _, hf, _ => absurd hf (Nat.not_lt_zero _)
  | f + 1, sn0, rem, o, hR, hf, H => by
    refine TL.body (K := fun s => ∃ (sn0 rem : List Nat), s = f26n4S bd1 sn0 ∧ Rem bd1.length sn0 rem ∧ rem.length < f ∧ (∀ p, p.Perm rem → f26n4 bd1 (ords bd1 p) = some o)) ?_ (by rintro _ ⟨sn0, rem, rfl, h1, h2, h3⟩; exact f26n4_ok bd1 f sn0 rem h1 h2 h3)
    refine T.oneNext cfg_ok (x := .tmp 104) (t := 105) (tb := 106) (i := 0) (o := 1) (m := (bd1.map (mkv pStr (pAgg Sums_.cells))).length) (seen := sn0) (kvs := (bd1.map (mkv pStr (pAgg Sums_.cells)))) (by kernel_rfl) (by kernel_rfl) (by kernel_rfl) (by kernel_rfl) (by kernel_rfl) (by kernel_rfl) rfl (fun hs => ?_) (fun j201 k v hj hs hx => ?_)
    · obtain rfl := hR.none (by simpa using hs)
      have h : f26n4 bd1 [] = some o := H [] (List.Perm.refl _)
      rw [f26n4] at h
      obtain rfl := some_inj h
      exact runK_end cfg_ok (k := 1) (rs := []) (ps := [none]) (tds := []) (m := []) (keep := []) (ex := (.exit 2)) (st' := (f26n4E bd1 .exit2).2) (by kernel_rfl) an (fun h => nomatch h) (LoopQ.out rfl rfl)
    · obtain ⟨x202, h203, rfl, rfl⟩ := mkv_at hx
      obtain ⟨hR2, hlen, hP⟩ := hR.step (j := j201) (by simpa using hj) hs
      have H2 : ∀ p, p.Perm (rem.erase j201) → f26n4 bd1 (x202 :: ords bd1 p) = some o := fun p hp => by have h := H _ (hP p hp); rwa [ords_cons h203] at h
      have h := H2 _ (List.Perm.refl _)
      rw [f26n4] at h
      rcases cond_cases h with ⟨h205, h⟩ | ⟨h205, h⟩
      · exact run_end cfg_ok (rs := [([], [(0, .entr j201 (pStr x202.1) ((pAgg Sums_.cells) x202.2))], []), ([], [(2, .bool (Sums_.eqb x202.2 (Sums_.mk 0 0)))], [])]) (ps := [none, some false]) (tds := []) (m := [0, 1]) (keep := [104]) (r := (.norm, (f26n4S bd1 (sn0 ++ [j201])))) (by kernel_rfl) (ap (last_app (seen := sn0) (j := j201)) (ap (rfl : (bd1.map (mkv pStr (pAgg Sums_.cells))).length = (bd1.map (mkv pStr (pAgg Sums_.cells))).length) (ap (at_mkv (kp := pStr) (vp := (pAgg Sums_.cells)) h203) (ap (Sums_.eqb_ok x202.2 (Sums_.mk 0 0)) (ap (not_t h205) an))))) (LoopQ.norm ⟨sn0 ++ [j201], rem.erase j201, rfl, hR2, by omega, fun p hp => by have h := H2 p hp; rw [f26n4] at h; simp only [h205, cond_true, cond_false, Option.bind_some, req] at h; exact h⟩)
      · obtain rfl := some_inj h
        exact run_end cfg_ok (rs := [([], [(0, .entr j201 (pStr x202.1) ((pAgg Sums_.cells) x202.2))], []), ([], [(2, .bool (Sums_.eqb x202.2 (Sums_.mk 0 0)))], []), ([], [], [])]) (ps := [none, some true]) (tds := []) (m := []) (keep := [2]) (r := (.ret, (f26n4E bd1 .ret).2)) (by kernel_rfl) (ap (last_app (seen := sn0) (j := j201)) (ap (rfl : (bd1.map (mkv pStr (pAgg Sums_.cells))).length = (bd1.map (mkv pStr (pAgg Sums_.cells))).length) (ap (at_mkv (kp := pStr) (vp := (pAgg Sums_.cells)) h203) (ap (Sums_.eqb_ok x202.2 (Sums_.mk 0 0)) (ap (not_f h205) an))))) (LoopQ.out rfl rfl)
inductive f26n3O where
  | norm
  | ret
def f26n3E (bd1 : List (ByteArray × Sums_)) : f26n3O → Ex × Tr × Hp
  | .norm => (.norm, mkS [], [])
  | .ret => (.ret, mkS [(2, (.pl (.int .i64 8)))], [])
def f26n3S (bd1 : List (ByteArray × Sums_)) : Tr × Hp := (mkS [(3, (.mp 0))], [some (.map (bd1.map (mkv pStr (pAgg Sums_.cells))))])
noncomputable def f26n3 (bd1 : List (ByteArray × Sums_)) : Option f26n3O :=
  (anyOrder bd1 fun p => (f26n4 bd1 p)).bind fun o206 => match o206 with
  | .exit2 => some .norm
  | .ret => some .ret
theorem f26n3_ok (bd1 : List (ByteArray × Sums_)) {o : f26n3O} (h : (f26n3 bd1) = some o) : T Try.prog Try.f26.ntmps 0 (cL (dropC 0 (dropC 1 (dropC 3 c26)))) (f26n3S bd1) (fun r => r = f26n3E bd1 o) := by
  unfold f26n3 at h
  refine runK_norm cfg_ok (k := 1) (rs := [([], [], [])]) (ps := []) (tds := []) (m := [1, 0]) (keep := [104]) (st' := (f26n4S bd1 [])) (by kernel_rfl) an ?_
  obtain ⟨o206, h207, h⟩ := bind_cases h
  cases o206 with
  | exit2 =>
    obtain rfl := some_inj h
    exact T.last' (T.bl (i := 2) (by kernel_rfl) (by kernel_rfl) (f26n4_ok bd1 _ [] (List.range bd1.length) (Rem.start _) (Nat.lt_succ_self _) (fun p hp => anyOrder_at h207 _ (ords_perm hp)))) (tds := []) (m := []) (keep := []) (st2 := (f26n3E bd1 .norm).2) (by kernel_rfl) an rfl
  | ret =>
    obtain rfl := some_inj h
    exact T.last' (T.bl (i := 2) (by kernel_rfl) (by kernel_rfl) (f26n4_ok bd1 _ [] (List.range bd1.length) (Rem.start _) (Nat.lt_succ_self _) (fun p hp => anyOrder_at h207 _ (ords_perm hp)))) (tds := []) (m := []) (keep := [2]) (st2 := (f26n3E bd1 .ret).2) (by kernel_rfl) an rfl
inductive f26n0O where
  | ret (v210 : Int)
def f26n0E (a1 : Variation) : f26n0O → Ex × Tr × Hp
  | .ret v210 => (.ret, mkS [(2, (.pl (.int .i64 v210)))], [])
def f26n0S (a1 : Variation) : Tr × Hp := (initS [(.pl (.agg (Variation.cells a1)))] 0 .leaf, [])
noncomputable def f26n0 (a1 : Variation) : Option f26n0O :=
  bif (decide (a1.Day < 0)) then
    some (.ret 8)
  else
    bif (decide (99999 < a1.Day)) then
      some (.ret 8)
    else
      bif (decide (200 < (a1.Positions.length : Int))) then
        some (.ret 8)
      else
        (f26n1 a1).bind fun o193 => match o193 with
        | .norm v195 => (f26n3 v195).bind fun o208 => match o208 with
          | .norm => some (.ret 0)
          | .ret => some (.ret 8)
        | .ret => some (.ret 8)
theorem f26n0_ok (a1 : Variation) {o : f26n0O} (h : (f26n0 a1) = some o) : T Try.prog Try.f26.ntmps 0 c26 (f26n0S a1) (fun r => r = f26n0E a1 o) := by
  unfold f26n0 at h
  rcases cond_cases h with ⟨h5, h⟩ | ⟨h5, h⟩
  · obtain rfl := some_inj h
    exact runK_end cfg_ok (k := 2) (rs := [([], [], []), ([(4, true), (5, true), (6, true)], [(7, .bool true)], []), ([], [], [])]) (ps := [none]) (tds := []) (m := []) (keep := [2]) (ex := .ret) (st' := (f26n0E a1 (.ret 8)).2) (by kernel_rfl) (ap h5 (ap h5 (ap h5 (ap h5 an)))) (fun h => nomatch h) rfl
  · rcases cond_cases h with ⟨h6, h⟩ | ⟨h6, h⟩
    · obtain rfl := some_inj h
      exact runK_end cfg_ok (k := 2) (rs := [([], [], []), ([(4, false), (5, false), (6, false), (9, true), (10, true), (11, true), (12, true)], [(7, .bool false), (13, .bool true)], []), ([], [], [])]) (ps := [none]) (tds := []) (m := []) (keep := [2]) (ex := .ret) (st' := (f26n0E a1 (.ret 8)).2) (by kernel_rfl) (ap h5 (ap h5 (ap h5 (ap h5 (ap h6 (ap h6 (ap h6 (ap h6 (ap h6 an))))))))) (fun h => nomatch h) rfl
    · rcases cond_cases h with ⟨h7, h⟩ | ⟨h7, h⟩
      · obtain rfl := some_inj h
        exact runK_end cfg_ok (k := 2) (rs := [([], [], []), ([(4, false), (5, false), (6, false), (9, false), (10, false), (11, false), (12, false)], [(7, .bool false), (13, .bool false)], [(11, .val (.pl (.int .i64 (a1.Positions.length : Int))))]), ([], [], [])]) (ps := [some true]) (tds := []) (m := []) (keep := [2]) (ex := .ret) (st' := (f26n0E a1 (.ret 8)).2) (by kernel_rfl) (ap h5 (ap h5 (ap h5 (ap h5 (ap h6 (ap h6 (ap h6 (ap (len_cv (xs := a1.Positions) (c := VariationPosition.cells)) (ap h6 (ap h6 (ap h7 an))))))))))) (fun h => nomatch h) rfl
      · refine runK_norm cfg_ok (k := 3) (rs := [([], [], []), ([(4, false), (5, false), (6, false), (9, false), (10, false), (11, false), (12, false)], [(7, .bool false), (13, .bool false)], [(11, .val (.pl (.int .i64 (a1.Positions.length : Int))))]), ([], [], [])]) (ps := [some false]) (tds := []) (m := [0, 1]) (keep := [1, 3]) (st' := (f26n1S a1)) (by kernel_rfl) (ap h5 (ap h5 (ap h5 (ap h5 (ap h6 (ap h6 (ap h6 (ap (len_cv (xs := a1.Positions) (c := VariationPosition.cells)) (ap h6 (ap h6 (ap h7 an))))))))))) ?_
        obtain ⟨o193, h194, h⟩ := bind_cases h
        cases o193 with
        | norm v195 =>
          refine T.oneN (by kernel_rfl) (f26n1_ok a1 h194) (st2 := (f26n1E a1 (.norm v195)).2) rfl ?_
          refine runK_norm cfg_ok (k := 0) (rs := []) (ps := []) (tds := []) (m := [0]) (keep := [3]) (st' := (f26n3S v195)) (by kernel_rfl) an ?_
          obtain ⟨o208, h209, h⟩ := bind_cases h
          cases o208 with
          | norm =>
            refine T.oneN (by kernel_rfl) (f26n3_ok v195 h209) (st2 := (f26n3E v195 .norm).2) rfl ?_
            obtain rfl := some_inj h
            exact run_end cfg_ok (rs := [([], [], [])]) (ps := []) (tds := []) (m := []) (keep := [2]) (r := (.ret, (f26n0E a1 (.ret 0)).2)) (by kernel_rfl) an rfl
          | ret =>
            obtain rfl := some_inj h
            exact T.oneX' (by kernel_rfl) (f26n3_ok v195 h209) (tds := []) (m := []) (keep := [2]) (st2 := (f26n0E a1 (.ret 8)).2) (by kernel_rfl) an rfl rfl
        | ret =>
          obtain rfl := some_inj h
          exact T.oneX' (by kernel_rfl) (f26n1_ok a1 h194) (tds := []) (m := []) (keep := [2]) (st2 := (f26n0E a1 (.ret 8)).2) (by kernel_rfl) an rfl rfl
noncomputable def f26 (a1 : Variation) : Option Int := (f26n0 a1).bind fun o => match o with
  | .ret v210 => some v210
theorem f26_ok (a1 : Variation) {r : Int} (h : (f26 a1) = some r) : CallS Try.prog false 26 [(.pl (.agg (Variation.cells a1)))] [] (.pl (.int .i64 r)) [] := by
  unfold f26 at h
  obtain ⟨o, ho, h⟩ := bind_cases h
  cases o with
  | ret v210 =>
    obtain rfl := some_inj h
    exact CallS.plain cfg_ok (f := Try.f26) (c := c26) (by kernel_rfl) (by kernel_rfl) (by kernel_rfl) (by kernel_rfl) ((f26n0_ok a1 ho).mono fun r e => by subst e; exact ⟨.inl rfl, (.pl (.int .i64 v210)), (.pl (.int .i64 v210)), by kernel_rfl, by kernel_rfl, ((Wk.refl _) : Wk (.pl (.int .i64 v210)) (.pl (.int .i64 v210)))⟩)

noncomputable def c47 : Code := Try.f47.body.getD .skip
inductive f47r1n0O where
  | ret (v5 : List VariationPosition)
def f47r1n0E (a1 : List VariationPosition) : f47r1n0O → Ex × Tr × Hp
  | .ret v5 => (.ret, mkS [(2, (.own 0))], [some (.row false 4 (v5.map VariationPosition.cells))])
def f47r1n0S (a1 : List VariationPosition) : Tr × Hp := (initS [(.pl (.sl .any 4 (a1.map VariationPosition.cells)))] 0 .leaf, [])
noncomputable def f47r1n0 (a1 : List VariationPosition) : Option f47r1n0O :=
  bif (a1.isEmpty) then
    some (.ret [])
  else
    req (fit a1.length 48) <|
    some (.ret a1)
theorem f47r1n0_ok (a1 : List VariationPosition) {o : f47r1n0O} (h : (f47r1n0 a1) = some o) : T Try.prog Try.f47.ntmps 0 c47 (f47r1n0S a1) (fun r => r = f47r1n0E a1 o) := by
  unfold f47r1n0 at h
  refine runK_norm cfg_ok (k := 1) (rs := [([], [], [])]) (ps := []) (tds := []) (m := []) (keep := [0]) (st' := (mkS [(0, (.pl (.sl .any 4 (a1.map VariationPosition.cells))))], [])) (by kernel_rfl) an ?_
  refine T.nest (by kernel_rfl) ?_
  rcases cond_cases h with ⟨h2, h⟩ | ⟨h2, h⟩
  · refine runK_norm cfg_ok (k := 0) (rs := []) (ps := []) (tds := []) (m := []) (keep := [0]) (st' := (mkS [(0, (.pl (.sl .any 4 (a1.map VariationPosition.cells))))], [])) (by kernel_rfl) an ?_
    refine T.oneNil cfg_ok (x := .tmp 0) (t := 25) (t3 := 3) (t4 := 4) (sz := 4) (es := (a1.map VariationPosition.cells)) (by kernel_rfl) (by kernel_rfl) (by kernel_rfl) (by kernel_rfl) (by kernel_rfl) (fun b hb => ?_)
    cases b
    · refine run_end cfg_ok (rs := []) (ps := [none]) (tds := []) (m := []) (keep := [0]) (r := (.norm, (mkS [(0, (.pl (.sl .any 4 (a1.map VariationPosition.cells))))], []))) (by kernel_rfl) an (ThenQ.norm ?_)
      obtain rfl := some_inj h
      exact run_end cfg_ok (rs := [([], [(2, .app false)], [])]) (ps := []) (tds := []) (m := [0]) (keep := [2]) (r := (.ret, (f47r1n0E a1 (.ret [])).2)) (by kernel_rfl) (ap (nil_map (c := VariationPosition.cells) h2) an) rfl
    · obtain rfl := some_inj h
      exact run_end cfg_ok (rs := [([], [], [])]) (ps := [none]) (tds := [.mat 2 4]) (m := [0]) (keep := [2]) (r := (.ret, (f47r1n0E a1 (.ret [])).2)) (by kernel_rfl) an (ThenQ.out rfl rfl)
  · refine runK_norm cfg_ok (k := 0) (rs := []) (ps := []) (tds := []) (m := []) (keep := [0]) (st' := (mkS [(0, (.pl (.sl .any 4 (a1.map VariationPosition.cells))))], [])) (by kernel_rfl) an ?_
    refine T.oneNil cfg_ok (x := .tmp 0) (t := 25) (t3 := 3) (t4 := 4) (sz := 4) (es := (a1.map VariationPosition.cells)) (by kernel_rfl) (by kernel_rfl) (by kernel_rfl) (by kernel_rfl) (by kernel_rfl) (fun b hb => ?_)
    cases b
    · refine run_end cfg_ok (rs := []) (ps := [none]) (tds := []) (m := []) (keep := [0]) (r := (.norm, (mkS [(0, (.pl (.sl .any 4 (a1.map VariationPosition.cells))))], []))) (by kernel_rfl) an (ThenQ.norm ?_)
      obtain ⟨h4, h⟩ := req_cases h
      obtain rfl := some_inj h
      exact run_end cfg_ok (rs := [([], [(2, .app true)], [])]) (ps := []) (tds := []) (m := [1]) (keep := [2]) (r := (.ret, (f47r1n0E a1 (.ret a1)).2)) (by kernel_rfl) (ap (fit_map0z (te := ti52) (xs := a1) (c := VariationPosition.cells) h4 rfl) (ap (ne_map (c := VariationPosition.cells) h2) (ap (len_all (c := VariationPosition.cells) (xs := a1) (n := 4) (fun _ => rfl)) an))) rfl
    · exact absurd (hb rfl) (ne_map (c := VariationPosition.cells) h2)
noncomputable def f47r1 (a1 : List VariationPosition) : Option (List VariationPosition) := (f47r1n0 a1).bind fun o => match o with
  | .ret v5 => some v5
theorem f47r1_ok (a1 : List VariationPosition) {r : List VariationPosition} (h : (f47r1 a1) = some r) : CallS Try.prog true 47 [(.pl (.sl .any 4 (a1.map VariationPosition.cells)))] [] (.own 0) [some (.row false 4 (r.map VariationPosition.cells))] := by
  unfold f47r1 at h
  obtain ⟨o, ho, h⟩ := bind_cases h
  cases o with
  | ret v5 =>
    obtain rfl := some_inj h
    exact CallS.shared cfg_ok (f := Try.f47) (c := c47) (by kernel_rfl) (by kernel_rfl) (by kernel_rfl) ((f47r1n0_ok a1 ho).mono fun r e => by subst e; exact ⟨.inl rfl, by kernel_rfl, by kernel_rfl⟩)

noncomputable def c63 : Code := Try.f63.body.getD .skip
inductive f63_53n1O where
  | exit0 (v43 : Int)
def f63_53n1E (a1 : List VariationPosition) (a2 : VariationPosition) : f63_53n1O → Ex × Tr × Hp
  | .exit0 v43 => ((.exit 0), mkS [(0, (.pl (.sl .any 4 (a1.map VariationPosition.cells)))), (2, (.pl (.fn 53))), (4, (.bp 0 0)), (8, (.pl (.int .i64 (a1.length : Int)))), (9, (.pl (.int .i64 v43)))], [some (.box ((VariationPosition.cells a2).map .pl))])
def f63_53n1S (a1 : List VariationPosition) (a2 : VariationPosition) (v29 : Int) (v30 : Int) : Tr × Hp := (mkS [(0, (.pl (.sl .any 4 (a1.map VariationPosition.cells)))), (2, (.pl (.fn 53))), (4, (.bp 0 0)), (8, (.pl (.int .i64 (a1.length : Int)))), (9, (.pl (.int .i64 v29))), (10, (.pl (.int .i64 v30)))], [some (.box ((VariationPosition.cells a2).map .pl))])
noncomputable def f63_53n1 : Nat → List VariationPosition → VariationPosition → Int → Int → Option f63_53n1O
  | 0, _, _, _, _ => none
  | f + 1, a1, a2, v29, v30 =>
    bif (decide (v29 < v30)) then
      (at? a1 (wr64 (shrK .u64 (wru64 (wr64 (v29 + v30))) 1))).bind fun x38 =>
      (f53 x38 a2).bind fun x40 =>
      bif (decide (x40 < 0)) then
        (f63_53n1 f a1 a2 (wr64 ((wr64 (shrK .u64 (wru64 (wr64 (v29 + v30))) 1)) + 1)) v30)
      else
        (f63_53n1 f a1 a2 v29 (wr64 (shrK .u64 (wru64 (wr64 (v29 + v30))) 1)))
    else
      some (.exit0 v29)
theorem f63_53n1_ok : ∀ (f : Nat) (a1 : List VariationPosition) (a2 : VariationPosition) (v29 : Int) (v30 : Int) {o : f63_53n1O}, (f63_53n1 f a1 a2 v29 v30) = some o → TL Try.prog Try.f63.ntmps 0 f (cL (cL (cL (dropC 3 c63)))) (f63_53n1S a1 a2 v29 v30) (fun r => r = f63_53n1E a1 a2 o)
  | 0, _, _, _, _, o, h => by rw [f63_53n1] at h; cases h
  | f + 1, a1, a2, v29, v30, o, h => by
    rw [f63_53n1] at h
    refine TL.body (K := fun s => ∃ v29 : Int, ∃ v30 : Int, s = (f63_53n1S a1 a2 v29 v30) ∧ (f63_53n1 f a1 a2 v29 v30) = some o) ?_ (by rintro _ ⟨v29, v30, rfl, hk⟩; exact f63_53n1_ok f _ _ _ _ hk)
    rcases cond_cases h with ⟨h32, h⟩ | ⟨h32, h⟩
    · obtain ⟨x38, h39, h⟩ := bind_cases h
      obtain ⟨x40, h41, h⟩ := bind_cases h
      rcases cond_cases h with ⟨h42, h⟩ | ⟨h42, h⟩
      · exact run_end cfg_ok (rs := [([], [], []), ([], [], []), ([], [(3, .idx (Int.toNat (wr64 (shrK .u64 (wru64 (wr64 (v29 + v30))) 1))) (VariationPosition.cells x38)), (6, .call (.pl (.int .i64 x40)) [])], []), ([], [], [])]) (ps := [some true, some true]) (tds := []) (m := [0]) (keep := [0, 2, 4, 8, 9, 10]) (r := (.norm, (f63_53n1S a1 a2 (wr64 ((wr64 (shrK .u64 (wru64 (wr64 (v29 + v30))) 1)) + 1)) v30))) (by kernel_rfl) (ap h32 (ap (at_some h39).1 (ap (at_map VariationPosition.cells (at_some h39).2) (ap (f53_ok x38 a2 h41) (ap h42 an))))) (LoopQ.norm ⟨(wr64 ((wr64 (shrK .u64 (wru64 (wr64 (v29 + v30))) 1)) + 1)), v30, rfl, h⟩)
      · exact run_end cfg_ok (rs := [([], [], []), ([], [], []), ([], [(3, .idx (Int.toNat (wr64 (shrK .u64 (wru64 (wr64 (v29 + v30))) 1))) (VariationPosition.cells x38)), (6, .call (.pl (.int .i64 x40)) [])], []), ([], [], [])]) (ps := [some true, some false]) (tds := []) (m := [0]) (keep := [0, 2, 4, 8, 9, 10]) (r := (.norm, (f63_53n1S a1 a2 v29 (wr64 (shrK .u64 (wru64 (wr64 (v29 + v30))) 1))))) (by kernel_rfl) (ap h32 (ap (at_some h39).1 (ap (at_map VariationPosition.cells (at_some h39).2) (ap (f53_ok x38 a2 h41) (ap h42 an))))) (LoopQ.norm ⟨v29, (wr64 (shrK .u64 (wru64 (wr64 (v29 + v30))) 1)), rfl, h⟩)
    · obtain rfl := some_inj h
      exact runK_end cfg_ok (k := 1) (rs := [([], [], [])]) (ps := [some false]) (tds := []) (m := [0]) (keep := [0, 2, 4, 8, 9]) (ex := (.exit 0)) (st' := (f63_53n1E a1 a2 (.exit0 v29)).2) (by kernel_rfl) (ap h32 an) (fun h => nomatch h) (LoopQ.out rfl rfl)
inductive f63_53n0O where
  | ret (v57 : Int) (v58 : Bool)
def f63_53n0E (a1 : List VariationPosition) (a2 : VariationPosition) : f63_53n0O → Ex × Tr × Hp
  | .ret v57 v58 => (.ret, mkS [(6, (.pl (.int .i64 v57))), (7, (.pl (.bool v58)))], [])
def f63_53n0S (a1 : List VariationPosition) (a2 : VariationPosition) : Tr × Hp := (initS [(.pl (.sl .any 4 (a1.map VariationPosition.cells))), (.pl (.agg (VariationPosition.cells a2))), (.pl (.fn 53))] 0 .leaf, [])
noncomputable def f63_53n0 (a1 : List VariationPosition) (a2 : VariationPosition) : Option f63_53n0O :=
  (f63_53n1 FUEL a1 a2 0 (a1.length : Int)).bind fun o44 => match o44 with
  | .exit0 v46 => bif (decide (v46 < (a1.length : Int))) then
      (at? a1 v46).bind fun x53 =>
      (f53 x53 a2).bind fun x55 =>
      some (.ret v46 (decide (x55 = 0)))
    else
      some (.ret v46 false)
theorem f63_53n0_ok (a1 : List VariationPosition) (a2 : VariationPosition) {o : f63_53n0O} (h : (f63_53n0 a1 a2) = some o) : T Try.prog Try.f63.ntmps 0 c63 (f63_53n0S a1 a2) (fun r => r = f63_53n0E a1 a2 o) := by
  unfold f63_53n0 at h
  refine runK_norm cfg_ok (k := 3) (rs := [([], [], []), ([], [], [(1, .val (.pl (.int .i64 (a1.length : Int))))]), ([], [], [])]) (ps := []) (tds := []) (m := [0]) (keep := [0, 2, 4, 8, 9, 10]) (st' := (f63_53n1S a1 a2 0 (a1.length : Int))) (by kernel_rfl) (ap (len_cv (xs := a1) (c := VariationPosition.cells)) an) ?_
  obtain ⟨o44, h45, h⟩ := bind_cases h
  cases o44 with
  | exit0 v46 =>
    refine T.oneN (by kernel_rfl) (T.bl (i := 0) (by kernel_rfl) (by kernel_rfl) (f63_53n1_ok FUEL a1 a2 0 (a1.length : Int) h45)) (st2 := (f63_53n1E a1 a2 (.exit0 v46)).2) rfl ?_
    rcases cond_cases h with ⟨h52, h⟩ | ⟨h52, h⟩
    · obtain ⟨x53, h54, h⟩ := bind_cases h
      obtain ⟨x55, h56, h⟩ := bind_cases h
      obtain rfl := some_inj h
      exact run_end cfg_ok (rs := [([(5, true), (6, true), (7, true), (8, true), (9, true), (10, true), (11, true), (12, true)], [(8, .idx (Int.toNat v46) (VariationPosition.cells x53)), (11, .call (.pl (.int .i64 x55)) []), (13, .bool true)], [])]) (ps := []) (tds := []) (m := []) (keep := [6, 7]) (r := (.ret, (f63_53n0E a1 a2 (.ret v46 (decide (x55 = 0)))).2)) (by kernel_rfl) (ap h52 (ap h52 (ap h52 (ap h52 (ap (at_some h54).1 (ap (at_map VariationPosition.cells (at_some h54).2) (ap h52 (ap h52 (ap h52 (ap h52 (ap h52 (ap (f53_ok x53 a2 h56) an)))))))))))) rfl
    · obtain rfl := some_inj h
      exact run_end cfg_ok (rs := [([(5, false), (6, false), (7, false), (8, false), (9, false), (10, false), (11, false), (12, false)], [(13, .bool false)], [])]) (ps := []) (tds := []) (m := []) (keep := [6, 7]) (r := (.ret, (f63_53n0E a1 a2 (.ret v46 false)).2)) (by kernel_rfl) (ap h52 (ap h52 (ap h52 (ap h52 (ap h52 (ap h52 (ap h52 (ap h52 (ap h52 an))))))))) rfl
noncomputable def f63_53 (a1 : List VariationPosition) (a2 : VariationPosition) : Option (Int × Bool) := (f63_53n0 a1 a2).bind fun o => match o with
  | .ret v57 v58 => some (v57, v58)
theorem f63_53_ok (a1 : List VariationPosition) (a2 : VariationPosition) {r : Int × Bool} (h : (f63_53 a1 a2) = some r) : CallS Try.prog false 63 [(.pl (.sl .any 4 (a1.map VariationPosition.cells))), (.pl (.agg (VariationPosition.cells a2))), (.pl (.fn 53))] [] (.tup [(.pl (.int .i64 r.1)), (.pl (.bool r.2))]) [] := by
  unfold f63_53 at h
  obtain ⟨o, ho, h⟩ := bind_cases h
  cases o with
  | ret v57 v58 =>
    obtain rfl := some_inj h
    exact CallS.plain cfg_ok (f := Try.f63) (c := c63) (by kernel_rfl) (by kernel_rfl) (by kernel_rfl) (by kernel_rfl) ((f63_53n0_ok a1 a2 ho).mono fun r e => by subst e; exact ⟨.inl rfl, (.tup [(.pl (.int .i64 v57)), (.pl (.bool v58))]), (.tup [(.pl (.int .i64 v57)), (.pl (.bool v58))]), by kernel_rfl, by kernel_rfl, ((Wk.refl _) : Wk (.tup [(.pl (.int .i64 v57)), (.pl (.bool v58))]) (.tup [(.pl (.int .i64 v57)), (.pl (.bool v58))]))⟩)

def in64 (xs : List VariationPosition) (i : Int) (vs : List VariationPosition) : Option (List VariationPosition) := match vs with
  | [e] => bif decide (0 ≤ i) && (decide (i ≤ (xs.length : Int)) && fitsB (xs.length + 1) te52) then some (xs.take i.toNat ++ e :: xs.drop i.toNat) else none
  | _ => none
theorem in64_ok (xs : List VariationPosition) (i : Int) (vs : List VariationPosition) {r : List VariationPosition} (h : in64 xs i vs = some r) :
    CallS Try.prog true 64 [.own 0, .pl (.int .i64 i), .own 1] [some (.row false 4 (xs.map VariationPosition.cells)), some (.row false 4 (vs.map VariationPosition.cells))] (.own 2) [none, some (.row false 4 (vs.map VariationPosition.cells)), some (.row false 4 (r.map VariationPosition.cells))] := by
  match vs, h with
  | [e], h =>
    simp only [in64] at h
    cases hc : (decide (0 ≤ i) && (decide (i ≤ (xs.length : Int)) && fitsB (xs.length + 1) te52)) with
    | false => rw [hc] at h; cases h
    | true =>
      rw [hc] at h
      simp only [cond_true, Option.some.injEq] at h
      simp only [Bool.and_eq_true, decide_eq_true_eq] at hc
      obtain ⟨h1, h2, h3⟩ := hc
      subst h
      have := ins_callS (xs.map VariationPosition.cells) (VariationPosition.cells e) i.toNat (by rw [List.length_map]; omega) (by rw [List.length_map]; exact h3)
      rw [show ((i.toNat : Nat) : Int) = i by omega] at this
      simp only [List.map_append, List.map_cons, List.map_take, List.map_drop, List.map_nil]
      exact this


def de65 (xs : List VariationPosition) (i j : Int) : Option (List VariationPosition) := bif decide (0 ≤ i) && (decide (i < (xs.length : Int)) && decide (j = i + 1)) then some (xs.take i.toNat ++ xs.drop (i.toNat + 1)) else none
theorem de65_ok (xs : List VariationPosition) (i j : Int) {r : List VariationPosition} (h : de65 xs i j = some r) :
    CallS Try.prog true 65 [.own 0, .pl (.int .i64 i), .pl (.int .i64 j)] [some (.row false 4 (xs.map VariationPosition.cells))] (.own 1) [none, some (.row false 4 (r.map VariationPosition.cells))] := by
  unfold de65 at h
  cases hc : (decide (0 ≤ i) && (decide (i < (xs.length : Int)) && decide (j = i + 1))) with
  | false => rw [hc] at h; cases h
  | true =>
    rw [hc] at h
    simp only [cond_true, Option.some.injEq] at h
    simp only [Bool.and_eq_true, decide_eq_true_eq] at hc
    obtain ⟨h1, h2, h3⟩ := hc
    subst h
    have := del_callS (xs.map VariationPosition.cells) i.toNat (by rw [List.length_map]; omega)
    rw [show ((i.toNat : Nat) : Int) = i by omega, show ((i.toNat + 1 : Nat) : Int) = j by omega] at this
    simp only [List.map_append, List.map_take, List.map_drop]
    exact this


noncomputable def c46 : Code := Try.f46.body.getD .skip
inductive f46r1n1O where
  | norm (v19 : List VariationPosition)
def f46r1n1E (be1 : Int) (be2 : Int) (bf3 : Int × Bool) (bg4 : List VariationPosition) (bb5 : ByteArray) (bb6 : ByteArray) : f46r1n1O → Ex × Tr × Hp
  | .norm v19 => (.norm, mkS [(0, (.own 1)), (3, (.pl (.int .i64 be1))), (4, (.pl (.int .i64 be2))), (11, (.bp 2 0)), (12, (.bp 3 0)), (13, (.pl (.int .i64 bf3.1)))], [none, some (.row false 4 (v19.map VariationPosition.cells)), some (.box ((VariationPosition.cells (VariationPosition.mk str_x str_x 0 0)).map .pl)), some (.box ((VariationPosition.cells (VariationPosition.mk bb5 bb6 0 0)).map .pl))])
def f46r1n1S (be1 : Int) (be2 : Int) (bf3 : Int × Bool) (bg4 : List VariationPosition) (bb5 : ByteArray) (bb6 : ByteArray) : Tr × Hp := (mkS [(0, (.own 0)), (3, (.pl (.int .i64 be1))), (4, (.pl (.int .i64 be2))), (11, (.bp 1 0)), (12, (.bp 2 0)), (13, (.pl (.int .i64 bf3.1))), (14, (.pl (.bool bf3.2)))], [some (.row false 4 (bg4.map VariationPosition.cells)), some (.box ((VariationPosition.cells (VariationPosition.mk str_x str_x 0 0)).map .pl)), some (.box ((VariationPosition.cells (VariationPosition.mk bb5 bb6 0 0)).map .pl))])
noncomputable def f46r1n1 (be1 : Int) (be2 : Int) (bf3 : Int × Bool) (bg4 : List VariationPosition) (bb5 : ByteArray) (bb6 : ByteArray) : Option f46r1n1O :=
  bif bf3.2 then
    some (.norm bg4)
  else
    (in64 bg4 bf3.1 [(VariationPosition.mk bb5 bb6 0 0)]).bind fun x17 =>
    some (.norm x17)
theorem f46r1n1_ok (be1 : Int) (be2 : Int) (bf3 : Int × Bool) (bg4 : List VariationPosition) (bb5 : ByteArray) (bb6 : ByteArray) {o : f46r1n1O} (h : (f46r1n1 be1 be2 bf3 bg4 bb5 bb6) = some o) : T Try.prog Try.f46.ntmps 1 (cL (dropC 3 c46)) (f46r1n1S be1 be2 bf3 bg4 bb5 bb6) (fun r => r = f46r1n1E be1 be2 bf3 bg4 bb5 bb6 o) := by
  unfold f46r1n1 at h
  rcases cond_cases h with ⟨h16, h⟩ | ⟨h16, h⟩
  · obtain rfl := some_inj h
    exact run_end cfg_ok (rs := [([], [], [])]) (ps := [some false]) (tds := [.mov 0]) (m := [3, 1, 2]) (keep := [0, 3, 4, 11, 12, 13]) (r := (.norm, (f46r1n1E be1 be2 bf3 bg4 bb5 bb6 (.norm bg4)).2)) (by kernel_rfl) (ap (not_t h16) an) rfl
  · obtain ⟨x17, h18, h⟩ := bind_cases h
    obtain rfl := some_inj h
    exact run_end cfg_ok (rs := [([], [], []), ([], [(4, .call (.own 4) [none, none, none, some (.row false 4 ([(VariationPosition.mk bb5 bb6 0 0)].map VariationPosition.cells)), some (.row false 4 (x17.map VariationPosition.cells))])], [])]) (ps := [some true]) (tds := []) (m := [4, 1, 2]) (keep := [0, 3, 4, 11, 12, 13]) (r := (.norm, (f46r1n1E be1 be2 bf3 bg4 bb5 bb6 (.norm x17)).2)) (by kernel_rfl) (ap (not_f h16) (ap (CallS.ren (args' := [(.own 0), (.pl (.int .i64 bf3.1)), (.own 3)]) (v' := (.own 4)) (B := [some (.row false 4 (bg4.map VariationPosition.cells)), none, none, some (.row false 4 ([(VariationPosition.mk bb5 bb6 0 0)].map VariationPosition.cells))]) (B' := [none, none, none, some (.row false 4 ([(VariationPosition.mk bb5 bb6 0 0)].map VariationPosition.cells)), some (.row false 4 (x17.map VariationPosition.cells))]) 4 [0, 3] (in64_ok bg4 bf3.1 [(VariationPosition.mk bb5 bb6 0 0)] h18) (by kernel_rfl) (by kernel_rfl) (by kernel_rfl) (by kernel_rfl) (by kernel_rfl) (by kernel_rfl)) an)) rfl
inductive f46r1n0O where
  | ret (v33 : List VariationPosition) (v34 : VariationPosition)
def f46r1n0E (a1 : ByteArray) (a2 : ByteArray) (a3 : Int) (a4 : Int) (a5 : List VariationPosition) : f46r1n0O → Ex × Tr × Hp
  | .ret v33 v34 => (.ret, mkS [(10, (.own 1)), (11, (.bp 2 0))], [none, some (.row false 4 (v33.map VariationPosition.cells)), some (.box ((VariationPosition.cells v34).map .pl))])
def f46r1n0S (a1 : ByteArray) (a2 : ByteArray) (a3 : Int) (a4 : Int) (a5 : List VariationPosition) : Tr × Hp := (initS [(.own 0), (.pl (.str a1)), (.pl (.str a2)), (.pl (.int .i64 a3)), (.pl (.int .i64 a4))] 0 .leaf, [some (.row false 4 (a5.map VariationPosition.cells))])
noncomputable def f46r1n0 (a1 : ByteArray) (a2 : ByteArray) (a3 : Int) (a4 : Int) (a5 : List VariationPosition) : Option f46r1n0O :=
  (f63_53 a5 (VariationPosition.mk a1 a2 0 0)).bind fun x8 =>
  (f46r1n1 a3 a4 x8 a5 a1 a2).bind fun o20 => match o20 with
  | .norm v22 => (at? v22 x8.1).bind fun x25 =>
    bif (VariationPosition.eqb (VariationPosition.mk x25.Member x25.Product (wr64 (x25.Quantity + a3)) (wr64 (x25.Basis + a4))) (VariationPosition.mk a1 a2 0 0)) then
      (de65 ((v22.set (Int.toNat x8.1) (VariationPosition.mk x25.Member x25.Product (wr64 (x25.Quantity + a3)) x25.Basis)).set (Int.toNat x8.1) (VariationPosition.mk x25.Member x25.Product (wr64 (x25.Quantity + a3)) (wr64 (x25.Basis + a4)))) x8.1 (wr64 (x8.1 + 1))).bind fun x31 =>
      some (.ret x31 (VariationPosition.mk x25.Member x25.Product (wr64 (x25.Quantity + a3)) (wr64 (x25.Basis + a4))))
    else
      some (.ret ((v22.set (Int.toNat x8.1) (VariationPosition.mk x25.Member x25.Product (wr64 (x25.Quantity + a3)) x25.Basis)).set (Int.toNat x8.1) (VariationPosition.mk x25.Member x25.Product (wr64 (x25.Quantity + a3)) (wr64 (x25.Basis + a4)))) (VariationPosition.mk x25.Member x25.Product (wr64 (x25.Quantity + a3)) (wr64 (x25.Basis + a4))))
theorem f46r1n0_ok (a1 : ByteArray) (a2 : ByteArray) (a3 : Int) (a4 : Int) (a5 : List VariationPosition) {o : f46r1n0O} (h : (f46r1n0 a1 a2 a3 a4 a5) = some o) : T Try.prog Try.f46.ntmps 1 c46 (f46r1n0S a1 a2 a3 a4 a5) (fun r => r = f46r1n0E a1 a2 a3 a4 a5 o) := by
  unfold f46r1n0 at h
  obtain ⟨x8, h9, h⟩ := bind_cases h
  refine runK_norm cfg_ok (k := 3) (rs := [([], [], []), ([], [], []), ([], [(2, .call (.tup [(.pl (.int .i64 x8.1)), (.pl (.bool x8.2))]) [])], [])]) (ps := []) (tds := []) (m := [1, 2]) (keep := [0, 3, 4, 11, 12, 13, 14]) (st' := (f46r1n1S a3 a4 x8 a5 a1 a2)) (by kernel_rfl) (ap (f63_53_ok a5 (VariationPosition.mk a1 a2 0 0) h9) an) ?_
  obtain ⟨o20, h21, h⟩ := bind_cases h
  cases o20 with
  | norm v22 =>
    refine T.oneN (by kernel_rfl) (f46r1n1_ok a3 a4 x8 a5 a1 a2 h21) (st2 := (f46r1n1E a3 a4 x8 a5 a1 a2 (.norm v22)).2) rfl ?_
    obtain ⟨x25, h26, h⟩ := bind_cases h
    rcases cond_cases h with ⟨h30, h⟩ | ⟨h30, h⟩
    · obtain ⟨x31, h32, h⟩ := bind_cases h
      obtain rfl := some_inj h
      exact run_end cfg_ok (rs := [([], [(2, .at_ (Int.toNat x8.1)), (4, .idx 0 (VariationPosition.cells x25)), (7, .at_ (Int.toNat x8.1)), (9, .idx 0 (VariationPosition.cells x25))], [(9, .row 1 ((v22.set (Int.toNat x8.1) (VariationPosition.mk x25.Member x25.Product (wr64 (x25.Quantity + a3)) x25.Basis)).map VariationPosition.cells))]), ([], [(2, .at_ (Int.toNat x8.1)), (4, .idx 0 (VariationPosition.cells (VariationPosition.mk x25.Member x25.Product (wr64 (x25.Quantity + a3)) x25.Basis))), (7, .at_ (Int.toNat x8.1)), (9, .idx 0 (VariationPosition.cells (VariationPosition.mk x25.Member x25.Product (wr64 (x25.Quantity + a3)) x25.Basis)))], [(9, .row 1 (((v22.set (Int.toNat x8.1) (VariationPosition.mk x25.Member x25.Product (wr64 (x25.Quantity + a3)) x25.Basis)).set (Int.toNat x8.1) (VariationPosition.mk x25.Member x25.Product (wr64 (x25.Quantity + a3)) (wr64 (x25.Basis + a4)))).map VariationPosition.cells))]), ([], [(2, .at_ (Int.toNat x8.1)), (3, .idx 0 (VariationPosition.cells (VariationPosition.mk x25.Member x25.Product (wr64 (x25.Quantity + a3)) (wr64 (x25.Basis + a4)))))], []), ([], [(2, .bool (VariationPosition.eqb (VariationPosition.mk x25.Member x25.Product (wr64 (x25.Quantity + a3)) (wr64 (x25.Basis + a4))) (VariationPosition.mk a1 a2 0 0)))], []), ([], [(4, .call (.own 5) [none, none, none, none, none, some (.row false 4 (x31.map VariationPosition.cells))])], []), ([], [], [])]) (ps := [some true]) (tds := []) (m := [5, 2]) (keep := [10, 11]) (r := (.ret, (f46r1n0E a1 a2 a3 a4 a5 (.ret x31 (VariationPosition.mk x25.Member x25.Product (wr64 (x25.Quantity + a3)) (wr64 (x25.Basis + a4))))).2)) (by kernel_rfl) (ap (at_some h26).1 (ap (lt_map VariationPosition.cells (at_some h26).2) (ap (at_map VariationPosition.cells (at_some h26).2) (ap (at_some h26).1 (ap (lt_map VariationPosition.cells (at_some h26).2) (ap (at_map VariationPosition.cells (at_some h26).2) (ap (set_cv (xs := v22) (c := VariationPosition.cells) (k := (Int.toNat x8.1)) (x := (VariationPosition.mk x25.Member x25.Product (wr64 (x25.Quantity + a3)) x25.Basis))) (ap (at_some h26).1 (ap (lt_map VariationPosition.cells (set_at (xs := v22) (k := (Int.toNat x8.1)) (VariationPosition.mk x25.Member x25.Product (wr64 (x25.Quantity + a3)) x25.Basis) (at_some h26).2)) (ap (at_map VariationPosition.cells (set_at (xs := v22) (k := (Int.toNat x8.1)) (VariationPosition.mk x25.Member x25.Product (wr64 (x25.Quantity + a3)) x25.Basis) (at_some h26).2)) (ap (at_some h26).1 (ap (lt_map VariationPosition.cells (set_at (xs := v22) (k := (Int.toNat x8.1)) (VariationPosition.mk x25.Member x25.Product (wr64 (x25.Quantity + a3)) x25.Basis) (at_some h26).2)) (ap (at_map VariationPosition.cells (set_at (xs := v22) (k := (Int.toNat x8.1)) (VariationPosition.mk x25.Member x25.Product (wr64 (x25.Quantity + a3)) x25.Basis) (at_some h26).2)) (ap (set_cv (xs := (v22.set (Int.toNat x8.1) (VariationPosition.mk x25.Member x25.Product (wr64 (x25.Quantity + a3)) x25.Basis))) (c := VariationPosition.cells) (k := (Int.toNat x8.1)) (x := (VariationPosition.mk x25.Member x25.Product (wr64 (x25.Quantity + a3)) (wr64 (x25.Basis + a4))))) (ap (at_some h26).1 (ap (lt_map VariationPosition.cells (set_at (xs := (v22.set (Int.toNat x8.1) (VariationPosition.mk x25.Member x25.Product (wr64 (x25.Quantity + a3)) x25.Basis))) (k := (Int.toNat x8.1)) (VariationPosition.mk x25.Member x25.Product (wr64 (x25.Quantity + a3)) (wr64 (x25.Basis + a4))) (set_at (xs := v22) (k := (Int.toNat x8.1)) (VariationPosition.mk x25.Member x25.Product (wr64 (x25.Quantity + a3)) x25.Basis) (at_some h26).2))) (ap (at_map VariationPosition.cells (set_at (xs := (v22.set (Int.toNat x8.1) (VariationPosition.mk x25.Member x25.Product (wr64 (x25.Quantity + a3)) x25.Basis))) (k := (Int.toNat x8.1)) (VariationPosition.mk x25.Member x25.Product (wr64 (x25.Quantity + a3)) (wr64 (x25.Basis + a4))) (set_at (xs := v22) (k := (Int.toNat x8.1)) (VariationPosition.mk x25.Member x25.Product (wr64 (x25.Quantity + a3)) x25.Basis) (at_some h26).2))) (ap (VariationPosition.eqb_ok (VariationPosition.mk x25.Member x25.Product (wr64 (x25.Quantity + a3)) (wr64 (x25.Basis + a4))) (VariationPosition.mk a1 a2 0 0)) (ap h30 (ap (CallS.ren (args' := [(.own 1), (.pl (.int .i64 x8.1)), (.pl (.int .i64 (wr64 (x8.1 + 1))))]) (v' := (.own 5)) (B := [none, some (.row false 4 (((v22.set (Int.toNat x8.1) (VariationPosition.mk x25.Member x25.Product (wr64 (x25.Quantity + a3)) x25.Basis)).set (Int.toNat x8.1) (VariationPosition.mk x25.Member x25.Product (wr64 (x25.Quantity + a3)) (wr64 (x25.Basis + a4)))).map VariationPosition.cells)), none, none, none]) (B' := [none, none, none, none, none, some (.row false 4 (x31.map VariationPosition.cells))]) 5 [1] (de65_ok ((v22.set (Int.toNat x8.1) (VariationPosition.mk x25.Member x25.Product (wr64 (x25.Quantity + a3)) x25.Basis)).set (Int.toNat x8.1) (VariationPosition.mk x25.Member x25.Product (wr64 (x25.Quantity + a3)) (wr64 (x25.Basis + a4)))) x8.1 (wr64 (x8.1 + 1)) h32) (by kernel_rfl) (by kernel_rfl) (by kernel_rfl) (by kernel_rfl) (by kernel_rfl) (by kernel_rfl)) an)))))))))))))))))))) rfl
    · obtain rfl := some_inj h
      exact run_end cfg_ok (rs := [([], [(2, .at_ (Int.toNat x8.1)), (4, .idx 0 (VariationPosition.cells x25)), (7, .at_ (Int.toNat x8.1)), (9, .idx 0 (VariationPosition.cells x25))], [(9, .row 1 ((v22.set (Int.toNat x8.1) (VariationPosition.mk x25.Member x25.Product (wr64 (x25.Quantity + a3)) x25.Basis)).map VariationPosition.cells))]), ([], [(2, .at_ (Int.toNat x8.1)), (4, .idx 0 (VariationPosition.cells (VariationPosition.mk x25.Member x25.Product (wr64 (x25.Quantity + a3)) x25.Basis))), (7, .at_ (Int.toNat x8.1)), (9, .idx 0 (VariationPosition.cells (VariationPosition.mk x25.Member x25.Product (wr64 (x25.Quantity + a3)) x25.Basis)))], [(9, .row 1 (((v22.set (Int.toNat x8.1) (VariationPosition.mk x25.Member x25.Product (wr64 (x25.Quantity + a3)) x25.Basis)).set (Int.toNat x8.1) (VariationPosition.mk x25.Member x25.Product (wr64 (x25.Quantity + a3)) (wr64 (x25.Basis + a4)))).map VariationPosition.cells))]), ([], [(2, .at_ (Int.toNat x8.1)), (3, .idx 0 (VariationPosition.cells (VariationPosition.mk x25.Member x25.Product (wr64 (x25.Quantity + a3)) (wr64 (x25.Basis + a4)))))], []), ([], [(2, .bool (VariationPosition.eqb (VariationPosition.mk x25.Member x25.Product (wr64 (x25.Quantity + a3)) (wr64 (x25.Basis + a4))) (VariationPosition.mk a1 a2 0 0)))], []), ([], [], [])]) (ps := [some false]) (tds := []) (m := [1, 2]) (keep := [10, 11]) (r := (.ret, (f46r1n0E a1 a2 a3 a4 a5 (.ret ((v22.set (Int.toNat x8.1) (VariationPosition.mk x25.Member x25.Product (wr64 (x25.Quantity + a3)) x25.Basis)).set (Int.toNat x8.1) (VariationPosition.mk x25.Member x25.Product (wr64 (x25.Quantity + a3)) (wr64 (x25.Basis + a4)))) (VariationPosition.mk x25.Member x25.Product (wr64 (x25.Quantity + a3)) (wr64 (x25.Basis + a4))))).2)) (by kernel_rfl) (ap (at_some h26).1 (ap (lt_map VariationPosition.cells (at_some h26).2) (ap (at_map VariationPosition.cells (at_some h26).2) (ap (at_some h26).1 (ap (lt_map VariationPosition.cells (at_some h26).2) (ap (at_map VariationPosition.cells (at_some h26).2) (ap (set_cv (xs := v22) (c := VariationPosition.cells) (k := (Int.toNat x8.1)) (x := (VariationPosition.mk x25.Member x25.Product (wr64 (x25.Quantity + a3)) x25.Basis))) (ap (at_some h26).1 (ap (lt_map VariationPosition.cells (set_at (xs := v22) (k := (Int.toNat x8.1)) (VariationPosition.mk x25.Member x25.Product (wr64 (x25.Quantity + a3)) x25.Basis) (at_some h26).2)) (ap (at_map VariationPosition.cells (set_at (xs := v22) (k := (Int.toNat x8.1)) (VariationPosition.mk x25.Member x25.Product (wr64 (x25.Quantity + a3)) x25.Basis) (at_some h26).2)) (ap (at_some h26).1 (ap (lt_map VariationPosition.cells (set_at (xs := v22) (k := (Int.toNat x8.1)) (VariationPosition.mk x25.Member x25.Product (wr64 (x25.Quantity + a3)) x25.Basis) (at_some h26).2)) (ap (at_map VariationPosition.cells (set_at (xs := v22) (k := (Int.toNat x8.1)) (VariationPosition.mk x25.Member x25.Product (wr64 (x25.Quantity + a3)) x25.Basis) (at_some h26).2)) (ap (set_cv (xs := (v22.set (Int.toNat x8.1) (VariationPosition.mk x25.Member x25.Product (wr64 (x25.Quantity + a3)) x25.Basis))) (c := VariationPosition.cells) (k := (Int.toNat x8.1)) (x := (VariationPosition.mk x25.Member x25.Product (wr64 (x25.Quantity + a3)) (wr64 (x25.Basis + a4))))) (ap (at_some h26).1 (ap (lt_map VariationPosition.cells (set_at (xs := (v22.set (Int.toNat x8.1) (VariationPosition.mk x25.Member x25.Product (wr64 (x25.Quantity + a3)) x25.Basis))) (k := (Int.toNat x8.1)) (VariationPosition.mk x25.Member x25.Product (wr64 (x25.Quantity + a3)) (wr64 (x25.Basis + a4))) (set_at (xs := v22) (k := (Int.toNat x8.1)) (VariationPosition.mk x25.Member x25.Product (wr64 (x25.Quantity + a3)) x25.Basis) (at_some h26).2))) (ap (at_map VariationPosition.cells (set_at (xs := (v22.set (Int.toNat x8.1) (VariationPosition.mk x25.Member x25.Product (wr64 (x25.Quantity + a3)) x25.Basis))) (k := (Int.toNat x8.1)) (VariationPosition.mk x25.Member x25.Product (wr64 (x25.Quantity + a3)) (wr64 (x25.Basis + a4))) (set_at (xs := v22) (k := (Int.toNat x8.1)) (VariationPosition.mk x25.Member x25.Product (wr64 (x25.Quantity + a3)) x25.Basis) (at_some h26).2))) (ap (VariationPosition.eqb_ok (VariationPosition.mk x25.Member x25.Product (wr64 (x25.Quantity + a3)) (wr64 (x25.Basis + a4))) (VariationPosition.mk a1 a2 0 0)) (ap h30 an))))))))))))))))))) rfl
noncomputable def f46r1 (a1 : ByteArray) (a2 : ByteArray) (a3 : Int) (a4 : Int) (a5 : List VariationPosition) : Option ((List VariationPosition) × VariationPosition) := (f46r1n0 a1 a2 a3 a4 a5).bind fun o => match o with
  | .ret v33 v34 => some (v33, v34)
theorem f46r1_ok (a1 : ByteArray) (a2 : ByteArray) (a3 : Int) (a4 : Int) (a5 : List VariationPosition) {r : (List VariationPosition) × VariationPosition} (h : (f46r1 a1 a2 a3 a4 a5) = some r) : CallS Try.prog true 46 [(.own 0), (.pl (.str a1)), (.pl (.str a2)), (.pl (.int .i64 a3)), (.pl (.int .i64 a4))] [some (.row false 4 (a5.map VariationPosition.cells))] (.tup [(.own 1), (.pl (.agg (VariationPosition.cells r.2)))]) [none, some (.row false 4 (r.1.map VariationPosition.cells)), some (.box ((VariationPosition.cells r.2).map .pl))] := by
  unfold f46r1 at h
  obtain ⟨o, ho, h⟩ := bind_cases h
  cases o with
  | ret v33 v34 =>
    obtain rfl := some_inj h
    exact CallS.shared cfg_ok (f := Try.f46) (c := c46) (by kernel_rfl) (by kernel_rfl) (by kernel_rfl) ((f46r1n0_ok a1 a2 a3 a4 a5 ho).mono fun r e => by subst e; exact ⟨.inl rfl, by kernel_rfl, by kernel_rfl⟩)
end Go.Proofs.Ytelblamgfbkhbaa
