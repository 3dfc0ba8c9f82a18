/- Small lemmas and words that the printed proofs use. No condition. -/
import Derived.Test.YtelblamgfbkhbaaTE
namespace Go.Proofs.Ytelblamgfbkhbaa
set_option linter.unusedSimpArgs false
set_option linter.unusedVariables false
open Go.RowKit
/-! ### words -/
def mkS : List (Nat × AV) → Tr
  | [] => .leaf
  | (t, v) :: r => (mkS r).put 12 t v
/-- More rounds than any loop over something that there is can take. -/
def FUEL : Nat := 18446744073709551616
def req {α : Type} (b : Bool) (k : Option α) : Option α := bif b then k else none
def cInt (k : IntKind) (n : Int) : List PV := [.int k n]
def cBool (b : Bool) : List PV := [.bool b]
def cStr (s : ByteArray) : List PV := [.str s]
def cLst {α : Type} (sz : Nat) (c : α → List PV) (l : List α) : List PV := [.sl .any sz (l.map c)]
theorem ap {p : Prop} {l : List Prop} (h : p) (t : AllP l) : AllP (p :: l) := ⟨h, t⟩
theorem an : AllP [] := trivial
theorem cond_cases {α : Type} {b : Bool} {x y : Option α} {o : α} (h : (bif b then x else y) = some o) : (b = true ∧ x = some o) ∨ (b = false ∧ y = some o) := by
  cases b
  · exact .inr ⟨rfl, h⟩
  · exact .inl ⟨rfl, h⟩
theorem bind_cases {α β : Type} {m : Option α} {f : α → Option β} {o : β} (h : m.bind f = some o) : ∃ x, m = some x ∧ f x = some o := by
  cases m with
  | none => cases h
  | some x => exact ⟨x, rfl, h⟩
theorem req_cases {α : Type} {b : Bool} {k : Option α} {o : α} (h : req b k = some o) : b = true ∧ k = some o := by
  cases b
  · cases h
  · exact ⟨rfl, h⟩
theorem some_inj {α : Type} {a b : α} (h : some a = some b) : a = b := Option.some.inj h
theorem not_t {b : Bool} (h : b = true) : (!b) = false := by rw [h]; rfl
theorem not_f {b : Bool} (h : b = false) : (!b) = true := by rw [h]; rfl
/-! ### rows -/
section
variable {α : Type} {c : α → List PV} {xs ys : List α} {k n m : Nat} {x : α}
theorem len_cv : AV.pl (.int .i64 (((xs.map c).length : Nat) : Int)) = AV.pl (.int .i64 ((xs.length : Nat) : Int)) := by rw [List.length_map]
theorem lt_map (c : α → List PV) (h : xs[k]? = some x) : k < (xs.map c).length := by rw [List.length_map]; exact lt_of_at h
theorem set_at {xs : List α} {k : Nat} {x : α} (y : α) (h : xs[k]? = some x) : (xs.set k y)[k]? = some y := List.getElem?_set_self (lt_of_at h)
theorem app_cv : xs.map c ++ ys.map c = (xs ++ ys).map c := List.map_append.symm
theorem set_cv : (xs.map c).set k (c x) = (xs.set k x).map c := List.map_set.symm
theorem cut_cv : ((xs.map c).take n).drop m = ((xs.take n).drop m).map c := by rw [List.map_drop, List.map_take]
theorem drop_cv : (xs.map c).drop m = (xs.drop m).map c := List.map_drop.symm
theorem rep_cv : List.replicate n (c x) = (List.replicate n x).map c := (List.map_replicate).symm
theorem ne_map (h : xs.isEmpty = false) : xs.map c ≠ [] := by
  cases xs with
  | nil => cases h
  | cons a l => intro h; cases h
theorem nil_map (h : xs.isEmpty = true) : xs.map c = [] := by
  cases xs with
  | nil => rfl
  | cons a l => cases h
theorem len_all (hc : ∀ x, (c x).length = n) : ∀ r ∈ xs.map c, r.length = n := by
  intro r hr
  obtain ⟨x, _, rfl⟩ := List.mem_map.1 hr
  exact hc x
theorem fit_of {n b : Nat} {te : TI} (h : fit n b = true) (hb : te.bytes = b) : fitsB n te = true := by subst hb; exact h
theorem fit_map {b : Nat} {te : TI} (h : fit (xs.length + n) b = true) (hb : te.bytes = b) : fitsB ((xs.map c).length + n) te = true := by rw [List.length_map]; exact fit_of h hb
theorem fit_map0 {b : Nat} {te : TI} (h : fit xs.length b = true) (hb : te.bytes = b) : fitsB (xs.map c).length te = true := by rw [List.length_map]; exact fit_of h hb
theorem fit_map0z {b : Nat} {te : TI} (h : fit xs.length b = true) (hb : te.bytes = b) : fitsB (0 + (xs.map c).length) te = true := by rw [List.length_map, Nat.zero_add]; exact fit_of h hb
theorem fit_map2 {d : α → List PV} {b : Nat} {te : TI} (h : fit (xs.length + ys.length) b = true) (hb : te.bytes = b) : fitsB ((xs.map c).length + (ys.map d).length) te = true := by rw [List.length_map, List.length_map]; exact fit_of h hb
end
/-! ### pieces of code -/
def isN : Ex → Bool
  | .norm => true
  | _ => false
section
variable {P : Program} {C : Cfg} {n base : Nat} {st st' : Tr × Hp}
theorem T.oneN {c : Code} {Q : Ex × Tr × Hp → Prop} {e : Ex × Tr × Hp} {st2 : Tr × Hp} (hs : isSeq c = true) (h1 : T P n base (cL c) st fun r => r = e) (he : e = (.norm, st2)) (h2 : T P n base (dropC 1 c) st2 Q) : T P n base c st Q :=
  T.one hs h1 fun r hr => by subst hr; subst he; exact h2
theorem T.oneX {c : Code} {Q : Ex × Tr × Hp → Prop} {e : Ex × Tr × Hp} (hs : isSeq c = true) (h1 : T P n base (cL c) st fun r => r = e) (he : e.1 ≠ .norm) (h2 : Q e) : T P n base c st Q :=
  T.one hs h1 fun r hr => by
    subst hr
    obtain ⟨ex, s⟩ := r
    cases ex with
    | norm => exact absurd rfl he
    | exit i => exact h2
    | ret => exact h2
    | pan _ => exact h2
theorem T.last {c : Code} {Q : Ex × Tr × Hp → Prop} {e : Ex × Tr × Hp} (h1 : T P n base c st fun r => r = e) (h2 : Q e) : T P n base c st Q := h1.mono fun r hr => by subst hr; exact h2
/-- A block that is a loop. -/
theorem T.bl {i f : Nat} {c : Code} {e : Ex × Tr × Hp} (hb : isBlk c = some i) (hl : isLoop (cL c) = true) (h : TL P n base f (cL (cL c)) st fun r => r = e) : T P n base c st fun r => r = (blkEx i e.1, e.2) :=
  T.block' hb ((T.loop' hl h).mono fun r hr => by subst hr; rfl)
theorem T.cast {c : Code} {Q : Ex × Tr × Hp → Prop} (h : T P n base c st Q) (e : st' = st) : T P n base c st' Q := e ▸ h
end
/-- The first piece ends otherwise; its end is made tidy. -/
theorem T.oneX' {P : Program} {n base : Nat} {st : Tr × Hp} {c : Code} {Q : Ex × Tr × Hp → Prop} {e : Ex × Tr × Hp} {tds : List Td} {m keep : List Nat} {st2 : Tr × Hp} {cs : List Prop} (hs : isSeq c = true) (h1 : T P n base (cL c) st fun r => r = e) (hn : norm base tds m keep e.2 = some (st2, cs)) (hp : AllP cs) (he : isN e.1 = false) (h2 : Q (e.1, st2)) : T P n base c st Q := by
  obtain ⟨ex, s⟩ := e
  refine T.one hs (T.post h1 hn hp) fun r hr => ?_
  subst hr
  cases ex with
  | norm => cases he
  | exit i => exact h2
  | ret => exact h2
  | pan _ => exact h2
theorem T.last' {P : Program} {n base : Nat} {st : Tr × Hp} {c : Code} {Q : Ex × Tr × Hp → Prop} {e : Ex × Tr × Hp} {tds : List Td} {m keep : List Nat} {st2 : Tr × Hp} {cs : List Prop} (h1 : T P n base c st fun r => r = e) (hn : norm base tds m keep e.2 = some (st2, cs)) (hp : AllP cs) (h2 : Q (e.1, st2)) : T P n base c st Q := by
  obtain ⟨ex, s⟩ := e
  exact (T.post h1 hn hp).mono fun r hr => by subst hr; exact h2
theorem T.condT {P : Program} {n base : Nat} {st : Tr × Hp} {c : Code} {o : Operand} {b : Bool} {Q : Ex × Tr × Hp → Prop} (hs : isCond c = some o) (hv : val st.1 o = .pl (.bool b)) (hb : b = true) (h : T P n base (cL c) st Q) : T P n base c st Q :=
  T.cond' hs hv (fun _ => h) fun e => by rw [hb] at e; cases e
theorem T.condF {P : Program} {n base : Nat} {st : Tr × Hp} {c : Code} {o : Operand} {b : Bool} {Q : Ex × Tr × Hp → Prop} (hs : isCond c = some o) (hv : val st.1 o = .pl (.bool b)) (hb : b = false) (h : T P n base (cR c) st Q) : T P n base c st Q :=
  T.cond' hs hv (fun e => by rw [hb] at e; cases e) fun _ => h
theorem wpn : WkPL [] [] := trivial
theorem wpc {a b : PV} {x y : List PV} (h : WkP a b) (t : WkPL x y) : WkPL (a :: x) (b :: y) := ⟨h, t⟩
theorem wln : WkL [] [] := trivial
theorem wlc {a b : AV} {x y : List AV} (h : Wk a b) (t : WkL x y) : WkL (a :: x) (b :: y) := ⟨h, t⟩
/-! ### numbers -/
theorem nat_of {n : Int} (h : decide (0 ≤ n) = true) : n = ((Int.toNat n : Nat) : Int) := by have := of_decide_eq_true h; omega
theorem ne_of {b : Int} (h : (!(decide (b = 0))) = true) : b ≠ 0 := by simpa using h
def scut (s : ByteArray) (a b : Nat) : ByteArray := ⟨((s.data.toList.take b).drop a).toArray⟩
/-! ### a loop's body -/
def LoopQ (K : Tr × Hp → Prop) (e r : Ex × Tr × Hp) : Prop := match r.1 with | .norm => K r.2 | _ => r = e
section
variable {P : Program} {n base f : Nat} {st s : Tr × Hp} {c : Code} {K : Tr × Hp → Prop} {e : Ex × Tr × Hp} {ex : Ex}
theorem LoopQ.norm (h : K s) : LoopQ K e (.norm, s) := h
theorem LoopQ.out (he : (ex, s) = e) (hn : isN ex = false) : LoopQ K e (ex, s) := by
  cases ex with
  | norm => cases hn
  | exit i => exact he
  | ret => exact he
  | pan _ => exact he
theorem TL.body (h1 : T P n base c st (LoopQ K e)) (h2 : ∀ s, K s → TL P n base f c s fun r => r = e) : TL P n base (f + 1) c st fun r => r = e :=
  TL.step h1 fun r hr => by
    obtain ⟨ex, s⟩ := r
    cases ex with
    | norm => exact h2 s hr
    | exit i => exact hr
    | ret => exact hr
    | pan _ => exact hr
end
theorem some_wk {v v' : AV} (h : v = v') : Wk v v' := h ▸ Wk.refl v
theorem WkP.of {x y : PV} (h : x = y) : WkP x y := h ▸ WkP.refl x
end Go.Proofs.Ytelblamgfbkhbaa
