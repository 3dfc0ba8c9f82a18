/- A call whose own memory is numbered in another way. No condition. -/
import Derived.Test.YtelblamgfbkhbaaTN
namespace Go.Proofs.Ytelblamgfbkhbaa
set_option linter.unusedSimpArgs false
set_option linter.unusedVariables false
open Go.RowKit
mutual
def rnA (f : Nat → Nat) : AV → AV
  | .pl p => .pl p
  | .un => .un
  | .ip cs i => .ip cs i
  | .own o => .own (f o)
  | .vw o i j => .vw (f o) i j
  | .bp o i => .bp (f o) i
  | .ep o i j => .ep (f o) i j
  | .mp o => .mp (f o)
  | .it o => .it (f o)
  | .tup cs => .tup (rnL f cs)
  | .clo k cs => .clo k (rnL f cs)
  | .agg cs => .agg (rnL f cs)
def rnL (f : Nat → Nat) : List AV → List AV
  | [] => []
  | c :: r => rnA f c :: rnL f r
end
def rnOb (f : Nat → Nat) : Ob → Ob
  | .box cs => .box (rnL f cs)
  | .row z sz es => .row z sz es
  | .map kvs => .map kvs
  | .iter o n seen => .iter (f o) n seen
/-- Where a number of the small memory stands in the large one. -/
def toB_ (n : Nat) (m : List Nat) (j : Nat) : Nat := match m[j]? with | some o => o | none => n + (j - m.length)
/-- Which number of the small memory stands there. -/
def ofB_ (n : Nat) (m : List Nat) (o : Nat) : Option Nat := bif Nat.ble n o then some (m.length + (o - n)) else idxN o m 0
def bigH (n : Nat) (m : List Nat) (H : Hp) : Hp := (List.range (n + (H.length - m.length))).map fun o => match ofB_ n m o with | some j => (hget H j).map (rnOb (toB_ n m)) | none => none
def okB (n : Nat) : List Nat → Bool
  | [] => true
  | o :: r => Nat.blt o n && !(r.any (Nat.beq o)) && okB n r
section
variable {P : Program} {C : Cfg} {w w' : World} {X Y : Nat → Prop} {φ φ' : Phi} {H H' : Hp} {n : Nat} {m : List Nat} {f : Nat → Nat}
theorem okB_lt : ∀ {m : List Nat}, okB n m = true → ∀ {j o : Nat}, m[j]? = some o → o < n
  | [], _, j, o, h => by simp at h
  | x :: r, hk, 0, o, h => by
    simp only [okB, Bool.and_eq_true] at hk
    simp at h; subst h; exact (Nat.blt_eq).mp hk.1.1
  | x :: r, hk, j + 1, o, h => by
    simp only [okB, Bool.and_eq_true] at hk
    exact okB_lt hk.2 (by simpa using h)
theorem okB_idx : ∀ {m : List Nat}, okB n m = true → ∀ {i j o : Nat}, m[j]? = some o → idxN o m i = some (i + j)
  | [], _, i, j, o, h => by simp at h
  | x :: r, hk, i, 0, o, h => by
    simp at h; subst h
    simp [idxN]
  | x :: r, hk, i, j + 1, o, h => by
    simp only [okB, Bool.and_eq_true] at hk
    have hr : r[j]? = some o := by simpa using h
    have hne : Nat.beq x o = false := by
      cases hb : Nat.beq x o with
      | false => rfl
      | true =>
        have e := Nat.eq_of_beq_eq_true hb
        subst e
        have h2 := hk.1.2
        rw [Bool.not_eq_true', ← Bool.not_eq_true, List.any_eq_true] at h2
        exact (h2 ⟨x, List.mem_of_getElem? hr, by simp⟩).elim
    simp only [idxN, hne, cond_false]
    rw [okB_idx hk.2 hr]; congr 1; omega
theorem of_to (hm : okB n m = true) (j : Nat) : ofB_ n m (toB_ n m j) = some j := by
  unfold toB_ ofB_
  cases h : m[j]? with
  | some o =>
    have hlt := okB_lt hm h
    have hb : Nat.ble n o = false := by rw [Bool.eq_false_iff]; intro hc; have := Nat.le_of_ble_eq_true hc; omega
    simp only [hb, cond_false]
    rw [okB_idx hm h, Nat.zero_add]
  | none =>
    have hge := List.getElem?_eq_none_iff.1 h
    have hb : Nat.ble n (n + (j - m.length)) = true := by rw [Nat.ble_eq]; omega
    simp only [hb, cond_true]; congr 1; omega
theorem to_of {o j : Nat} (h : ofB_ n m o = some j) : toB_ n m j = o := by
  unfold ofB_ at h
  cases hb : Nat.ble n o with
  | true =>
    simp only [hb, cond_true, Option.some.injEq] at h; subst h
    unfold toB_
    rw [List.getElem?_eq_none (by omega)]
    have := Nat.le_of_ble_eq_true hb
    show n + (m.length + (o - n) - m.length) = o
    omega
  | false =>
    simp only [hb, cond_false] at h
    obtain ⟨h1, h2⟩ := idxN_at h
    unfold toB_
    rw [show j = j - 0 from rfl, h2]
theorem of_ge {o : Nat} (h : n ≤ o) : ofB_ n m o = some (m.length + (o - n)) := by
  unfold ofB_
  have hb : Nat.ble n o = true := by rw [Nat.ble_eq]; exact h
  simp only [hb, cond_true]
theorem of_lt {o j : Nat} (h : o < n) (hj : ofB_ n m o = some j) : j < m.length := by
  unfold ofB_ at hj
  have hb : Nat.ble n o = false := by rw [Bool.eq_false_iff]; intro hc; have := Nat.le_of_ble_eq_true hc; omega
  simp only [hb, cond_false] at hj
  obtain ⟨_, h2⟩ := idxN_at hj
  have := (List.getElem?_eq_some_iff.1 h2).1
  omega
theorem length_big : (bigH n m H).length = n + (H.length - m.length) := by simp [bigH]
theorem hget_big (hl : m.length ≤ H.length) (o : Nat) : hget (bigH n m H) o = match ofB_ n m o with | some j => (hget H j).map (rnOb (toB_ n m)) | none => none := by
  by_cases ho : o < n + (H.length - m.length)
  · have : (bigH n m H)[o]? = some (match ofB_ n m o with | some j => (hget H j).map (rnOb (toB_ n m)) | none => none) := by
      unfold bigH
      rw [List.getElem?_map, List.getElem?_range ho]; rfl
    conv => lhs; unfold hget
    rw [this]
    cases ofB_ n m o with
    | none => rfl
    | some j => simp only; cases hget H j <;> rfl
  · have : (bigH n m H)[o]? = none := List.getElem?_eq_none (by rw [length_big]; omega)
    conv => lhs; unfold hget
    rw [this, of_ge (by omega)]
    have : hget H (m.length + (o - n)) = none := by
      unfold hget
      rw [List.getElem?_eq_none (by omega)]
    simp [this]
mutual
theorem VR.rn : ∀ (a : AV) (v : Value), VR w Y φ (rnA f a) v ↔ VR w Y (fun o => φ (f o)) a v
  | .pl p, v => by simp only [rnA, VR]
  | .un, v => by simp only [rnA, VR]
  | .ip cs i, v => by simp only [rnA, VR]
  | .own o, v => by simp only [rnA, VR]
  | .vw o i j, v => by simp only [rnA, VR]
  | .bp o i, v => by simp only [rnA, VR]
  | .ep o i j, v => by simp only [rnA, VR]
  | .mp o, v => by simp only [rnA, VR]
  | .it o, v => by simp only [rnA, VR]
  | .tup cs, v => by
    simp only [rnA, VR]
    exact ⟨fun ⟨vs, e, h⟩ => ⟨vs, e, (VRT.rn cs vs).1 h⟩, fun ⟨vs, e, h⟩ => ⟨vs, e, (VRT.rn cs vs).2 h⟩⟩
  | .clo k cs, v => by
    simp only [rnA, VR]
    exact ⟨fun ⟨vs, e, h⟩ => ⟨vs, e, (VRT.rn cs vs).1 h⟩, fun ⟨vs, e, h⟩ => ⟨vs, e, (VRT.rn cs vs).2 h⟩⟩
  | .agg cs, v => by
    simp only [rnA, VR]
    exact ⟨fun ⟨vs, e, h⟩ => ⟨vs, e, (VRL.rn cs vs).1 h⟩, fun ⟨vs, e, h⟩ => ⟨vs, e, (VRL.rn cs vs).2 h⟩⟩
theorem VRL.rn : ∀ (cs : List AV) (vs : List Value), VRL w Y φ (rnL f cs) vs ↔ VRL w Y (fun o => φ (f o)) cs vs
  | [], vs => by simp only [rnL, VRL]
  | c :: cs, vs => by
    have ho : oneA (rnA f c) = oneA c := by cases c <;> rfl
    simp only [rnL, VRL, ho]
    exact ⟨fun ⟨v, r, e, h0, h1, h2⟩ => ⟨v, r, e, h0, (VR.rn c v).1 h1, (VRL.rn cs r).1 h2⟩, fun ⟨v, r, e, h0, h1, h2⟩ => ⟨v, r, e, h0, (VR.rn c v).2 h1, (VRL.rn cs r).2 h2⟩⟩
theorem VRT.rn : ∀ (cs : List AV) (vs : List Value), VRT w Y φ (rnL f cs) vs ↔ VRT w Y (fun o => φ (f o)) cs vs
  | [], vs => by simp only [rnL, VRT]
  | c :: cs, vs => by
    simp only [rnL, VRT]
    exact ⟨fun ⟨v, r, e, h1, h2⟩ => ⟨v, r, e, (VR.rn c v).1 h1, (VRT.rn cs r).1 h2⟩, fun ⟨v, r, e, h1, h2⟩ => ⟨v, r, e, (VR.rn c v).2 h1, (VRT.rn cs r).2 h2⟩⟩
end
theorem OR.rn {z : Bool} {l : Loc} {x : Ob} : OR w Y φ z l (rnOb f x) ↔ OR w Y (fun o => φ (f o)) z l x := by
  cases x with
  | box cs =>
    simp only [rnOb, OR]
    exact ⟨fun ⟨a, b, t, vs, h1, h2, h3⟩ => ⟨a, b, t, vs, h1, h2, (VRL.rn cs vs).1 h3⟩, fun ⟨a, b, t, vs, h1, h2, h3⟩ => ⟨a, b, t, vs, h1, h2, (VRL.rn cs vs).2 h3⟩⟩
  | row _ _ _ => simp only [rnOb, OR]
  | map _ => simp only [rnOb, OR]
  | iter o k seen => simp only [rnOb, OR]
/-- The small memory's numbers, told by the large one's. -/
theorem small_ok (hm : okB n m = true) (hl : m.length = H.length) (h : HR X φ (bigH n m H) w) : HR X (fun j => φ (toB_ n m j)) H w ∧ YOf X (fun j => φ (toB_ n m j)) = YOf X φ := by
  have hY : YOf X (fun j => φ (toB_ n m j)) = YOf X φ := by
    funext b
    apply propext
    constructor
    · rintro (hx | ⟨o, l, p, h1, h2⟩)
      · exact .inl hx
      · exact .inr ⟨_, l, p, h1, h2⟩
    · rintro (hx | ⟨o, l, p, h1, h2⟩)
      · exact .inl hx
      · obtain ⟨x, hx⟩ := h.live o false l h1
        rw [hget_big (Nat.le_of_eq hl)] at hx
        cases hj : ofB_ n m o with
        | none => rw [hj] at hx; cases hx
        | some j => exact .inr ⟨j, l, p, by simp only [to_of hj]; exact h1, h2⟩
  refine ⟨⟨fun j hj => ?_, fun j z l h1 => ?_, fun j x hx => ?_, fun j j' l l' b p p' h1 h2 hA hA' => ?_, fun j l b p h1 hA => h.out _ l b p h1 hA, h.xlt⟩, hY⟩
  · refine h.fresh _ ?_
    rw [length_big]
    unfold toB_
    rw [List.getElem?_eq_none (by omega)]
    show n + (H.length - m.length) ≤ n + (j - m.length)
    omega
  · obtain ⟨x, hx⟩ := h.live _ z l h1
    rw [hget_big (Nat.le_of_eq hl), of_to hm] at hx
    simp only at hx
    cases hg : hget H j with
    | none => rw [hg] at hx; cases hx
    | some y => exact ⟨y, rfl⟩
  · have hb : hget (bigH n m H) (toB_ n m j) = some (rnOb (toB_ n m) x) := by rw [hget_big (Nat.le_of_eq hl), of_to hm]; simp [hx]
    obtain ⟨z, l, h1, h2⟩ := h.ob _ _ hb
    exact ⟨z, l, h1, by rw [hY]; exact OR.rn.1 h2⟩
  · have := h.inj _ _ l l' b p p' h1 h2 hA hA'
    have e1 := of_to hm j
    rw [this, of_to hm] at e1
    exact (Option.some.inj e1).symm
def bigPhi (n : Nat) (m : List Nat) (φ φ0 : Phi) : Phi := fun o => match ofB_ n m o with | some j => φ0 j | none => φ o
/-- What the call leaves, told by the large memory's numbers. -/
theorem big_ok (hm : okB n m = true) (hl : m.length = H.length) (h : HR X φ (bigH n m H) w) {φ0 : Phi} (k : HR X φ0 H' w') (ev : Ev (fun j => φ (toB_ n m j)) w φ0 w') (hlen : H.length ≤ H'.length) (hfr : ∀ j, j < H.length → φ (toB_ n m j) = .fresh → φ0 j = .fresh) :
    HR X (bigPhi n m φ φ0) (bigH n m H') w' ∧ Ev φ w (bigPhi n m φ φ0) w' ∧ YOf X (bigPhi n m φ φ0) = YOf X φ0 ∧ (∀ j, bigPhi n m φ φ0 (toB_ n m j) = φ0 j) ∧ (bigH n m H).length ≤ (bigH n m H').length ∧ ∀ o, o < (bigH n m H).length → φ o = .fresh → bigPhi n m φ φ0 o = .fresh := by
  have hin : ∀ j, bigPhi n m φ φ0 (toB_ n m j) = φ0 j := fun j => by unfold bigPhi; rw [of_to hm]
  have hle : m.length ≤ H'.length := by omega
  -- outside, nothing is told
  have hout : ∀ o, ofB_ n m o = none → ∀ z l, φ o ≠ .at z l := fun o ho z l e => by
    obtain ⟨x, hx⟩ := h.live o z l e
    rw [hget_big (Nat.le_of_eq hl), ho] at hx; cases hx
  have src : ∀ o z l, bigPhi n m φ φ0 o = .at z l → ∃ j, ofB_ n m o = some j ∧ φ0 j = .at z l := fun o z l e => by
    unfold bigPhi at e
    cases hj : ofB_ n m o with
    | none => rw [hj] at e; exact absurd e (hout o hj z l)
    | some j => rw [hj] at e; exact ⟨j, rfl, e⟩
  have hY : YOf X (bigPhi n m φ φ0) = YOf X φ0 := by
    funext b
    apply propext
    constructor
    · rintro (hx | ⟨o, l, p, h1, h2⟩)
      · exact .inl hx
      · obtain ⟨j, _, h3⟩ := src o false l h1
        exact .inr ⟨j, l, p, h3, h2⟩
    · rintro (hx | ⟨j, l, p, h1, h2⟩)
      · exact .inl hx
      · exact .inr ⟨toB_ n m j, l, p, by rw [hin]; exact h1, h2⟩
  refine ⟨⟨fun o ho => ?_, fun o z l h1 => ?_, fun o x hx => ?_, fun o o' l l' b p p' h1 h2 hA hA' => ?_, fun o l b p h1 hA => ?_, k.xlt⟩, ⟨ev.os, ev.tape, ev.output, ev.size, fun b hb hn => ev.heap b hb fun ⟨j, l, p, h1, h2⟩ => hn ⟨_, l, p, h1, h2⟩, fun b hb hc => ?_, fun o ho => ?_⟩, hY, hin, by rw [length_big, length_big]; omega, fun o ho hf => ?_⟩
  · rw [length_big] at ho
    unfold bigPhi
    rw [of_ge (by omega)]
    exact k.fresh _ (by omega)
  · obtain ⟨j, hj, h2⟩ := src o z l h1
    obtain ⟨x, hx⟩ := k.live j z l h2
    exact ⟨rnOb (toB_ n m) x, by rw [hget_big hle, hj]; simp [hx]⟩
  · rw [hget_big hle] at hx
    cases hj : ofB_ n m o with
    | none => rw [hj] at hx; cases hx
    | some j =>
      rw [hj] at hx
      obtain ⟨y, hy, rfl⟩ := Option.map_eq_some_iff.1 hx
      obtain ⟨z, l, h1, h2⟩ := k.ob j y hy
      refine ⟨z, l, by unfold bigPhi; rw [hj]; exact h1, ?_⟩
      rw [hY, OR.rn]
      have : (fun j => bigPhi n m φ φ0 (toB_ n m j)) = φ0 := funext hin
      rw [this]; exact h2
  · obtain ⟨j, hj, e1⟩ := src o false l h1
    obtain ⟨j', hj', e2⟩ := src o' false l' h2
    have := k.inj j j' l l' b p p' e1 e2 hA hA'
    rw [← to_of hj, ← to_of hj', this]
  · obtain ⟨j, hj, e1⟩ := src o false l h1
    exact k.out j l b p e1 hA
  · obtain ⟨o, l, p, h1, h2⟩ := hc
    obtain ⟨j, hj, e1⟩ := src o false l h1
    obtain ⟨j2, l2, p2, h3, h4⟩ := ev.blk b hb ⟨j, l, p, e1, h2⟩
    exact ⟨_, l2, p2, h3, h4⟩
  · unfold bigPhi
    cases hj : ofB_ n m o with
    | none => exact .inl rfl
    | some j =>
      have := ev.ids j (by simp only [to_of hj]; exact ho)
      simp only [to_of hj] at this
      exact this
  · rw [length_big] at ho
    unfold bigPhi
    cases hj : ofB_ n m o with
    | none => exact hf
    | some j => exact hfr j (by have := of_lt (by omega) hj; omega) (by rw [to_of hj]; exact hf)
theorem CallS.ren {k : Nat} {args args' : List AV} {v v' : AV} {B B' : Hp} (n : Nat) (m : List Nat) (h : CallS P true k args H v H') (hm : okB n m = true) (hl : Nat.beq m.length H.length = true) (ha : rnL (toB_ n m) args = args') (hv : rnA (toB_ n m) v = v') (hB : bigH n m H = B) (hB' : bigH n m H' = B') : CallS P true k args' B v' B' := by
  subst ha; subst hv; subst hB; subst hB'
  have hl := Nat.eq_of_beq_eq_true hl
  obtain ⟨h1, _, h3⟩ := h
  refine ⟨h1, fun h => by (cases h), fun _ X φ w vs hH hvs => ?_⟩
  obtain ⟨hs, hY⟩ := small_ok hm hl hH
  refine (h3 (fun h => by cases h) X _ w vs hs (by rw [hY]; exact (VRT.rn args vs).1 hvs)).mono fun e w' hr => ?_
  obtain ⟨r, hmem, u, φ0, he, k1, k2, k3, k4, k5⟩ := hr
  rw [List.mem_singleton] at hmem; subst hmem
  obtain ⟨b1, b2, b3, b4, b5, b6⟩ := big_ok hm hl hH k2 k3 k4 k5
  refine ⟨_, List.mem_singleton.2 rfl, u, _, he, ?_, b1, b2, b5, b6⟩
  rw [b3, VR.rn]
  have : (fun j => bigPhi n m φ φ0 (toB_ n m j)) = φ0 := funext b4
  rw [this]; exact k1
theorem CallX.ren {k : Nat} {args args' : List AV} {ch : List PanicEntry} {B B' : Hp} (n : Nat) (m : List Nat) (h : CallX P k args H ch H') (hm : okB n m = true) (hl : Nat.beq m.length H.length = true) (ha : rnL (toB_ n m) args = args') (hB : bigH n m H = B) (hB' : bigH n m H' = B') : CallX P k args' B ch B' := by
  subst ha; subst hB; subst hB'
  have hl := Nat.eq_of_beq_eq_true hl
  obtain ⟨h1, h3⟩ := h
  refine ⟨h1, fun X φ w vs hH hvs => ?_⟩
  obtain ⟨hs, hY⟩ := small_ok hm hl hH
  refine (h3 X _ w vs hs (by rw [hY]; exact (VRT.rn args vs).1 hvs)).mono fun e w' hr => ?_
  obtain ⟨he, φ0, k2, k3, k4, k5⟩ := hr
  obtain ⟨b1, b2, b3, b4, b5, b6⟩ := big_ok hm hl hH k2 k3 k4 k5
  exact ⟨he, _, b1, b2, b5, b6⟩
end
def eqNL : List Nat → List Nat → Bool
  | [], [] => true
  | a :: x, b :: y => Nat.beq a b && eqNL x y
  | _, _ => false
theorem eqNL_refl : ∀ x : List Nat, eqNL x x = true
  | [] => rfl
  | a :: x => by simp [eqNL, eqNL_refl x]
/-- Calls on different pieces of own memory are no same calls. -/
theorem same_refs {e f : Ent} (h : eqNL (refDL e.args) (refDL f.args) = false) : e.same f ∧ f.same e := by
  have ne : e.args ≠ f.args := fun k => by rw [k, eqNL_refl] at h; cases h
  exact ⟨fun _ k _ => absurd k ne, fun _ k _ => absurd k.symm ne⟩
def lenArg (l : List AV) (i : Nat) : Nat := match l[i]? with
  | some (.pl (.sl _ _ es)) => es.length
  | _ => 0
theorem same_len {e f : Ent} (i : Nat) (h : Nat.beq (lenArg e.args i) (lenArg f.args i) = false) : e.same f ∧ f.same e := by
  have ne : e.args ≠ f.args := fun k => by rw [k] at h; simp at h
  exact ⟨fun _ k _ => absurd k ne, fun _ k _ => absurd k.symm ne⟩
theorem same_val {e f : Ent} (h : e.args = f.args → e.v = f.v ∧ e.H' = f.H') : e.same f ∧ f.same e :=
  ⟨fun _ k _ => h k, fun _ k _ => ⟨(h k.symm).1.symm, (h k.symm).2.symm⟩⟩
theorem same_br {e f : Ent} (h : (e.br == f.br) = false) : e.same f ∧ f.same e := by
  have ne : e.br ≠ f.br := fun k => by rw [k] at h; simp at h
  exact ⟨fun k => absurd k ne, fun k => absurd k.symm ne⟩
theorem same_hlen {e f : Ent} (h : Nat.beq e.H.length f.H.length = false) : e.same f ∧ f.same e := by
  have ne : e.H ≠ f.H := fun k => by rw [k] at h; simp at h
  exact ⟨fun _ _ k => absurd k ne, fun _ _ k => absurd k.symm ne⟩
theorem vw_le {a b n : Nat} (h : a ≤ b) (k : b ≤ n) : a + (b - a) ≤ n := by omega
end Go.Proofs.Ytelblamgfbkhbaa
