/- Several texts in one. No condition. -/
import Derived.Test.YtelblamgfbkhbaaTW
import Derived.Shelf.SlSortCmp.NoneTotal
import Derived.Test.YtelblamgfbkhbaaTM
namespace Go.Proofs.Ytelblamgfbkhbaa
set_option linter.unusedSimpArgs false
set_option linter.unusedVariables false
open Go.RowKit Go.Sort
def flat1 : PV → Bool
 | .int _ _ => true
 | .bool _ => true
 | .str _ => true
 | _ => false
def valP : PV → Value
 | .int k n => .int k n
 | .bool b => .bool b
 | .str s => .string s
 | _ => .nilIface
section
variable {P : Program} {w w' : World} {X Y : Nat → Prop} {φ : Phi} {H : Hp}
theorem PR_flat {p : PV} (h : flat1 p = true) {v : Value} : PR w Y p v ↔ v = valP p := by
 cases p <;> simp [flat1] at h <;> simp [PR, valP]
theorem oneP_flat {p : PV} (h : flat1 p = true) : oneP p = true := by cases p <;> simp [flat1] at h <;> rfl
theorem oneC_flat (p : PV) : (valP p).oneCell' = true := by cases p <;> rfl
theorem PRL_flat : ∀ {cs : List PV}, (∀ p ∈ cs, flat1 p = true) → PRL w Y cs (cs.map valP)
 | [], _ => by simp only [PRL, List.map_nil]
 | c :: cs, h => by
  simp only [PRL, List.map_cons]
  exact ⟨valP c, cs.map valP, rfl, oneP_flat (h c (by simp)), (PR_flat (h c (by simp))).2 rfl, PRL_flat fun p hp => h p (by simp [hp])⟩
theorem grown (ev : Ev noPhi w noPhi w') : ∃ q os, w' = grow (w.drewN q) os := by
 refine ⟨w'.drawn - w.drawn, w'.heap.extract w.heap.size w'.heap.size, ?_⟩
 have hh : w'.heap = w.heap ++ w'.heap.extract w.heap.size w'.heap.size := by
  apply Array.ext_getElem?
  intro k
  rcases Nat.lt_or_ge k w.heap.size with hk | hk
  ·rw [Array.getElem?_append_left hk, ev.heap k hk (noBlk k)]
  ·rw [Array.getElem?_append_right hk]
   rcases Nat.lt_or_ge k w'.heap.size with hk2 | hk2
   ·rw [Array.getElem?_extract_of_lt (by have := ev.size; omega)]
    have e : w.heap.size + (k - w.heap.size) = k := by omega
    simp only [e]
    exact Array.getElem?_eq_getElem hk2
   ·rw [Array.getElem?_eq_none hk2, Array.getElem?_eq_none (by simp; omega)]
 have h1 := ev.os; have h2 := ev.tape; have h3 := ev.output.1; have h4 := ev.output.2
 obtain ⟨hp, tp, dr, os, out⟩ := w'
 obtain ⟨hp', tp', dr', os', out'⟩ := w
 simp only at h1 h2 h3 h4 hh
 subst h1 h2 h3
 simp only [grow, World.drewN, World.mk.injEq, true_and, and_true]
 exact ⟨hh, by omega⟩
theorem cmp_lays {S : Type} [Inhabited S] {cells : S → List PV} {g n : Nat} (hf : ∀ x, ∀ p ∈ cells x, flat1 p = true) {cf : S → S → Int}
  (hc : ∀ x y, Qq P false g [.pl (.agg (cells x)), .pl (.agg (cells y))] [] (.pl (.int .i64 (cf x y))) []) (b p m : Nat) : CmpLays P g #[] (fun x => (cells x).map valP) n cf b p m w := by
 intro m' os dk _ x y
 generalize sortWorldK (fun x => (cells x).map valP) n w b p m' dk os = W
 have hE : HR (fun _ => False) noPhi [] W := HR.empty fun b hb => hb.elim
 have := (hc x y).2.2 (fun _ => rfl) (fun _ => False) noPhi W [.agg ((cells x).map valP).toArray, .agg ((cells y).map valP).toArray] hE
  (by simp only [VRT, VR]; exact ⟨_, _, rfl, by simp only [PR]; exact ⟨_, rfl, PRL_flat (hf x)⟩, _, _, rfl, by simp only [PR]; exact ⟨_, rfl, PRL_flat (hf y)⟩, rfl⟩)
 refine this.mono fun e w' hr => ?_
 obtain ⟨r, hm, v, φ', he, hv, hH', ev, _, _⟩ := hr
 rw [List.mem_singleton] at hm; subst hm
 have hφ : φ' = noPhi := funext fun o => hH'.fresh o (Nat.zero_le _)
 subst hφ
 simp only [VR, PR] at hv; subst hv
 exact ⟨he, grown ev⟩
end
noncomputable def sortL {S : Type} [Inhabited S] (cf : S → S → Int) (xs : List S) : List S := (pdq (ltOf cf) xs.toArray 0 xs.length (Go.Lib.bitLen xs.length) true true).toList
theorem sortL_perm {S : Type} [Inhabited S] {cf : S → S → Int} (hO : SWO (ltOf cf)) (xs : List S) : (sortL cf xs).Perm xs := by
 have h := (pdq_sorts (ltOf cf) hO xs.toArray 0 xs.length (Go.Lib.bitLen xs.length) true true (Nat.zero_le _) (by simp) (Or.inl rfl)).1
 obtain ⟨h1, _, h3⟩ := h
 unfold sortL
 generalize pdq (ltOf cf) xs.toArray 0 xs.length (Go.Lib.bitLen xs.length) true true = d at h1 h3
 simp only [List.size_toArray] at h1
 have e1 : d.extract 0 xs.length = d := by rw [← h1]; exact Array.extract_size
 have e2 : xs.toArray.extract 0 xs.length = xs.toArray := by simp
 rw [e1, e2] at h3
 exact h3
theorem sortL_len {S : Type} [Inhabited S] {cf : S → S → Int} (hO : SWO (ltOf cf)) (xs : List S) : (sortL cf xs).length = xs.length := (sortL_perm hO xs).length_eq
theorem sortL_sorted {S : Type} [Inhabited S] {cf : S → S → Int} (hO : SWO (ltOf cf)) (xs : List S) : (sortL cf xs).Pairwise fun x y => ltOf cf y x = false := by
 have h := (pdq_sorts (ltOf cf) hO xs.toArray 0 xs.length (Go.Lib.bitLen xs.length) true true (Nat.zero_le _) (by simp) (Or.inl rfl)).2
 have hl := sortL_len hO xs
 unfold sortL at hl ⊢
 generalize pdq (ltOf cf) xs.toArray 0 xs.length (Go.Lib.bitLen xs.length) true true = d at h hl
 simp only [Array.length_toList] at hl
 rw [List.pairwise_iff_getElem]
 intro i j hi hj hij
 simp only [Array.length_toList] at hi hj
 have := h i j (Nat.zero_le _) hij (by omega)
 rw [getElem!_pos d j hj, getElem!_pos d i hi] at this
 simpa using this
section
variable {P : Program} {w : World} {X Y : Nat → Prop} {φ : Phi} {H : Hp} {ρ : Go.Shelf.Ren}
theorem holds_of {S : Type} [Inhabited S] {cells : S → List PV} {n b p : Nat} (hn : ∀ x, (cells x).length = n) (hf : ∀ x, ∀ q ∈ cells x, flat1 q = true) {xs : List S} (h : PRE w Y b n p (xs.map cells)) {cs : Array Value} {t : TypeId}
  (hb : w.heap[b]? = some (.cells cs t (0, 0))) : HoldsK (fun x => (cells x).map valP) n w b p xs.toArray := by
 intro j hj
 rw [size_flatK, List.size_toArray] at hj
 have hn0 : 0 < n := by rcases Nat.eq_zero_or_pos n with h0 | h0; · subst h0; simp at hj
                        ·exact h0
 have hi : j / n < xs.length := Nat.div_lt_of_lt_mul (by rw [Nat.mul_comm]; exact hj)
 have hm : j % n < n := Nat.mod_lt _ hn0
 refine ⟨?_, by simp [World.frozen?, hb]⟩
 rw [get_flatK _ _ _ _ (by rw [List.size_toArray]; exact hj)]
 have he : (xs.map cells)[j / n]? = some (cells xs[j / n]) := by rw [List.getElem?_map, List.getElem?_eq_getElem hi]; rfl
 obtain ⟨_, hc⟩ := h.at he
 have hlt : j % n < (cells xs[j / n]).length := by rw [hn]; exact hm
 obtain ⟨v, hv, _, hpv⟩ := hc.at (List.getElem?_eq_getElem hlt)
 rw [(PR_flat (hf _ _ (List.getElem_mem hlt))).1 hpv] at hv
 rw [show p + j / n * n + j % n = p + j from by have := Nat.div_add_mod' j n; omega] at hv
 rw [hv, getElem!_pos xs.toArray (j / n) (by simpa using hi)]
 have e2 : j % n < ((cells xs[j / n]).map valP).length := by simpa using hlt
 simp only [List.getElem_toArray, id]
 rw [getElem!_pos ((cells xs[j / n]).map valP) (j % n) e2, List.getElem_map]
theorem holds_pre {S : Type} [Inhabited S] {cells : S → List PV} {n b p : Nat} (hn : ∀ x, (cells x).length = n) (hf : ∀ x, ∀ q ∈ cells x, flat1 q = true) {d : Array S} (h : HoldsK (fun x => (cells x).map valP) n w b p d) : PRE w Y b n p (d.toList.map cells) := by
 refine PRE.of fun i e hi => ?_
 rw [List.getElem?_map] at hi
 obtain ⟨x, hx, rfl⟩ := Option.map_eq_some_iff.1 hi
 obtain ⟨hi', hx'⟩ := List.getElem?_eq_some_iff.1 hx
 simp only [Array.length_toList] at hi'
 refine ⟨hn x, PRC.of_vals (PRL_flat (hf x)) fun j v hj => ?_⟩
 obtain ⟨hj', hv⟩ := List.getElem?_eq_some_iff.1 hj
 have hjn : j < n := by rw [← hn x]; simpa using hj'
 have := (HoldsK.cell h hi' hjn).1
 rw [this, getElem!_pos d i hi']
 have ex : d[i] = x := by simpa using hx'
 rw [ex, getElem!_pos ((cells x).map valP) j hj', hv]
theorem hget_one {x y : Ob} {o : Nat} {z : Ob} (h : hget [some x] o = some z) : hget [some y] o = some y ∧ o = 0 ∧ z = x := by
 match o, h with
 | 0, h => exact ⟨rfl, rfl, (Option.some.inj h).symm⟩
 | k + 1, h => simp [hget] at h
theorem sort_callS {S : Type} [Inhabited S] {cells : S → List PV} {K g n : Nat} (L : SlLaysF0.n6 P ρ) (hK : ρ.f 6 = K) (aE : ∀ w, (isAgg (ρ.t 24)).run P w = .ok true w) (zE : ∀ w, (Go.sizeOf (ρ.t 24)).run P w = .ok n w)
  (eK : Enters P K) (hn : ∀ x, (cells x).length = n) (hf : ∀ x, ∀ q ∈ cells x, flat1 q = true) (cf : S → S → Int) (hO : SWO (ltOf cf))
  (hc : ∀ x y, Qq P false g [.pl (.agg (cells x)), .pl (.agg (cells y))] [] (.pl (.int .i64 (cf x y))) []) (xs : List S) (hlen : xs.length < 4611686018427387904) :
  Qq P true K [.own 0, .pl (.fn g)] [some (.row false n (xs.map cells))] (.tup []) [some (.row false n ((sortL cf xs).map cells))] := by
 refine ⟨eK, ⟨(fun (h : true = false) => by cases h), fun _ X φ w vs hH hvs => ?_⟩⟩
 simp only [VRT] at hvs
 obtain ⟨v0, _, rfl, hv0, v1, _, rfl, hv1, rfl⟩ := hvs
 simp only [VR, PR] at hv0 hv1
 subst hv1
 obtain ⟨z, l, hl, hob⟩ := hH.ob 0 _ rfl
 simp only [OR] at hob
 obtain ⟨rfl, h1, h2, h3, h4, h5⟩ := hob
 have hv0 := hv0.2.2 _ _ hl
 subst hv0
 rw [List.length_map] at h1
 have fin : ∀ {w' : World} {xs' : List S}, xs'.length = xs.length → Ev φ w φ w' → HR X φ [some (.row false n (xs'.map cells))] w' → Ret X φ [some (.row false n (xs.map cells))] w [(.tup [], [some (.row false n (xs'.map cells))])] (.returned (.tuple #[])) w' := fun hl ev hr =>
  ⟨_, List.mem_singleton.2 rfl, .tuple #[], φ, rfl, by simp only [VR]; exact ⟨[], rfl, by simp only [VRT]⟩, hr, ev, Nat.le_refl _, fun _ _ h => h⟩
 rcases h5 with ⟨hA, hc0⟩ | ⟨b, p, t, cs, hA, hb, hp, hpre, _⟩
 ·have hx0 : xs = [] := List.length_eq_zero_iff.1 (by omega)
  subst hx0
  have := AnyF.slices_SortFunc_none L (l.addr 0) l.c (.func (.func g) #[] #[]) w
  rw [hK] at this
  rw [h1]
  refine this.mono fun e w' ⟨he, hw⟩ => ?_
  subst he hw
  have es : sortL cf ([] : List S) = [] := List.length_eq_zero_iff.1 (by rw [sortL_len hO]; rfl)
  rw [es]
  exact fin rfl (Ev.refl φ _) hH
 ·have hpre' := hpre
  have hblk : b < w.heap.size := (Array.getElem?_eq_some_iff.1 hb).1
  have hHo := holds_of hn hf hpre hb
  have hsz : xs.toArray.size < 4611686018427387904 := by rw [List.size_toArray]; exact hlen
  have := AnyQ.slices_SortFunc_eq L n aE zE (fun x => (cells x).map valP) (fun x => by rw [List.length_map, hn]) (fun x v hv => by obtain ⟨q, _, rfl⟩ := List.mem_map.1 hv; exact oneC_flat q) cf hO g #[] b p l.c xs.toArray w ((hc default default).1) (cmp_lays hf hc b p _) hHo hblk hsz
  rw [hK] at this
  have ea : l.addr 0 = some ⟨b, p, none⟩ := by unfold Loc.addr; rw [hA]; simp
  rw [ea, h1]
  rw [List.size_toArray] at this
  refine this.mono fun e w' ⟨he, m, os, hw⟩ => ?_
  have hsz' : (pdq (ltOf cf) xs.toArray 0 xs.length (Go.Lib.bitLen xs.length) true true).size = xs.length := by
   have := sortL_len hO xs
   unfold sortL at this
   simpa using this
  have hHo' := holdsK_sortWorldK_c (fun x => (cells x).map valP) n w b p xs.toArray (pdq (ltOf cf) xs.toArray 0 xs.length (Go.Lib.bitLen xs.length) true true) m os hHo hblk (by rw [hsz', List.size_toArray])
  rw [← hw] at hHo'
  have hpre2 := holds_pre (Y := YOf X φ) hn hf hHo'
  have hheap : w'.heap = (w.heap.modify b (onCells (putCells id p (flatK (fun x => (cells x).map valP) n (pdq (ltOf cf) xs.toArray 0 xs.length (Go.Lib.bitLen xs.length) true true))))) ++ os := by rw [hw]; rfl
  have hgb : w'.heap[b]? = some (.cells (putCells id p (flatK (fun x => (cells x).map valP) n (pdq (ltOf cf) xs.toArray 0 xs.length (Go.Lib.bitLen xs.length) true true)) cs) t (0, 0)) := by
   rw [hheap, Array.getElem?_append_left (by simpa using hblk), Array.getElem?_modify, if_pos rfl, hb]
   rfl
  have hgo : ∀ k, k < w.heap.size → k ≠ b → w'.heap[k]? = w.heap[k]? := fun k hk hne => by
   rw [hheap, Array.getElem?_append_left (by simpa using hk), Array.getElem?_modify, if_neg (Ne.symm hne)]
  have ev : Ev φ w φ w' := by
   refine ⟨by rw [hw]; rfl, by rw [hw]; rfl, ⟨by rw [hw]; rfl, by rw [hw]; exact Nat.le_add_right _ _⟩, by rw [hheap]; simp, fun k hk hnk => hgo k hk fun e => hnk ⟨0, l, p, hl, by rw [e]; exact hA⟩, fun _ _ h => h, fun _ _ => .inl rfl⟩
  subst he
  refine fin (sortL_len hO xs) ev ?_
  refine hH.next ev (fun o ho => hH.fresh o ho) (fun o z' l' ho => ?_) (fun o x hx => ?_) (fun o l' b' p' ho hA' => .inl ho)
  ·obtain ⟨x, hx⟩ := hH.live o z' l' ho
   exact ⟨_, (hget_one (y := .row false n ((sortL cf xs).map cells)) hx).1⟩
  ·obtain ⟨rfl, rfl⟩ := (hget_one (y := .row false n (xs.map cells)) hx).2
   refine .inr ⟨false, l, hl, ?_⟩
   simp only [OR]
   refine ⟨trivial, by rw [List.length_map, sortL_len hO]; exact h1, h2, h3, h4, .inr ⟨b, p, t, _, hA, hgb, ?_, hpre2, fun h => by cases h⟩⟩
   rw [show (putCells id p (flatK (fun x => (cells x).map valP) n (pdq (ltOf cf) xs.toArray 0 xs.length (Go.Lib.bitLen xs.length) true true)) cs).size = cs.size by simp [putCells]]
   exact hp
end
end Go.Proofs.Ytelblamgfbkhbaa
namespace Go.Proofs.Ytelblamgfbkhbaa
set_option linter.unusedVariables false
open Go.Sort
theorem nblt {a b : Nat} : Nat.blt a b = true ↔ a < b := by rw [Nat.blt_eq]
theorem nblt_f {a b : Nat} : Nat.blt a b = false ↔ b ≤ a := by
 cases h : Nat.blt a b with
 | true => simp only [reduceCtorEq, false_iff]; have := nblt.1 h; omega
 | false =>
  simp only [true_iff]
  rcases Nat.lt_or_ge a b with k | k
  ·rw [nblt.2 k] at h; cases h
  ·exact k
theorem blt_irrefl : ∀ a : List UInt8, Qax a a = false
 | [] => rfl
 | x :: a => by simp [Qax, blt_irrefl a, nblt_f]
theorem blt_trans : ∀ {a b c : List UInt8}, Qax a b = true → Qax b c = true → Qax a c = true
 | a, [], c, h, _ => by cases a <;> simp [Qax] at h
 | a, _ :: _, [], _, k => by simp [Qax] at k
 | [], _ :: _, _ :: _, _, _ => by simp [Qax]
 | x :: a, y :: b, z :: c, h, k => by
  simp only [Qax, Bool.or_eq_true, Bool.and_eq_true, nblt, Nat.beq_eq] at h k ⊢
  rcases h with h | ⟨h1, h2⟩ <;> rcases k with k | ⟨k1, k2⟩
  ·exact .inl (by omega)
  ·exact .inl (by omega)
  ·exact .inl (by omega)
  ·exact .inr ⟨by omega, blt_trans h2 k2⟩
theorem blt_total : ∀ {a b : List UInt8}, Qax a b = false → Qax b a = false → a = b
 | [], [], _, _ => rfl
 | [], _ :: _, h, _ => by simp [Qax] at h
 | _ :: _, [], _, k => by simp [Qax] at k
 | x :: a, y :: b, h, k => by
  simp only [Qax, Bool.or_eq_false_iff, nblt_f] at h k
  have e : x = y := UInt8.toNat_inj.1 (by omega)
  subst e
  have hb : Nat.beq x.toNat x.toNat = true := Nat.beq_refl _
  rw [hb, Bool.true_and] at h k
  rw [blt_total h.2 k.2]
theorem Qca (a : ByteArray) : slt a a = false := blt_irrefl _
theorem Qck {a b c : ByteArray} (h : slt a b = true) (k : slt b c = true) : slt a c = true := blt_trans h k
theorem slt_total {a b : ByteArray} (h : slt a b = false) (k : slt b a = false) : a = b := by
 have := blt_total h k
 cases a; cases b
 congr 1
 exact Array.ext' this
theorem slt_asymm {a b : ByteArray} (h : slt a b = true) : slt b a = false := by
 cases k : slt b a with
 | false => rfl
 | true => have := Qck h k; rw [Qca] at this; cases this
theorem Qag (a : ByteArray) : seq a a = true := by simp [seq]
theorem Qbu {a b : ByteArray} : seq a b = true ↔ a = b := ⟨fun h => bytes_eq (by simpa [seq] using h), fun h => by subst h; exact Qag a⟩
def cmpB (a b : ByteArray) : Int := bif slt a b then -1 else bif slt a b || seq a b then 0 else 1
theorem Qco {a b : ByteArray} : cmpB a b < 0 ↔ slt a b = true := by
 unfold cmpB
 cases slt a b <;> cases seq a b <;> simp
theorem cmpB_zero {a b : ByteArray} : cmpB a b = 0 ↔ a = b := by
 unfold cmpB
 cases h : slt a b with
 | true => simp; intro e; subst e; rw [Qca] at h; cases h
 | false => cases k : seq a b with
  | true => simp; exact Qbu.1 k
  | false => simp; intro e; subst e; rw [Qag] at k; cases k
theorem cmpB_pos {a b : ByteArray} : 0 < cmpB a b ↔ slt b a = true := by
 constructor
 ·intro h
  cases k : slt b a with
  | true => rfl
  | false =>
   cases k2 : slt a b with
   | true => have := Qco.2 k2; omega
   | false => have := cmpB_zero.2 (slt_total k2 k); omega
 ·intro h
  rcases Int.lt_trichotomy (cmpB a b) 0 with k | k | k
  ·rw [slt_asymm (Qco.1 k)] at h; cases h
  ·rw [cmpB_zero.1 k, Qca] at h; cases h
  ·exact k
theorem swo_key {S : Type} (f : S → ByteArray) : SWO (ltOf fun x y => cmpB (f x) (f y)) where
 irrefl x := by simp only [ltOf, decide_eq_false_iff_not, Qco, Qca]; decide
 trans x y z h k := by
  simp only [ltOf, decide_eq_true_eq, Qco] at h k ⊢
  exact Qck h k
 ntrans x y z h k := by
  simp only [ltOf, decide_eq_false_iff_not, Qco, Bool.not_eq_true] at h k ⊢
  cases h2 : slt (f x) (f z) with
  | false => rfl
  | true =>
   cases h3 : slt (f y) (f x) with
   | true => rw [Qck h3 h2] at k; cases k
   | false => rw [slt_total h h3] at h2; rw [h2] at k; cases k
section
variable {S : Type} (f : S → ByteArray)
def insB (x : S) : List S → List S
 | [] => [x]
 | y :: ys => bif slt (f y) (f x) then y :: insB x ys else x :: y :: ys
def isort : List S → List S
 | [] => []
 | x :: xs => insB f x (isort xs)
def nodupK : List S → Bool
 | [] => true
 | x :: xs => xs.all (fun y => !(seq (f x) (f y))) && nodupK xs
theorem insB_perm (x : S) : ∀ l : List S, (insB f x l).Perm (x :: l)
 | [] => List.Perm.refl _
 | y :: ys => by
  unfold insB
  cases slt (f y) (f x) with
  | true => exact ((insB_perm x ys).cons y).trans (List.Perm.swap x y ys)
  | false => exact List.Perm.refl _
theorem Qcb : ∀ l : List S, (isort f l).Perm l
 | [] => List.Perm.refl _
 | x :: xs => (insB_perm f x _).trans ((Qcb xs).cons x)
theorem insB_sorted (x : S) : ∀ {l : List S}, l.Pairwise (fun a b => slt (f b) (f a) = false) → (insB f x l).Pairwise fun a b => slt (f b) (f a) = false
 | [], _ => by simp [insB]
 | y :: ys, h => by
  have h' := List.pairwise_cons.1 h
  unfold insB
  cases k : slt (f y) (f x) with
  | true =>
   refine List.pairwise_cons.2 ⟨fun z hz => ?_, insB_sorted x h'.2⟩
   rcases List.mem_cons.1 ((insB_perm f x ys).mem_iff.1 hz) with rfl | hz
   ·exact slt_asymm k
   ·exact h'.1 z hz
  | false =>
   refine List.pairwise_cons.2 ⟨fun z hz => ?_, h⟩
   rcases List.mem_cons.1 hz with rfl | hz
   ·exact k
   ·cases k2 : slt (f z) (f x) with
    | false => rfl
    | true =>
     have h3 := h'.1 z hz
     cases k4 : slt (f x) (f y) with
     | true => rw [Qck k2 k4] at h3; cases h3
     | false => rw [slt_total k4 k, h3] at k2; cases k2
theorem isort_sorted : ∀ l : List S, (isort f l).Pairwise fun a b => slt (f b) (f a) = false
 | [] => List.Pairwise.nil
 | x :: xs => insB_sorted f x (isort_sorted xs)
theorem nodupK_ne {x y : S} {xs : List S} (h : nodupK f (x :: xs) = true) (hy : y ∈ xs) : f x ≠ f y := by
 unfold nodupK at h
 rw [Bool.and_eq_true, List.all_eq_true] at h
 have := h.1 y hy
 intro e
 rw [e, Qag] at this
 cases this
theorem sorted_uniq : ∀ {xs ys : List S}, xs.Perm ys → xs.Pairwise (fun a b => slt (f b) (f a) = false) → ys.Pairwise (fun a b => slt (f b) (f a) = false) → xs.Pairwise (fun a b => f a ≠ f b) → xs = ys
 | [], ys, h, _, _, _ => (List.nil_perm.1 h).symm
 | x :: xs, [], h, _, _, _ => absurd h.length_eq (by simp)
 | x :: xs, y :: ys, h, sx, sy, nd => by
  have sx' := List.pairwise_cons.1 sx
  have sy' := List.pairwise_cons.1 sy
  have nd' := List.pairwise_cons.1 nd
  have e : x = y := by
   rcases List.mem_cons.1 (h.mem_iff.1 List.mem_cons_self) with e | hx
   ·exact e
   ·rcases List.mem_cons.1 (h.mem_iff.2 List.mem_cons_self) with e | hy
    ·exact e.symm
    ·exact absurd (slt_total (sy'.1 x hx) (sx'.1 y hy)) (nd'.1 y hy)
  subst e
  rw [sorted_uniq (List.Perm.cons_inv h) sx'.2 sy'.2 nd'.2]
theorem nodupK_pw : ∀ {xs : List S}, nodupK f xs = true → xs.Pairwise (fun a b => f a ≠ f b)
 | [], _ => List.Pairwise.nil
 | x :: xs, h => List.pairwise_cons.2 ⟨fun y hy => nodupK_ne f h hy, nodupK_pw (by unfold nodupK at h; rw [Bool.and_eq_true] at h; exact h.2)⟩
theorem nodupK_of : ∀ {xs : List S}, xs.Pairwise (fun a b => f a ≠ f b) → nodupK f xs = true
 | [], _ => rfl
 | x :: xs, h => by
  have h' := List.pairwise_cons.1 h
  unfold nodupK
  rw [Bool.and_eq_true, List.all_eq_true]
  refine ⟨fun y hy => ?_, nodupK_of h'.2⟩
  cases k : seq (f x) (f y) with
  | false => rfl
  | true => exact absurd (Qbu.1 k) (h'.1 y hy)
theorem sortL_isort [Inhabited S] {xs : List S} (h : nodupK f xs = true) : sortL (fun x y => cmpB (f x) (f y)) xs = isort f xs := by
 have hp := sortL_perm (swo_key f) xs
 refine (sorted_uniq f ((Qcb f xs).trans hp.symm) (isort_sorted f xs) ?_ ?_).symm
 ·refine (sortL_sorted (swo_key f) xs).imp fun {a b} hab => ?_
  simp only [ltOf, decide_eq_false_iff_not, Qco, Bool.not_eq_true] at hab
  exact hab
 ·exact ((Qcb f xs).pairwise_iff (fun {a b} hab => Ne.symm hab)).2 (nodupK_pw f h)
end
end Go.Proofs.Ytelblamgfbkhbaa
