/- Walks through maps: whatever the order. No condition. -/
import Derived.Test.YtelblamgfbkhbaaTL
namespace Go.Proofs.Ytelblamgfbkhbaa
set_option linter.unusedSimpArgs false
set_option linter.unusedVariables false
open Go.RowKit
open Classical in
/-- What a list's walk gives, if it gives the same in each order. -/
noncomputable def anyOrder {α β : Type} (E : List α) (g : List α → Option β) : Option β := match E with
  | [] => g []
  | [x] => g [x]
  | x :: y :: l => if h : ∃ o, ∀ p, p.Perm (x :: y :: l) → g p = some o then some h.choose else none
theorem anyOrder_at {α β : Type} {E : List α} {g : List α → Option β} {o : β} (h : anyOrder E g = some o) : ∀ p, p.Perm E → g p = some o := by
  unfold anyOrder at h
  split at h
  · intro p hp; rw [List.Perm.eq_nil hp]; exact h
  · rename_i x; intro p hp; rw [List.perm_singleton.1 hp]; exact h
  · split at h
    · rename_i hx
      simp only [Option.some.injEq] at h; subst h
      exact hx.choose_spec
    · cases h
theorem anyOrder_of {α β : Type} {E : List α} {g : List α → Option β} {o : β} (h : ∀ p, p.Perm E → g p = some o) : anyOrder E g = some o := by
  unfold anyOrder
  split
  · exact h [] (List.Perm.refl _)
  · exact h _ (List.Perm.refl _)
  · rename_i x y l
    have hx : ∃ o, ∀ p, p.Perm (x :: y :: l) → g p = some o := ⟨o, h⟩
    rw [dif_pos hx, ← hx.choose_spec _ (List.Perm.refl _), h _ (List.Perm.refl _)]
/-- The entries at these places. -/
def ords {α : Type} (E : List α) (p : List Nat) : List α := p.filterMap fun j => E[j]?
theorem ords_cons {α : Type} {E : List α} {j : Nat} {x : α} {p : List Nat} (h : E[j]? = some x) : ords E (j :: p) = x :: ords E p := by
  unfold ords; rw [List.filterMap_cons]; simp only [h]
theorem ords_range {α : Type} (E : List α) : ords E (List.range E.length) = E := by
  unfold ords
  apply List.ext_getElem?
  intro i
  have key : ∀ (k : Nat) (l : List α), (∀ j, j < l.length → E[k + j]? = l[j]?) → (List.range' k l.length).filterMap (fun j => E[j]?) = l := by
    intro k l
    induction l generalizing k with
    | nil => intro _; rfl
    | cons a r ih =>
      intro h
      have h0 := h 0 (by simp)
      simp only [Nat.add_zero, List.getElem?_cons_zero] at h0
      rw [List.length_cons, List.range'_succ, List.filterMap_cons]
      simp only [h0]
      rw [ih (k + 1) fun j hj => by have := h (j + 1) (by simpa using hj); rw [show k + 1 + j = k + (j + 1) from by omega, this]; simp]
  rw [List.range_eq_range', key 0 E fun j _ => by rw [Nat.zero_add]]
theorem ords_perm {α : Type} {E : List α} {p : List Nat} (h : p.Perm (List.range E.length)) : (ords E p).Perm E := by
  have := List.Perm.filterMap (fun j => E[j]?) h
  rw [show List.filterMap (fun j => E[j]?) (List.range E.length) = E from ords_range E] at this
  exact this
/-- The places that were not met yet. -/
structure Rem (m : Nat) (seen rem : List Nat) : Prop where
  nodup : rem.Nodup
  mem : ∀ j, j ∈ rem ↔ j < m ∧ j ∉ seen
theorem Rem.start (m : Nat) : Rem m [] (List.range m) := ⟨List.nodup_range, fun j => by simp⟩
theorem Rem.step {m : Nat} {seen rem : List Nat} {j : Nat} (h : Rem m seen rem) (hj : j < m) (hs : j ∉ seen) : Rem m (seen ++ [j]) (rem.erase j) ∧ (rem.erase j).length + 1 = rem.length ∧ ∀ p, p.Perm (rem.erase j) → (j :: p).Perm rem := by
  have hm : j ∈ rem := (h.mem j).2 ⟨hj, hs⟩
  refine ⟨⟨h.nodup.erase j, fun q => ?_⟩, ?_, fun p hp => (hp.cons j).trans (List.perm_cons_erase hm).symm⟩
  · rw [h.nodup.mem_erase_iff, h.mem, List.mem_append, List.mem_singleton]
    constructor
    · rintro ⟨h1, h2, h3⟩; exact ⟨h2, fun hc => hc.elim h3 h1⟩
    · rintro ⟨h1, h2⟩; exact ⟨fun hc => h2 (.inr hc), h1, fun hc => h2 (.inl hc)⟩
  · rw [List.length_erase_of_mem hm]
    have := List.length_pos_of_mem hm
    omega
theorem Rem.none {m : Nat} {seen rem : List Nat} (h : Rem m seen rem) (hs : ∀ j, j < m → j ∈ seen) : rem = [] := by
  cases rem with
  | nil => rfl
  | cons a r =>
    obtain ⟨h1, h2⟩ := (h.mem a).1 List.mem_cons_self
    exact absurd (hs a h1) h2
theorem mkv_at {K V : Type} {kp : K → PV} {vp : V → PV} {E : List (K × V)} {j : Nat} {k v : PV} (h : (E.map (mkv kp vp))[j]? = some (k, v)) : ∃ x, E[j]? = some x ∧ k = kp x.1 ∧ v = vp x.2 := by
  rw [List.getElem?_map] at h
  cases hx : E[j]? with
  | none => rw [hx] at h; cases h
  | some x =>
    rw [hx] at h
    simp only [Option.map_some, Option.some.injEq, mkv, Prod.mk.injEq] at h
    exact ⟨x, rfl, h.1.symm, h.2.symm⟩
theorem at_mkv {K V : Type} {kp : K → PV} {vp : V → PV} {E : List (K × V)} {j : Nat} {x : K × V} (h : E[j]? = some x) : (E.map (mkv kp vp))[j]? = some (kp x.1, vp x.2) := by rw [List.getElem?_map, h]; rfl
theorem T.oneNext {P : Program} {C : Cfg} {n base : Nat} {st : Tr × Hp} (hC : CfgOK P C) {c : Code} {x : Operand} {t tb i o m : Nat} {seen : List Nat} {kvs : List (PV × PV)} {Q : Ex × Tr × Hp → Prop} (hs : isSeq c = true) (hq : isNextQ (cL c) = some (x, t, tb)) (ht : Nat.blt t n = true) (hx : val st.1 x = .it i) (hi : hget st.2 i = some (.iter o m seen)) (ho : hget st.2 o = some (.map kvs)) (hm : kvs.length = m)
    (h0 : (∀ j, j < m → j ∈ seen) → T P n base (dropC 1 c) (nextS n st t tb [] false st.2) Q)
    (h1 : ∀ j k v, j < m → j ∉ seen → kvs[j]? = some (k, v) → T P n base (dropC 1 c) (nextS n st t tb [.pl k, .pl v] true (hset st.2 i (some (.iter o m (seen ++ [j]))))) Q) : T P n base c st Q :=
  T.one hs (T.next hC hq ht hx hi ho hm (Q := ThenQ P n base (dropC 1 c) Q) (fun h => ThenQ.norm (h0 h)) fun j k v a b d => ThenQ.norm (h1 j k v a b d)) fun r hr => by
    obtain ⟨ex, s⟩ := r
    cases ex <;> exact hr
/-! ### bytes -/
def toB (l : List Int) : List UInt8 := l.map fun n => UInt8.ofNat n.toNat
theorem bytes_map : ∀ l : List Int, bytesOf (l.map (cInt .u8)) = some (toB l)
  | [] => rfl
  | n :: l => by
    have := bytes_map l
    simp only [List.map_cons, cInt, bytesOf, toB] at this ⊢
    rw [this]; rfl
def ofB (s : ByteArray) : List Int := s.data.toList.map fun c => (c.toNat : Int)
def sOf (l : List Int) : ByteArray := ⟨(toB l).toArray⟩
theorem ofB_cv {s : ByteArray} : (s.data.toList.map fun c => ([.int .u8 (c.toNat : Int)] : List PV)) = (ofB s).map (cInt .u8) := by
  unfold ofB
  rw [List.map_map]; rfl
/-! ### bounds of a part -/
def cutB (a b : Int) (n : Nat) : Bool := decide (0 ≤ a ∧ a ≤ b ∧ b ≤ (n : Int))
section
variable {α : Type} {c : α → List PV} {xs : List α} {lo hi : Int} {n : Nat}
theorem cut_hl_1 (h : cutB lo hi n = true) : hi = ((hi.toNat : Nat) : Int) := by have := of_decide_eq_true h; omega
theorem cut_hl_1_map {c : α → List PV} {n : Nat} (h : cutB lo hi n = true) : hi = ((hi.toNat : Nat) : Int) := by have := of_decide_eq_true h; omega
theorem cut_hl_2 (h : cutB lo hi n = true) : lo = ((lo.toNat : Nat) : Int) := by have := of_decide_eq_true h; omega
theorem cut_hl_3 (h : cutB lo hi n = true) : lo.toNat ≤ hi.toNat := by have := of_decide_eq_true h; omega
theorem cut_hl_4 (h : cutB lo hi n = true) : hi.toNat ≤ n := by have := of_decide_eq_true h; omega
theorem cut_hl_4_map (h : cutB lo hi xs.length = true) : hi.toNat ≤ (xs.map c).length := by rw [List.length_map]; have := of_decide_eq_true h; omega
theorem cut_hn_1 (h : cutB 0 hi n = true) : hi = ((hi.toNat : Nat) : Int) := by have := of_decide_eq_true h; omega
theorem cut_hn_1_map {c : α → List PV} {n : Nat} (h : cutB 0 hi n = true) : hi = ((hi.toNat : Nat) : Int) := by have := of_decide_eq_true h; omega
theorem cut_hn_2 (h : cutB 0 hi n = true) : (0 : Nat) = 0 := rfl
theorem cut_hn_3 (h : cutB 0 hi n = true) : 0 ≤ hi.toNat := by have := of_decide_eq_true h; omega
theorem cut_hn_4 (h : cutB 0 hi n = true) : hi.toNat ≤ n := by have := of_decide_eq_true h; omega
theorem cut_hn_4_map (h : cutB 0 hi xs.length = true) : hi.toNat ≤ (xs.map c).length := by rw [List.length_map]; have := of_decide_eq_true h; omega
theorem cut_nl_1 (h : cutB lo (n : Int) n = true) : n = n := rfl
theorem cut_nl_1_map (h : cutB lo (xs.length : Int) xs.length = true) : xs.length = (xs.map c).length := by rw [List.length_map]
theorem cut_nl_2 (h : cutB lo (n : Int) n = true) : lo = ((lo.toNat : Nat) : Int) := by have := of_decide_eq_true h; omega
theorem cut_nl_3 (h : cutB lo (n : Int) n = true) : lo.toNat ≤ n := by have := of_decide_eq_true h; omega
theorem cut_nl_4 (h : cutB lo (n : Int) n = true) : n ≤ n := by have := of_decide_eq_true h; omega
theorem cut_nl_4_map (h : cutB lo (xs.length : Int) xs.length = true) : xs.length ≤ (xs.map c).length := by rw [List.length_map]; have := of_decide_eq_true h; omega
theorem cut_nn_1 (h : cutB 0 (n : Int) n = true) : n = n := rfl
theorem cut_nn_1_map (h : cutB 0 (xs.length : Int) xs.length = true) : xs.length = (xs.map c).length := by rw [List.length_map]
theorem cut_nn_2 (h : cutB 0 (n : Int) n = true) : (0 : Nat) = 0 := rfl
theorem cut_nn_3 (h : cutB 0 (n : Int) n = true) : 0 ≤ n := by have := of_decide_eq_true h; omega
theorem cut_nn_4 (h : cutB 0 (n : Int) n = true) : n ≤ n := by have := of_decide_eq_true h; omega
theorem cut_nn_4_map (h : cutB 0 (xs.length : Int) xs.length = true) : xs.length ≤ (xs.map c).length := by rw [List.length_map]; have := of_decide_eq_true h; omega
end
theorem last_app {seen : List Nat} {j : Nat} : (seen ++ [j]).getLast? = some j := by simp
/-! ### a string that is appended -/
abbrev strC (s : ByteArray) : List (List PV) := s.data.toList.map fun c => ([.int .u8 (c.toNat : Int)] : List PV)
theorem ne_str {s : ByteArray} (h : (ofB s).isEmpty = false) : strC s ≠ [] := by
  show (s.data.toList.map fun c => ([.int .u8 (c.toNat : Int)] : List PV)) ≠ []
  rw [ofB_cv]; exact ne_map h
theorem nil_str {s : ByteArray} (h : (ofB s).isEmpty = true) : strC s = [] := by
  show (s.data.toList.map fun c => ([.int .u8 (c.toNat : Int)] : List PV)) = []
  rw [ofB_cv]; exact nil_map h
theorem len_str {s : ByteArray} : ∀ c ∈ strC s, c.length = 1 := by
  show ∀ c ∈ (s.data.toList.map fun c => ([.int .u8 (c.toNat : Int)] : List PV)), c.length = 1
  rw [ofB_cv]; exact len_all (fun _ => rfl)
theorem lenB {s : ByteArray} : (strC s).length = (ofB s).length := by simp [ofB]
theorem fit_str0 {s : ByteArray} {b : Nat} {te : TI} (h : fit (ofB s).length b = true) (hb : te.bytes = b) : fitsB (strC s).length te = true := by rw [lenB]; exact fit_of h hb
theorem fit_str0z {s : ByteArray} {b : Nat} {te : TI} (h : fit (ofB s).length b = true) (hb : te.bytes = b) : fitsB (0 + (strC s).length) te = true := by rw [lenB, Nat.zero_add]; exact fit_of h hb
theorem fit_str2 {α : Type} {xs : List α} {c : α → List PV} {s : ByteArray} {b : Nat} {te : TI} (h : fit (xs.length + (ofB s).length) b = true) (hb : te.bytes = b) : fitsB ((xs.map c).length + (strC s).length) te = true := by rw [lenB, List.length_map]; exact fit_of h hb
theorem app_str {xs : List Int} {s : ByteArray} : xs.map (cInt .u8) ++ strC s = (xs ++ ofB s).map (cInt .u8) := by
  show _ ++ (s.data.toList.map fun c => ([.int .u8 (c.toNat : Int)] : List PV)) = _
  rw [ofB_cv, List.map_append]
end Go.Proofs.Ytelblamgfbkhbaa
