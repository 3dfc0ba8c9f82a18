/- Several texts in one. No condition. -/
import Derived.Test.YtelblamgfbkhbaaVt
namespace Go.Proofs.Ytelblamgfbkhbaa
set_option linter.unusedVariables false
set_option linter.unusedSimpArgs false
open Go.RowKit
abbrev PR_ := VariationPrice
def pAt : Option PR_ → PR_ → Bool
  | none, _ => true
  | some y, x => slt y.Product x.Product
def pOk : Option PR_ → List PR_ → Bool
  | _, [] => true
  | p, x :: r => pAt p x && (nameB x.Product && (inR x.Price 536870912 && pOk (some x) r))
theorem f35n2L_at (s : List PR_) : ∀ (l pre : List PR_), s = pre ++ l → s.length ≤ 1000 → f35n2L s l ((pre.length : Nat) : Int) = some (bif pOk pre.getLast? l then .exit0 else .ret)
  | [], pre, _, _ => rfl
  | x :: r, pre, h, hb => by
    have ih := f35n2L_at s r (pre ++ [x]) (by rw [h]; simp) hb
    rw [List.length_append, List.getLast?_concat, show (((pre.length + [x].length : Nat)) : Int) = (pre.length : Int) + 1 from by simp] at ih
    have e45 : f45 x.Product = some (nameB x.Product) := f45_eq _
    rw [f35n2L]
    simp only [f37_p, Option.bind_some, e45, ih, pOk]
    rcases List.eq_nil_or_concat pre with rfl | ⟨q, y, rfl⟩
    · simp only [List.length_nil, Int.natCast_zero, List.getLast?_nil, pAt, Bool.true_and]
      rw [decide_eq_false (by omega : ¬ (0 : Int) < 0)]
      cases nameB x.Product <;> cases inR x.Price 536870912 <;> cases pOk (some x) r <;> rfl
    · rw [List.concat_eq_append] at h ⊢
      have hne : (0 : Int) < (((q ++ [y]).length : Nat) : Int) := by simp
      have hlen : q.length + 1 ≤ 1000 := by rw [h] at hb; simp at hb; omega
      have hw : wr64 ((((q ++ [y]).length : Nat) : Int) - 1) = ((q.length : Nat) : Int) := w64 (by simp) (by omega) (by omega)
      have hat : at? s ((q.length : Nat) : Int) = some y := by rw [at_nat, h]; simp
      rw [decide_eq_true hne, hw, hat, List.getLast?_concat]
      simp only [cond_true, Option.bind_some, pAt]
      cases slt y.Product x.Product <;> cases nameB x.Product <;> cases inR x.Price 536870912 <;> cases pOk (some x) r <;> rfl
def pricesB (ps : List PR_) : Bool := pOk none ps && decide (ps.length ≤ 200)
theorem f35_eq {ps : List PR_} (h : ps.length ≤ 1000) : f35 ps = some (pricesB ps) := by
  have := f35n2L_at ps ps [] rfl h
  rw [show (((([] : List PR_).length : Nat)) : Int) = 0 from rfl, List.getLast?_nil] at this
  unfold f35 f35n0 f35n1 pricesB
  rw [f35n2_run ps (Nat.le_trans h (by unfold maxLen; decide)), this, show decide ((ps.length : Int) ≤ 200) = decide (ps.length ≤ 200) from dec_nat _ 200]
  cases pOk none ps <;> rfl
abbrev PSrt (l : List PR_) : Prop := l.Pairwise fun a b => slt a.Product b.Product = true
theorem pOk_some : ∀ {l : List PR_} {p : PR_}, pOk (some p) l = true → (p :: l).Pairwise (fun a b => slt a.Product b.Product = true) ∧ ∀ x ∈ l, inR x.Price 536870912 = true
  | [], p, _ => by simp
  | y :: r, p, h => by
    rw [pOk, pAt, Bool.and_eq_true, Bool.and_eq_true, Bool.and_eq_true] at h
    obtain ⟨h1, _, h2, h3⟩ := h
    obtain ⟨h4, h5⟩ := pOk_some h3
    refine ⟨List.pairwise_cons.2 ⟨fun z hz => ?_, h4⟩, fun z hz => ?_⟩
    · rcases List.mem_cons.1 hz with rfl | hz
      · exact h1
      · exact slt_trans h1 ((List.pairwise_cons.1 h4).1 z hz)
    · rcases List.mem_cons.1 hz with rfl | hz
      · exact h2
      · exact h5 z hz
theorem prices_ok {ps : List PR_} (h : pricesB ps = true) : PSrt ps ∧ (∀ x ∈ ps, inR x.Price 536870912 = true) ∧ ps.length ≤ 200 := by
  unfold pricesB at h
  rw [Bool.and_eq_true, decide_eq_true_eq] at h
  refine ⟨?_, ?_, h.2⟩
  · cases ps with
    | nil => exact List.Pairwise.nil
    | cons y r =>
      have := h.1
      rw [pOk, Bool.and_eq_true, Bool.and_eq_true, Bool.and_eq_true] at this
      exact (pOk_some this.2.2.2).1
  · cases ps with
    | nil => simp
    | cons y r =>
      have := h.1
      rw [pOk, Bool.and_eq_true, Bool.and_eq_true, Bool.and_eq_true] at this
      intro z hz
      rcases List.mem_cons.1 hz with rfl | hz
      · exact this.2.2.1
      · exact (pOk_some this.2.2.2).2 z hz
theorem f57_58n1_eq (l : List PR_) (k : ByteArray) : ∀ (f : Nat) (lo hi : Int), f57_58n1 f l k lo hi = (bsr (fun x => cmpB x.Product k) l f lo hi).map .exit0
  | 0, lo, hi => rfl
  | f + 1, lo, hi => by
    rw [f57_58n1, bsr]
    cases decide (lo < hi) with
    | false => rfl
    | true =>
      simp only [cond_true]
      cases at? l (midI lo hi) with
      | none => rfl
      | some x =>
        have : f58 x k = some (cmpB x.Product k) := by unfold f58 f58n0; rw [f40_val]; rfl
        simp only [Option.bind_some, this, f57_58n1_eq l k f]
        cases decide (cmpB x.Product k < 0) <;> rfl
def lk (p : ByteArray) : List PR_ → Option Int
  | [] => none
  | x :: r => bif seq x.Product p then some x.Price else lk p r
theorem seq_f {a b : ByteArray} (h : a ≠ b) : seq a b = false := by
  cases k : seq a b with
  | false => rfl
  | true => exact absurd (seq_iff.1 k) h
theorem lk_none {p : ByteArray} : ∀ {l : List PR_}, (∀ x ∈ l, x.Product ≠ p) → lk p l = none
  | [], _ => rfl
  | x :: r, h => by rw [lk, seq_f (h x List.mem_cons_self), cond_false, lk_none fun y hy => h y (List.mem_cons_of_mem _ hy)]
theorem lk_app {p : ByteArray} : ∀ {pre post : List PR_}, (∀ x ∈ pre, x.Product ≠ p) → lk p (pre ++ post) = lk p post
  | [], _, _ => rfl
  | x :: r, post, h => by rw [List.cons_append, lk, seq_f (h x List.mem_cons_self), cond_false, lk_app fun y hy => h y (List.mem_cons_of_mem _ hy)]
theorem lk_in {p : ByteArray} {v : Int} : ∀ {l : List PR_}, lk p l = some v → ∃ x ∈ l, x.Price = v
  | x :: r, h => by
    rw [lk] at h
    cases k : seq x.Product p with
    | true => rw [k] at h; exact ⟨x, List.mem_cons_self, Option.some.inj h⟩
    | false =>
      rw [k] at h
      obtain ⟨y, hy, e⟩ := lk_in h
      exact ⟨y, List.mem_cons_of_mem _ hy, e⟩
theorem slt_ne {a b : ByteArray} (h : slt a b = true) : a ≠ b := fun e => by rw [e, slt_irrefl] at h; cases h
theorem f57_58_eq {ps : List PR_} (hs : PSrt ps) (hl : ps.length ≤ 1000) (k : ByteArray) :
    (lk k ps = none ∧ ∃ i, f57_58 ps k = some (i, false)) ∨ ∃ i x, f57_58 ps k = some (i, true) ∧ at? ps i = some x ∧ lk k ps = some x.Price := by
  obtain ⟨pre, post, h1, h2, h3, h4⟩ := bsr_split (fun x : PR_ => cmpB x.Product k) ps (by omega) fun i j x y hij hx hy hc => by
    rcases Nat.lt_or_ge i j with h | h
    · have h1 := List.pairwise_iff_getElem.1 hs i j (lt_of_at hx) (lt_of_at hy) h
      rw [(List.getElem?_eq_some_iff.1 hx).2, (List.getElem?_eq_some_iff.1 hy).2] at h1
      exact cmpB_neg.2 (slt_trans h1 (cmpB_neg.1 hc))
    · have : i = j := by omega
      subst this
      rw [hx] at hy; obtain rfl := Option.some.inj hy; exact hc
  have hpre : ∀ x ∈ pre, x.Product ≠ k := fun x hx => slt_ne (cmpB_neg.1 (h3 x hx))
  have hr : f57_58n1 FUEL ps k 0 (ps.length : Int) = some (.exit0 (pre.length : Int)) := by rw [f57_58n1_eq, h2]; rfl
  cases post with
  | nil =>
    left
    refine ⟨by rw [h1, lk_app hpre]; rfl, (pre.length : Int), ?_⟩
    unfold f57_58 f57_58n0
    rw [hr]
    simp only [Option.bind_some]
    rw [h1, decide_eq_false (by simp)]; rfl
  | cons x r =>
    have hx : ps[pre.length]? = some x := by rw [h1]; simp
    have h58 : f58 x k = some (cmpB x.Product k) := by unfold f58 f58n0; rw [f40_val]; rfl
    have hf : f57_58 ps k = some ((pre.length : Int), decide (cmpB x.Product k = 0)) := by
      unfold f57_58 f57_58n0
      rw [hr]
      simp only [Option.bind_some]
      rw [decide_eq_true (by have := lt_of_at hx; omega), at_nat, hx]
      simp only [cond_true, Option.bind_some, h58]
    by_cases hk : cmpB x.Product k = 0
    · right
      refine ⟨_, x, by rw [hf, decide_eq_true hk], by rw [at_nat]; exact hx, ?_⟩
      rw [h1, lk_app hpre, lk, seq_iff.2 (cmpB_zero.1 hk)]; rfl
    · left
      refine ⟨?_, _, by rw [hf, decide_eq_false hk]⟩
      rw [h1, lk_app hpre]
      have hs' : PSrt (x :: r) := by
        rw [h1] at hs
        exact (List.pairwise_append.1 hs).2.1
      have h5 : slt k x.Product = true := cmpB_pos.1 (by have := h4 x List.mem_cons_self; omega)
      refine lk_none fun y hy e => ?_
      rcases List.mem_cons.1 hy with rfl | hy
      · exact slt_ne h5 e.symm
      · exact slt_ne (slt_trans h5 ((List.pairwise_cons.1 hs').1 y hy)) e.symm

def hasV (ps : List PR_) (x : VP) : Bool := decide (x.Quantity = 0) || (lk x.Product ps).isSome
def prc (ps : List PR_) (p : ByteArray) : Int := (lk p ps).getD 0
def vOf (ps : List PR_) (x : VP) : Int := x.Quantity * prc ps x.Product
theorem prc_bd {ps : List PR_} (h : pricesB ps = true) (p : ByteArray) : -536870912 ≤ prc ps p ∧ prc ps p ≤ 536870912 := by
  unfold prc
  cases k : lk p ps with
  | none => simp
  | some v =>
    obtain ⟨x, hx, rfl⟩ := lk_in k
    exact inR_iff.1 ((prices_ok h).2.1 x hx)
theorem vOf_bd {ps : List PR_} (h : pricesB ps = true) {x : VP} (hx : goodP x = true) : -562949953421312 ≤ vOf ps x ∧ vOf ps x ≤ 562949953421312 := by
  have h1 := prc_bd h x.Product
  have h2 := good_q hx
  have := mul_bd (a := x.Quantity) (b := prc ps x.Product) (x := 1048576) (y := 536870912) (by omega) (by omega)
  unfold vOf
  omega
theorem f36_eq {ps : List PR_} (h : pricesB ps = true) {x : VP} (hx : goodP x = true) : ∃ v, f36 x ps = some (v, hasV ps x) ∧ (hasV ps x = true → v = vOf ps x) := by
  have hp := prices_ok h
  have hb := vOf_bd h hx
  unfold f36 f36n0 hasV
  by_cases h0 : x.Quantity = 0
  · rw [decide_eq_true h0]
    exact ⟨0, rfl, fun _ => by unfold vOf; rw [h0]; simp⟩
  · rw [decide_eq_false h0]
    simp only [cond_false, Bool.false_or]
    rcases f57_58_eq hp.1 (by omega) x.Product with ⟨h1, i, h2⟩ | ⟨i, y, h2, h3, h4⟩
    · rw [h1, h2]
      exact ⟨0, rfl, fun h => by cases h⟩
    · rw [h2, h4]
      simp only [Option.bind_some, cond_true]
      rw [h3]
      refine ⟨_, rfl, fun _ => ?_⟩
      unfold vOf prc at hb ⊢
      rw [h4] at hb ⊢
      exact wr_in (n := x.Quantity * y.Price) (by simp at hb; omega) (by simp at hb; omega)

def accM (ps : List PR_) : List VP → List (ByteArray × Int) → List (ByteArray × Int)
  | [], m => m
  | x :: r, m => accM ps r (mPut seq x.Member (wr64 (mGet seq 0 x.Member m + wr64 (vOf ps x - x.Basis))) m)
def setP (ps : List PR_) (x : VP) : VP := ⟨x.Member, x.Product, x.Quantity, vOf ps x⟩
def setO (ps : List PR_) : List VP → List VP
  | [] => []
  | x :: r => bif decide (x.Quantity = 0) then setO ps r else setP ps x :: setO ps r
theorem f14n3L_at {ps : List PR_} (h : pricesB ps = true) (s : Variation) (d : Int) : ∀ (l : List VP) (k : Int) (m : List (ByteArray × Int)) (o : List VP), (∀ x ∈ l, goodP x = true) → o.length + l.length ≤ 1000 →
    f14n3L ps s d l k m o = some (bif l.all (hasV ps) then .exit1 (accM ps l m) (o ++ setO ps l) else .ret)
  | [], k, m, o, _, _ => by simp [f14n3L, accM, setO]
  | x :: r, k, m, o, hg, hl => by
    simp only [List.length_cons] at hl
    obtain ⟨v, h1, h2⟩ := f36_eq h (hg x List.mem_cons_self)
    rw [f14n3L, h1]
    simp only [Option.bind_some, List.all_cons]
    cases hv : hasV ps x with
    | false => rfl
    | true =>
      rw [h2 hv, accM, setO]
      have hr : ∀ y ∈ r, goodP y = true := fun y hy => hg y (List.mem_cons_of_mem _ hy)
      simp only [cond_true, Bool.true_and]
      cases decide (x.Quantity = 0) with
      | true => rw [cond_true, cond_true, f14n3L_at h s d r _ _ _ hr (by omega)]
      | false =>
        rw [cond_false, cond_false, req, fit_small (by omega) (by omega), cond_true, f14n3L_at h s d r _ _ _ hr (by simp; omega)]
        simp [setP]
theorem put_mlen {V : Type} (k : ByteArray) (v : V) : ∀ m : List (ByteArray × V), (mPut seq k v m).length ≤ m.length + 1
  | [] => by simp [mPut]
  | (a, w) :: r => by
    have := put_mlen k v r
    rw [mPut]
    cases seq k a <;> simp <;> omega
theorem accM_len (ps : List PR_) : ∀ (l : List VP) (m : List (ByteArray × Int)), (accM ps l m).length ≤ m.length + l.length
  | [], m => by simp [accM]
  | x :: r, m => by
    have h1 := accM_len ps r (mPut seq x.Member (wr64 (mGet seq 0 x.Member m + wr64 (vOf ps x - x.Basis))) m)
    have h2 := put_mlen x.Member (wr64 (mGet seq 0 x.Member m + wr64 (vOf ps x - x.Basis))) m
    rw [accM, List.length_cons]; omega
theorem accM_nd (ps : List PR_) : ∀ (l : List VP) {m : List (ByteArray × Int)}, ndM m → ndM (accM ps l m)
  | [], m, h => h
  | x :: r, m, h => accM_nd ps r (put_nd h)
def payL (m : List (ByteArray × Int)) : List VariationPayment := (m.filter fun x => !decide (x.2 = 0)).map fun x => ⟨x.1, x.2⟩
theorem f14n5_eq (d : Int) (o2 : List VP) (m : List (ByteArray × Int)) : ∀ (l : List (ByteArray × Int)) (o : List VariationPayment), o.length + l.length ≤ 1000 → f14n5 d o2 m l o = some (bif l.all (fun x => inR x.2 1125899906842624) then .exit3 (o ++ payL l) else .ret)
  | [], o, _ => by simp [f14n5, payL]
  | x :: r, o, hl => by
    simp only [List.length_cons] at hl
    rw [f14n5, f37_b]
    simp only [Option.bind_some, List.all_cons]
    cases inR x.2 1125899906842624 with
    | false => rfl
    | true =>
      simp only [cond_true, Bool.true_and]
      cases h0 : decide (x.2 = 0) with
      | true =>
        rw [cond_true, f14n5_eq d o2 m r o (by omega)]
        simp only [payL, List.filter_cons, h0, Bool.not_true]
        rfl
      | false =>
        rw [cond_false, req, fit_small (by omega) (by omega), cond_true, f14n5_eq d o2 m r _ (by simp; omega)]
        simp only [payL, List.filter_cons, h0, Bool.not_false]
        simp
theorem pay_perm {p m : List (ByteArray × Int)} (h : p.Perm m) : (payL p).Perm (payL m) := (h.filter _).map _
theorem pay_nd {m : List (ByteArray × Int)} (h : ndM m) : (payL m).Pairwise fun a b => a.Member ≠ b.Member := by
  unfold payL
  rw [List.pairwise_map]
  exact h.sublist List.filter_sublist
def isortP (l : List VariationPayment) : List VariationPayment := isort (fun x => x.Member) l
theorem sort_eq {p m : List (ByteArray × Int)} (hp : p.Perm m) (h : ndM m) (hl : m.length ≤ 1000) : so38_39 (payL p) = some (isortP (payL m)) := by
  have hq := pay_perm hp
  have nd : (payL p).Pairwise fun a b => a.Member ≠ b.Member := (hq.symm.pairwise_iff (fun {a b} hab => Ne.symm hab)).1 (pay_nd h)
  have hlen : (payL p).length ≤ 1000 := by
    rw [hq.length_eq]; unfold payL; rw [List.length_map]
    exact Nat.le_trans (List.length_filter_le _ _) hl
  unfold so38_39
  rw [decide_eq_true (by omega), nodupK_of _ nd]
  simp only [Bool.and_self, cond_true]
  congr 1
  unfold isortP
  refine sorted_uniq _ ?_ (isort_sorted _ _) (isort_sorted _ _) ?_
  · exact ((isort_perm _ _).trans hq).trans (isort_perm _ _).symm
  · exact ((isort_perm _ _).pairwise_iff (fun {a b} hab => Ne.symm hab)).2 nd

def asksB (d : Int) (ps : List PR_) : Bool := decide (0 ≤ d) && (decide (d ≤ 99999) && pricesB ps)
def settleS (s : Variation) (d : Int) (ps : List PR_) : Variation × (List VariationPayment × Int) :=
  bif checkB s then
    bif asksB d ps then
      bif decide (s.Day < d) then
        bif s.Positions.all (hasV ps) then
          bif (accM ps s.Positions []).all (fun x => inR x.2 1125899906842624) then
            (⟨d, setO ps s.Positions⟩, isortP (payL (accM ps s.Positions [])), 0)
          else (noV, [], 14)
        else (noV, [], 30)
      else (noV, [], 21)
    else (noV, [], 2)
  else (noV, [], 8)
theorem f14_eq (s : Variation) (d : Int) {ps : List PR_} (hl : ps.length ≤ 1000) : f14 s d ps = some (settleS s d ps) := by
  unfold f14 settleS
  cases hc : checkB s with
  | false =>
    have : f14n0 s d ps = some (.ret 8 0 [] []) := by
      unfold f14n0 f14n1
      rw [f26_eq, hc]; rfl
    rw [this]; rfl
  | true =>
    have ok := check_iff.1 hc
    cases ha : asksB d ps with
    | false =>
      have : f14n0 s d ps = some (.ret 2 0 [] []) := by
        unfold f14n0 f14n1
        rw [f26_eq, hc, f35_eq hl, lt_not, lt_not]
        unfold asksB at ha
        revert ha
        cases decide (0 ≤ d) with
        | false => intro _; rfl
        | true => cases decide (d ≤ 99999) with
          | false => intro _; rfl
          | true => cases pricesB ps with
            | false => intro _; rfl
            | true => intro h; cases h
      rw [this]; rfl
    | true =>
      have ha' := ha
      unfold asksB at ha'
      simp only [Bool.and_eq_true] at ha'
      obtain ⟨h0, h1, h2⟩ := ha'
      by_cases hd : s.Day < d
      · have e1 : f14n1 d ps 0 s = some (.norm 0) := by
          unfold f14n1
          rw [f35_eq hl, lt_not, lt_not, h0, h1, h2, decide_eq_false (by omega : ¬ d ≤ s.Day)]; rfl
        have e2 : f14n2 ps s d = some (bif s.Positions.all (hasV ps) then .norm (accM ps s.Positions []) (setO ps s.Positions) else .ret) := by
          unfold f14n2
          rw [f14n3_run ps s d [] [] (Nat.le_trans ok.len (by unfold maxLen; decide)), f14n3L_at h2 s d s.Positions 0 [] [] ok.good (by have := ok.len; simp; omega)]
          cases s.Positions.all (hasV ps) <;> rfl
        rw [decide_eq_true hd]
        simp only [cond_true]
        cases hv : s.Positions.all (hasV ps) with
        | false =>
          have : f14n0 s d ps = some (.ret 30 0 [] []) := by
            unfold f14n0
            rw [f26_eq, hc]
            simp only [cond_true, Option.bind_some, e1, e2, hv, decide_true, cond_false]
          rw [this]; rfl
        | true =>
          have hlen : (accM ps s.Positions []).length ≤ 1000 := by
            have := accM_len ps s.Positions []
            have := ok.len
            simp at *; omega
          have e4 : ∀ p, p.Perm (accM ps s.Positions []) → f14n4 d (accM ps s.Positions []) (setO ps s.Positions) p = some (bif (accM ps s.Positions []).all (fun x => inR x.2 1125899906842624) then .norm (payL p) else .ret) := fun p hp => by
            unfold f14n4
            rw [f14n5_eq _ _ _ p [] (by rw [hp.length_eq]; simpa using hlen), hp.all_eq]
            cases (accM ps s.Positions []).all (fun x => inR x.2 1125899906842624) <;> rfl
          cases hr : (accM ps s.Positions []).all (fun x => inR x.2 1125899906842624) with
          | false =>
            have : f14n0 s d ps = some (.ret 14 0 [] []) := by
              unfold f14n0
              rw [f26_eq, hc]
              simp only [cond_true, Option.bind_some, e1, e2, hv, decide_true]
              refine anyOrder_of fun p hp => ?_
              rw [e4 p hp, hr]; rfl
            rw [this]; rfl
          | true =>
            have : f14n0 s d ps = some (.ret 0 d (isortP (payL (accM ps s.Positions []))) (setO ps s.Positions)) := by
              unfold f14n0
              rw [f26_eq, hc]
              simp only [cond_true, Option.bind_some, e1, e2, hv, decide_true]
              refine anyOrder_of fun p hp => ?_
              rw [e4 p hp, hr]
              simp only [cond_true, Option.bind_some]
              rw [sort_eq hp (accM_nd ps s.Positions List.Pairwise.nil) hlen]; rfl
            rw [this]; rfl
      · have : f14n0 s d ps = some (.ret 21 0 [] []) := by
          have e1 : f14n1 d ps 0 s = some (.norm 21) := by
            unfold f14n1
            rw [f35_eq hl, lt_not, lt_not, h0, h1, h2, decide_eq_true (by omega : d ≤ s.Day)]; rfl
          unfold f14n0
          rw [f26_eq, hc]
          simp only [cond_true, Option.bind_some, e1]
          rfl
        rw [this, decide_eq_false hd]; rfl
structure Done (s : Variation) (d : Int) (ps : List PR_) : Prop where
  ok : Ok s
  d0 : 0 ≤ d
  d1 : d ≤ 99999
  pr : pricesB ps = true
  dd : s.Day < d
  hv : ∀ x ∈ s.Positions, hasV ps x = true
  rng : ∀ x ∈ accM ps s.Positions [], inR x.2 1125899906842624 = true
theorem settle_done {s : Variation} {d : Int} {ps : List PR_} (h : (settleS s d ps).2.2 = 0) : Done s d ps ∧ settleS s d ps = (⟨d, setO ps s.Positions⟩, isortP (payL (accM ps s.Positions [])), 0) := by
  unfold settleS at h ⊢
  cases h1 : checkB s with
  | false => rw [h1] at h; cases h
  | true =>
    cases h2 : asksB d ps with
    | false => rw [h1, h2] at h; cases h
    | true =>
      cases h3 : decide (s.Day < d) with
      | false => rw [h1, h2, h3] at h; cases h
      | true =>
        cases h4 : s.Positions.all (hasV ps) with
        | false => rw [h1, h2, h3, h4] at h; cases h
        | true =>
          cases h5 : (accM ps s.Positions []).all (fun x => inR x.2 1125899906842624) with
          | false => rw [h1, h2, h3, h4, h5] at h; cases h
          | true =>
            unfold asksB at h2
            simp only [Bool.and_eq_true, decide_eq_true_eq] at h2
            exact ⟨⟨check_iff.1 h1, h2.1, h2.2.1, h2.2.2, of_decide_eq_true h3, List.all_eq_true.1 h4, List.all_eq_true.1 h5⟩, rfl⟩
theorem setO_mem {ps : List PR_} {y : VP} : ∀ {l : List VP}, y ∈ setO ps l → ∃ x ∈ l, ¬ x.Quantity = 0 ∧ y = setP ps x
  | x :: r, h => by
    rw [setO] at h
    by_cases h0 : x.Quantity = 0
    · rw [decide_eq_true h0, cond_true] at h
      obtain ⟨z, h1, h2⟩ := setO_mem h
      exact ⟨z, List.mem_cons_of_mem _ h1, h2⟩
    · rw [decide_eq_false h0, cond_false] at h
      rcases List.mem_cons.1 h with h | h
      · exact ⟨x, List.mem_cons_self, h0, h⟩
      · obtain ⟨z, h1, h2⟩ := setO_mem h
        exact ⟨z, List.mem_cons_of_mem _ h1, h2⟩
theorem setO_srt {ps : List PR_} : ∀ {l : List VP}, Srt l → Srt (setO ps l)
  | [], _ => List.Pairwise.nil
  | x :: r, h => by
    have h' := List.pairwise_cons.1 h
    rw [setO]
    cases decide (x.Quantity = 0) with
    | true => exact setO_srt h'.2
    | false =>
      refine List.pairwise_cons.2 ⟨fun y hy => ?_, setO_srt h'.2⟩
      obtain ⟨z, h1, _, rfl⟩ := setO_mem hy
      exact h'.1 z h1
theorem setO_len (ps : List PR_) : ∀ l : List VP, (setO ps l).length ≤ l.length
  | [] => Nat.le_refl _
  | x :: r => by
    have := setO_len ps r
    rw [setO]
    cases decide (x.Quantity = 0) <;> simp <;> omega
theorem setO_good {ps : List PR_} (hp : pricesB ps = true) {l : List VP} (h : ∀ x ∈ l, goodP x = true) : ∀ y ∈ setO ps l, goodP y = true := fun y hy => by
  obtain ⟨x, h1, h2, rfl⟩ := setO_mem hy
  have hx := h x h1
  have hb := vOf_bd hp hx
  refine good_of (x := setP ps x) (inR_iff.2 (show -1048576 ≤ x.Quantity ∧ x.Quantity ≤ 1048576 from good_q hx)) (inR_iff.2 (by show _ ≤ vOf ps x ∧ vOf ps x ≤ _; omega)) ?_ (show partyB x.Member = true from good_m hx) (show nameB x.Product = true from good_p hx)
  show (decide (x.Quantity = 0) && _) = false
  rw [decide_eq_false h2]; rfl
theorem setO_wq (ps : List PR_) (g : ByteArray) : ∀ l : List VP, sm (wq g) (setO ps l) = sm (wq g) l
  | [] => rfl
  | x :: r => by
    rw [setO]
    by_cases h0 : x.Quantity = 0
    · rw [decide_eq_true h0, cond_true, setO_wq ps g r, sm]
      unfold wq; rw [h0]
      cases seq x.Product g <;> simp
    · rw [decide_eq_false h0, cond_false, sm, sm, setO_wq ps g r]; rfl
theorem setO_wb (ps : List PR_) (g : ByteArray) : ∀ l : List VP, sm (wb g) (setO ps l) = prc ps g * sm (wq g) l
  | [] => by simp [setO, sm]
  | x :: r => by
    have e : (bif seq x.Product g then vOf ps x else 0) = prc ps g * wq g x := by
      unfold vOf wq
      cases h : seq x.Product g with
      | true => rw [seq_iff.1 h]; simp only [cond_true]; rw [Int.mul_comm]
      | false => simp
    rw [setO, sm, Int.mul_add, ← e]
    by_cases h0 : x.Quantity = 0
    · rw [decide_eq_true h0, cond_true, setO_wb ps g r]
      have : vOf ps x = 0 := by unfold vOf; rw [h0]; simp
      rw [this]
      cases seq x.Product g <;> simp
    · rw [decide_eq_false h0, cond_false, sm, setO_wb ps g r]; rfl
theorem Done.out {s : Variation} {d : Int} {ps : List PR_} (h : Done s d ps) : Ok ⟨d, setO ps s.Positions⟩ where
  d0 := h.d0
  d1 := h.d1
  len := Nat.le_trans (setO_len ps s.Positions) h.ok.len
  srt := setO_srt h.ok.srt
  good := setO_good h.pr h.ok.good
  flat := fun g => by
    show sm (wq g) (setO ps s.Positions) = 0 ∧ sm (wb g) (setO ps s.Positions) = 0
    rw [setO_wq, setO_wb, (h.ok.flat g).1]
    simp
end Go.Proofs.Ytelblamgfbkhbaa
namespace Go.Proofs.Ytelblamgfbkhbaa
set_option linter.unusedVariables false
set_option linter.unusedSimpArgs false
open Go.RowKit
theorem new_ok : Ok ⟨0, []⟩ := ⟨by decide, by decide, by simp, List.Pairwise.nil, by simp, fun p => ⟨rfl, rfl⟩⟩
def greatL : List Op_ → Int → Bool
  | [], _ => false
  | x :: r, v => bif decide (v ≤ 100) then (decide (220 < (x.Prices.length : Int)) || (decide (x.Day < -1) || (decide (100000 < x.Day) || greatL r (v + 1)))) else false
theorem f11n2L_eq' (bk : List Op_) : ∀ (l : List Op_) (v : Int), f11n2L bk l v = some (bif greatL l v then .ret else .exit0)
  | [], v => rfl
  | x :: r, v => by
    rw [f11n2L, greatL, f11n2L_eq' bk r]
    cases decide (v ≤ 100) <;> cases decide (220 < (x.Prices.length : Int)) <;> cases decide (x.Day < -1) <;> cases decide (100000 < x.Day) <;> cases greatL r (v + 1) <;> rfl
def greatB (l : List Op_) : Bool := greatL l 0 || decide (100 < (l.length : Int))
theorem f11_eq {l : List Op_} (h : l.length ≤ maxLen) : f11 l = some (greatB l) := by
  unfold f11 f11n0 f11n1 greatB
  rw [f11n2_run l h, f11n2L_eq']
  cases greatL l 0 <;> rfl
theorem greatL_small : ∀ {l : List Op_} {v : Int}, greatL l v = false → v + l.length ≤ 101 → ∀ x ∈ l, x.Prices.length ≤ 220 ∧ -1 ≤ x.Day ∧ x.Day ≤ 100000
  | [], _, _, _, x, hx => by cases hx
  | y :: r, v, h, hv, x, hx => by
    simp only [List.length_cons] at hv
    rw [greatL, decide_eq_true (by omega : v ≤ 100), cond_true] at h
    simp only [Bool.or_eq_false_iff, decide_eq_false_iff_not] at h
    rcases List.mem_cons.1 hx with rfl | hx
    · omega
    · exact greatL_small h.2.2.2 (by omega) x hx
theorem great_small {l : List Op_} (h : greatB l = false) : l.length ≤ 100 ∧ ∀ x ∈ l, x.Prices.length ≤ 220 ∧ -1 ≤ x.Day ∧ x.Day ≤ 100000 := by
  unfold greatB at h
  simp only [Bool.or_eq_false_iff, decide_eq_false_iff_not] at h
  have hl : l.length ≤ 100 := by omega
  exact ⟨hl, greatL_small h.1 (by omega)⟩
theorem drop_at {α : Type} {l : List α} {k : Nat} {x : α} {r : List α} (h : l.drop k = x :: r) : at? l (k : Int) = some x ∧ k < l.length ∧ l.drop (k + 1) = r := by
  obtain ⟨h1, h2, h3⟩ := drop_cons h
  exact ⟨by rw [at_nat]; exact h1, h2, h3⟩
theorem wr_succ {k : Nat} (h : k ≤ 1000000) : wr64 ((k : Int) + 1) = ((k + 1 : Nat) : Int) := by rw [wr_in (by omega) (by omega)]; omega
end Go.Proofs.Ytelblamgfbkhbaa
namespace Go.Proofs.Ytelblamgfbkhbaa
set_option linter.unusedVariables false
set_option linter.unusedSimpArgs false
open Go.RowKit
theorem f5n6L_eq' (bk : List Op_) (bl : Bool) (b3 b4 : Int) (s : Variation) (o : VP) : ∀ (l : List VP) (q b v : Int), f5n6L bk bl b3 b4 s o l (wr64 q) (wr64 b) v = some (.exit4 (wr64 (q + sm (wq o.Product) l)) (wr64 (b + sm (wb o.Product) l)))
  | [], q, b, v => by simp [f5n6L, sm]
  | x :: r, q, b, v => by
    rw [f5n6L]
    cases h : seq x.Product o.Product with
    | true =>
      rw [cond_true, wr_l, wr_l, f5n6L_eq' bk bl b3 b4 s o r]
      simp only [sm, wq, wb, h, cond_true, Int.add_assoc]
    | false =>
      rw [cond_false, f5n6L_eq' bk bl b3 b4 s o r]
      simp only [sm, wq, wb, h, cond_false, Int.zero_add]
theorem f5n4_eq (bk : List Op_) (bl : Bool) (b3 : Int) {s : Variation} (ok : Ok s) {k : Nat} {x : VP} (hx : s.Positions[k]? = some x) : f5n4 bk bl b3 (k : Int) s = some .norm := by
  have hm : x ∈ s.Positions := List.mem_of_getElem? hx
  have hg := ok.good x hm
  have hf := ok.flat x.Product
  have h5 : f5n5 bk bl b3 (k : Int) s x = some (.norm 0 0) := by
    unfold f5n5
    rw [f5n6_run bk bl b3 (k : Int) s x 0 0 (Nat.le_trans ok.len (by unfold maxLen; decide))]
    have := f5n6L_eq' bk bl b3 (k : Int) s x s.Positions 0 0 0
    rw [hf.1, hf.2] at this
    have this' : f5n6L bk bl b3 (k : Int) s x s.Positions 0 0 0 = some (.exit4 0 0) := this
    rw [this']; rfl
  have hz := good_nz hg
  have hp := good_m hg
  unfold partyB at hp
  rw [Bool.and_eq_true, Bool.not_eq_true'] at hp
  have h7 : f5n7 bk bl b3 (k : Int) 0 0 s x = some (.norm false) := by
    unfold f5n7
    unfold zeroP at hz
    rw [hp.1]
    revert hz
    cases decide (x.Quantity = 0) <;> cases decide (x.Basis = 0) <;> intro hz <;> first | rfl | cases hz
  unfold f5n4
  rw [at_nat, hx]
  simp only [Option.bind_some, h5, h7, cond_false]
theorem f5n8_at (bk : List Op_) (bl : Bool) (b3 : Int) {s : Variation} (ok : Ok s) : ∀ (r : List VP) (f k : Nat), s.Positions.drop k = r → r.length < f → f5n8 f bk bl b3 s (k : Int) = some .exit2
  | _, 0, _, _, h => absurd h (Nat.not_lt_zero _)
  | [], f + 1, k, hd, _ => by
    have := drop_nil hd
    rw [f5n8, decide_eq_false (by omega), cond_false]
  | x :: r, f + 1, k, hd, hf => by
    obtain ⟨h1, h2, h3⟩ := drop_at hd
    have hl := ok.len
    rw [f5n8, decide_eq_true (by omega), cond_true, f5n4_eq bk bl b3 ok (x := x) (by rw [← at_nat]; exact h1)]
    simp only [Option.bind_some]
    rw [wr_succ (by omega)]
    exact f5n8_at bk bl b3 ok r f (k + 1) h3 (by simpa using hf)
theorem f5n2_eq {bk : List Op_} (bl : Bool) {k : Nat} {x : Op_} {s : Variation} (ok : Ok s) (hx : at? bk (k : Int) = some x) (hp : x.Prices.length ≤ 220) : ∃ t, f5n2 bk bl (k : Int) s = some (.norm t) ∧ Ok t := by
  have main : ∀ (e : Int) (t : Variation), f5n3 bk bl (k : Int) s x = some (.norm e t) → (e = 0 → Ok t) → ∃ t, f5n2 bk bl (k : Int) s = some (.norm t) ∧ Ok t := fun e t h1 h2 => by
    unfold f5n2
    rw [hx]
    simp only [Option.bind_some, h1]
    by_cases he : e = 0
    · have ht := h2 he
      rw [decide_eq_true he, cond_true]
      have := f5n8_at bk bl (k : Int) ht t.Positions FUEL 0 List.drop_zero (lt_FUEL (Nat.le_trans ht.len (by unfold maxLen; decide)))
      rw [show ((0 : Nat) : Int) = 0 from rfl] at this
      rw [this]
      exact ⟨t, rfl, ht⟩
    · rw [decide_eq_false he, cond_false]
      exact ⟨s, rfl, ok⟩
  cases hk : decide (x.Kind = 0) with
  | true =>
    refine main (settleS s (wr64 (s.Day + x.Day)) x.Prices).2.2 (settleS s (wr64 (s.Day + x.Day)) x.Prices).1 ?_ fun h => ?_
    · unfold f5n3
      rw [hk, cond_true, f14_eq _ _ (by omega)]; rfl
    · obtain ⟨h1, h2⟩ := settle_done h
      rw [h2]; exact h1.out
  | false =>
    refine main (tradeS s x.Buyer x.Seller x.Product x.Quantity x.Price).2 (tradeS s x.Buyer x.Seller x.Product x.Quantity x.Price).1 ?_ fun h => ?_
    · unfold f5n3
      rw [hk, cond_false, f16_eq]; rfl
    · obtain ⟨h1, h2⟩ := trade_took h
      rw [h2]; exact h1.out
theorem f5n9_at {bk : List Op_} (bl : Bool) (hl : bk.length ≤ 100) (hp : ∀ x ∈ bk, x.Prices.length ≤ 220) : ∀ (r : List Op_) (f k : Nat) {s : Variation}, Ok s → bk.drop k = r → r.length < f → f5n9 f bk bl (k : Int) s = some .exit0
  | _, 0, _, _, _, _, h => absurd h (Nat.not_lt_zero _)
  | [], f + 1, k, s, ok, hd, _ => by
    have := drop_nil hd
    rw [f5n9, decide_eq_false (by omega), cond_false]
  | x :: r, f + 1, k, s, ok, hd, hf => by
    obtain ⟨h1, h2, h3⟩ := drop_at hd
    have hm : x ∈ bk := List.mem_of_getElem? (by rw [← at_nat]; exact h1)
    obtain ⟨t, h4, h5⟩ := f5n2_eq bl ok h1 (hp x hm)
    rw [f5n9, decide_eq_true (by omega), cond_true, h4]
    simp only [Option.bind_some]
    rw [wr_succ (by omega)]
    exact f5n9_at bl hl hp r f (k + 1) h5 h3 (by simpa using hf)
theorem lawFlat (a1 : List Op_) (h : a1.length ≤ maxLen ∧ ∀ x ∈ a1, Op_.ok x) : f5 a1 = some true := by
  unfold f5 f5n0
  rw [alive_t, f11_eq h.1]
  simp only [Option.bind_some]
  cases hg : greatB a1 with
  | true => rfl
  | false =>
    obtain ⟨h1, h2⟩ := great_small hg
    have := f5n9_at true h1 (fun x hx => (h2 x hx).1) a1 FUEL 0 new_ok List.drop_zero (lt_FUEL h.1)
    rw [show ((0 : Nat) : Int) = 0 from rfl] at this
    have h3 : f5n1 a1 true (⟨0, []⟩, 0) = some .norm := by unfold f5n1; rw [this]; rfl
    simp only [cond_false, cond_true, ex0, Option.bind_some, decide_true, h3]
end Go.Proofs.Ytelblamgfbkhbaa
