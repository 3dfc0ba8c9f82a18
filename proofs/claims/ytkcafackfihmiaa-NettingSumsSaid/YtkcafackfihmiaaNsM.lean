/- Several texts in one. No condition. -/
import Derived.Test.YtkcafackfihmiaaNeM
namespace Go.Proofs.Ytkcafackfihmiaa
set_option linter.unusedVariables false
set_option linter.unusedSimpArgs false
open Go.RowKit
def kT (x : NF) : Key_ := ⟨x.Date, x.To, x.Ccy⟩
def kF (x : NF) : Key_ := ⟨x.Date, x.From, x.Ccy⟩
def putF (x : NF) (m : KM) : KM := mPut Key_.eqb (kF x) (gK (kF x) m - x.Amount) m
def putT (x : NF) (m : KM) : KM := mPut Key_.eqb (kT x) (gK (kT x) m + x.Amount) m
def addH : List NF → KM → KM
  | [], m => m
  | x :: r, m => addH r (putT x (putF x m))
def wH (k : Key_) (x : NF) : Int := (bif Key_.eqb k (kT x) then x.Amount else 0) - (bif Key_.eqb k (kF x) then x.Amount else 0)
theorem gK_put (k q : Key_) (v : Int) (m : KM) : gK q (mPut Key_.eqb k v m) = bif Key_.eqb q k then v else gK q m := by unfold gK; exact mgetPut key_iff _ _ _ _ m
theorem gK_F (k : Key_) (x : NF) (m : KM) : gK k (putF x m) = gK k m - (bif Key_.eqb k (kF x) then x.Amount else 0) := by
  unfold putF
  rw [gK_put]
  cases h : Key_.eqb k (kF x) with
  | true => rw [(key_iff _ _).1 h]; rfl
  | false => simp
theorem gK_T (k : Key_) (x : NF) (m : KM) : gK k (putT x m) = gK k m + (bif Key_.eqb k (kT x) then x.Amount else 0) := by
  unfold putT
  rw [gK_put]
  cases h : Key_.eqb k (kT x) with
  | true => rw [(key_iff _ _).1 h]; rfl
  | false => simp
theorem addH_get (k : Key_) : ∀ (l : List NF) (m : KM), gK k (addH l m) = gK k m + sF (wH k) l
  | [], m => by simp [addH, sF]
  | x :: r, m => by rw [addH, addH_get k r, gK_T, gK_F, sF, wH]; omega
theorem addH_nd : ∀ (l : List NF) {m : KM}, ndK m → ndK (addH l m)
  | [], m, h => h
  | x :: r, m, h => addH_nd r (mputNd key_iff (mputNd key_iff h))
theorem addH_len : ∀ (l : List NF) (m : KM), (addH l m).length ≤ m.length + 2 * l.length
  | [], m => by simp [addH]
  | x :: r, m => by
    have h1 := addH_len r (putT x (putF x m))
    have h2 := mputLen (E := Key_.eqb) (kT x) (gK (kT x) (putF x m) + x.Amount) (putF x m)
    have h3 := mputLen (E := Key_.eqb) (kF x) (gK (kF x) m - x.Amount) m
    rw [addH]
    unfold putT putF at *
    simp only [List.length_cons]
    omega
theorem addH_key {k : Key_} : ∀ {l : List NF} {m : KM}, (∃ e ∈ addH l m, e.1 = k) → (∃ e ∈ m, e.1 = k) ∨ ∃ x ∈ l, kT x = k ∨ kF x = k
  | [], m, h => .inl h
  | x :: r, m, h => by
    rw [addH] at h
    rcases addH_key h with h | ⟨y, h1, h2⟩
    · rcases mputKeys key_iff h with e | h
      · exact .inr ⟨x, List.mem_cons_self, .inl e.symm⟩
      · rcases mputKeys key_iff h with e | h
        · exact .inr ⟨x, List.mem_cons_self, .inr e.symm⟩
        · exact .inl h
    · exact .inr ⟨y, List.mem_cons_of_mem _ h1, h2⟩
theorem addH_keep {k : Key_} : ∀ {l : List NF} {m : KM}, (∃ e ∈ m, e.1 = k) → ∃ e ∈ addH l m, e.1 = k
  | [], m, h => h
  | x :: r, m, h => addH_keep (l := r) (mputKeep key_iff (mputKeep key_iff h))
theorem addH_has {k : Key_} {x : NF} (hk : kT x = k ∨ kF x = k) : ∀ {l : List NF} {m : KM}, x ∈ l → ∃ e ∈ addH l m, e.1 = k
  | y :: r, m, h => by
    rw [addH]
    rcases List.mem_cons.1 h with rfl | h
    · refine addH_keep ?_
      rcases hk with rfl | rfl
      · exact mputHas key_iff _ _ _
      · exact mputKeep key_iff (mputHas key_iff _ _ _)
    · exact addH_has hk h
theorem addH_app : ∀ (a b : List NF) (m : KM), addH (a ++ b) m = addH b (addH a m)
  | [], b, m => rfl
  | x :: a, b, m => by rw [List.cons_append, addH, addH]; exact addH_app a b _
theorem wH_bd {k : Key_} {l : List NF} (hg : ∀ x ∈ l, goodF x = true) (hl : l.length ≤ 500) : -562949953421312000 ≤ sF (wH k) l ∧ sF (wH k) l ≤ 562949953421312000 := by
  have := sF_bound (wH k) 1125899906842624 l fun x hx => by
    have := goodF_amt (hg x hx)
    unfold wH
    cases Key_.eqb k (kT x) <;> cases Key_.eqb k (kF x) <;> simp only [cond_true, cond_false] <;> omega
  omega
def sumsH (l : List NF) : KM := addH l []
theorem gH_bd {l : List NF} (hg : ∀ x ∈ l, goodF x = true) (hl : l.length ≤ 500) (k : Key_) : -562949953421312000 ≤ gK k (sumsH l) ∧ gK k (sumsH l) ≤ 562949953421312000 := by
  unfold sumsH
  rw [addH_get]
  have := wH_bd (k := k) hg hl
  have e : gK k [] = 0 := rfl
  omega
theorem sumsH_mem {l : List NF} {e : Key_ × Int} (he : e ∈ sumsH l) : gK e.1 (sumsH l) = e.2 :=
  mgetMem key_iff (z := (0 : Int)) (k := e.1) (v := e.2) (addH_nd l List.Pairwise.nil) he
theorem sumsH_bd {l : List NF} (hg : ∀ x ∈ l, goodF x = true) (hl : l.length ≤ 500) : ∀ e ∈ sumsH l, -562949953421312000 ≤ e.2 ∧ e.2 ≤ 562949953421312000 := fun e he => by
  have := gH_bd hg hl e.1
  rw [sumsH_mem he] at this
  exact this
theorem f16w_eq (hub : ByteArray) {bg : List NF} (hg : ∀ x ∈ bg, goodF x = true) (hl : bg.length ≤ 500) : ∀ (l pre : List NF) (v : Int), bg = pre ++ l → f16r1n2L hub bg l v (addH pre []) = some (.exit0 (sumsH bg))
  | [], pre, v, h => by rw [List.append_nil] at h; subst h; rfl
  | x :: r, pre, v, h => by
    have ih := f16w_eq hub hg hl r (pre ++ [x]) (v + 1) (by rw [h]; simp)
    have hx : goodF x = true := hg x (by rw [h]; simp)
    have hp : ∀ y ∈ pre, goodF y = true := fun y hy => hg y (by rw [h]; simp [hy])
    have hpl : pre.length + 1 ≤ 500 := by rw [h] at hl; simp at hl; omega
    have ha := goodF_amt hx
    have hb1 := gH_bd hp (by omega) (kF x)
    have hb2 := gH_bd hp (by omega) (kT x)
    rw [addH_app, addH] at ih
    unfold sumsH at hb1 hb2
    have e1 : wr64 (mGet Key_.eqb 0 (Key_.mk x.Date x.From x.Ccy) (addH pre []) - x.Amount) = gK (kF x) (addH pre []) - x.Amount := by
      show wr64 (gK (kF x) (addH pre []) - x.Amount) = _
      rw [wrIn (by omega) (by omega)]
    have e2 : wr64 (mGet Key_.eqb 0 (Key_.mk x.Date x.To x.Ccy) (putF x (addH pre [])) + x.Amount) = gK (kT x) (putF x (addH pre [])) + x.Amount := by
      show wr64 (gK (kT x) (putF x (addH pre [])) + x.Amount) = _
      have := gK_F (kT x) x (addH pre [])
      rw [this]
      cases Key_.eqb (kT x) (kF x) <;> simp only [cond_true, cond_false] <;> rw [wrIn (by omega) (by omega)]
    rw [f16r1n2L, e1]
    show f16r1n2L hub bg r (v + 1) (mPut Key_.eqb (Key_.mk x.Date x.To x.Ccy) (wr64 (mGet Key_.eqb 0 (Key_.mk x.Date x.To x.Ccy) (putF x (addH pre [])) + x.Amount)) (putF x (addH pre []))) = _
    rw [e2]
    exact ih

def shr (hub : ByteArray) (e : Key_ × Int) : Share_ := ⟨e.1.set, mk1 ⟨e.1.date, str_x, e.1.ccy⟩ hub e.1.set e.2⟩
def selH (hub : ByteArray) (e : Key_ × Int) : Bool := !(seq e.1.set hub) && !(decide (e.2 = 0))
def okH (hub : ByteArray) (p : KM) : Bool := p.all fun e => seq e.1.set hub || okAmt e.2
def madeH (hub : ByteArray) (p : KM) : List Share_ := (p.filter (selH hub)).map (shr hub)
theorem madeH_cons (hub : ByteArray) (e : Key_ × Int) (p : KM) : madeH hub (e :: p) = (bif selH hub e then [shr hub e] else []) ++ madeH hub p := by
  unfold madeH
  rw [List.filter_cons]
  cases selH hub e <;> simp
theorem f16n4_eq (hub : ByteArray) (al : List NF) (bi : KM) : ∀ (p : KM) (o : List Share_), (∀ e ∈ p, -562949953421312000 ≤ e.2 ∧ e.2 ≤ 562949953421312000) → o.length + p.length ≤ 10000 →
    f16r1n4 hub al bi p o = some (bif okH hub p then .exit2 (o ++ madeH hub p) else .ret)
  | [], o, _, _ => by simp [f16r1n4, madeH, okH]
  | e :: p, o, hb, hn => by
    simp only [List.length_cons] at hn
    have he := hb e List.mem_cons_self
    have ih := fun o' => f16n4_eq hub al bi p o' fun x hx => hb x (List.mem_cons_of_mem _ hx)
    unfold okH at ih ⊢
    rw [f16r1n4, mx_eq (by omega) (by omega), List.all_cons, madeH_cons]
    unfold selH
    cases seq e.1.set hub with
    | true => simp only [cond_true, Bool.true_or, Bool.true_and, Bool.not_true, Bool.false_and, cond_false, List.nil_append]; exact ih o (by omega)
    | false =>
      cases okAmt e.2 with
      | false => rfl
      | true =>
        simp only [Bool.not_true, cond_false, Option.bind_some, Bool.true_and, Bool.false_or, Bool.not_false]
        rw [f37_eq (by omega)]
        simp only [Option.bind_some]
        cases h0 : decide (e.2 = 0) with
        | true => simp only [Bool.not_true, cond_false, List.nil_append]; exact ih o (by omega)
        | false =>
          simp only [Bool.not_false, cond_true]
          rw [req, fitSmall (by omega) (by omega), cond_true]
          have := ih (o ++ [shr hub e]) (by simp; omega)
          simpa [shr] using this
def cS (a b : Share_) : Int := cmpOr (cmpI a.flow.Date b.flow.Date) (cmpOr (cmpB a.flow.Ccy b.flow.Ccy) (cmpB a.party b.party))
theorem cS_cmp : Cmp cS := (Cmp.int fun x : Share_ => x.flow.Date).lex ((Cmp.str fun x : Share_ => x.flow.Ccy).lex (Cmp.str Share_.party))
theorem f39_eq (a b : Share_) : f39 a b = some (cS a b) := by
  unfold f39 f39n0
  rw [f41_eq, f42_eq, f42_eq]
  simp only [Option.bind_some, f40_eq]
  rfl
theorem cS_zero {a b : Share_} : cS a b = 0 ↔ a.flow.Date = b.flow.Date ∧ a.flow.Ccy = b.flow.Ccy ∧ a.party = b.party := by
  unfold cS
  rw [cmpOr_zero, cmpOr_zero, cmpI_zero, cmpB_zero, cmpB_zero]
abbrev ltS : Share_ → Share_ → Bool := fun x y => decide (cS x y < 0)
theorem swo_S : SWo ltS := cS_cmp.swo
theorem sortL_S {a b : List Share_} (hp : b.Perm a) (hn : a.Pairwise fun x y => eqv ltS x y = false) : sortL cS b = sortS ltS a :=
  sortS_of swo_S (sortL_sorted cS_cmp.SWO b) (Cl.of_perm ((sortL_perm cS_cmp.SWO b).trans hp) hn swo_S)
theorem mk1_fields (k : Key_) (a b : ByteArray) (n : Int) : (mk1 k a b n).Date = k.date ∧ (mk1 k a b n).Set = k.set ∧ (mk1 k a b n).Ccy = k.ccy := by
  unfold mk1
  cases decide (n < 0) <;> exact ⟨rfl, rfl, rfl⟩
theorem madeH_key (hub : ByteArray) {m : KM} (h : ndK m) : (madeH hub m).Pairwise fun x y => eqv ltS x y = false := by
  unfold madeH
  rw [List.pairwise_map]
  refine (h.sublist List.filter_sublist).imp fun {a b} hab => ?_
  cases e : eqv ltS (shr hub a) (shr hub b) with
  | false => rfl
  | true =>
    obtain ⟨h1, h2, h3⟩ := cS_zero.1 (cS_cmp.eqv.1 e)
    unfold shr at h1 h2 h3
    simp only [mk1_fields] at h1 h2 h3
    refine absurd ?_ hab
    obtain ⟨⟨d, p, c⟩, n⟩ := a
    obtain ⟨⟨d', p', c'⟩, n'⟩ := b
    simp only at h1 h2 h3
    rw [h1, h2, h3]
theorem madeH_len (hub : ByteArray) (p : KM) : (madeH hub p).length ≤ p.length := by
  unfold madeH; rw [List.length_map]; exact List.length_filter_le _ _
theorem f16u_eq (bm : List Share_) (al : List NF) : ∀ (l : List Share_) (v : Int) (o : List NF), o.length + l.length ≤ 10000 → f16r1n6L bm al l v o = some (.exit4 (o ++ l.map Share_.flow))
  | [], v, o, _ => by simp [f16r1n6L]
  | x :: r, v, o, h => by
    simp only [List.length_cons] at h
    rw [f16r1n6L, req, fitSmall (by omega) (by omega), cond_true, f16u_eq bm al r (v + 1) (o ++ [x.flow]) (by simp; omega)]
    simp
def hubM (hub : ByteArray) (m : KM) : List NF × Int := bif okH hub m then bif decide (500 < (madeH hub m).length) then ([], 4) else ((sortS ltS (madeH hub m)).map Share_.flow, 0) else ([], 14)
def hubS (hub : ByteArray) (l : List NF) : List NF × Int := bif listB l then bif nmB hub then hubM hub (sumsH l) else ([], 2) else ([], 8)
theorem listB_iff {l : List NF} (h : listB l = true) : l.length ≤ 500 ∧ ∀ x ∈ l, goodF x = true := by
  unfold listB at h
  rwa [Bool.and_eq_true, decide_eq_true_eq, List.all_eq_true] at h
theorem f16_eq (hub : ByteArray) {l : List NF} (hm : l.length ≤ maxLen) : f16r1 hub l = some ((hubS hub l).2, (hubS hub l).1) := by
  unfold f16r1 f16r1n0 hubS
  rw [f35_eq hm]
  cases hc : listB l with
  | false => rfl
  | true =>
    obtain ⟨hl, hg⟩ := listB_iff hc
    simp only [cond_true, Option.bind_some, decide_true, f36_eq]
    cases nmB hub with
    | false => rfl
    | true =>
      have h1 : f16r1n1 hub l = some (.norm (sumsH l)) := by
        unfold f16r1n1
        rw [f16r1n2_run hub l [] (maxSmall (by omega))]
        have := f16w_eq hub hg hl l [] 0 rfl
        have this' : f16r1n2L hub l l 0 [] = _ := this
        rw [this']; rfl
      have hlen : (sumsH l).length ≤ 1000 := by
        have := addH_len l []
        unfold sumsH
        simp only [List.length_nil] at this
        omega
      have h3 : ∀ p, p.Perm (sumsH l) → f16r1n3 hub l (sumsH l) p = some (bif okH hub (sumsH l) then .norm (madeH hub p) else .ret) := fun p hp => by
        unfold f16r1n3
        rw [f16n4_eq hub _ _ p [] (fun e he => sumsH_bd hg hl e (hp.mem_iff.1 he)) (by rw [hp.length_eq]; simp; omega)]
        unfold okH
        rw [hp.all_eq]
        cases (sumsH l).all fun e => seq e.1.set hub || okAmt e.2 <;> rfl
      have hn := madeH_len hub (sumsH l)
      unfold hubM
      simp only [cond_true, h1, Option.bind_some]
      cases ho : okH hub (sumsH l) with
      | false =>
        rw [anyOrder_of (o := f16r1n0O.ret 14 []) fun p hp => ?_]
        · rfl
        · rw [h3 p hp, ho]; rfl
      | true =>
        rw [anyOrder_of (o := bif decide (500 < (madeH hub (sumsH l)).length) then f16r1n0O.ret 4 [] else f16r1n0O.ret 0 ((sortS ltS (madeH hub (sumsH l))).map Share_.flow)) fun p hp => ?_]
        · cases decide (500 < (madeH hub (sumsH l)).length) <;> rfl
        · have hp2 : (madeH hub p).Perm (madeH hub (sumsH l)) := (hp.filter _).map _
          rw [h3 p hp, ho]
          simp only [cond_true, Option.bind_some]
          rw [hp2.length_eq, show decide ((500 : Int) < (((madeH hub (sumsH l)).length : Nat) : Int)) = decide (500 < (madeH hub (sumsH l)).length) by congr 1; apply propext; omega]
          by_cases h5 : 500 < (madeH hub (sumsH l)).length
          · rw [decide_eq_true h5]; rfl
          · rw [decide_eq_false h5, cond_false, cond_false, so38_39_val f39_eq cS_cmp.SWO (by rw [hp2.length_eq]; omega)]
            have e := sortL_S hp2 (madeH_key hub (addH_nd l List.Pairwise.nil))
            have hsl : (sortS ltS (madeH hub (sumsH l))).length ≤ 1000 := by rw [sortS_len swo_S]; omega
            simp only [Option.bind_some]
            have e' : sortL cS (madeH hub p) = sortS ltS (madeH hub (sumsH l)) := e
            rw [e']
            unfold f16r1n5
            rw [f16r1n6_run (sortS ltS (madeH hub (sumsH l))) l [] (maxSmall (by omega)), f16u_eq _ _ _ 0 [] (by simp; omega)]
            rfl
end Go.Proofs.Ytkcafackfihmiaa
namespace Go.Proofs.Ytkcafackfihmiaa
set_option linter.unusedVariables false
set_option linter.unusedSimpArgs false
open Go.RowKit
def nw (w : ByteArray) (d : Int) (c : ByteArray) (x : NF) : Int := bif decide (x.Date = d) && seq x.Ccy c then bif seq x.To w then x.Amount else bif seq x.From w then -x.Amount else 0 else 0
theorem f27w_eq (w : ByteArray) (d : Int) (c : ByteArray) (bg : List NF) : ∀ (l : List NF) (n v : Int), f27n2L w d c bg l (wr64 n) v = some (.exit0 (wr64 (n + sF (nw w d c) l)))
  | [], n, v => by simp [f27n2L, sF]
  | x :: r, n, v => by
    rw [f27n2L, sF, nw]
    have ih := fun n' => f27w_eq w d c bg r n' (v + 1)
    cases decide (x.Date = d) with
    | false => simp only [cond_false, Bool.false_and, ih, Int.zero_add]
    | true =>
      cases seq x.Ccy c with
      | false => simp only [cond_true, cond_false, Bool.true_and, ih, Int.zero_add]
      | true =>
        cases seq x.To w with
        | true => simp only [cond_true, Bool.and_self, wrL, ih, Int.add_assoc]
        | false =>
          cases seq x.From w with
          | true => simp only [cond_true, cond_false, Bool.and_self, wrLs, ih]; rw [Int.sub_eq_add_neg, Int.add_assoc]
          | false => simp only [cond_true, cond_false, Bool.and_self, ih, Int.zero_add]
theorem nw_bd {l : List NF} (hg : ∀ x ∈ l, goodF x = true) (hl : l.length ≤ 500) (w : ByteArray) (d : Int) (c : ByteArray) : -562949953421312000 ≤ sF (nw w d c) l ∧ sF (nw w d c) l ≤ 562949953421312000 := by
  have := sF_bound (nw w d c) 1125899906842624 l fun x hx => by
    have := goodF_amt (hg x hx)
    unfold nw
    cases decide (x.Date = d) && seq x.Ccy c <;> cases seq x.To w <;> cases seq x.From w <;> simp only [cond_true, cond_false] <;> omega
  omega
def netS (l : List NF) (w : ByteArray) (d : Int) (c : ByteArray) : Int × Int := bif listB l then withN (sF (nw w d c) l) else (0, 8)
theorem f27_eq {l : List NF} (hm : l.length ≤ maxLen) (w : ByteArray) (d : Int) (c : ByteArray) : f27 l w d c = some (netS l w d c) := by
  unfold f27 f27n0 netS
  rw [f35_eq hm]
  cases hc : listB l with
  | false => rfl
  | true =>
    obtain ⟨hl, hg⟩ := listB_iff hc
    have hb := nw_bd hg hl w d c
    have h1 : f27n1 l w d c = some (.norm (sF (nw w d c) l)) := by
      have := f27w_eq w d c l l 0 0
      rw [Int.zero_add, wrIn (n := sF (nw w d c) l) (by omega) (by omega)] at this
      have this' : f27n2L w d c l l 0 0 = _ := this
      unfold f27n1
      rw [f27n2_run w d c l 0 hm, this']; rfl
    simp only [cond_true, Option.bind_some, decide_true, h1, f50_eq (n := sF (nw w d c) l) (by omega) (by omega)]

theorem nw_wH {x : NF} (hg : goodF x = true) (w : ByteArray) (d : Int) (c : ByteArray) : nw w d c x = wH ⟨d, w, c⟩ x := by
  have hne := goodF_ne hg
  unfold nw wH
  by_cases h1 : x.Date = d
  · by_cases h2 : x.Ccy = c
    · subst h1 h2
      rw [decide_eq_true (rfl : x.Date = x.Date), seq_refl]
      simp only [Bool.and_self, cond_true]
      by_cases h3 : x.To = w
      · subst h3
        rw [seq_refl, eF key_iff (a := ⟨x.Date, x.To, x.Ccy⟩) (b := kF x) fun e => hne (Key_.mk.inj e).2.1.symm]
        have : Key_.eqb ⟨x.Date, x.To, x.Ccy⟩ (kT x) = true := eRefl key_iff _
        rw [this]; simp
      · rw [seqF h3, eF key_iff (a := ⟨x.Date, w, x.Ccy⟩) (b := kT x) fun e => h3 (Key_.mk.inj e).2.1.symm]
        by_cases h4 : x.From = w
        · subst h4
          have : Key_.eqb ⟨x.Date, x.From, x.Ccy⟩ (kF x) = true := eRefl key_iff _
          rw [this, seq_refl]; simp
        · rw [seqF h4, eF key_iff (a := ⟨x.Date, w, x.Ccy⟩) (b := kF x) fun e => h4 (Key_.mk.inj e).2.1.symm]; simp
    · rw [seqF h2, eF key_iff (a := ⟨d, w, c⟩) (b := kT x) fun e => h2 (Key_.mk.inj e).2.2.symm, eF key_iff (a := ⟨d, w, c⟩) (b := kF x) fun e => h2 (Key_.mk.inj e).2.2.symm]; simp
  · rw [decide_eq_false h1, eF key_iff (a := ⟨d, w, c⟩) (b := kT x) fun e => h1 (Key_.mk.inj e).1.symm, eF key_iff (a := ⟨d, w, c⟩) (b := kF x) fun e => h1 (Key_.mk.inj e).1.symm]; simp
section
variable {hub : ByteArray} {l : List NF}
theorem sumsH_from {e : Key_ × Int} (he : e ∈ sumsH l) : ∃ x ∈ l, kT x = e.1 ∨ kF x = e.1 := by
  rcases addH_key ⟨e, he, rfl⟩ with ⟨y, h1, _⟩ | h
  · cases h1
  · exact h
end
end Go.Proofs.Ytkcafackfihmiaa
namespace Go.Proofs.Ytkcafackfihmiaa
set_option linter.unusedVariables false
set_option linter.unusedSimpArgs false
open Go.RowKit
theorem nodup_perm {α : Type} : ∀ {a b : List α}, a.Pairwise (fun x y => x ≠ y) → b.Pairwise (fun x y => x ≠ y) → (∀ x, x ∈ a ↔ x ∈ b) → a.Perm b
  | [], b, _, _, h => by
    cases b with
    | nil => exact .refl _
    | cons y r => exact absurd ((h y).2 List.mem_cons_self) List.not_mem_nil
  | x :: a, b, ha, hb, h => by
    obtain ⟨b1, b2, rfl⟩ := List.append_of_mem ((h x).1 List.mem_cons_self)
    have hx := List.pairwise_cons.1 ha
    have hb' := List.pairwise_append.1 hb
    have hb2 := List.pairwise_cons.1 hb'.2.1
    have hn : (b1 ++ b2).Pairwise fun x y => x ≠ y := List.pairwise_append.2 ⟨hb'.1, hb2.2, fun u hu v hv => hb'.2.2 u hu v (List.mem_cons_of_mem _ hv)⟩
    have ih := nodup_perm hx.2 hn fun y => by
      constructor
      · intro hy
        have := (h y).1 (List.mem_cons_of_mem _ hy)
        rcases List.mem_append.1 this with k | k
        · exact List.mem_append_left _ k
        · rcases List.mem_cons.1 k with rfl | k
          · exact absurd rfl (hx.1 y hy)
          · exact List.mem_append_right _ k
      · intro hy
        have hm : y ∈ b1 ++ x :: b2 := by
          rcases List.mem_append.1 hy with k | k
          · exact List.mem_append_left _ k
          · exact List.mem_append_right _ (List.mem_cons_of_mem _ k)
        rcases List.mem_cons.1 ((h y).2 hm) with rfl | k
        · rcases List.mem_append.1 hy with k | k
          · exact absurd rfl (hb'.2.2 y k y List.mem_cons_self)
          · exact absurd rfl (hb2.1 y k)
        · exact k
    exact (ih.cons x).trans List.perm_middle.symm
end Go.Proofs.Ytkcafackfihmiaa
namespace Go.Proofs.Ytkcafackfihmiaa
set_option linter.unusedVariables false
set_option linter.unusedSimpArgs false
open Go.RowKit
theorem f49n2_eq {s : ByteArray} {k : Int} {b : UInt8} (h : at? s.data.toList k = some b) : f49n2 s k = some (bif ltrI b.toNat || (othI b.toNat && !(decide (k = 0))) then .norm else .ret) := by
  have h3 : f49n3 s k b = some (.norm (ltrI b.toNat)) := by
    unfold f49n3 ltrI
    cases decide ((97 : Int) ≤ (b.toNat : Int)) <;> cases decide ((b.toNat : Int) ≤ 122) <;> cases decide ((65 : Int) ≤ (b.toNat : Int)) <;> cases decide ((b.toNat : Int) ≤ 90) <;> rfl
  have h4 : f49n4 s k b (ltrI b.toNat) = some (.norm (othI b.toNat)) := by
    unfold f49n4 othI
    cases decide ((48 : Int) ≤ (b.toNat : Int)) <;> cases decide ((b.toNat : Int) ≤ 57) <;> cases decide ((b.toNat : Int) = 95) <;> cases decide ((b.toNat : Int) = 45) <;> rfl
  unfold f49n2
  rw [h]
  simp only [Option.bind_some, h3, h4]
  unfold f49n5
  cases ltrI b.toNat <;> cases othI b.toNat <;> cases decide (k = 0) <;> rfl
theorem f49n6_at (s : ByteArray) (hs : s.data.toList.length ≤ 1000) : ∀ (r : List UInt8) (f k : Nat), 1 ≤ k → s.data.toList.drop k = r → r.length < f → f49n6 f s (k : Int) = some (bif r.all chB then .exit0 else .ret)
  | _, 0, _, _, _, h => absurd h (Nat.not_lt_zero _)
  | [], f + 1, k, _, hd, _ => by
    have := drop_nil hd
    rw [f49n6, sizeList, decide_eq_false (by omega), cond_false]; rfl
  | b :: r, f + 1, k, h1k, hd, hf => by
    obtain ⟨h1, h2, h3⟩ := dropAt hd
    rw [f49n6, sizeList, decide_eq_true (by omega), cond_true, f49n2_eq h1, List.all_cons, decide_eq_false (by omega : ¬ ((k : Int) = 0)), Bool.not_false, Bool.and_true]
    show _ = some (bif chB b && r.all chB then _ else _)
    unfold chB
    cases ltrI b.toNat || othI b.toNat with
    | false => rfl
    | true =>
      simp only [cond_true, Option.bind_some, Bool.true_and]
      rw [wrSucc (by omega)]
      exact f49n6_at s hs r f (k + 1) (by omega) h3 (by simpa using hf)
theorem f49_eq (s : ByteArray) : f49 s = some (nmB s) := by
  unfold f49 f49n0 nmB
  rw [sizeList]
  by_cases hs : s.data.toList.length ≤ 40
  · cases hl : s.data.toList with
    | nil => rfl
    | cons b r =>
      rw [hl] at hs
      have h1 : f49n1 s = some (bif ltrI b.toNat && r.all chB then .norm else .ret) := by
        unfold f49n1
        obtain ⟨g, hg⟩ : ∃ g, FUEL = g + 1 := ⟨FUEL - 1, by have := fuelSmall (n := 1) (by omega); omega⟩
        have hlt : r.length < g := by
          have := fuelSmall (n := 50) (by omega)
          simp only [List.length_cons] at hs
          omega
        have h0 : at? s.data.toList 0 = some b := by rw [hl]; rfl
        rw [hg, f49n6, sizeList, hl, decide_eq_true (by simp), cond_true, f49n2_eq h0]
        cases hb : ltrI b.toNat with
        | false => cases othI b.toNat <;> rfl
        | true =>
          have := f49n6_at s (by rw [hl]; omega) r g 1 (by omega) (by rw [hl]; rfl) hlt
          rw [show wr64 (0 + 1) = ((1 : Nat) : Int) from by rw [wrIn (by omega) (by omega)]; rfl, this]
          cases r.all chB <;> rfl
      rw [decide_eq_false (by simp; omega : ¬ (((b :: r).length : Nat) : Int) < 1), decide_eq_false (by omega : ¬ (40 : Int) < (((b :: r).length : Nat) : Int)), h1]
      simp only [cond_false, Option.bind_some, isNm, decide_eq_true hs, Bool.true_and]
      cases ltrI b.toNat && r.all chB <;> rfl
  · rw [decide_eq_false (by omega : ¬ ((s.data.toList.length : Nat) : Int) < 1), decide_eq_true (by omega : (40 : Int) < ((s.data.toList.length : Nat) : Int))]
    have : isNm s.data.toList = false := by
      generalize s.data.toList = l at hs
      cases l with
      | nil => rfl
      | cons b r => simp only [isNm, decide_eq_false hs, Bool.false_and]
    rw [this]; rfl
theorem f67_eq (x : NF) : f67 x = some (goodF x) := by
  have h1 : f67n1 x = some (bif namesB x then .norm else .ret) := by
    unfold f67n1 f67n2 namesB
    rw [f49_eq, f49_eq, f49_eq, f49_eq]
    cases seq x.Set str_x <;> cases nmB x.Set <;> cases nmB x.Ccy <;> cases nmB x.From <;> cases nmB x.To <;> cases seq x.From x.To <;> rfl
  unfold f67 f67n0 goodF
  rw [h1]
  cases namesB x <;> cases decide (0 ≤ x.Date) <;> cases decide (x.Date ≤ 99999) <;> cases decide (1 ≤ x.Amount) <;> cases decide (x.Amount ≤ 1125899906842624) <;> rfl
theorem f48w_eq (bg : List NF) : ∀ (l : List NF) (v : Int), ∃ o, f48n2L bg l v = some o ∧ (v + l.length ≤ 500 → o = bif l.all goodF then .exit0 else .ret)
  | [], v => ⟨.exit0, rfl, fun _ => rfl⟩
  | x :: r, v => by
    obtain ⟨o, h1, h2⟩ := f48w_eq bg r (v + 1)
    rw [f48n2L, f67_eq, List.all_cons]
    simp only [Option.bind_some, List.length_cons]
    by_cases hv : v < 500
    · rw [decide_eq_true hv, cond_true]
      cases goodF x with
      | true => exact ⟨o, h1, fun h => h2 (by omega)⟩
      | false => exact ⟨.ret, rfl, fun _ => rfl⟩
    · rw [decide_eq_false hv]
      exact ⟨.exit0, rfl, fun h => by omega⟩
theorem f48_eq {l : List NF} (hm : l.length ≤ maxLen) : f48 l = some (listB l) := by
  obtain ⟨o, h1, h2⟩ := f48w_eq l l 0
  unfold f48 f48n0 f48n1 listB
  rw [f48n2_run l hm, h1, show decide ((l.length : Int) ≤ 500) = decide (l.length ≤ 500) by congr 1; apply propext; omega]
  by_cases hl : l.length ≤ 500
  · rw [h2 (by omega), decide_eq_true hl]
    cases l.all goodF <;> rfl
  · rw [decide_eq_false hl]
    cases o <;> rfl
theorem f25_any {l : List NF} (hl : l.length ≤ 1000000) : ∃ r, f25r1 l = some r := by
  have h : ∀ (n f k : Nat) (m : List NF), m.length ≤ 1000000 → k + n = m.length → n < f → ∃ r, f25r1n1 f (k : Int) m = some (.exit0 r) := fun n => by
    induction n with
    | zero =>
      intro f k m hm hk hf
      obtain ⟨g, rfl⟩ : ∃ g, f = g + 1 := ⟨f - 1, by omega⟩
      rw [f25r1n1, decide_eq_false (by omega)]
      exact ⟨m, rfl⟩
    | succ n ih =>
      intro f k m hm hk hf
      obtain ⟨g, rfl⟩ : ∃ g, f = g + 1 := ⟨f - 1, by omega⟩
      rw [f25r1n1, decide_eq_true (by omega), at_in (by omega : k < m.length)]
      simp only [cond_true, Option.bind_some]
      rw [wrSucc (by omega)]
      exact ih g (k + 1) _ (by rw [List.length_set]; omega) (by rw [List.length_set]; omega) (by omega)
  obtain ⟨r, hr⟩ := h l.length FUEL 0 l hl (by omega) (fuelSmall hl)
  refine ⟨r, ?_⟩
  unfold f25r1 f25r1n0
  have hr' : f25r1n1 FUEL 0 l = some (.exit0 r) := hr
  rw [hr']; rfl
theorem f53_eq (n : Int) : f53 n = some (withN n) := by
  unfold f53 f53n0 withN okAmt
  by_cases h1 : (1125899906842624 : Int) < n
  · rw [decide_eq_true h1, decide_eq_false (by omega : ¬ n ≤ 1125899906842624), Bool.and_false]; rfl
  · rw [decide_eq_false h1, decide_eq_true (by omega : n ≤ 1125899906842624), Bool.and_true]
    by_cases h2 : n < -1125899906842624
    · rw [decide_eq_true h2, decide_eq_false (by omega : ¬ -1125899906842624 ≤ n)]; rfl
    · rw [decide_eq_false h2, decide_eq_true (by omega : -1125899906842624 ≤ n)]; rfl
end Go.Proofs.Ytkcafackfihmiaa
namespace Go.Proofs.Ytkcafackfihmiaa
set_option linter.unusedVariables false
set_option linter.unusedSimpArgs false
open Go.RowKit
theorem f52w_eq (w : ByteArray) (d : Int) (c : ByteArray) (bg : List NF) : ∀ (l : List NF) (n v : Int), (∀ x ∈ l, goodF x = true) → f52n2L bg w d c l (wr64 n) v = some (.exit0 (wr64 (n + sF (nw w d c) l)))
  | [], n, v, _ => by simp [f52n2L, sF]
  | x :: r, n, v, hg => by
    have hne := goodF_ne (hg x List.mem_cons_self)
    rw [f52n2L, sF, nw]
    have ih := fun n' => f52w_eq w d c bg r n' (v + 1) fun y hy => hg y (List.mem_cons_of_mem _ hy)
    cases decide (x.Date = d) with
    | false => simp only [cond_false, Bool.false_and, ih, Int.zero_add]
    | true =>
      cases seq x.Ccy c with
      | false => simp only [cond_true, cond_false, Bool.true_and, ih, Int.zero_add]
      | true =>
        cases h1 : seq x.To w with
        | true =>
          have h2 : seq x.From w = false := seqF fun e => hne (e.trans (seq_iff.1 h1).symm)
          rw [h2]
          simp only [cond_true, cond_false, Bool.and_self, wrL, ih, Int.add_assoc]
        | false =>
          cases seq x.From w with
          | true => simp only [cond_true, cond_false, Bool.and_self, wrLs, ih]; rw [Int.sub_eq_add_neg, Int.add_assoc]
          | false => simp only [cond_true, cond_false, Bool.and_self, ih, Int.zero_add]
theorem f52_eq {l : List NF} (hb : listB l = true) (w : ByteArray) (d : Int) (c : ByteArray) : f52 l w d c = some (sF (nw w d c) l) := by
  obtain ⟨hl, hg⟩ := listB_iff hb
  have hb := nw_bd hg hl w d c
  have := f52w_eq w d c l l 0 0 hg
  rw [Int.zero_add, wrIn (n := sF (nw w d c) l) (by omega) (by omega)] at this
  have this' : f52n2L l w d c l 0 0 = _ := this
  unfold f52 f52n0 f52n1
  rw [f52n2_run l w d c 0 (maxSmall (by omega)), this']; rfl
theorem f29_eq {l : List NF} (hm : l.length ≤ maxLen) (w : ByteArray) (d : Int) (c : ByteArray) : f29 l w d c = some (netS l w d c) := by
  unfold f29 f29n0 netS
  rw [f48_eq hm]
  cases hc : listB l with
  | false => rfl
  | true =>
    simp only [cond_true, Option.bind_some, f52_eq hc, f53_eq]
theorem f30w_eq (c : ByteArray) (bg : List NF) : ∀ (l : List NF) (n v : Int), f30n2L bg c l (wr64 n) v = some (.exit0 (wr64 (n + sF (grs c) l)))
  | [], n, v => by simp [f30n2L, sF]
  | x :: r, n, v => by
    rw [f30n2L]
    cases h : seq x.Ccy c with
    | true => rw [cond_true, wrL, f30w_eq c bg r]; simp only [sF, grs, h, cond_true, Int.add_assoc]
    | false => rw [cond_false, f30w_eq c bg r]; simp only [sF, grs, h, cond_false, Int.zero_add]
theorem f30_eq {l : List NF} (hm : l.length ≤ maxLen) (c : ByteArray) : f30 l c = some (grossS l c) := by
  unfold f30 f30n0 grossS
  rw [f48_eq hm]
  cases hc : listB l with
  | false => rfl
  | true =>
    obtain ⟨hl, hg⟩ := listB_iff hc
    have hb := grs_bd hg hl c
    have h1 : f30n1 l c = some (.norm (sF (grs c) l)) := by
      have := f30w_eq c l l 0 0
      rw [Int.zero_add, wrIn (n := sF (grs c) l) (by omega) (by omega)] at this
      have this' : f30n2L l c l 0 0 = _ := this
      unfold f30n1
      rw [f30n2_run l c 0 hm, this']; rfl
    simp only [cond_true, Option.bind_some, h1, f53_eq]

def cRw (a b : Row_) : Int := cmpOr (cmpI a.date b.date) (cmpOr (cmpB a.ccy b.ccy) (cmpB a.party b.party))
theorem cRw_cmp : Cmp cRw := (Cmp.int Row_.date).lex ((Cmp.str Row_.ccy).lex (Cmp.str Row_.party))
abbrev ltRw : Row_ → Row_ → Bool := fun x y => decide (cRw x y < 0)
theorem swo_R : SWo ltRw := cRw_cmp.swo
theorem f68_eq (a b : Row_) : f68 a b = some (ltRw a b) := by
  unfold f68 f68n0
  show _ = some (decide (cRw a b < 0))
  unfold cRw cmpOr
  by_cases h1 : a.date = b.date
  · rw [decide_eq_true h1, decide_eq_true (cmpI_zero.2 h1)]
    by_cases h2 : a.ccy = b.ccy
    · rw [seq_iff.2 h2, decide_eq_true (cmpB_zero.2 h2)]
      simp only [cond_true, Option.bind_some]
      congr 1
      rw [Bool.eq_iff_iff, decide_eq_true_eq, cmpB_neg]
    · rw [seqF h2, decide_eq_false fun k => h2 (cmpB_zero.1 k)]
      simp only [cond_true, cond_false, Option.bind_some]
      congr 1
      rw [Bool.eq_iff_iff, decide_eq_true_eq, cmpB_neg]
  · rw [decide_eq_false h1, decide_eq_false fun k => h1 (cmpI_zero.1 k)]
    simp only [cond_false, Option.bind_some]
    congr 1
    rw [decide_eq_decide, cmpI_neg]
def insR (x : Row_) : List Row_ → List Row_
  | [] => [x]
  | y :: r => bif ltRw x y then x :: y :: r else y :: insR x r
theorem insR_perm (x : Row_) : ∀ l : List Row_, (insR x l).Perm (x :: l)
  | [] => .refl _
  | y :: r => by
    rw [insR]
    cases ltRw x y with
    | true => exact .refl _
    | false => exact ((insR_perm x r).cons y).trans (.swap x y r)
theorem insR_sd (x : Row_) : ∀ {l : List Row_}, Sd ltRw l → Sd ltRw (insR x l)
  | [], _ => List.pairwise_singleton _ _
  | y :: r, h => by
    have h' := List.pairwise_cons.1 h
    rw [insR]
    cases hx : ltRw x y with
    | true =>
      refine List.pairwise_cons.2 ⟨fun z hz => ?_, h⟩
      rcases List.mem_cons.1 hz with rfl | hz
      · exact swo_R.asym hx
      · exact swo_R.asym (swo_R.lt_le hx (h'.1 z hz))
    | false =>
      refine List.pairwise_cons.2 ⟨fun z hz => ?_, insR_sd x h'.2⟩
      rcases List.mem_cons.1 ((insR_perm x r).mem_iff.1 hz) with rfl | hz
      · exact hx
      · exact h'.1 z hz
theorem row_iff (a b : Row_) : Row_.eqb a b = true ↔ a = b := ⟨fun h => by
    unfold Row_.eqb at h
    rw [Bool.and_eq_true, Bool.and_eq_true] at h
    obtain ⟨d, c, p⟩ := a
    obtain ⟨d', c', p'⟩ := b
    have h1 : d = d' := of_decide_eq_true h.1.1
    have h2 : c = c' := seq_iff.1 h.1.2
    have h3 : p = p' := seq_iff.1 h.2
    rw [h1, h2, h3], fun h => by subst h; simp [Row_.eqb, seq_refl]⟩
theorem rowF {a b : Row_} (h : a ≠ b) : Row_.eqb a b = false := by
  cases k : Row_.eqb a b with
  | false => rfl
  | true => exact absurd ((row_iff _ _).1 k) h
theorem f51_in (bg : List Row_) (x : Row_) : ∀ (l : List Row_) (d : Bool) (v : Int) (o : List Row_), o.length + 2 * l.length ≤ 10000 → x ∈ l → f51n2L bg x l d v o = some .ret
  | [], _, _, _, _, h => absurd h List.not_mem_nil
  | y :: r, d, v, o, hn, h => by
    simp only [List.length_cons] at hn
    rw [f51n2L]
    by_cases hy : y = x
    · rw [(row_iff y x).2 hy]; rfl
    · have hm : x ∈ r := by
        rcases List.mem_cons.1 h with k | k
        · exact absurd k.symm hy
        · exact k
      rw [rowF hy, cond_false, f68_eq]
      simp only [Option.bind_some]
      cases d with
      | true =>
        rw [cond_true, req, fitSmall (by omega) (by omega), cond_true]
        exact f51_in bg x r _ _ _ (by simp; omega) hm
      | false =>
        rw [cond_false]
        cases ltRw x y with
        | true =>
          rw [cond_true, req, fitSmall (by omega) (by omega), cond_true, req, fitSmall (by simp; omega) (by omega), cond_true]
          exact f51_in bg x r _ _ _ (by simp; omega) hm
        | false =>
          rw [cond_false, req, fitSmall (by omega) (by omega), cond_true]
          exact f51_in bg x r _ _ _ (by simp; omega) hm
theorem f51_done (bg : List Row_) (x : Row_) : ∀ (l : List Row_) (v : Int) (o : List Row_), o.length + 2 * l.length ≤ 10000 → x ∉ l → f51n2L bg x l true v o = some (.exit0 true (o ++ l))
  | [], _, _, _, _ => by simp [f51n2L]
  | y :: r, v, o, hn, h => by
    simp only [List.length_cons] at hn
    rw [f51n2L, rowF fun e => h (by rw [e]; exact List.mem_cons_self), cond_false, cond_true, req, fitSmall (by omega) (by omega), cond_true, f51_done bg x r _ _ (by simp; omega) fun k => h (List.mem_cons_of_mem _ k)]
    simp
theorem f51_out (bg : List Row_) (x : Row_) : ∀ (l : List Row_) (v : Int) (o : List Row_), o.length + 2 * l.length ≤ 10000 → x ∉ l → ∃ d r, f51n2L bg x l false v o = some (.exit0 d r) ∧ (bif d then r else r ++ [x]) = o ++ insR x l ∧ r.length ≤ o.length + l.length + 1
  | [], _, o, _, _ => ⟨false, o, by simp [f51n2L], by simp [insR], by simp⟩
  | y :: r, v, o, hn, h => by
    simp only [List.length_cons] at hn
    rw [f51n2L, rowF fun e => h (by rw [e]; exact List.mem_cons_self), cond_false, cond_false, f68_eq]
    simp only [Option.bind_some]
    rw [insR]
    have hr : x ∉ r := fun k => h (List.mem_cons_of_mem _ k)
    cases ltRw x y with
    | true =>
      rw [cond_true, req, fitSmall (by omega) (by omega), cond_true, req, fitSmall (by simp; omega) (by omega), cond_true, f51_done bg x r _ _ (by simp; omega) hr]
      exact ⟨true, _, rfl, by simp, by simp; omega⟩
    | false =>
      rw [cond_false, req, fitSmall (by omega) (by omega), cond_true]
      obtain ⟨d, q, h1, h2, h3⟩ := f51_out bg x r (v + 1) (o ++ [y]) (by simp; omega) hr
      exact ⟨d, q, h1, by rw [h2]; simp, by simp at h3 ⊢; omega⟩
open Classical in
noncomputable def wR (x : Row_) (l : List Row_) : List Row_ := if x ∈ l then l else insR x l
theorem f51_eq {l : List Row_} (x : Row_) (hl : l.length ≤ 2000) : f51 l x = some (wR x l) := by
  unfold f51 f51n0 f51n1 wR
  rw [f51n2_run l x false [] (maxSmall (by omega))]
  by_cases h : x ∈ l
  · rw [f51_in l x l false 0 [] (by simp; omega) h, if_pos h]; rfl
  · obtain ⟨d, r, h1, h2, h3⟩ := f51_out l x l 0 [] (by simp; omega) h
    rw [h1, if_neg h]
    simp only [Option.bind_some]
    rw [List.nil_append] at h2
    cases d with
    | true => rw [cond_true] at h2; rw [cond_true, h2]; rfl
    | false =>
      rw [cond_false] at h2
      simp only [List.length_nil] at h3
      rw [cond_false, req, fitSmall (by omega) (by omega), cond_true, h2]; rfl
theorem wR_sd (x : Row_) {l : List Row_} (h : Sd ltRw l) : Sd ltRw (wR x l) := by
  unfold wR
  split
  · exact h
  · exact insR_sd x h
theorem wR_mem (x : Row_) {l : List Row_} {y : Row_} : y ∈ wR x l ↔ y = x ∨ y ∈ l := by
  unfold wR
  split
  · rename_i h
    exact ⟨.inr, fun k => k.elim (fun e => by rw [e]; exact h) id⟩
  · rw [(insR_perm x l).mem_iff, List.mem_cons]
theorem wR_nd (x : Row_) {l : List Row_} (h : l.Pairwise fun a b => a ≠ b) : (wR x l).Pairwise fun a b => a ≠ b := by
  unfold wR
  split
  · exact h
  · rename_i k
    refine ((insR_perm x l).symm.pairwise_iff fun {a b} e => e.symm).1 (List.pairwise_cons.2 ⟨fun y hy e => k (by rw [e]; exact hy), h⟩)
theorem wR_len (x : Row_) (l : List Row_) : (wR x l).length ≤ l.length + 1 := by
  unfold wR
  split
  · omega
  · rw [(insR_perm x l).length_eq]; simp
noncomputable def rowsR : List NF → List Row_ → List Row_
  | [], r => r
  | x :: l, r => rowsR l (wR ⟨x.Date, x.Ccy, x.To⟩ (wR ⟨x.Date, x.Ccy, x.From⟩ r))
theorem rowsR_len : ∀ (l : List NF) (r : List Row_), (rowsR l r).length ≤ r.length + 2 * l.length
  | [], r => by simp [rowsR]
  | x :: l, r => by
    have h1 := rowsR_len l (wR ⟨x.Date, x.Ccy, x.To⟩ (wR ⟨x.Date, x.Ccy, x.From⟩ r))
    have h2 := wR_len ⟨x.Date, x.Ccy, x.To⟩ (wR ⟨x.Date, x.Ccy, x.From⟩ r)
    have h3 := wR_len ⟨x.Date, x.Ccy, x.From⟩ r
    rw [rowsR]; simp only [List.length_cons]; omega
theorem rowsR_sd : ∀ (l : List NF) {r : List Row_}, Sd ltRw r → Sd ltRw (rowsR l r)
  | [], r, h => h
  | x :: l, r, h => rowsR_sd l (wR_sd _ (wR_sd _ h))
theorem rowsR_nd : ∀ (l : List NF) {r : List Row_}, (r.Pairwise fun a b => a ≠ b) → (rowsR l r).Pairwise fun a b => a ≠ b
  | [], r, h => h
  | x :: l, r, h => rowsR_nd l (wR_nd _ (wR_nd _ h))
theorem rowsR_mem {y : Row_} : ∀ {l : List NF} {r : List Row_}, y ∈ rowsR l r ↔ y ∈ r ∨ ∃ x ∈ l, y = ⟨x.Date, x.Ccy, x.To⟩ ∨ y = ⟨x.Date, x.Ccy, x.From⟩
  | [], r => by simp [rowsR]
  | x :: l, r => by
    rw [rowsR, rowsR_mem, wR_mem, wR_mem]
    constructor
    · rintro ((h | h | h) | ⟨z, h1, h2⟩)
      · exact .inr ⟨x, List.mem_cons_self, .inl h⟩
      · exact .inr ⟨x, List.mem_cons_self, .inr h⟩
      · exact .inl h
      · exact .inr ⟨z, List.mem_cons_of_mem _ h1, h2⟩
    · rintro (h | ⟨z, h1, h2⟩)
      · exact .inl (.inr (.inr h))
      · rcases List.mem_cons.1 h1 with rfl | h1
        · rcases h2 with h2 | h2
          · exact .inl (.inl h2)
          · exact .inl (.inr (.inl h2))
        · exact .inr ⟨z, h1, h2⟩
theorem f28w_eq (hub : ByteArray) (bg : List NF) : ∀ (l : List NF) (r : List Row_) (v : Int), r.length + 2 * l.length ≤ 1500 → f28n2L hub bg l r v = some (.exit0 (rowsR l r))
  | [], r, v, _ => rfl
  | x :: l, r, v, h => by
    simp only [List.length_cons] at h
    have h2 := wR_len ⟨x.Date, x.Ccy, x.To⟩ (wR ⟨x.Date, x.Ccy, x.From⟩ r)
    have h3 := wR_len ⟨x.Date, x.Ccy, x.From⟩ r
    rw [f28n2L, f51_eq _ (by omega)]
    simp only [Option.bind_some]
    rw [f51_eq _ (by omega)]
    simp only [Option.bind_some]
    rw [f28w_eq hub bg l _ _ (by omega)]
    rfl

def rowE (l : List NF) (r : Row_) : Key_ × Int := (⟨r.date, r.party, r.ccy⟩, sF (nw r.party r.date r.ccy) l)
theorem f28u_eq (hub : ByteArray) {bg : List NF} (hb : listB bg = true) (R : List Row_) : ∀ (p : List Row_) (v : Int) (o : List NF), o.length + p.length ≤ 10000 →
    f28n4L hub bg R p v o = some (bif okH hub (p.map (rowE bg)) then .exit2 (o ++ (madeH hub (p.map (rowE bg))).map Share_.flow) else .ret)
  | [], v, o, _ => by simp [f28n4L, madeH, okH]
  | x :: p, v, o, hn => by
    simp only [List.length_cons] at hn
    obtain ⟨hl, hg⟩ := listB_iff hb
    have hbd := nw_bd hg hl x.party x.date x.ccy
    have ih := fun o' => f28u_eq hub hb R p (v + 1) o'
    rw [f28n4L, f52_eq hb, List.map_cons, madeH_cons]
    unfold okH at ih ⊢
    rw [List.all_cons]
    have e0 : (rowE bg x).1.set = x.party := rfl
    have e2 : (rowE bg x).2 = sF (nw x.party x.date x.ccy) bg := rfl
    unfold selH
    rw [e0, e2]
    have es : shr hub (rowE bg x) = ⟨x.party, mk1 ⟨x.date, str_x, x.ccy⟩ hub x.party (sF (nw x.party x.date x.ccy) bg)⟩ := rfl
    rw [es]
    generalize sF (nw x.party x.date x.ccy) bg = n at *
    simp only [Option.bind_some]
    cases seq x.party hub with
    | true => simp only [cond_true, Bool.true_or, Bool.true_and, Bool.not_true, Bool.false_and, cond_false, List.nil_append]; exact ih o (by omega)
    | false =>
      simp only [cond_false, Bool.false_or, Bool.not_false, Bool.true_and]
      by_cases h0 : n = 0
      · have : okAmt n = true := by rw [h0]; rfl
        rw [decide_eq_true h0, this]
        simp only [cond_true, Bool.not_true, cond_false, List.nil_append, Bool.true_and]
        exact ih o (by omega)
      · rw [decide_eq_false h0]
        simp only [cond_false, Bool.not_false, cond_true]
        have hm : mk1 ⟨x.date, str_x, x.ccy⟩ hub x.party n = bif decide (n < 0) then ⟨x.date, str_x, x.ccy, x.party, hub, -n⟩ else ⟨x.date, str_x, x.ccy, hub, x.party, n⟩ := rfl
        rw [hm]
        have eo : okAmt n = (decide (-1125899906842624 ≤ n) && decide (n ≤ 1125899906842624)) := rfl
        rw [eo]
        by_cases h1 : n < 0
        · rw [decide_eq_true h1, cond_true, cond_true, show wr64 (0 - n) = -n by rw [Int.zero_sub, wrIn (by omega) (by omega)], decide_eq_true (by omega : n ≤ 1125899906842624), Bool.and_true]
          by_cases h2 : (1125899906842624 : Int) < -n
          · rw [decide_eq_true h2, decide_eq_false (by omega : ¬ -1125899906842624 ≤ n)]; rfl
          · rw [decide_eq_false h2, decide_eq_true (by omega : -1125899906842624 ≤ n), cond_false, req, fitSmall (by omega) (by omega), cond_true, ih _ (by simp; omega)]
            simp
        · rw [decide_eq_false h1, cond_false, cond_false, decide_eq_true (by omega : -1125899906842624 ≤ n), Bool.true_and]
          by_cases h2 : (1125899906842624 : Int) < n
          · rw [decide_eq_true h2, decide_eq_false (by omega : ¬ n ≤ 1125899906842624)]; rfl
          · rw [decide_eq_false h2, decide_eq_true (by omega : n ≤ 1125899906842624), cond_false, req, fitSmall (by omega) (by omega), cond_true, ih _ (by simp; omega)]
            simp
theorem rowE_perm {l : List NF} (hg : ∀ x ∈ l, goodF x = true) : ((rowsR l []).map (rowE l)).Perm (sumsH l) := by
  have val : ∀ {e : Key_ × Int}, e ∈ sumsH l → e.2 = sF (nw e.1.set e.1.date e.1.ccy) l := fun {e} he => by
    have h1 := sumsH_mem he
    unfold sumsH at h1
    rw [addH_get, sF_ext (v := nw e.1.set e.1.date e.1.ccy) fun z hz => (nw_wH (hg z hz) e.1.set e.1.date e.1.ccy).symm] at h1
    have e0 : gK e.1 [] = 0 := rfl
    omega
  refine nodup_perm ?_ ((addH_nd l List.Pairwise.nil).imp fun k e => k (by rw [e])) fun x => ?_
  · rw [List.pairwise_map]
    refine (rowsR_nd l List.Pairwise.nil).imp fun {a b} h e => h ?_
    have e1 := congrArg Prod.fst e
    have e2 := Key_.mk.inj e1
    obtain ⟨d, c, p⟩ := a
    obtain ⟨d', c', p'⟩ := b
    simp only at e2
    rw [e2.1, e2.2.1, e2.2.2]
  · constructor
    · intro h
      obtain ⟨r, h1, rfl⟩ := List.mem_map.1 h
      rcases rowsR_mem.1 h1 with h1 | ⟨y, h2, h3⟩
      · cases h1
      · have hk : kT y = (rowE l r).1 ∨ kF y = (rowE l r).1 := by
          rcases h3 with rfl | rfl
          · exact .inl rfl
          · exact .inr rfl
        obtain ⟨e, k1, k2⟩ := addH_has hk (m := []) h2
        have k3 := val k1
        rw [k2] at k3
        have : e = rowE l r := Prod.ext k2 k3
        rw [← this]; exact k1
    · intro h
      have h1 := val h
      obtain ⟨y, h2, h3⟩ := sumsH_from h
      refine List.mem_map.2 ⟨⟨x.1.date, x.1.ccy, x.1.set⟩, rowsR_mem.2 (.inr ⟨y, h2, ?_⟩), Prod.ext rfl h1.symm⟩
      rcases h3 with h3 | h3
      · exact .inl (by rw [← h3]; rfl)
      · exact .inr (by rw [← h3]; rfl)
theorem f28_eq (hub : ByteArray) {l : List NF} (hm : l.length ≤ maxLen) : f28 hub l = some (hubS hub l) := by
  unfold f28 f28n0 hubS
  rw [f48_eq hm]
  cases hb : listB l with
  | false => rfl
  | true =>
    obtain ⟨hl, hg⟩ := listB_iff hb
    simp only [cond_true, Option.bind_some, f49_eq]
    cases nmB hub with
    | false => rfl
    | true =>
      have hlen : (rowsR l []).length ≤ 1000 := by
        have := rowsR_len l []
        simp only [List.length_nil] at this
        omega
      have k1 : f28n1 hub l = some (.norm (rowsR l [])) := by
        unfold f28n1
        rw [f28n2_run hub l [] hm, f28w_eq hub l l [] 0 (by simp; omega)]; rfl
      have hp := rowE_perm hg
      have k3 : f28n3 hub l (rowsR l []) = some (bif okH hub (sumsH l) then .norm ((madeH hub ((rowsR l []).map (rowE l))).map Share_.flow) else .ret) := by
        unfold f28n3
        rw [f28n4_run hub l (rowsR l []) [] (maxSmall (by omega)), f28u_eq hub hb _ (rowsR l []) 0 [] (by simp; omega)]
        unfold okH
        rw [hp.all_eq]
        cases (sumsH l).all fun e => seq e.1.set hub || okAmt e.2 <;> rfl
      simp only [cond_true, k1, Option.bind_some, k3]
      unfold hubM
      cases okH hub (sumsH l) with
      | false => rfl
      | true =>
        have hp2 : (madeH hub ((rowsR l []).map (rowE l))).Perm (madeH hub (sumsH l)) := (hp.filter _).map _
        have hsd : Sd ltS (madeH hub ((rowsR l []).map (rowE l))) := by
          unfold madeH
          rw [List.filter_map, List.map_map]
          refine List.pairwise_map.2 (((rowsR_sd l List.Pairwise.nil).sublist List.filter_sublist).imp fun {a b} h => ?_)
          have e : cS (shr hub (rowE l b)) (shr hub (rowE l a)) = cRw b a := by
            unfold cS cRw shr
            simp only [mk1_fields]
            rfl
          show decide (cS (shr hub (rowE l b)) (shr hub (rowE l a)) < 0) = false
          rw [e]; exact h
        have e : madeH hub ((rowsR l []).map (rowE l)) = sortS ltS (madeH hub (sumsH l)) := sortS_of swo_S hsd (Cl.of_perm hp2 (madeH_key hub (addH_nd l List.Pairwise.nil)) swo_S)
        rw [e]
        simp only [cond_true, Option.bind_some]
        rw [List.length_map, sortS_len swo_S, show decide ((500 : Int) < (((madeH hub (sumsH l)).length : Nat) : Int)) = decide (500 < (madeH hub (sumsH l)).length) by congr 1; apply propext; omega]
        cases decide (500 < (madeH hub (sumsH l)).length) <;> rfl

theorem hubS_len (hub : ByteArray) (l : List NF) : (hubS hub l).1.length ≤ 500 := by
  unfold hubS
  cases listB l with
  | false => simp
  | true =>
    cases nmB hub with
    | false => simp
    | true =>
      show (hubM hub (sumsH l)).1.length ≤ 500
      unfold hubM
      cases okH hub (sumsH l) with
      | false => simp
      | true =>
        by_cases h : 500 < (madeH hub (sumsH l)).length
        · rw [decide_eq_true h]; simp
        · rw [decide_eq_false h]
          show ((sortS ltS (madeH hub (sumsH l))).map Share_.flow).length ≤ 500
          rw [List.length_map, sortS_len swo_S]; omega
theorem lawSums (l : List NettingFlow) (w c : ByteArray) (d : Int) (hm : l.length ≤ maxLen ∧ ∀ x ∈ l, NettingFlow.ok x) (_ : w.size ≤ maxLen) (_ : c.size ≤ maxLen) (_ : okInt .i64 d) : f9 l w c d = some true := by
  unfold f9 f9n0
  rw [alive_t]
  obtain ⟨b, h1, h2⟩ := f12_eq [] l
  rw [h1]
  simp only [Option.bind_some]
  cases b with
  | true => rfl
  | false =>
    obtain ⟨h3, h4⟩ := h2 rfl
    have hl := hubS_len w l
    obtain ⟨r, hr⟩ := f25_any (l := (hubS w l).1) (by omega)
    simp only [cond_false, cond_true]
    rw [f14_eq (by omega)]
    simp only [Option.bind_some, f16_eq w hm.1, f28_eq w hm.1, f27_eq hm.1, f29_eq hm.1, f26_eq hm.1, f30_eq hm.1]
    unfold f9n1
    rw [f17_same (a := (hubS w l).1) (b := (hubS w l).1) rfl (by omega)]
    simp only [Option.bind_some, cond_true, decide_true, hr]
    rw [f17_same (a := l) (b := l) rfl (by omega)]
    rfl
end Go.Proofs.Ytkcafackfihmiaa
