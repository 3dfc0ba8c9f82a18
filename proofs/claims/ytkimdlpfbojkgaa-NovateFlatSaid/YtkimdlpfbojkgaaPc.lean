/- Contracts: positions by the trades, and that they agree. -/
import Derived.Test.YtkimdlpfbojkgaaPb
namespace Go.Proofs.Ytkimdlpfbojkgaa
open Go.RowKit
def toLeg (t : Trade) : Leg := ⟨0, t.b, t.s, t.p, t.q, t.r⟩
def lg (l : List Trade) : List Leg := (l.filter fun t => decide (t.st = 1)).map toLeg
section
variable {l : List Trade} {k : Nat} {x : Trade} {who product : ByteArray} {a : Int × Int}
theorem lg_no (hx : l[k]? = some x) (h : ¬ x.st = 1) : lg (l.take (k + 1)) = lg (l.take k) := by
  unfold lg; rw [take_at hx, List.filter_append]; simp [h]
theorem lg_yes (hx : l[k]? = some x) (h : x.st = 1) : lg (l.take (k + 1)) = lg (l.take k) ++ [toLeg x] := by
  unfold lg; rw [take_at hx, List.filter_append]; simp [h]
theorem lg_bd (h0 : chk l = 0) {y : Leg} (hm : y ∈ lg (l.take k)) : 1 ≤ y.q ∧ y.q ≤ 1048576 ∧ -562949953421312 ≤ y.q * y.r ∧ y.q * y.r ≤ 562949953421312 := by
  unfold lg at hm
  obtain ⟨t, ht, rfl⟩ := List.mem_map.1 hm
  have ht2 : t ∈ l := List.mem_of_mem_take (List.mem_filter.1 ht).1
  have hr : rightB t = true := List.all_eq_true.1 (and_r (chk_ok h0)) t ht2
  have ⟨h1, h2, h3, h4⟩ := terms_bd (and_l hr)
  have hb := mul_bd h1 h2 h3 h4
  exact ⟨h1, h2, hb.1, hb.2⟩
theorem right_ne {t : Trade} (hr : rightB t = true) : ¬ t.b.data.toList = t.s.data.toList ∧ ¬ t.b.data.toList = house.data.toList ∧ ¬ t.s.data.toList = house.data.toList := by
  have ht := and_l hr
  unfold termsB at ht
  have h5 := and_l (and_l (and_l (and_l (and_l ht))))
  have h6 := and_l (and_l h5)
  have h7 := and_r (and_l h5)
  unfold partyB at h6 h7
  exact ⟨of_decide_eq_false (not_t (and_r h5)), of_decide_eq_false (not_t (and_l h6)), of_decide_eq_false (not_t (and_l h7))⟩
theorem add_to (hne : ¬ x.b.data.toList = x.s.data.toList) (hst : x.st = 1) : addLeg who product a (toLeg x) = addT who product a x := by
  rw [show toLeg x = (⟨0, x.b, x.s, x.p, x.q, x.r⟩ : Leg) from rfl]
  by_cases hp : x.p.data.toList = product.data.toList
  · by_cases hb : x.b.data.toList = who.data.toList
    · have hs : ¬ x.s.data.toList = who.data.toList := fun h => hne (hb.trans h.symm)
      simp only [addLeg, addT, if_pos hp, if_pos (And.intro hst hp), if_pos hb, if_neg hs]
    · simp only [addLeg, addT, if_pos hp, if_pos (And.intro hst hp), if_neg hb]
  · simp only [addLeg, addT, if_neg hp, if_neg (fun h : x.st = 1 ∧ x.p.data.toList = product.data.toList => hp h.2)]
theorem add_no (hst : ¬ x.st = 1) : addT who product a x = a := by unfold addT; rw [if_neg (fun h => hst h.1)]
theorem lg_fold : ∀ (l : List Trade) (a : Int × Int), (∀ t ∈ l, rightB t = true) → (lg l).foldl (addLeg who product) a = l.foldl (addT who product) a
  | [], _, _ => rfl
  | x :: l, a, h => by
    have ih := lg_fold l
    have hx := h x List.mem_cons_self
    have hl : ∀ t ∈ l, rightB t = true := fun t ht => h t (List.mem_cons_of_mem _ ht)
    by_cases hst : x.st = 1
    · have e : lg (x :: l) = toLeg x :: lg l := by unfold lg; simp [hst]
      rw [e, List.foldl_cons, List.foldl_cons, add_to (right_ne hx).1 hst]
      exact ih _ hl
    · have e : lg (x :: l) = lg l := by unfold lg; simp [hst]
      rw [e, List.foldl_cons, add_no hst]
      exact ih _ hl
theorem chk_each (h0 : chk l = 0) : ∀ t ∈ l, rightB t = true := List.all_eq_true.1 (and_r (chk_ok h0))
theorem lg_pos (h0 : chk l = 0) : posL (lg l) who product = agrL l who product := lg_fold l _ (chk_each h0)
theorem legs1_fold (hw : ¬ house.data.toList = who.data.toList) (hne : ¬ x.b.data.toList = x.s.data.toList) (hst : x.st = 1) : (legs1 k x).foldl (addLeg who product) a = addT who product a x := by
  simp only [legs1, List.foldl_cons, List.foldl_nil]
  unfold addT
  by_cases hp : x.p.data.toList = product.data.toList
  · rw [if_pos ⟨hst, hp⟩]
    by_cases hb : x.b.data.toList = who.data.toList
    · have hs : ¬ x.s.data.toList = who.data.toList := fun h => hne (hb.trans h.symm)
      simp only [addLeg, if_pos hp, if_pos hb, if_neg hs, if_neg hw]
    · simp only [addLeg, if_pos hp, if_neg hb, if_neg hw]
  · rw [if_neg (fun h => hp h.2)]
    simp only [addLeg, if_neg hp]
theorem legs_fold (hw : ¬ house.data.toList = who.data.toList) : ∀ (l : List Trade) (n : Nat) (a : Int × Int), (∀ t ∈ l, rightB t = true) → ((l.zipIdx n).flatMap fun x => if x.1.st = 1 then legs1 x.2 x.1 else []).foldl (addLeg who product) a = l.foldl (addT who product) a
  | [], _, _, _ => rfl
  | x :: l, n, a, h => by
    rw [List.zipIdx_cons, List.flatMap_cons, List.foldl_append, List.foldl_cons, legs_fold hw l (n + 1) _ fun t ht => h t (List.mem_cons_of_mem _ ht)]
    by_cases hst : x.st = 1
    · rw [if_pos hst, legs1_fold hw (right_ne (h x List.mem_cons_self)).1 hst]
    · rw [if_neg hst, add_no hst]; rfl
theorem pos_all (h0 : chk l = 0) (hw : ¬ who.data.toList = house.data.toList) : posL (legsC l) who product = agrC l who product := by
  rw [agrC_of h0, legsC_of h0]
  exact legs_fold (fun h => hw h.symm) l 0 _ (chk_each h0)
theorem pos_agr (h0 : chk l = 0) (hw : ¬ who.data.toList = (⟨#[104, 111, 117, 115, 101]⟩ : ByteArray).data.toList) : (posL (legsC l) who product).1 = (agrC l who product).1 ∧ (posL (legsC l) who product).2 = (agrC l who product).2 := by
  have := pos_all (product := product) h0 (show ¬ who.data.toList = house.data.toList from hw)
  rw [this]; exact ⟨rfl, rfl⟩
theorem agr_or (h0 : chk l = 0) : (decide (who.data.toList = (⟨#[104, 111, 117, 115, 101]⟩ : ByteArray).data.toList) || decide ((posL (legsC l) who product).2 = (agrC l who product).2)) = true := by
  by_cases hw : who.data.toList = (⟨#[104, 111, 117, 115, 101]⟩ : ByteArray).data.toList
  · rw [decide_eq_true hw]; rfl
  · rw [decide_eq_true (pos_agr h0 hw).2, Bool.or_true]
theorem house1_fold (hb : ¬ x.b.data.toList = house.data.toList) (hs : ¬ x.s.data.toList = house.data.toList) : (legs1 k x).foldl (addLeg house product) a = a := by
  simp only [legs1, List.foldl_cons, List.foldl_nil]
  by_cases hp : x.p.data.toList = product.data.toList
  · simp only [addLeg, if_pos hp, if_neg hb, if_neg hs, if_true]
    ext <;> simp only <;> omega
  · simp only [addLeg, if_neg hp]
theorem house_fold : ∀ (l : List Trade) (n : Nat) (a : Int × Int), (∀ t ∈ l, rightB t = true) → ((l.zipIdx n).flatMap fun x => if x.1.st = 1 then legs1 x.2 x.1 else []).foldl (addLeg house product) a = a
  | [], _, _, _ => rfl
  | x :: l, n, a, h => by
    rw [List.zipIdx_cons, List.flatMap_cons, List.foldl_append, house_fold l (n + 1) _ fun t ht => h t (List.mem_cons_of_mem _ ht)]
    by_cases hst : x.st = 1
    · have hr := right_ne (h x List.mem_cons_self)
      rw [if_pos hst, house1_fold hr.2.1 hr.2.2]
    · rw [if_neg hst]; rfl
theorem house_flat (h0 : chk l = 0) : posL (legsC l) (⟨#[104, 111, 117, 115, 101]⟩ : ByteArray) product = (0, 0) := by
  rw [legsC_of h0]
  exact house_fold l 0 _ (chk_each h0)
end
theorem ent_27 : Enters Try.prog 27 := enters_of Try.func27 (by kernel_rfl) rfl
set_option maxHeartbeats 1000000 in
set_option maxRecDepth 20000 in
theorem agreed_r2 (A : Option Addr) (c : Nat) (l : List Trade) (who product : ByteArray) (w : World) (hs : SlB 0 w.heap.size w A c 8 Trade.cells l) :
    Calls Try.prog 28 #[Value.agg #[Value.slice A l.length c], Value.string who, Value.string product] w fun e w' => e = .returned (.tuple #[.int .i64 (agrC l who product).1, .int .i64 (agrC l who product).2, .int .i64 (chk l)]) ∧ Below w.heap.size w w' := by
  have hcm : l.length ≤ 9223372036854775807 := by have := hs.1; have := hs.2.1; simp only [maxLen] at this; omega
  have M0 := Mem.start w []
  have M1 := M0.see (Ro.sl 0 w.heap.size A c 8 Trade.cells l) (hs) (Nat.le_refl _)
  refine enter (args := [Value.agg #[Value.slice A l.length c], Value.string who, Value.string product]) Try.func28 rfl (n := 55) rfl rfl fun T2 hT3 => ?_
  refine c_seq fun K4 hK5 => ?_
  refine c_reg ?_
  refine snew (cs := #[Value.slice A l.length c]) M1 rfl (x_box (v := Value.agg #[Value.slice A l.length c]) (ev_tmp rfl rfl)) fun b6 w7 M8 => ?_
  refine st rfl (x_assign (v := Value.int .i64 0) rfl) ?_
  refine st rfl (x_assign (v := Value.int .i64 0) rfl) ?_
  refine st rfl (x_assign (v := Value.int .i64 0) rfl) ?_
  refine s_nil ?_
  refine hK5 _ _ ?_
  refine c_seq fun K9 hK10 => ?_
  refine c_seq fun K11 hK12 => ?_
  refine c_reg ?_
  refine st rfl (x_loadw (cs := [Value.slice A l.length c]) Try.underlying24 rfl sz_24 (ev_tmp rfl rfl) (M8.range (i := 0) rfl ⟨rfl, trivial⟩)) ?_
  refine sC rfl (x_callL (xs := [.tmp 14]) (vs := [Value.agg #[Value.slice A l.length c]]) (cap := []) ent_30 rfl ⟨(ev_tmp rfl rfl), trivial⟩) (check_r _ _ l _ (M8.slw (i := 0) rfl)) ?_
  rintro _ w13 ⟨rfl, hb15⟩
  refine ⟨_, rfl, ?_⟩
  have M14 := M8.call hb15
  refine st rfl (x_neq (p := (chk l)) (q := 0) (ev_tmp rfl rfl) rfl) ?_
  refine s_nil ?_
  refine hK12 _ _ ?_
  refine c_cond (b := !(decide (chk l = 0))) (ev_tmp rfl rfl) (fun h16 => ?_) (fun h16 => ?_)
  · have h17 : ¬ (chk l = 0) := of_decide_eq_false (not_t h16)
    refine c_seq fun K18 hK19 => ?_
    refine c_reg ?_
    refine st rfl (x_assign (v := Value.int .i64 0) rfl) ?_
    refine st rfl (x_assign (v := Value.int .i64 0) rfl) ?_
    refine st rfl (x_assign (v := Value.int .i64 8) rfl) ?_
    refine s_nil ?_
    refine hK19 _ _ ?_
    refine c_ret ?_
    refine hT3 _ _ ?_
    refine r3 rfl (ev_tmp (v := Value.int .i64 0) rfl rfl) (ev_tmp (v := Value.int .i64 0) rfl rfl) (ev_tmp (v := Value.int .i64 8) rfl rfl) ?_
    rw [agrC_no (of_decide_eq_false (not_t h16)), chk_8 (of_decide_eq_false (not_t h16))]
    exact ⟨rfl, M14.below⟩
  · have h20 : chk l = 0 := of_decide_eq_true (not_f h16)
    have h0 : chk l = 0 := of_decide_eq_true (not_f h16)
    have hl200 := chk_len h0
    refine c_skip ?_
    refine hK10 _ _ ?_
    refine c_seq fun K21 hK22 => ?_
    refine c_reg ?_
    refine st rfl (x_assign (v := Value.slice none 0 0) rfl) ?_
    refine s_nil ?_
    refine hK22 _ _ ?_
    refine c_seq fun K23 hK24 => ?_
    refine c_seq fun K25 hK26 => ?_
    refine c_reg ?_
    refine st rfl (x_assign (v := Value.int .i64 0) rfl) ?_
    refine s_nil ?_
    refine hK26 _ _ ?_
    refine c_block ?_
    have M27 := M14.nilRow 32 6
    refine c_loopH (live := [(1, Value.string who), (2, Value.string product), (3, Value.pointer (some ⟨b6, 0, none⟩)), (6, Value.int .i64 0), (7, Value.int .i64 0), (8, Value.int .i64 0), (9, Value.slice none ((lg (l.take 0)).length) 0), (10, Value.int .i64 0)]) ⟨rfl, rfl, rfl, rfl, rfl, rfl, rfl, rfl, trivial⟩ (fun mm ll w1 => ∃ (k : Nat) (A2 : Option Addr) (c2 : Nat) (jk : List (Nat × Value)), mm = l.length - k ∧ ll = [(1, Value.string who), (2, Value.string product), (3, Value.pointer (some ⟨b6, 0, none⟩)), (6, Value.int .i64 0), (7, Value.int .i64 0), (8, Value.int .i64 0), (9, Value.slice A2 ((lg (l.take k)).length) c2), (10, Value.int .i64 (k : Int))] ++ jk ∧ Mem w [] w1 [Own.row 32 6 (Value.slice A2 ((lg (l.take k)).length) c2) ((lg (l.take k)).length) ((lg (l.take k)).flatMap Leg.cells), Own.cells b6 24 #[Value.slice A l.length c]] [Ro.sl 0 w.heap.size A c 8 Trade.cells l] ∧ (k ≤ l.length) ∧ ((lg (l.take k)).length ≤ k)) ⟨0, none, 0, _, rfl, rfl, M27, (by omega), (by simp [lg])⟩ fun mm ll w1 hI28 => ?_
    obtain ⟨k, A2, c2, jk, rfl, rfl, M30, hk, hll⟩ := hI28
    obtain ⟨w29, rfl⟩ : ∃ x, x = w1 := ⟨_, rfl⟩
    refine c_seq fun K31 hK32 => ?_
    refine c_seq fun K33 hK34 => ?_
    refine c_reg ?_
    refine st rfl (x_move (v := Value.int .i64 (k : Int)) (ev_tmp rfl rfl)) ?_
    refine st rfl (x_fieldv (b := b6) (o := 0) (q := 0) fa_24_0 (ev_tmp rfl rfl) rfl) ?_
    refine st rfl (x_load1 (v := Value.slice A l.length c) Try.underlying22 rfl (ev_tmp rfl rfl) (M30.cell (i := 1) (o := 0) rfl rfl)) ?_
    refine st rfl (x_lensl (n := l.length) Try.underlying22 (ev_tmp rfl rfl)) ?_
    refine st rfl (x_lss (p := (k : Int)) (q := (l.length : Int)) (ev_tmp rfl rfl) (ev_tmp rfl rfl)) ?_
    refine s_nil ?_
    refine hK34 _ _ ?_
    refine c_cond (b := decide ((k : Int) < (l.length : Int))) (ev_tmp rfl rfl) (fun h35 => ?_) (fun h35 => ?_)
    · have h36 : (k : Int) < (l.length : Int) := of_decide_eq_true h35
      obtain ⟨x, hx⟩ : ∃ x, l[k]? = some x := ⟨_, List.getElem?_eq_getElem (by omega)⟩
      obtain ⟨hq1, hq2, hr1, hr2⟩ := terms_bd (and_l (right_at h0 hx))
      obtain ⟨hm1, hm2⟩ := mul_bd hq1 hq2 hr1 hr2
      have hng : (-x.q) * x.r = -(x.q * x.r) := Int.neg_mul _ _
      refine c_skip ?_
      refine hK32 _ _ ?_
      refine c_seq fun K37 hK38 => ?_
      refine c_block ?_
      refine c_seq fun K39 hK40 => ?_
      refine c_reg ?_
      refine st rfl (x_fieldv (b := b6) (o := 0) (q := 0) fa_24_0 (ev_tmp rfl rfl) rfl) ?_
      refine st rfl (x_load1 (v := Value.slice A l.length c) Try.underlying22 rfl (ev_tmp rfl rfl) (M30.cell (i := 1) (o := 0) rfl rfl)) ?_
      refine st rfl (x_move (v := Value.int .i64 (k : Int)) (ev_tmp rfl rfl)) ?_
      obtain ⟨g41, o42, hA43⟩ := M30.roat (i := 0) rfl hx
      refine st rfl (x_elemA (b := g41) (o := o42) (k := k) ea_22 (ev_tmp rfl rfl) hA43 (ev_tmp rfl rfl) rfl (by omega)) ?_
      refine st rfl (x_loadw (cs := [Value.string x.b, Value.string x.s, Value.string x.p, Value.int .i64 x.q, Value.int .i64 x.r, Value.bool x.bo, Value.bool x.so, Value.int .u8 x.st]) Try.underlying34 rfl sz_34 (ev_tmp rfl rfl) (M30.rorange (i := 0) rfl hA43 hx (f := 0) ⟨rfl, rfl, rfl, rfl, rfl, rfl, rfl, rfl, trivial⟩)) ?_
      refine snew (cs := #[Value.string ByteArray.empty, Value.string ByteArray.empty, Value.string ByteArray.empty, Value.int .i64 0, Value.int .i64 0, Value.bool false, Value.bool false, Value.int .u8 0]) M30 rfl (x_allocz z_34) fun b46 w47 M48 => ?_
      refine sset (i := 0) (L' := [Own.cells b46 34 #[Value.string x.b, Value.string x.s, Value.string x.p, Value.int .i64 x.q, Value.int .i64 x.r, Value.bool x.bo, Value.bool x.so, Value.int .u8 x.st], Own.row 32 6 (Value.slice A2 ((lg (l.take k)).length) c2) ((lg (l.take k)).length) ((lg (l.take k)).flatMap Leg.cells), Own.cells b6 24 #[Value.slice A l.length c]]) M48 rfl rfl (x_storew (cs := [Value.string x.b, Value.string x.s, Value.string x.p, Value.int .i64 x.q, Value.int .i64 x.r, Value.bool x.bo, Value.bool x.so, Value.int .u8 x.st]) sz_34 (ev_tmp rfl rfl) (ev_tmp rfl rfl) (M48.cells_at (i := 0) rfl) rfl ⟨rfl, rfl, rfl, rfl, rfl, rfl, rfl, rfl, trivial⟩) fun w49 M50 => ?_
      refine s_nil ?_
      refine hK40 _ _ ?_
      refine c_seq fun K51 hK52 => ?_
      refine c_reg ?_
      refine st rfl (x_fieldv (b := b46) (o := 0) (q := 7) fa_34_7 (ev_tmp rfl rfl) rfl) ?_
      refine st rfl (x_load1 (v := Value.int .u8 x.st) Try.underlying5 rfl (ev_tmp rfl rfl) (M50.cell (i := 0) (o := 7) rfl rfl)) ?_
      refine st rfl (x_eql (p := x.st) (q := 1) (ev_tmp rfl rfl) rfl) ?_
      refine s_nil ?_
      refine hK52 _ _ ?_
      refine c_cond (b := decide (x.st = 1)) (ev_tmp rfl rfl) (fun h53 => ?_) (fun h53 => ?_)
      · have h54 : x.st = 1 := of_decide_eq_true h53
        refine c_reg ?_
        refine st rfl (x_move (v := Value.slice A2 ((lg (l.take k)).length) c2) (ev_tmp rfl rfl)) ?_
        refine st rfl (x_fieldv (b := b46) (o := 0) (q := 0) fa_34_0 (ev_tmp rfl rfl) rfl) ?_
        refine st rfl (x_load1 (v := Value.string x.b) Try.underlying9 rfl (ev_tmp rfl rfl) (M50.cell (i := 0) (o := 0) rfl rfl)) ?_
        refine st rfl (x_fieldv (b := b46) (o := 0) (q := 1) fa_34_1 (ev_tmp rfl rfl) rfl) ?_
        refine st rfl (x_load1 (v := Value.string x.s) Try.underlying9 rfl (ev_tmp rfl rfl) (M50.cell (i := 0) (o := 1) rfl rfl)) ?_
        refine st rfl (x_fieldv (b := b46) (o := 0) (q := 2) fa_34_2 (ev_tmp rfl rfl) rfl) ?_
        refine st rfl (x_load1 (v := Value.string x.p) Try.underlying9 rfl (ev_tmp rfl rfl) (M50.cell (i := 0) (o := 2) rfl rfl)) ?_
        refine st rfl (x_fieldv (b := b46) (o := 0) (q := 3) fa_34_3 (ev_tmp rfl rfl) rfl) ?_
        refine st rfl (x_load1 (v := Value.int .i64 x.q) Try.underlying3 rfl (ev_tmp rfl rfl) (M50.cell (i := 0) (o := 3) rfl rfl)) ?_
        refine st rfl (x_fieldv (b := b46) (o := 0) (q := 4) fa_34_4 (ev_tmp rfl rfl) rfl) ?_
        refine st rfl (x_load1 (v := Value.int .i64 x.r) Try.underlying3 rfl (ev_tmp rfl rfl) (M50.cell (i := 0) (o := 4) rfl rfl)) ?_
        refine st rfl (x_buildL (ps := [(1, .tmp 34), (2, .tmp 36), (3, .tmp 38), (4, .tmp 40), (5, .tmp 42)]) (vs := [(1, Value.string x.b), (2, Value.string x.s), (3, Value.string x.p), (4, Value.int .i64 x.q), (5, Value.int .i64 x.r)]) (cs := #[Value.int .i64 0, Value.string x.b, Value.string x.s, Value.string x.p, Value.int .i64 x.q, Value.int .i64 x.r]) ⟨⟨rfl, (ev_tmp rfl rfl)⟩, ⟨rfl, (ev_tmp rfl rfl)⟩, ⟨rfl, (ev_tmp rfl rfl)⟩, ⟨rfl, (ev_tmp rfl rfl)⟩, ⟨rfl, (ev_tmp rfl rfl)⟩, trivial⟩ (by kernel_rfl)) ?_
        refine snews (cs := #[Value.int .i64 0, Value.string x.b, Value.string x.s, Value.string x.p, Value.int .i64 x.q, Value.int .i64 x.r]) M50 rfl (x_buildSliceL (ps := [(0, .tmp 43)]) (vs := [(0, Value.agg #[Value.int .i64 0, Value.string x.b, Value.string x.s, Value.string x.p, Value.int .i64 x.q, Value.int .i64 x.r])]) (cs := #[Value.int .i64 0, Value.string x.b, Value.string x.s, Value.string x.p, Value.int .i64 x.q, Value.int .i64 x.r]) Try.underlying26 ⟨⟨rfl, (ev_tmp rfl rfl)⟩, trivial⟩ (by kernel_rfl)) fun b55 w56 M57 => ?_
        refine sapp (k := 2) (news := [Value.int .i64 0, Value.string x.b, Value.string x.s, Value.string x.p, Value.int .i64 x.q, Value.int .i64 x.r]) M57 rfl app_26 rfl (ev_tmp rfl rfl) (ev_tmp rfl rfl) rfl (M57.block_news (i := 0) rfl) (oneL_all ⟨rfl, rfl, rfl, rfl, rfl, rfl, trivial⟩) (by simp only [maxLen]; omega) (by omega) fun A58 c59 w60 M61 => ?_
        refine st rfl (x_assign (v := Value.slice A58 ((lg (l.take k)).length + 1) c59) (ev_tmp rfl rfl)) ?_
        refine s_nil ?_
        refine hK38 _ _ ?_
        refine c_reg ?_
        refine st rfl (x_move (v := Value.int .i64 (k : Int)) (ev_tmp rfl rfl)) ?_
        have hw62 : IntKind.i64.wrap ((k : Int) + 1) = (k : Int) + 1 := w64 (by rfl) (by omega) (by omega)
        refine st rfl (x_add_eq (p := (k : Int)) (q := 1) (ev_tmp rfl rfl) rfl hw62) ?_
        refine st rfl (x_assign (v := Value.int .i64 ((k : Int) + 1)) (ev_tmp rfl rfl)) ?_
        refine s_nil ?_
        have hleg : lg (l.take (k + 1)) = lg (l.take k) ++ [toLeg x] := lg_yes hx (of_decide_eq_true h53)
        have M63 := M61.rerow (i := 2) rfl (n' := (lg (l.take (k + 1))).length) (xs' := (lg (l.take (k + 1))).flatMap Leg.cells) (by rw [hleg]; simp) (by rw [hleg]; simp [toLeg, Leg.cells])
        exact ⟨_, _, (by omega : l.length - (k + 1) < l.length - k), fr_held (live := [(1, Value.string who), (2, Value.string product), (3, Value.pointer (some ⟨b6, 0, none⟩)), (6, Value.int .i64 0), (7, Value.int .i64 0), (8, Value.int .i64 0), (9, Value.slice A58 ((lg (l.take (k + 1))).length) c59), (10, Value.int .i64 (((k + 1) : Nat) : Int))]) ⟨rfl, rfl, rfl, rfl, rfl, rfl, (congrArg (fun n => Value.slice A58 n c59) (by rw [hleg]; simp)), (congrArg (Value.int .i64) (by omega)), trivial⟩, (k + 1), A58, c59, _, rfl, rfl, (M63.dropL 2), (by omega), (by rw [hleg]; simp; omega)⟩
      · have h64 : ¬ (x.st = 1) := of_decide_eq_false h53
        refine c_skip ?_
        refine hK38 _ _ ?_
        refine c_reg ?_
        refine st rfl (x_move (v := Value.int .i64 (k : Int)) (ev_tmp rfl rfl)) ?_
        have hw65 : IntKind.i64.wrap ((k : Int) + 1) = (k : Int) + 1 := w64 (by rfl) (by omega) (by omega)
        refine st rfl (x_add_eq (p := (k : Int)) (q := 1) (ev_tmp rfl rfl) rfl hw65) ?_
        refine st rfl (x_assign (v := Value.int .i64 ((k : Int) + 1)) (ev_tmp rfl rfl)) ?_
        refine s_nil ?_
        have hleg : lg (l.take (k + 1)) = lg (l.take k) := lg_no hx (of_decide_eq_false h53)
        have M66 := M50.rerow (i := 1) rfl (n' := (lg (l.take (k + 1))).length) (xs' := (lg (l.take (k + 1))).flatMap Leg.cells) (by rw [hleg]) (by rw [hleg])
        exact ⟨_, _, (by omega : l.length - (k + 1) < l.length - k), fr_held (live := [(1, Value.string who), (2, Value.string product), (3, Value.pointer (some ⟨b6, 0, none⟩)), (6, Value.int .i64 0), (7, Value.int .i64 0), (8, Value.int .i64 0), (9, Value.slice A2 ((lg (l.take (k + 1))).length) c2), (10, Value.int .i64 (((k + 1) : Nat) : Int))]) ⟨rfl, rfl, rfl, rfl, rfl, rfl, (congrArg (fun n => Value.slice A2 n c2) (by rw [hleg])), (congrArg (Value.int .i64) (by omega)), trivial⟩, (k + 1), A2, c2, _, rfl, rfl, (M66.dropL 1), (by omega), (by rw [hleg]; omega)⟩
    · have h67 : ¬ ((k : Int) < (l.length : Int)) := of_decide_eq_false h35
      refine c_exit ?_
      refine xb_here ?_
      refine hK24 _ _ ?_
      refine c_seq fun K68 hK69 => ?_
      refine c_reg ?_
      refine st rfl (x_move (v := Value.slice A2 ((lg (l.take k)).length) c2) (ev_tmp rfl rfl)) ?_
      refine st rfl (x_move (v := Value.string who) (ev_tmp rfl rfl)) ?_
      refine st rfl (x_move (v := Value.string product) (ev_tmp rfl rfl)) ?_
      refine sC rfl (x_callL (xs := [.tmp 47, .tmp 48, .tmp 49]) (vs := [Value.slice A2 ((lg (l.take k)).length) c2, Value.string who, Value.string product]) (cap := []) ent_46 rfl ⟨(ev_tmp rfl rfl), (ev_tmp rfl rfl), (ev_tmp rfl rfl), trivial⟩) (sum_r _ _ (lg (l.take k)) who product _ (M30.rowsl (i := 0) rfl rfl Leg.len) (fun _ hm => lg_bd h0 hm) (by omega)) ?_
      rintro _ w70 ⟨rfl, hb72⟩
      refine ⟨_, rfl, ?_⟩
      have M71 := M30.call hb72
      refine st rfl (x_move (v := Value.tuple #[Value.int .i64 ((posL (lg (l.take k)) who product).1), Value.int .i64 ((posL (lg (l.take k)) who product).2)]) (ev_tmp rfl rfl)) ?_
      refine st rfl (x_extract (v := Value.int .i64 ((posL (lg (l.take k)) who product).1)) (ev_tmp rfl rfl) rfl) ?_
      refine st rfl (x_extract (v := Value.int .i64 ((posL (lg (l.take k)) who product).2)) (ev_tmp rfl rfl) rfl) ?_
      refine st rfl (x_assign (v := Value.int .i64 ((posL (lg (l.take k)) who product).1)) (ev_tmp rfl rfl)) ?_
      refine st rfl (x_assign (v := Value.int .i64 ((posL (lg (l.take k)) who product).2)) (ev_tmp rfl rfl)) ?_
      refine s_nil ?_
      refine hK69 _ _ ?_
      refine c_seq fun K73 hK74 => ?_
      refine c_reg ?_
      refine st rfl (x_move (v := Value.int .i64 ((posL (lg (l.take k)) who product).1)) (ev_tmp rfl rfl)) ?_
      refine st rfl (x_move (v := Value.int .i64 ((posL (lg (l.take k)) who product).2)) (ev_tmp rfl rfl)) ?_
      refine st rfl (x_assign (v := Value.int .i64 ((posL (lg (l.take k)) who product).1)) (ev_tmp rfl rfl)) ?_
      refine st rfl (x_assign (v := Value.int .i64 ((posL (lg (l.take k)) who product).2)) (ev_tmp rfl rfl)) ?_
      refine st rfl (x_assign (v := Value.int .i64 0) rfl) ?_
      refine s_nil ?_
      refine hK74 _ _ ?_
      refine c_ret ?_
      refine hT3 _ _ ?_
      refine r3 rfl (ev_tmp (v := Value.int .i64 ((posL (lg (l.take k)) who product).1)) rfl rfl) (ev_tmp (v := Value.int .i64 ((posL (lg (l.take k)) who product).2)) rfl rfl) (ev_tmp (v := Value.int .i64 0) rfl rfl) ?_
      have hall : l.take k = l := List.take_of_length_le (by omega)
      rw [agrC_of h0, ← lg_pos h0, h0, hall]
      exact ⟨rfl, M71.below⟩

set_option maxHeartbeats 1000000 in
set_option maxRecDepth 20000 in
theorem agrees_c (A : Option Addr) (c : Nat) (l : List Trade) (who product : ByteArray) (w : World) (hs : SlB 0 w.heap.size w A c 8 Trade.cells l) (h0 : chk l = 0) :
    Calls Try.prog 31 #[Value.agg #[Value.slice A l.length c], Value.string who, Value.string product] w fun e w' => e = .returned (.bool (true)) ∧ Below w.heap.size w w' := by
  have M0 := Mem.start w []
  have M1 := M0.see (Ro.sl 0 w.heap.size A c 8 Trade.cells l) (hs) (Nat.le_refl _)
  refine enter (args := [Value.agg #[Value.slice A l.length c], Value.string who, Value.string product]) Try.func31 rfl (n := 49) rfl rfl fun T2 hT3 => ?_
  refine c_seq fun K4 hK5 => ?_
  refine c_reg ?_
  refine snew (cs := #[Value.slice A l.length c]) M1 rfl (x_box (v := Value.agg #[Value.slice A l.length c]) (ev_tmp rfl rfl)) fun b6 w7 M8 => ?_
  refine st rfl (x_assign (v := Value.bool false) rfl) ?_
  refine s_nil ?_
  refine hK5 _ _ ?_
  refine c_seq fun K9 hK10 => ?_
  refine c_reg ?_
  refine st rfl (x_loadw (cs := [Value.slice A l.length c]) Try.underlying24 rfl sz_24 (ev_tmp rfl rfl) (M8.range (i := 0) rfl ⟨rfl, trivial⟩)) ?_
  refine st rfl (x_move (v := Value.string who) (ev_tmp rfl rfl)) ?_
  refine st rfl (x_move (v := Value.string product) (ev_tmp rfl rfl)) ?_
  refine sC rfl (x_callL (xs := [.tmp 14, .tmp 15, .tmp 16]) (vs := [Value.agg #[Value.slice A l.length c], Value.string who, Value.string product]) (cap := []) ent_14 rfl ⟨(ev_tmp rfl rfl), (ev_tmp rfl rfl), (ev_tmp rfl rfl), trivial⟩) (position_c _ _ l who product _ (M8.slw (i := 0) rfl)) ?_
  rintro _ w11 ⟨rfl, hb13⟩
  refine ⟨_, rfl, ?_⟩
  have M12 := M8.call hb13
  refine st rfl (x_move (v := Value.tuple #[Value.int .i64 ((posL (legsC l) who product).1), Value.int .i64 ((posL (legsC l) who product).2), Value.int .i64 (chk l)]) (ev_tmp rfl rfl)) ?_
  refine st rfl (x_extract (v := Value.int .i64 ((posL (legsC l) who product).1)) (ev_tmp rfl rfl) rfl) ?_
  refine st rfl (x_extract (v := Value.int .i64 ((posL (legsC l) who product).2)) (ev_tmp rfl rfl) rfl) ?_
  refine st rfl (x_extract (v := Value.int .i64 (chk l)) (ev_tmp rfl rfl) rfl) ?_
  refine st rfl (x_assign (v := Value.int .i64 ((posL (legsC l) who product).1)) (ev_tmp rfl rfl)) ?_
  refine st rfl (x_assign (v := Value.int .i64 ((posL (legsC l) who product).2)) (ev_tmp rfl rfl)) ?_
  refine st rfl (x_assign (v := Value.int .i64 (chk l)) (ev_tmp rfl rfl)) ?_
  refine s_nil ?_
  refine hK10 _ _ ?_
  refine c_seq fun K14 hK15 => ?_
  refine c_reg ?_
  refine st rfl (x_loadw (cs := [Value.slice A l.length c]) Try.underlying24 rfl sz_24 (ev_tmp rfl rfl) (M12.range (i := 0) rfl ⟨rfl, trivial⟩)) ?_
  refine st rfl (x_move (v := Value.string who) (ev_tmp rfl rfl)) ?_
  refine st rfl (x_move (v := Value.string product) (ev_tmp rfl rfl)) ?_
  refine sC rfl (x_callL (xs := [.tmp 22, .tmp 23, .tmp 24]) (vs := [Value.agg #[Value.slice A l.length c], Value.string who, Value.string product]) (cap := []) ent_27 rfl ⟨(ev_tmp rfl rfl), (ev_tmp rfl rfl), (ev_tmp rfl rfl), trivial⟩) (agreed_c2 _ _ l who product _ (M12.slw (i := 0) rfl)) ?_
  rintro _ w16 ⟨rfl, hb18⟩
  refine ⟨_, rfl, ?_⟩
  have M17 := M12.call hb18
  refine st rfl (x_move (v := Value.tuple #[Value.int .i64 ((agrC l who product).1), Value.int .i64 ((agrC l who product).2), Value.int .i64 (chk l)]) (ev_tmp rfl rfl)) ?_
  refine st rfl (x_extract (v := Value.int .i64 ((agrC l who product).1)) (ev_tmp rfl rfl) rfl) ?_
  refine st rfl (x_extract (v := Value.int .i64 ((agrC l who product).2)) (ev_tmp rfl rfl) rfl) ?_
  refine st rfl (x_extract (v := Value.int .i64 (chk l)) (ev_tmp rfl rfl) rfl) ?_
  refine st rfl (x_assign (v := Value.int .i64 ((agrC l who product).1)) (ev_tmp rfl rfl)) ?_
  refine st rfl (x_assign (v := Value.int .i64 ((agrC l who product).2)) (ev_tmp rfl rfl)) ?_
  refine st rfl (x_assign (v := Value.int .i64 (chk l)) (ev_tmp rfl rfl)) ?_
  refine s_nil ?_
  refine hK15 _ _ ?_
  refine c_seq fun K19 hK20 => ?_
  refine c_reg ?_
  refine st rfl (x_move (v := Value.string who) (ev_tmp rfl rfl)) ?_
  refine st rfl (x_eqs (p := who) (q := (⟨#[104, 111, 117, 115, 101]⟩ : ByteArray)) (ev_tmp rfl rfl) rfl) ?_
  refine st rfl (x_move (v := Value.bool (decide (who.data.toList = (⟨#[104, 111, 117, 115, 101]⟩ : ByteArray).data.toList))) (ev_tmp rfl rfl)) ?_
  refine s_meet17 fun K21 hK22 => ?_
  have J23 : ∀ jk, K21 (fr 49 ([(48, Value.bool ((decide (who.data.toList = (⟨#[104, 111, 117, 115, 101]⟩ : ByteArray).data.toList)) || (decide ((posL (legsC l) who product).2 = (agrC l who product).2)))), (6, Value.bool false), (31, Value.bool (decide (who.data.toList = (⟨#[104, 111, 117, 115, 101]⟩ : ByteArray).data.toList)))] ++ jk)) w16 := by
    intro jk
    refine hK22 _ _ ?_
    clear hK22
    refine st rfl (x_assign (v := Value.bool ((decide (who.data.toList = (⟨#[104, 111, 117, 115, 101]⟩ : ByteArray).data.toList)) || (decide ((posL (legsC l) who product).2 = (agrC l who product).2)))) (ev_tmp rfl rfl)) ?_
    refine s_nil ?_
    refine hK20 _ _ ?_
    refine c_ret ?_
    refine hT3 _ _ ?_
    refine r1 rfl (ev_tmp (v := Value.bool ((decide (who.data.toList = (⟨#[104, 111, 117, 115, 101]⟩ : ByteArray).data.toList)) || (decide ((posL (legsC l) who product).2 = (agrC l who product).2)))) rfl rfl) ?_
    exact ⟨ret_bool (agr_or h0), M17.below⟩
  clear hK22
  rcases bcase (decide (who.data.toList = (⟨#[104, 111, 117, 115, 101]⟩ : ByteArray).data.toList)) with hg24 | hg24
  · have h25 : ¬ (who.data.toList = (⟨#[104, 111, 117, 115, 101]⟩ : ByteArray).data.toList) := of_decide_eq_false hg24
    refine gt rfl rfl rfl (congrArg Value.bool hg24) (x_move (v := Value.int .i64 (chk l)) (ev_tmp rfl rfl)) ?_
    refine gt rfl rfl rfl (congrArg Value.bool hg24) (x_eql (p := (chk l)) (q := 0) (ev_tmp rfl rfl) rfl) ?_
    refine gt rfl rfl rfl (congrArg Value.bool hg24) (x_move (v := Value.bool (decide (chk l = 0))) (ev_tmp rfl rfl)) ?_
    have hg29 : (decide (chk l = 0)) = true := (decide_eq_true h0)
    refine gt rfl rfl rfl (congrArg Value.bool hg29) (x_move (v := Value.int .i64 (chk l)) (ev_tmp rfl rfl)) ?_
    refine gt rfl rfl rfl (congrArg Value.bool hg29) (x_eql (p := (chk l)) (q := 0) (ev_tmp rfl rfl) rfl) ?_
    refine gt rfl rfl rfl (congrArg Value.bool hg24) (x_pick_t (v := Value.bool (decide (chk l = 0))) (ev_tmp rfl (congrArg Value.bool hg29)) (ev_tmp rfl rfl)) ?_
    refine gt rfl rfl rfl (congrArg Value.bool hg24) (x_move (v := Value.bool (decide (chk l = 0))) (ev_tmp rfl rfl)) ?_
    have hg33 : (decide (chk l = 0)) = true := (decide_eq_true h0)
    refine gt rfl rfl rfl (congrArg Value.bool hg33) (x_move (v := Value.int .i64 ((posL (legsC l) who product).1)) (ev_tmp rfl rfl)) ?_
    refine gt rfl rfl rfl (congrArg Value.bool hg33) (x_move (v := Value.int .i64 ((agrC l who product).1)) (ev_tmp rfl rfl)) ?_
    refine gt rfl rfl rfl (congrArg Value.bool hg33) (x_eql (p := ((posL (legsC l) who product).1)) (q := ((agrC l who product).1)) (ev_tmp rfl rfl) (ev_tmp rfl rfl)) ?_
    refine gt rfl rfl rfl (congrArg Value.bool hg24) (x_pick_t (v := Value.bool (decide ((posL (legsC l) who product).1 = (agrC l who product).1))) (ev_tmp rfl (congrArg Value.bool hg33)) (ev_tmp rfl rfl)) ?_
    refine gt rfl rfl rfl (congrArg Value.bool hg24) (x_move (v := Value.bool (decide ((posL (legsC l) who product).1 = (agrC l who product).1))) (ev_tmp rfl rfl)) ?_
    have hg37 : (decide ((posL (legsC l) who product).1 = (agrC l who product).1)) = true := (decide_eq_true (pos_agr h0 (by assumption)).1)
    refine gt rfl rfl rfl (congrArg Value.bool hg37) (x_move (v := Value.int .i64 ((posL (legsC l) who product).2)) (ev_tmp rfl rfl)) ?_
    refine gt rfl rfl rfl (congrArg Value.bool hg37) (x_move (v := Value.int .i64 ((agrC l who product).2)) (ev_tmp rfl rfl)) ?_
    refine gt rfl rfl rfl (congrArg Value.bool hg37) (x_eql (p := ((posL (legsC l) who product).2)) (q := ((agrC l who product).2)) (ev_tmp rfl rfl) (ev_tmp rfl rfl)) ?_
    refine gt rfl rfl rfl (congrArg Value.bool hg24) (x_pick_t (v := Value.bool (decide ((posL (legsC l) who product).2 = (agrC l who product).2))) (ev_tmp rfl (congrArg Value.bool hg37)) (ev_tmp rfl rfl)) ?_
    refine st rfl (x_pick_f (v := Value.bool (decide ((posL (legsC l) who product).2 = (agrC l who product).2))) (ev_tmp rfl (congrArg Value.bool hg24)) (ev_tmp rfl rfl)) ?_
    refine s_nil ?_
    exact j_to J23 ⟨(congrArg Value.bool (or_f hg24)), rfl, rfl, trivial⟩
  · refine gf (b' := true) rfl rfl rfl (congrArg Value.bool hg24) rfl ?_
    refine gf (b' := true) rfl rfl rfl (congrArg Value.bool hg24) rfl ?_
    refine gf (b' := true) rfl rfl rfl (congrArg Value.bool hg24) rfl ?_
    refine gu rfl rfl rfl rfl ?_
    refine gu rfl rfl rfl rfl ?_
    refine gf (b' := true) rfl rfl rfl (congrArg Value.bool hg24) rfl ?_
    refine gf (b' := true) rfl rfl rfl (congrArg Value.bool hg24) rfl ?_
    refine gu rfl rfl rfl rfl ?_
    refine gu rfl rfl rfl rfl ?_
    refine gu rfl rfl rfl rfl ?_
    refine gf (b' := true) rfl rfl rfl (congrArg Value.bool hg24) rfl ?_
    refine gf (b' := true) rfl rfl rfl (congrArg Value.bool hg24) rfl ?_
    refine gu rfl rfl rfl rfl ?_
    refine gu rfl rfl rfl rfl ?_
    refine gu rfl rfl rfl rfl ?_
    refine gf (b' := true) rfl rfl rfl (congrArg Value.bool hg24) rfl ?_
    refine st rfl (x_pick_t (v := Value.bool true) (ev_tmp rfl (congrArg Value.bool hg24)) rfl) ?_
    refine s_nil ?_
    exact j_to J23 ⟨(congrArg Value.bool (or_t hg24)), rfl, rfl, trivial⟩

end Go.Proofs.Ytkimdlpfbojkgaa
