/- Contracts: the reference, its calls that turn a book. -/
import Derived.Test.YtkimdlpfbojkgaaWp
namespace Go.Proofs.Ytkimdlpfbojkgaa
open Go.RowKit
/-- Whether a number names a trade. -/
def thereE (l : List Trade) (number : Int) : Int := if chk l = 0 then (if number < 1 ∨ (l.length : Int) < number then 6 else 0) else 8
def sideE (l : List Trade) (y : ByteArray) (number : Int) : Int := (chg (refF y) l number).2
section
variable {l : List Trade} {number : Int} {x : Trade} {y : ByteArray} {f : Trade → Trade × Int}
theorem sub8r {t : Trade} (h : (!decide (chk l = 0)) = true) : sub l t = ([], 0, 8) := by rw [sub8 h, chk_8 (of_decide_eq_false (not_t h))]
theorem there8 (h : (!decide (chk l = 0)) = true) : thereE l number = 8 := by unfold thereE; rw [if_neg (of_decide_eq_false (not_t h))]
theorem there6 (h : (!decide (chk l = 0)) = false) (h2 : (decide (number < 1) || decide ((l.length : Int) < number)) = true) : thereE l number = 6 := by
  unfold thereE
  rw [Bool.or_eq_true] at h2
  rw [if_pos (of_decide_eq_true (not_f h)), if_pos]
  rcases h2 with h | h
  · exact .inl (of_decide_eq_true h)
  · exact .inr (of_decide_eq_true h)
theorem there0 (h : (!decide (chk l = 0)) = false) (h2 : (decide (number < 1) || decide ((l.length : Int) < number)) = false) : thereE l number = 0 := by
  unfold thereE
  have h3 := of_decide_eq_false (or_l h2)
  have h4 := of_decide_eq_false (or_r h2)
  rw [if_pos (of_decide_eq_true (not_f h)), if_neg (by rintro (h | h) <;> contradiction)]
theorem there_in (h : thereE l number = 0) : chk l = 0 ∧ ¬ number < 1 ∧ ¬ (l.length : Int) < number ∧ l.length ≤ 200 ∧ ∃ x, l[(number - 1).toNat]? = some x := by
  unfold thereE at h
  by_cases hc : chk l = 0
  · rw [if_pos hc] at h
    by_cases hn : number < 1 ∨ (l.length : Int) < number
    · rw [if_pos hn] at h; omega
    · exact ⟨hc, by omega, by omega, chk_len hc, _, List.getElem?_eq_getElem (by omega)⟩
  · rw [if_neg hc] at h; omega
theorem chg_there (h : ¬ thereE l number = 0) : chg f l number = ([], thereE l number) := by
  unfold thereE at h ⊢
  unfold chg
  by_cases hc : chk l = 0
  · rw [if_pos hc] at h
    by_cases hn : number < 1 ∨ (l.length : Int) < number
    · rw [if_pos hc, if_pos hn, if_pos hc, if_pos hn]
    · rw [if_neg hn] at h; exact absurd rfl h
  · rw [if_neg hc, if_neg hc]
theorem side_there (y : ByteArray) (h : ¬ thereE l number = 0) : sideE l y number = thereE l number := by unfold sideE; rw [chg_there h]
theorem chg_at (hr0 : chk l = 0) (hr1 : ¬ number < 1) (hr2 : ¬ (l.length : Int) < number) (hx : l[(number - 1).toNat]? = some x) : chg f l number = if (f x).2 = 0 then (l.set (number - 1).toNat (f x).1, 0) else ([], (f x).2) := by
  unfold chg
  rw [if_pos hr0, if_neg (by rintro (h | h) <;> contradiction), hx]
theorem side_ask (hr0 : chk l = 0) (hr1 : ¬ number < 1) (hr2 : ¬ (l.length : Int) < number) (hx : l[(number - 1).toNat]? = some x) : sideE l y number = askE x y := by
  unfold sideE
  rw [chg_at hr0 hr1 hr2 hx]
  unfold refF
  by_cases ha : askE x y = 0
  · rw [if_pos ha, if_pos rfl, ha]
  · rw [if_neg ha, if_neg ha]
theorem side_in (h : sideE l y number = 0) : chk l = 0 ∧ ¬ number < 1 ∧ ¬ (l.length : Int) < number ∧ l.length ≤ 200 ∧ ∃ x, l[(number - 1).toNat]? = some x ∧ askE x y = 0 := by
  by_cases ht : thereE l number = 0
  · obtain ⟨hr0, hr1, hr2, hr3, x, hx⟩ := there_in ht
    exact ⟨hr0, hr1, hr2, hr3, x, hx, (side_ask hr0 hr1 hr2 hx).symm.trans h⟩
  · rw [side_there y ht] at h; exact absurd h ht
theorem refErr (h : ¬ sideE l y number = 0) : chg (refF y) l number = ([], sideE l y number) := by
  by_cases ht : thereE l number = 0
  · obtain ⟨hr0, hr1, hr2, hr3, x, hx⟩ := there_in ht
    rw [side_ask hr0 hr1 hr2 hx] at h ⊢
    rw [chg_at hr0 hr1 hr2 hx]
    unfold refF
    rw [if_neg h, if_neg h]
  · rw [side_there y ht, chg_there ht]
theorem confErr (h : ¬ sideE l y number = 0) : chg (confF y) l number = ([], sideE l y number) := by
  by_cases ht : thereE l number = 0
  · obtain ⟨hr0, hr1, hr2, hr3, x, hx⟩ := there_in ht
    rw [side_ask hr0 hr1 hr2 hx] at h ⊢
    rw [chg_at hr0 hr1 hr2 hx]
    unfold confF
    rw [if_neg h, if_neg h]
  · rw [side_there y ht, chg_there ht]
theorem refOk (hr0 : chk l = 0) (hr1 : ¬ number < 1) (hr2 : ¬ (l.length : Int) < number) (hx : l[(number - 1).toNat]? = some x) (ha : askE x y = 0) : chg (refF y) l number = (l.set (number - 1).toNat { x with st := 2 }, 0) := by
  rw [chg_at hr0 hr1 hr2 hx]
  unfold refF
  rw [if_pos ha, if_pos rfl]
theorem undoErr (h : ¬ thereE l number = 0) : chg undoF l number = ([], thereE l number) := chg_there h
theorem undoNo (hr0 : chk l = 0) (hr1 : ¬ number < 1) (hr2 : ¬ (l.length : Int) < number) (hx : l[(number - 1).toNat]? = some x) (h : ¬ x.st = 1) : chg undoF l number = ([], 20) := by
  rw [chg_at hr0 hr1 hr2 hx]
  unfold undoF
  rw [if_neg h, if_neg (by simp)]
theorem undoYes (hr0 : chk l = 0) (hr1 : ¬ number < 1) (hr2 : ¬ (l.length : Int) < number) (hx : l[(number - 1).toNat]? = some x) (h : x.st = 1) : chg undoF l number = (l.set (number - 1).toNat { x with st := 3 }, 0) := by
  rw [chg_at hr0 hr1 hr2 hx]
  unfold undoF
  rw [if_pos h, if_pos rfl]
/-- The two sides of a trade of a valid book differ. -/
theorem sides_ne (hr0 : chk l = 0) (hx : l[(number - 1).toNat]? = some x) : ¬ x.b.data.toList = x.s.data.toList := by
  have ht := and_l (right_at hr0 hx)
  unfold termsB at ht
  exact of_decide_eq_false (not_t (and_r (and_l (and_l (and_l (and_l (and_l ht)))))))
theorem ask_in (ha : askE x y = 0) : y.data.toList = x.b.data.toList ∨ y.data.toList = x.s.data.toList := by
  unfold askE at ha
  by_cases hs : x.st = 0
  · rw [if_pos hs] at ha
    by_cases hy : y.data.toList = x.b.data.toList ∨ y.data.toList = x.s.data.toList
    · exact hy
    · rw [if_neg hy] at ha; omega
  · rw [if_neg hs] at ha; omega
theorem confNo (hr0 : chk l = 0) (hr1 : ¬ number < 1) (hr2 : ¬ (l.length : Int) < number) (hx : l[(number - 1).toNat]? = some x) (ha : askE x y = 0) (h : ((decide (y.data.toList = x.b.data.toList) && x.bo) || (decide (y.data.toList = x.s.data.toList) && x.so)) = true) : chg (confF y) l number = ([], 24) := by
  have hne := sides_ne hr0 hx
  rw [chg_at hr0 hr1 hr2 hx]
  have e : confF y x = (x, 24) := by
    unfold confF
    rw [if_pos ha]
    rw [Bool.or_eq_true] at h
    by_cases hys : y.data.toList = x.s.data.toList
    · rcases h with h | h
      · exact absurd ((of_decide_eq_true (and_l h)).symm.trans hys) hne
      · rw [if_pos hys, and_r h]; rfl
    · rcases h with h | h
      · rw [if_neg hys, and_r h]; rfl
      · exact absurd (of_decide_eq_true (and_l h)) hys
  rw [e, if_neg (by simp)]
theorem conf_buy (hne : ¬ x.b.data.toList = x.s.data.toList) (ha : askE x y = 0) (h : ((decide (y.data.toList = x.b.data.toList) && x.bo) || (decide (y.data.toList = x.s.data.toList) && x.so)) = false) (hy : decide (y.data.toList = x.b.data.toList) = true) :
    confF y x = (if x.so then { x with bo := true, st := 1 } else { x with bo := true }, 0) := by
  have h1 := or_l h
  rw [hy, Bool.true_and] at h1
  have hys : ¬ y.data.toList = x.s.data.toList := fun h => hne ((of_decide_eq_true hy).symm.trans h)
  unfold confF
  rw [if_pos ha, if_neg hys, h1]
  rfl
theorem conf_sell (ha : askE x y = 0) (h : ((decide (y.data.toList = x.b.data.toList) && x.bo) || (decide (y.data.toList = x.s.data.toList) && x.so)) = false) (hy : decide (y.data.toList = x.b.data.toList) = false) :
    confF y x = (if x.bo then { x with so := true, st := 1 } else { x with so := true }, 0) := by
  have hys : y.data.toList = x.s.data.toList := (ask_in ha).resolve_left (of_decide_eq_false hy)
  have h1 := or_r h
  rw [decide_eq_true hys, Bool.true_and] at h1
  unfold confF
  rw [if_pos ha, if_pos hys, h1]
  rfl
theorem confA0 (hr0 : chk l = 0) (hr1 : ¬ number < 1) (hr2 : ¬ (l.length : Int) < number) (hx : l[(number - 1).toNat]? = some x) (ha : askE x y = 0) (h : ((decide (y.data.toList = x.b.data.toList) && x.bo) || (decide (y.data.toList = x.s.data.toList) && x.so)) = false) (hy : decide (y.data.toList = x.b.data.toList) = true) (hz : x.so = false) : chg (confF y) l number = (l.set (number - 1).toNat { x with bo := true }, 0) := by
  skip
  rw [chg_at hr0 hr1 hr2 hx, conf_buy (sides_ne hr0 hx) ha h hy, hz]
  rfl
theorem confA1 (hr0 : chk l = 0) (hr1 : ¬ number < 1) (hr2 : ¬ (l.length : Int) < number) (hx : l[(number - 1).toNat]? = some x) (ha : askE x y = 0) (h : ((decide (y.data.toList = x.b.data.toList) && x.bo) || (decide (y.data.toList = x.s.data.toList) && x.so)) = false) (hy : decide (y.data.toList = x.b.data.toList) = true) (hz : x.so = true) : chg (confF y) l number = (l.set (number - 1).toNat { x with bo := true, st := 1 }, 0) := by
  skip
  rw [chg_at hr0 hr1 hr2 hx, conf_buy (sides_ne hr0 hx) ha h hy, hz]
  rfl
theorem confB0 (hr0 : chk l = 0) (hr1 : ¬ number < 1) (hr2 : ¬ (l.length : Int) < number) (hx : l[(number - 1).toNat]? = some x) (ha : askE x y = 0) (h : ((decide (y.data.toList = x.b.data.toList) && x.bo) || (decide (y.data.toList = x.s.data.toList) && x.so)) = false) (hy : decide (y.data.toList = x.b.data.toList) = false) (hz : (x.bo && true) = false) : chg (confF y) l number = (l.set (number - 1).toNat { x with so := true }, 0) := by
  rw [Bool.and_true] at hz
  rw [chg_at hr0 hr1 hr2 hx, conf_sell ha h hy, hz]
  rfl
theorem confB1 (hr0 : chk l = 0) (hr1 : ¬ number < 1) (hr2 : ¬ (l.length : Int) < number) (hx : l[(number - 1).toNat]? = some x) (ha : askE x y = 0) (h : ((decide (y.data.toList = x.b.data.toList) && x.bo) || (decide (y.data.toList = x.s.data.toList) && x.so)) = false) (hy : decide (y.data.toList = x.b.data.toList) = false) (hz : (x.bo && true) = true) : chg (confF y) l number = (l.set (number - 1).toNat { x with so := true, st := 1 }, 0) := by
  rw [Bool.and_true] at hz
  rw [chg_at hr0 hr1 hr2 hx, conf_sell ha h hy, hz]
  rfl
end
theorem ent_53 : Enters Try.prog 53 := enters_of Try.func53 (by kernel_rfl) rfl
theorem ent_52 : Enters Try.prog 52 := enters_of Try.func52 (by kernel_rfl) rfl
set_option maxHeartbeats 1000000 in
set_option maxRecDepth 20000 in
theorem there_r (A : Option Addr) (c : Nat) (l : List Trade) (number : Int) (w : World) (hs : SlB 0 w.heap.size w A c 8 Trade.cells l) :
    Calls Try.prog 53 #[Value.agg #[Value.slice A l.length c], Value.int .i64 number] w fun e w' => e = .returned (.int .i64 (thereE l number)) ∧ Below w.heap.size w w' := by
  have hcm : l.length ≤ 9223372036854775807 := by have := hs.1; have := hs.2.1; simp only [maxLen] at this; omega
  have M0 := Mem.start w []
  have M1 := M0.see (Ro.sl 0 w.heap.size A c 8 Trade.cells l) (hs) (Nat.le_refl _)
  refine enter (args := [Value.agg #[Value.slice A l.length c], Value.int .i64 number]) Try.func53 rfl (n := 17) rfl rfl fun T2 hT3 => ?_
  refine c_seq fun K4 hK5 => ?_
  refine c_reg ?_
  refine snew (cs := #[Value.slice A l.length c]) M1 rfl (x_box (v := Value.agg #[Value.slice A l.length c]) (ev_tmp rfl rfl)) fun b6 w7 M8 => ?_
  refine st rfl (x_assign (v := Value.int .i64 0) rfl) ?_
  refine s_nil ?_
  refine hK5 _ _ ?_
  refine c_seq fun K9 hK10 => ?_
  refine c_seq fun K11 hK12 => ?_
  refine c_reg ?_
  refine st rfl (x_loadw (cs := [Value.slice A l.length c]) Try.underlying24 rfl sz_24 (ev_tmp rfl rfl) (M8.range (i := 0) rfl ⟨rfl, trivial⟩)) ?_
  refine sC rfl (x_callL (xs := [.tmp 5]) (vs := [Value.agg #[Value.slice A l.length c]]) (cap := []) ent_30 rfl ⟨(ev_tmp rfl rfl), trivial⟩) (check_r _ _ l _ (M8.slw (i := 0) rfl)) ?_
  rintro _ w13 ⟨rfl, hb15⟩
  refine ⟨_, rfl, ?_⟩
  have M14 := M8.call hb15
  refine st rfl (x_neq (p := (chk l)) (q := 0) (ev_tmp rfl rfl) rfl) ?_
  refine s_nil ?_
  refine hK12 _ _ ?_
  refine c_cond (b := !(decide (chk l = 0))) (ev_tmp rfl rfl) (fun h16 => ?_) (fun h16 => ?_)
  · have h17 : ¬ (chk l = 0) := of_decide_eq_false (not_t h16)
    refine c_seq fun K18 hK19 => ?_
    refine c_reg ?_
    refine st rfl (x_assign (v := Value.int .i64 8) rfl) ?_
    refine s_nil ?_
    refine hK19 _ _ ?_
    refine c_ret ?_
    refine hT3 _ _ ?_
    refine r1 rfl (ev_tmp (v := Value.int .i64 8) rfl rfl) ?_
    rw [there8 h16]
    exact ⟨rfl, M14.below⟩
  · have h20 : chk l = 0 := of_decide_eq_true (not_f h16)
    refine c_skip ?_
    refine hK10 _ _ ?_
    refine c_seq fun K21 hK22 => ?_
    refine c_seq fun K23 hK24 => ?_
    refine c_reg ?_
    refine st rfl (x_move (v := Value.int .i64 number) (ev_tmp rfl rfl)) ?_
    refine st rfl (x_lss (p := number) (q := 1) (ev_tmp rfl rfl) rfl) ?_
    refine st rfl (x_move (v := Value.bool (decide (number < 1))) (ev_tmp rfl rfl)) ?_
    refine s_meet6 fun K25 hK26 => ?_
    have J27 : ∀ jk, K25 (fr 17 ([(16, Value.bool ((decide (number < 1)) || (decide ((l.length : Int) < number)))), (4, Value.int .i64 0), (10, Value.bool (decide (number < 1)))] ++ jk)) w13 := by
      intro jk
      refine hK26 _ _ ?_
      clear hK26
      refine s_nil ?_
      refine hK24 _ _ ?_
      refine c_cond (b := (decide (number < 1)) || (decide ((l.length : Int) < number))) (ev_tmp rfl rfl) (fun h30 => ?_) (fun h30 => ?_)
      · have h31 : ((decide (number < 1)) || (decide ((l.length : Int) < number))) = true := h30
        refine c_seq fun K32 hK33 => ?_
        refine c_reg ?_
        refine st rfl (x_assign (v := Value.int .i64 6) rfl) ?_
        refine s_nil ?_
        refine hK33 _ _ ?_
        refine c_ret ?_
        refine hT3 _ _ ?_
        refine r1 rfl (ev_tmp (v := Value.int .i64 6) rfl rfl) ?_
        rw [there6 h16 h30]
        exact ⟨rfl, M14.below⟩
      · have h34 : ¬ (number < 1) := of_decide_eq_false (or_l h30)
        have h35 : ¬ ((l.length : Int) < number) := of_decide_eq_false (or_r h30)
        refine c_skip ?_
        refine hK22 _ _ ?_
        refine c_seq fun K36 hK37 => ?_
        refine c_reg ?_
        refine st rfl (x_assign (v := Value.int .i64 0) rfl) ?_
        refine s_nil ?_
        refine hK37 _ _ ?_
        refine c_ret ?_
        refine hT3 _ _ ?_
        refine r1 rfl (ev_tmp (v := Value.int .i64 0) rfl rfl) ?_
        rw [there0 h16 h30]
        exact ⟨rfl, M14.below⟩
    clear hK26
    rcases bcase (decide (number < 1)) with hg28 | hg28
    · have h29 : ¬ (number < 1) := of_decide_eq_false hg28
      refine gt rfl rfl rfl (congrArg Value.bool hg28) (x_move (v := Value.int .i64 number) (ev_tmp rfl rfl)) ?_
      refine gt rfl rfl rfl (congrArg Value.bool hg28) (x_fieldv (b := b6) (o := 0) (q := 0) fa_24_0 (ev_tmp rfl rfl) rfl) ?_
      refine gt rfl rfl rfl (congrArg Value.bool hg28) (x_load1 (v := Value.slice A l.length c) Try.underlying22 rfl (ev_tmp rfl rfl) (M14.cell (i := 0) (o := 0) rfl rfl)) ?_
      refine gt rfl rfl rfl (congrArg Value.bool hg28) (x_lensl (n := l.length) Try.underlying22 (ev_tmp rfl rfl)) ?_
      refine gt rfl rfl rfl (congrArg Value.bool hg28) (x_gtr (p := number) (q := (l.length : Int)) (ev_tmp rfl rfl) (ev_tmp rfl rfl)) ?_
      refine st rfl (x_pick_f (v := Value.bool (decide ((l.length : Int) < number))) (ev_tmp rfl (congrArg Value.bool hg28)) (ev_tmp rfl rfl)) ?_
      refine s_nil ?_
      exact j_to J27 ⟨(congrArg Value.bool (or_f hg28)), rfl, rfl, trivial⟩
    · refine gf (b' := true) rfl rfl rfl (congrArg Value.bool hg28) rfl ?_
      refine gf (b' := true) rfl rfl rfl (congrArg Value.bool hg28) rfl ?_
      refine gf (b' := true) rfl rfl rfl (congrArg Value.bool hg28) rfl ?_
      refine gf (b' := true) rfl rfl rfl (congrArg Value.bool hg28) rfl ?_
      refine gf (b' := true) rfl rfl rfl (congrArg Value.bool hg28) rfl ?_
      refine st rfl (x_pick_t (v := Value.bool true) (ev_tmp rfl (congrArg Value.bool hg28)) rfl) ?_
      refine s_nil ?_
      exact j_to J27 ⟨(congrArg Value.bool (or_t hg28)), rfl, rfl, trivial⟩

set_option maxHeartbeats 1000000 in
set_option maxRecDepth 20000 in
theorem side_r (A : Option Addr) (c : Nat) (l : List Trade) (number : Int) (y : ByteArray) (w : World) (hs : SlB 0 w.heap.size w A c 8 Trade.cells l) :
    Calls Try.prog 52 #[Value.agg #[Value.slice A l.length c], Value.int .i64 number, Value.string y] w fun e w' => e = .returned (.int .i64 (sideE l y number)) ∧ Below w.heap.size w w' := by
  have hcm : l.length ≤ 9223372036854775807 := by have := hs.1; have := hs.2.1; simp only [maxLen] at this; omega
  have M0 := Mem.start w []
  have M1 := M0.see (Ro.sl 0 w.heap.size A c 8 Trade.cells l) (hs) (Nat.le_refl _)
  refine enter (args := [Value.agg #[Value.slice A l.length c], Value.int .i64 number, Value.string y]) Try.func52 rfl (n := 34) rfl rfl fun T2 hT3 => ?_
  refine c_seq fun K4 hK5 => ?_
  refine c_reg ?_
  refine snew (cs := #[Value.slice A l.length c]) M1 rfl (x_box (v := Value.agg #[Value.slice A l.length c]) (ev_tmp rfl rfl)) fun b6 w7 M8 => ?_
  refine st rfl (x_assign (v := Value.int .i64 0) rfl) ?_
  refine s_nil ?_
  refine hK5 _ _ ?_
  refine c_seq fun K9 hK10 => ?_
  refine c_reg ?_
  refine st rfl (x_loadw (cs := [Value.slice A l.length c]) Try.underlying24 rfl sz_24 (ev_tmp rfl rfl) (M8.range (i := 0) rfl ⟨rfl, trivial⟩)) ?_
  refine st rfl (x_move (v := Value.int .i64 number) (ev_tmp rfl rfl)) ?_
  refine sC rfl (x_callL (xs := [.tmp 9, .tmp 10]) (vs := [Value.agg #[Value.slice A l.length c], Value.int .i64 number]) (cap := []) ent_53 rfl ⟨(ev_tmp rfl rfl), (ev_tmp rfl rfl), trivial⟩) (there_r _ _ l number _ (M8.slw (i := 0) rfl)) ?_
  rintro _ w11 ⟨rfl, hb13⟩
  refine ⟨_, rfl, ?_⟩
  have M12 := M8.call hb13
  refine st rfl (x_assign (v := Value.int .i64 (thereE l number)) (ev_tmp rfl rfl)) ?_
  refine s_nil ?_
  refine hK10 _ _ ?_
  refine c_seq fun K14 hK15 => ?_
  refine c_seq fun K16 hK17 => ?_
  refine c_reg ?_
  refine st rfl (x_move (v := Value.int .i64 (thereE l number)) (ev_tmp rfl rfl)) ?_
  refine st rfl (x_neq (p := (thereE l number)) (q := 0) (ev_tmp rfl rfl) rfl) ?_
  refine s_nil ?_
  refine hK17 _ _ ?_
  refine c_cond (b := !(decide (thereE l number = 0))) (ev_tmp rfl rfl) (fun h18 => ?_) (fun h18 => ?_)
  · have h19 : ¬ (thereE l number = 0) := of_decide_eq_false (not_t h18)
    refine c_seq fun K20 hK21 => ?_
    refine c_reg ?_
    refine st rfl (x_move (v := Value.int .i64 (thereE l number)) (ev_tmp rfl rfl)) ?_
    refine st rfl (x_assign (v := Value.int .i64 (thereE l number)) (ev_tmp rfl rfl)) ?_
    refine s_nil ?_
    refine hK21 _ _ ?_
    refine c_ret ?_
    refine hT3 _ _ ?_
    refine r1 rfl (ev_tmp (v := Value.int .i64 (thereE l number)) rfl rfl) ?_
    rw [side_there y (of_decide_eq_false (not_t h18))]
    exact ⟨rfl, M12.below⟩
  · have h22 : thereE l number = 0 := of_decide_eq_true (not_f h18)
    obtain ⟨hr0, hr1, hr2, hr3, x, hx⟩ := there_in (of_decide_eq_true (not_f h18))
    refine c_skip ?_
    refine hK15 _ _ ?_
    refine c_seq fun K23 hK24 => ?_
    refine c_reg ?_
    refine st rfl (x_fieldv (b := b6) (o := 0) (q := 0) fa_24_0 (ev_tmp rfl rfl) rfl) ?_
    refine st rfl (x_load1 (v := Value.slice A l.length c) Try.underlying22 rfl (ev_tmp rfl rfl) (M12.cell (i := 0) (o := 0) rfl rfl)) ?_
    refine st rfl (x_move (v := Value.int .i64 number) (ev_tmp rfl rfl)) ?_
    have hw25 : IntKind.i64.wrap (number - 1) = number - 1 := w64 (by rfl) (by omega) (by omega)
    refine st rfl (x_sub_eq (p := number) (q := 1) (ev_tmp rfl rfl) rfl hw25) ?_
    obtain ⟨g26, o27, hA28⟩ := M12.roat (i := 0) rfl hx
    refine st rfl (x_elemA (b := g26) (o := o27) (k := ((number - 1).toNat)) ea_22 (ev_tmp rfl rfl) hA28 (ev_tmp rfl rfl) (by omega) (by omega)) ?_
    refine st rfl (x_loadw (cs := [Value.string x.b, Value.string x.s, Value.string x.p, Value.int .i64 x.q, Value.int .i64 x.r, Value.bool x.bo, Value.bool x.so, Value.int .u8 x.st]) Try.underlying34 rfl sz_34 (ev_tmp rfl rfl) (M12.rorange (i := 0) rfl hA28 hx (f := 0) ⟨rfl, rfl, rfl, rfl, rfl, rfl, rfl, rfl, trivial⟩)) ?_
    refine snew (cs := #[Value.string ByteArray.empty, Value.string ByteArray.empty, Value.string ByteArray.empty, Value.int .i64 0, Value.int .i64 0, Value.bool false, Value.bool false, Value.int .u8 0]) M12 rfl (x_allocz z_34) fun b31 w32 M33 => ?_
    refine sset (i := 0) (L' := [Own.cells b31 34 #[Value.string x.b, Value.string x.s, Value.string x.p, Value.int .i64 x.q, Value.int .i64 x.r, Value.bool x.bo, Value.bool x.so, Value.int .u8 x.st], Own.cells b6 24 #[Value.slice A l.length c]]) M33 rfl rfl (x_storew (cs := [Value.string x.b, Value.string x.s, Value.string x.p, Value.int .i64 x.q, Value.int .i64 x.r, Value.bool x.bo, Value.bool x.so, Value.int .u8 x.st]) sz_34 (ev_tmp rfl rfl) (ev_tmp rfl rfl) (M33.cells_at (i := 0) rfl) rfl ⟨rfl, rfl, rfl, rfl, rfl, rfl, rfl, rfl, trivial⟩) fun w34 M35 => ?_
    refine s_nil ?_
    refine hK24 _ _ ?_
    refine c_seq fun K36 hK37 => ?_
    refine c_seq fun K38 hK39 => ?_
    refine c_reg ?_
    refine st rfl (x_fieldv (b := b31) (o := 0) (q := 7) fa_34_7 (ev_tmp rfl rfl) rfl) ?_
    refine st rfl (x_load1 (v := Value.int .u8 x.st) Try.underlying5 rfl (ev_tmp rfl rfl) (M35.cell (i := 0) (o := 7) rfl rfl)) ?_
    refine st rfl (x_neq (p := x.st) (q := 0) (ev_tmp rfl rfl) rfl) ?_
    refine s_nil ?_
    refine hK39 _ _ ?_
    refine c_cond (b := !(decide (x.st = 0))) (ev_tmp rfl rfl) (fun h40 => ?_) (fun h40 => ?_)
    · have h41 : ¬ (x.st = 0) := of_decide_eq_false (not_t h40)
      refine c_seq fun K42 hK43 => ?_
      refine c_reg ?_
      refine st rfl (x_assign (v := Value.int .i64 20) rfl) ?_
      refine s_nil ?_
      refine hK43 _ _ ?_
      refine c_ret ?_
      refine hT3 _ _ ?_
      refine r1 rfl (ev_tmp (v := Value.int .i64 20) rfl rfl) ?_
      rw [side_ask hr0 hr1 hr2 hx, ← ask1 h40]
      exact ⟨rfl, M35.below⟩
    · have h44 : x.st = 0 := of_decide_eq_true (not_f h40)
      refine c_skip ?_
      refine hK37 _ _ ?_
      refine c_seq fun K45 hK46 => ?_
      refine c_seq fun K47 hK48 => ?_
      refine c_reg ?_
      refine st rfl (x_move (v := Value.string y) (ev_tmp rfl rfl)) ?_
      refine st rfl (x_fieldv (b := b31) (o := 0) (q := 0) fa_34_0 (ev_tmp rfl rfl) rfl) ?_
      refine st rfl (x_load1 (v := Value.string x.b) Try.underlying9 rfl (ev_tmp rfl rfl) (M35.cell (i := 0) (o := 0) rfl rfl)) ?_
      refine st rfl (x_nes (p := y) (q := x.b) (ev_tmp rfl rfl) (ev_tmp rfl rfl)) ?_
      refine st rfl (x_move (v := Value.bool (!(decide (y.data.toList = x.b.data.toList)))) (ev_tmp rfl rfl)) ?_
      refine s_meet5 fun K49 hK50 => ?_
      have J51 : ∀ jk, K49 (fr 34 ([(33, Value.bool ((!(decide (y.data.toList = x.b.data.toList))) && (!(decide (y.data.toList = x.s.data.toList))))), (6, Value.int .i64 0), (28, Value.bool (!(decide (y.data.toList = x.b.data.toList))))] ++ jk)) w34 := by
        intro jk
        refine hK50 _ _ ?_
        clear hK50
        refine s_nil ?_
        refine hK48 _ _ ?_
        refine c_cond (b := (!(decide (y.data.toList = x.b.data.toList))) && (!(decide (y.data.toList = x.s.data.toList)))) (ev_tmp rfl rfl) (fun h54 => ?_) (fun h54 => ?_)
        · have h55 : ¬ (y.data.toList = x.b.data.toList) := of_decide_eq_false (not_t (and_l h54))
          have h56 : ¬ (y.data.toList = x.s.data.toList) := of_decide_eq_false (not_t (and_r h54))
          refine c_seq fun K57 hK58 => ?_
          refine c_reg ?_
          refine st rfl (x_assign (v := Value.int .i64 2) rfl) ?_
          refine s_nil ?_
          refine hK58 _ _ ?_
          refine c_ret ?_
          refine hT3 _ _ ?_
          refine r1 rfl (ev_tmp (v := Value.int .i64 2) rfl rfl) ?_
          rw [side_ask hr0 hr1 hr2 hx, ← ask2 h40 h54]
          exact ⟨rfl, M35.below⟩
        · have h59 : ((!(decide (y.data.toList = x.b.data.toList))) && (!(decide (y.data.toList = x.s.data.toList)))) = false := h54
          refine c_skip ?_
          refine hK46 _ _ ?_
          refine c_seq fun K60 hK61 => ?_
          refine c_reg ?_
          refine st rfl (x_assign (v := Value.int .i64 0) rfl) ?_
          refine s_nil ?_
          refine hK61 _ _ ?_
          refine c_ret ?_
          refine hT3 _ _ ?_
          refine r1 rfl (ev_tmp (v := Value.int .i64 0) rfl rfl) ?_
          rw [side_ask hr0 hr1 hr2 hx, ← ask3 h40 h54]
          exact ⟨rfl, M35.below⟩
      clear hK50
      rcases bcase (!(decide (y.data.toList = x.b.data.toList))) with hg52 | hg52
      · refine gf (b' := false) rfl rfl rfl (congrArg Value.bool hg52) rfl ?_
        refine gf (b' := false) rfl rfl rfl (congrArg Value.bool hg52) rfl ?_
        refine gf (b' := false) rfl rfl rfl (congrArg Value.bool hg52) rfl ?_
        refine gf (b' := false) rfl rfl rfl (congrArg Value.bool hg52) rfl ?_
        refine st rfl (x_pick_f (v := Value.bool false) (ev_tmp rfl (congrArg Value.bool hg52)) rfl) ?_
        refine s_nil ?_
        exact j_to J51 ⟨(congrArg Value.bool (and_f hg52)), rfl, rfl, trivial⟩
      · have h53 : ¬ (y.data.toList = x.b.data.toList) := of_decide_eq_false (not_t hg52)
        refine gt rfl rfl rfl (congrArg Value.bool hg52) (x_move (v := Value.string y) (ev_tmp rfl rfl)) ?_
        refine gt rfl rfl rfl (congrArg Value.bool hg52) (x_fieldv (b := b31) (o := 0) (q := 1) fa_34_1 (ev_tmp rfl rfl) rfl) ?_
        refine gt rfl rfl rfl (congrArg Value.bool hg52) (x_load1 (v := Value.string x.s) Try.underlying9 rfl (ev_tmp rfl rfl) (M35.cell (i := 0) (o := 1) rfl rfl)) ?_
        refine gt rfl rfl rfl (congrArg Value.bool hg52) (x_nes (p := y) (q := x.s) (ev_tmp rfl rfl) (ev_tmp rfl rfl)) ?_
        refine st rfl (x_pick_t (v := Value.bool (!(decide (y.data.toList = x.s.data.toList)))) (ev_tmp rfl (congrArg Value.bool hg52)) (ev_tmp rfl rfl)) ?_
        refine s_nil ?_
        exact j_to J51 ⟨(congrArg Value.bool (and_t hg52)), rfl, rfl, trivial⟩

set_option maxHeartbeats 1000000 in
set_option maxRecDepth 20000 in
theorem refuse_r (A : Option Addr) (c : Nat) (l : List Trade) (number : Int) (y : ByteArray) (w : World) (hs : SlB 0 w.heap.size w A c 8 Trade.cells l) :
    Calls Try.prog 42 #[Value.agg #[Value.slice A l.length c], Value.int .i64 number, Value.string y] w fun e w' => ∃ A' c', e = .returned (.tuple #[.agg #[.slice A' (chg (refF y) l number |>.1).length c'], .int .i64 (chg (refF y) l number |>.2)]) ∧ Below w.heap.size w w' ∧ SlB w.heap.size w'.heap.size w' A' c' 8 Trade.cells (chg (refF y) l number |>.1) := by
  have hcm : l.length ≤ 9223372036854775807 := by have := hs.1; have := hs.2.1; simp only [maxLen] at this; omega
  have M0 := Mem.start w []
  have M1 := M0.see (Ro.sl 0 w.heap.size A c 8 Trade.cells l) (hs) (Nat.le_refl _)
  refine enter (args := [Value.agg #[Value.slice A l.length c], Value.int .i64 number, Value.string y]) Try.func42 rfl (n := 27) rfl rfl fun T2 hT3 => ?_
  refine c_seq fun K4 hK5 => ?_
  refine c_reg ?_
  refine snew (cs := #[Value.slice A l.length c]) M1 rfl (x_box (v := Value.agg #[Value.slice A l.length c]) (ev_tmp rfl rfl)) fun b6 w7 M8 => ?_
  refine snew (cs := #[Value.slice none 0 0]) M8 rfl (x_allocz z_24) fun b9 w10 M11 => ?_
  refine st rfl (x_assign (v := Value.int .i64 0) rfl) ?_
  refine s_nil ?_
  refine hK5 _ _ ?_
  refine c_seq fun K12 hK13 => ?_
  refine c_reg ?_
  refine st rfl (x_loadw (cs := [Value.slice A l.length c]) Try.underlying24 rfl sz_24 (ev_tmp rfl rfl) (M11.range (i := 1) rfl ⟨rfl, trivial⟩)) ?_
  refine st rfl (x_move (v := Value.int .i64 number) (ev_tmp rfl rfl)) ?_
  refine st rfl (x_move (v := Value.string y) (ev_tmp rfl rfl)) ?_
  refine sC rfl (x_callL (xs := [.tmp 10, .tmp 11, .tmp 12]) (vs := [Value.agg #[Value.slice A l.length c], Value.int .i64 number, Value.string y]) (cap := []) ent_52 rfl ⟨(ev_tmp rfl rfl), (ev_tmp rfl rfl), (ev_tmp rfl rfl), trivial⟩) (side_r _ _ l number y _ (M11.slw (i := 0) rfl)) ?_
  rintro _ w14 ⟨rfl, hb16⟩
  refine ⟨_, rfl, ?_⟩
  have M15 := M11.call hb16
  refine st rfl (x_assign (v := Value.int .i64 (sideE l y number)) (ev_tmp rfl rfl)) ?_
  refine s_nil ?_
  refine hK13 _ _ ?_
  refine c_seq fun K17 hK18 => ?_
  refine c_seq fun K19 hK20 => ?_
  refine c_reg ?_
  refine st rfl (x_move (v := Value.int .i64 (sideE l y number)) (ev_tmp rfl rfl)) ?_
  refine st rfl (x_neq (p := (sideE l y number)) (q := 0) (ev_tmp rfl rfl) rfl) ?_
  refine s_nil ?_
  refine hK20 _ _ ?_
  refine c_cond (b := !(decide (sideE l y number = 0))) (ev_tmp rfl rfl) (fun h21 => ?_) (fun h21 => ?_)
  · have h22 : ¬ (sideE l y number = 0) := of_decide_eq_false (not_t h21)
    refine c_seq fun K23 hK24 => ?_
    refine c_reg ?_
    refine st rfl (x_buildL (ps := []) (vs := []) (cs := #[Value.slice none 0 0]) trivial (by kernel_rfl)) ?_
    refine st rfl (x_move (v := Value.int .i64 (sideE l y number)) (ev_tmp rfl rfl)) ?_
    refine sset (i := 0) (L' := [Own.cells b9 24 #[Value.slice none 0 0], Own.cells b6 24 #[Value.slice A l.length c]]) M15 rfl rfl (x_storew (cs := [Value.slice none 0 0]) sz_24 (ev_tmp rfl rfl) (ev_tmp rfl rfl) (M15.cells_at (i := 0) rfl) rfl ⟨rfl, trivial⟩) fun w25 M26 => ?_
    refine st rfl (x_assign (v := Value.int .i64 (sideE l y number)) (ev_tmp rfl rfl)) ?_
    refine s_nil ?_
    refine hK24 _ _ ?_
    refine c_ret ?_
    refine hT3 _ _ ?_
    refine rm2 rfl (rL (cs := [Value.slice none 0 0]) (ev_tmp rfl rfl) Try.underlying24 rfl sz_24 (M26.range (i := 0) rfl ⟨rfl, trivial⟩)) (rT (ev_tmp (v := Value.int .i64 (sideE l y number)) rfl rfl)) ?_
    rw [refErr (of_decide_eq_false (not_t h21))]
    exact ⟨none, 0, rfl, M26.below, SlB.nil _ _ _ _ _⟩
  · have h27 : sideE l y number = 0 := of_decide_eq_true (not_f h21)
    obtain ⟨hr0, hr1, hr2, hr3, x, hx, ha⟩ := side_in (of_decide_eq_true (not_f h21))
    refine c_skip ?_
    refine hK18 _ _ ?_
    refine c_seq fun K28 hK29 => ?_
    refine c_reg ?_
    refine st rfl (x_loadw (cs := [Value.slice A l.length c]) Try.underlying24 rfl sz_24 (ev_tmp rfl rfl) (M15.range (i := 1) rfl ⟨rfl, trivial⟩)) ?_
    refine sC rfl (x_callL (xs := [.tmp 18]) (vs := [Value.agg #[Value.slice A l.length c]]) (cap := []) ent_16 rfl ⟨(ev_tmp rfl rfl), trivial⟩) (twin_r _ _ l _ (M15.slw (i := 0) rfl) (by omega)) ?_
    rintro _ w32 ⟨A30, c31, rfl, hb33, hr34⟩
    refine ⟨_, rfl, ?_⟩
    have M35 := M15.gotRow hb33 hr34
    refine snew (cs := #[Value.slice none 0 0]) M35 rfl (x_allocz z_24) fun b37 w38 M39 => ?_
    refine sset (i := 0) (L' := [Own.cells b37 24 #[Value.slice A30 l.length c31], Own.row 34 8 (Value.slice A30 l.length c31) l.length (l.flatMap Trade.cells), Own.cells b9 24 #[Value.slice none 0 0], Own.cells b6 24 #[Value.slice A l.length c]]) M39 rfl rfl (x_storew (cs := [Value.slice A30 l.length c31]) sz_24 (ev_tmp rfl rfl) (ev_tmp rfl rfl) (M39.cells_at (i := 0) rfl) rfl ⟨rfl, trivial⟩) fun w40 M41 => ?_
    refine s_nil ?_
    refine hK29 _ _ ?_
    refine c_seq fun K42 hK43 => ?_
    refine c_reg ?_
    refine st rfl (x_fieldv (b := b37) (o := 0) (q := 0) fa_24_0 (ev_tmp rfl rfl) rfl) ?_
    refine st rfl (x_load1 (v := Value.slice A30 l.length c31) Try.underlying22 rfl (ev_tmp rfl rfl) (M41.cell (i := 0) (o := 0) rfl rfl)) ?_
    refine st rfl (x_move (v := Value.int .i64 number) (ev_tmp rfl rfl)) ?_
    have hw44 : IntKind.i64.wrap (number - 1) = number - 1 := w64 (by rfl) (by omega) (by omega)
    refine st rfl (x_sub_eq (p := number) (q := 1) (ev_tmp rfl rfl) rfl hw44) ?_
    obtain ⟨g47, pre48, post49, hA50, M51, hback52⟩ := M41.openRow (i := 1) (k := ((number - 1).toNat)) rfl rfl Trade.len hx
    refine st rfl (x_elemA (b := g47) (o := 0) (k := ((number - 1).toNat)) ea_22 (ev_tmp rfl rfl) hA50 (ev_tmp rfl rfl) (by omega) (by omega)) ?_
    refine st rfl (x_fieldv (b := g47) (o := (0 + ((number - 1).toNat) * 8)) (q := (0 + ((number - 1).toNat) * 8 + 7)) fa_34_7 (ev_tmp rfl rfl) rfl) ?_
    refine sseg (k := 1) (j := 7) (v := Value.int .u8 2) M51 rfl rfl (x_store1 (v := Value.int .u8 2) sz_5 rfl rfl (ev_tmp rfl rfl) rfl (M51.segcell (i := 1) rfl (j := 7) rfl) (M51.segfree (i := 1) rfl)) fun w53 M54 => ?_
    refine s_nil ?_
    refine hK43 _ _ ?_
    refine c_seq fun K55 hK56 => ?_
    refine c_reg ?_
    refine st rfl (x_loadw (cs := [Value.slice A30 l.length c31]) Try.underlying24 rfl sz_24 (ev_tmp rfl rfl) (M54.range (i := 0) rfl ⟨rfl, trivial⟩)) ?_
    refine sset (i := 2) (L' := [Own.cells b37 24 #[Value.slice A30 l.length c31], Own.seg g47 34 (0 + ((number - 1).toNat) * 8) pre48 #[Value.string x.b, Value.string x.s, Value.string x.p, Value.int .i64 x.q, Value.int .i64 x.r, Value.bool x.bo, Value.bool x.so, Value.int .u8 2] post49, Own.cells b9 24 #[Value.slice A30 l.length c31], Own.cells b6 24 #[Value.slice A l.length c]]) M54 rfl rfl (x_storew (cs := [Value.slice A30 l.length c31]) sz_24 (ev_tmp rfl rfl) (ev_tmp rfl rfl) (M54.cells_at (i := 2) rfl) rfl ⟨rfl, trivial⟩) fun w57 M58 => ?_
    refine st rfl (x_assign (v := Value.int .i64 0) rfl) ?_
    refine s_nil ?_
    refine hK56 _ _ ?_
    refine c_ret ?_
    refine hT3 _ _ ?_
    refine rm2 rfl (rL (cs := [Value.slice A30 l.length c31]) (ev_tmp rfl rfl) Try.underlying24 rfl sz_24 (M58.range (i := 2) rfl ⟨rfl, trivial⟩)) (rT (ev_tmp (v := Value.int .i64 0) rfl rfl)) ?_
    have M59 := M58.closeRow (i := 1) rfl hA50 (hback52 ({ x with st := 2 }) w57)
    rw [refOk hr0 hr1 hr2 hx ha]
    refine ⟨_, _, ?_, M59.below, SlB.of_row (M59.rownew (i := 1) rfl) (by rw [List.length_set]) Trade.len⟩
    rw [List.length_set]

set_option maxHeartbeats 1000000 in
set_option maxRecDepth 20000 in
theorem undo_r0 (A : Option Addr) (c : Nat) (l : List Trade) (number : Int) (w : World) (hs : SlB 0 w.heap.size w A c 8 Trade.cells l) (ht : ¬ thereE l number = 0) :
    Calls Try.prog 43 #[Value.agg #[Value.slice A l.length c], Value.int .i64 number] w fun e w' => ∃ A' c', e = .returned (.tuple #[.agg #[.slice A' (chg undoF l number |>.1).length c'], .int .i64 (chg undoF l number |>.2)]) ∧ Below w.heap.size w w' ∧ SlB w.heap.size w'.heap.size w' A' c' 8 Trade.cells (chg undoF l number |>.1) := by
  have hcm : l.length ≤ 9223372036854775807 := by have := hs.1; have := hs.2.1; simp only [maxLen] at this; omega
  have M0 := Mem.start w []
  have M1 := M0.see (Ro.sl 0 w.heap.size A c 8 Trade.cells l) (hs) (Nat.le_refl _)
  refine enter (args := [Value.agg #[Value.slice A l.length c], Value.int .i64 number]) Try.func43 rfl (n := 36) rfl rfl fun T2 hT3 => ?_
  refine c_seq fun K4 hK5 => ?_
  refine c_reg ?_
  refine snew (cs := #[Value.slice A l.length c]) M1 rfl (x_box (v := Value.agg #[Value.slice A l.length c]) (ev_tmp rfl rfl)) fun b6 w7 M8 => ?_
  refine snew (cs := #[Value.slice none 0 0]) M8 rfl (x_allocz z_24) fun b9 w10 M11 => ?_
  refine st rfl (x_assign (v := Value.int .i64 0) rfl) ?_
  refine s_nil ?_
  refine hK5 _ _ ?_
  refine c_seq fun K12 hK13 => ?_
  refine c_reg ?_
  refine st rfl (x_loadw (cs := [Value.slice A l.length c]) Try.underlying24 rfl sz_24 (ev_tmp rfl rfl) (M11.range (i := 1) rfl ⟨rfl, trivial⟩)) ?_
  refine st rfl (x_move (v := Value.int .i64 number) (ev_tmp rfl rfl)) ?_
  refine sC rfl (x_callL (xs := [.tmp 8, .tmp 9]) (vs := [Value.agg #[Value.slice A l.length c], Value.int .i64 number]) (cap := []) ent_53 rfl ⟨(ev_tmp rfl rfl), (ev_tmp rfl rfl), trivial⟩) (there_r _ _ l number _ (M11.slw (i := 0) rfl)) ?_
  rintro _ w14 ⟨rfl, hb16⟩
  refine ⟨_, rfl, ?_⟩
  have M15 := M11.call hb16
  refine st rfl (x_assign (v := Value.int .i64 (thereE l number)) (ev_tmp rfl rfl)) ?_
  refine s_nil ?_
  refine hK13 _ _ ?_
  refine c_seq fun K17 hK18 => ?_
  refine c_seq fun K19 hK20 => ?_
  refine c_reg ?_
  refine st rfl (x_move (v := Value.int .i64 (thereE l number)) (ev_tmp rfl rfl)) ?_
  refine st rfl (x_eql (p := (thereE l number)) (q := 0) (ev_tmp rfl rfl) rfl) ?_
  refine st rfl (x_move (v := Value.bool (decide (thereE l number = 0))) (ev_tmp rfl rfl)) ?_
  have hg24 : (decide (thereE l number = 0)) = false := (decide_eq_false ht)
  refine gf (b' := false) rfl rfl rfl (congrArg Value.bool hg24) rfl ?_
  refine gf (b' := false) rfl rfl rfl (congrArg Value.bool hg24) rfl ?_
  refine gf (b' := false) rfl rfl rfl (congrArg Value.bool hg24) rfl ?_
  refine gf (b' := false) rfl rfl rfl (congrArg Value.bool hg24) rfl ?_
  refine gf (b' := false) rfl rfl rfl (congrArg Value.bool hg24) rfl ?_
  refine gf (b' := false) rfl rfl rfl (congrArg Value.bool hg24) rfl ?_
  refine gf (b' := false) rfl rfl rfl (congrArg Value.bool hg24) rfl ?_
  refine gf (b' := false) rfl rfl rfl (congrArg Value.bool hg24) rfl ?_
  refine st rfl (x_pick_f (v := Value.bool false) (ev_tmp rfl (congrArg Value.bool hg24)) rfl) ?_
  refine s_nil ?_
  refine hK20 _ _ ?_
  refine c_cond_f (ev_tmp rfl rfl) ?_
  refine c_skip ?_
  refine hK18 _ _ ?_
  refine c_seq fun K26 hK27 => ?_
  refine c_seq fun K28 hK29 => ?_
  refine c_reg ?_
  refine st rfl (x_move (v := Value.int .i64 (thereE l number)) (ev_tmp rfl rfl)) ?_
  refine st rfl (x_neq (p := (thereE l number)) (q := 0) (ev_tmp rfl rfl) rfl) ?_
  refine s_nil ?_
  refine hK29 _ _ ?_
  have h30 : (!(decide (thereE l number = 0))) = true := (by rw [(decide_eq_false ht)]; rfl)
  refine c_cond_t (ev_tmp rfl (congrArg Value.bool h30)) ?_
  refine c_seq fun K31 hK32 => ?_
  refine c_reg ?_
  refine st rfl (x_buildL (ps := []) (vs := []) (cs := #[Value.slice none 0 0]) trivial (by kernel_rfl)) ?_
  refine st rfl (x_move (v := Value.int .i64 (thereE l number)) (ev_tmp rfl rfl)) ?_
  refine sset (i := 0) (L' := [Own.cells b9 24 #[Value.slice none 0 0], Own.cells b6 24 #[Value.slice A l.length c]]) M15 rfl rfl (x_storew (cs := [Value.slice none 0 0]) sz_24 (ev_tmp rfl rfl) (ev_tmp rfl rfl) (M15.cells_at (i := 0) rfl) rfl ⟨rfl, trivial⟩) fun w33 M34 => ?_
  refine st rfl (x_assign (v := Value.int .i64 (thereE l number)) (ev_tmp rfl rfl)) ?_
  refine s_nil ?_
  refine hK32 _ _ ?_
  refine c_ret ?_
  refine hT3 _ _ ?_
  refine rm2 rfl (rL (cs := [Value.slice none 0 0]) (ev_tmp rfl rfl) Try.underlying24 rfl sz_24 (M34.range (i := 0) rfl ⟨rfl, trivial⟩)) (rT (ev_tmp (v := Value.int .i64 (thereE l number)) rfl rfl)) ?_
  rw [undoErr ht]
  exact ⟨none, 0, rfl, M34.below, SlB.nil _ _ _ _ _⟩

set_option maxHeartbeats 1000000 in
set_option maxRecDepth 20000 in
theorem undo_r1 (A : Option Addr) (c : Nat) (l : List Trade) (number : Int) (w : World) (hs : SlB 0 w.heap.size w A c 8 Trade.cells l) (ht : thereE l number = 0) :
    Calls Try.prog 43 #[Value.agg #[Value.slice A l.length c], Value.int .i64 number] w fun e w' => ∃ A' c', e = .returned (.tuple #[.agg #[.slice A' (chg undoF l number |>.1).length c'], .int .i64 (chg undoF l number |>.2)]) ∧ Below w.heap.size w w' ∧ SlB w.heap.size w'.heap.size w' A' c' 8 Trade.cells (chg undoF l number |>.1) := by
  have hcm : l.length ≤ 9223372036854775807 := by have := hs.1; have := hs.2.1; simp only [maxLen] at this; omega
  obtain ⟨hr0, hr1, hr2, hr3, x, hx⟩ := there_in ht
  have M0 := Mem.start w []
  have M1 := M0.see (Ro.sl 0 w.heap.size A c 8 Trade.cells l) (hs) (Nat.le_refl _)
  refine enter (args := [Value.agg #[Value.slice A l.length c], Value.int .i64 number]) Try.func43 rfl (n := 36) rfl rfl fun T2 hT3 => ?_
  refine c_seq fun K4 hK5 => ?_
  refine c_reg ?_
  refine snew (cs := #[Value.slice A l.length c]) M1 rfl (x_box (v := Value.agg #[Value.slice A l.length c]) (ev_tmp rfl rfl)) fun b6 w7 M8 => ?_
  refine snew (cs := #[Value.slice none 0 0]) M8 rfl (x_allocz z_24) fun b9 w10 M11 => ?_
  refine st rfl (x_assign (v := Value.int .i64 0) rfl) ?_
  refine s_nil ?_
  refine hK5 _ _ ?_
  refine c_seq fun K12 hK13 => ?_
  refine c_reg ?_
  refine st rfl (x_loadw (cs := [Value.slice A l.length c]) Try.underlying24 rfl sz_24 (ev_tmp rfl rfl) (M11.range (i := 1) rfl ⟨rfl, trivial⟩)) ?_
  refine st rfl (x_move (v := Value.int .i64 number) (ev_tmp rfl rfl)) ?_
  refine sC rfl (x_callL (xs := [.tmp 8, .tmp 9]) (vs := [Value.agg #[Value.slice A l.length c], Value.int .i64 number]) (cap := []) ent_53 rfl ⟨(ev_tmp rfl rfl), (ev_tmp rfl rfl), trivial⟩) (there_r _ _ l number _ (M11.slw (i := 0) rfl)) ?_
  rintro _ w14 ⟨rfl, hb16⟩
  refine ⟨_, rfl, ?_⟩
  have M15 := M11.call hb16
  refine st rfl (x_assign (v := Value.int .i64 (thereE l number)) (ev_tmp rfl rfl)) ?_
  refine s_nil ?_
  refine hK13 _ _ ?_
  refine c_seq fun K17 hK18 => ?_
  refine c_seq fun K19 hK20 => ?_
  refine c_reg ?_
  refine st rfl (x_move (v := Value.int .i64 (thereE l number)) (ev_tmp rfl rfl)) ?_
  refine st rfl (x_eql (p := (thereE l number)) (q := 0) (ev_tmp rfl rfl) rfl) ?_
  refine st rfl (x_move (v := Value.bool (decide (thereE l number = 0))) (ev_tmp rfl rfl)) ?_
  have hg24 : (decide (thereE l number = 0)) = true := (decide_eq_true ht)
  refine gt rfl rfl rfl (congrArg Value.bool hg24) (x_fieldv (b := b6) (o := 0) (q := 0) fa_24_0 (ev_tmp rfl rfl) rfl) ?_
  refine gt rfl rfl rfl (congrArg Value.bool hg24) (x_load1 (v := Value.slice A l.length c) Try.underlying22 rfl (ev_tmp rfl rfl) (M15.cell (i := 1) (o := 0) rfl rfl)) ?_
  refine gt rfl rfl rfl (congrArg Value.bool hg24) (x_move (v := Value.int .i64 number) (ev_tmp rfl rfl)) ?_
  have hw25 : IntKind.i64.wrap (number - 1) = number - 1 := w64 (by rfl) (by omega) (by omega)
  refine gt rfl rfl rfl (congrArg Value.bool hg24) (x_sub_eq (p := number) (q := 1) (ev_tmp rfl rfl) rfl hw25) ?_
  obtain ⟨g26, o27, hA28⟩ := M15.roat (i := 0) rfl hx
  refine gt rfl rfl rfl (congrArg Value.bool hg24) (x_elemA (b := g26) (o := o27) (k := ((number - 1).toNat)) ea_22 (ev_tmp rfl rfl) hA28 (ev_tmp rfl rfl) (by omega) (by omega)) ?_
  refine gt rfl rfl rfl (congrArg Value.bool hg24) (x_fieldv (b := g26) (o := (o27 + (number - 1).toNat * 8)) (q := (o27 + (number - 1).toNat * 8 + 7)) fa_34_7 (ev_tmp rfl rfl) rfl) ?_
  refine gt rfl rfl rfl (congrArg Value.bool hg24) (x_load1 (v := Value.int .u8 x.st) Try.underlying5 rfl (ev_tmp rfl rfl) (M15.rocell (i := 0) rfl hA28 hx (j := 7) rfl)) ?_
  refine gt rfl rfl rfl (congrArg Value.bool hg24) (x_neq (p := x.st) (q := 1) (ev_tmp rfl rfl) rfl) ?_
  refine st rfl (x_pick_t (v := Value.bool (!(decide (x.st = 1)))) (ev_tmp rfl (congrArg Value.bool hg24)) (ev_tmp rfl rfl)) ?_
  refine s_nil ?_
  refine hK20 _ _ ?_
  refine c_cond (b := !(decide (x.st = 1))) (ev_tmp rfl rfl) (fun h31 => ?_) (fun h31 => ?_)
  · have h32 : ¬ (x.st = 1) := of_decide_eq_false (not_t h31)
    refine c_reg ?_
    refine st rfl (x_assign (v := Value.int .i64 20) rfl) ?_
    refine s_nil ?_
    refine hK18 _ _ ?_
    refine c_seq fun K33 hK34 => ?_
    refine c_seq fun K35 hK36 => ?_
    refine c_reg ?_
    refine st rfl (x_move (v := Value.int .i64 20) (ev_tmp rfl rfl)) ?_
    refine st rfl (x_neq (p := 20) (q := 0) (ev_tmp rfl rfl) rfl) ?_
    refine s_nil ?_
    refine hK36 _ _ ?_
    refine c_cond_t (ev_tmp rfl rfl) ?_
    refine c_seq fun K38 hK39 => ?_
    refine c_reg ?_
    refine st rfl (x_buildL (ps := []) (vs := []) (cs := #[Value.slice none 0 0]) trivial (by kernel_rfl)) ?_
    refine st rfl (x_move (v := Value.int .i64 20) (ev_tmp rfl rfl)) ?_
    refine sset (i := 0) (L' := [Own.cells b9 24 #[Value.slice none 0 0], Own.cells b6 24 #[Value.slice A l.length c]]) M15 rfl rfl (x_storew (cs := [Value.slice none 0 0]) sz_24 (ev_tmp rfl rfl) (ev_tmp rfl rfl) (M15.cells_at (i := 0) rfl) rfl ⟨rfl, trivial⟩) fun w40 M41 => ?_
    refine st rfl (x_assign (v := Value.int .i64 20) (ev_tmp rfl rfl)) ?_
    refine s_nil ?_
    refine hK39 _ _ ?_
    refine c_ret ?_
    refine hT3 _ _ ?_
    refine rm2 rfl (rL (cs := [Value.slice none 0 0]) (ev_tmp rfl rfl) Try.underlying24 rfl sz_24 (M41.range (i := 0) rfl ⟨rfl, trivial⟩)) (rT (ev_tmp (v := Value.int .i64 20) rfl rfl)) ?_
    rw [undoNo hr0 hr1 hr2 hx (of_decide_eq_false (not_t h31))]
    exact ⟨none, 0, rfl, M41.below, SlB.nil _ _ _ _ _⟩
  · have h42 : x.st = 1 := of_decide_eq_true (not_f h31)
    refine c_skip ?_
    refine hK18 _ _ ?_
    refine c_seq fun K43 hK44 => ?_
    refine c_seq fun K45 hK46 => ?_
    refine c_reg ?_
    refine st rfl (x_move (v := Value.int .i64 (thereE l number)) (ev_tmp rfl rfl)) ?_
    refine st rfl (x_neq (p := (thereE l number)) (q := 0) (ev_tmp rfl rfl) rfl) ?_
    refine s_nil ?_
    refine hK46 _ _ ?_
    have h47 : (!(decide (thereE l number = 0))) = false := (by rw [(decide_eq_true ht)]; rfl)
    refine c_cond_f (ev_tmp rfl (congrArg Value.bool h47)) ?_
    refine c_skip ?_
    refine hK44 _ _ ?_
    refine c_seq fun K48 hK49 => ?_
    refine c_reg ?_
    refine st rfl (x_loadw (cs := [Value.slice A l.length c]) Try.underlying24 rfl sz_24 (ev_tmp rfl rfl) (M15.range (i := 1) rfl ⟨rfl, trivial⟩)) ?_
    refine sC rfl (x_callL (xs := [.tmp 27]) (vs := [Value.agg #[Value.slice A l.length c]]) (cap := []) ent_16 rfl ⟨(ev_tmp rfl rfl), trivial⟩) (twin_r _ _ l _ (M15.slw (i := 0) rfl) (by omega)) ?_
    rintro _ w52 ⟨A50, c51, rfl, hb53, hr54⟩
    refine ⟨_, rfl, ?_⟩
    have M55 := M15.gotRow hb53 hr54
    refine snew (cs := #[Value.slice none 0 0]) M55 rfl (x_allocz z_24) fun b57 w58 M59 => ?_
    refine sset (i := 0) (L' := [Own.cells b57 24 #[Value.slice A50 l.length c51], Own.row 34 8 (Value.slice A50 l.length c51) l.length (l.flatMap Trade.cells), Own.cells b9 24 #[Value.slice none 0 0], Own.cells b6 24 #[Value.slice A l.length c]]) M59 rfl rfl (x_storew (cs := [Value.slice A50 l.length c51]) sz_24 (ev_tmp rfl rfl) (ev_tmp rfl rfl) (M59.cells_at (i := 0) rfl) rfl ⟨rfl, trivial⟩) fun w60 M61 => ?_
    refine s_nil ?_
    refine hK49 _ _ ?_
    refine c_seq fun K62 hK63 => ?_
    refine c_reg ?_
    refine st rfl (x_fieldv (b := b57) (o := 0) (q := 0) fa_24_0 (ev_tmp rfl rfl) rfl) ?_
    refine st rfl (x_load1 (v := Value.slice A50 l.length c51) Try.underlying22 rfl (ev_tmp rfl rfl) (M61.cell (i := 0) (o := 0) rfl rfl)) ?_
    refine st rfl (x_move (v := Value.int .i64 number) (ev_tmp rfl rfl)) ?_
    have hw64 : IntKind.i64.wrap (number - 1) = number - 1 := w64 (by rfl) (by omega) (by omega)
    refine st rfl (x_sub_eq (p := number) (q := 1) (ev_tmp rfl rfl) rfl hw64) ?_
    obtain ⟨g67, pre68, post69, hA70, M71, hback72⟩ := M61.openRow (i := 1) (k := ((number - 1).toNat)) rfl rfl Trade.len hx
    refine st rfl (x_elemA (b := g67) (o := 0) (k := ((number - 1).toNat)) ea_22 (ev_tmp rfl rfl) hA70 (ev_tmp rfl rfl) (by omega) (by omega)) ?_
    refine st rfl (x_fieldv (b := g67) (o := (0 + ((number - 1).toNat) * 8)) (q := (0 + ((number - 1).toNat) * 8 + 7)) fa_34_7 (ev_tmp rfl rfl) rfl) ?_
    refine sseg (k := 1) (j := 7) (v := Value.int .u8 3) M71 rfl rfl (x_store1 (v := Value.int .u8 3) sz_5 rfl rfl (ev_tmp rfl rfl) rfl (M71.segcell (i := 1) rfl (j := 7) rfl) (M71.segfree (i := 1) rfl)) fun w73 M74 => ?_
    refine s_nil ?_
    refine hK63 _ _ ?_
    refine c_seq fun K75 hK76 => ?_
    refine c_reg ?_
    refine st rfl (x_loadw (cs := [Value.slice A50 l.length c51]) Try.underlying24 rfl sz_24 (ev_tmp rfl rfl) (M74.range (i := 0) rfl ⟨rfl, trivial⟩)) ?_
    refine sset (i := 2) (L' := [Own.cells b57 24 #[Value.slice A50 l.length c51], Own.seg g67 34 (0 + ((number - 1).toNat) * 8) pre68 #[Value.string x.b, Value.string x.s, Value.string x.p, Value.int .i64 x.q, Value.int .i64 x.r, Value.bool x.bo, Value.bool x.so, Value.int .u8 3] post69, Own.cells b9 24 #[Value.slice A50 l.length c51], Own.cells b6 24 #[Value.slice A l.length c]]) M74 rfl rfl (x_storew (cs := [Value.slice A50 l.length c51]) sz_24 (ev_tmp rfl rfl) (ev_tmp rfl rfl) (M74.cells_at (i := 2) rfl) rfl ⟨rfl, trivial⟩) fun w77 M78 => ?_
    refine st rfl (x_assign (v := Value.int .i64 0) rfl) ?_
    refine s_nil ?_
    refine hK76 _ _ ?_
    refine c_ret ?_
    refine hT3 _ _ ?_
    refine rm2 rfl (rL (cs := [Value.slice A50 l.length c51]) (ev_tmp rfl rfl) Try.underlying24 rfl sz_24 (M78.range (i := 2) rfl ⟨rfl, trivial⟩)) (rT (ev_tmp (v := Value.int .i64 0) rfl rfl)) ?_
    have M79 := M78.closeRow (i := 1) rfl hA70 (hback72 ({ x with st := 3 }) w77)
    rw [undoYes hr0 hr1 hr2 hx (of_decide_eq_true (not_f h31))]
    refine ⟨_, _, ?_, M79.below, SlB.of_row (M79.rownew (i := 1) rfl) (by rw [List.length_set]) Trade.len⟩
    rw [List.length_set]

set_option maxHeartbeats 1000000 in
set_option maxRecDepth 20000 in
theorem confirm_r (A : Option Addr) (c : Nat) (l : List Trade) (number : Int) (y : ByteArray) (w : World) (hs : SlB 0 w.heap.size w A c 8 Trade.cells l) :
    Calls Try.prog 44 #[Value.agg #[Value.slice A l.length c], Value.int .i64 number, Value.string y] w fun e w' => ∃ A' c', e = .returned (.tuple #[.agg #[.slice A' (chg (confF y) l number |>.1).length c'], .int .i64 (chg (confF y) l number |>.2)]) ∧ Below w.heap.size w w' ∧ SlB w.heap.size w'.heap.size w' A' c' 8 Trade.cells (chg (confF y) l number |>.1) := by
  have hcm : l.length ≤ 9223372036854775807 := by have := hs.1; have := hs.2.1; simp only [maxLen] at this; omega
  have M0 := Mem.start w []
  have M1 := M0.see (Ro.sl 0 w.heap.size A c 8 Trade.cells l) (hs) (Nat.le_refl _)
  refine enter (args := [Value.agg #[Value.slice A l.length c], Value.int .i64 number, Value.string y]) Try.func44 rfl (n := 66) rfl rfl fun T2 hT3 => ?_
  refine c_seq fun K4 hK5 => ?_
  refine c_reg ?_
  refine snew (cs := #[Value.slice A l.length c]) M1 rfl (x_box (v := Value.agg #[Value.slice A l.length c]) (ev_tmp rfl rfl)) fun b6 w7 M8 => ?_
  refine snew (cs := #[Value.slice none 0 0]) M8 rfl (x_allocz z_24) fun b9 w10 M11 => ?_
  refine st rfl (x_assign (v := Value.int .i64 0) rfl) ?_
  refine s_nil ?_
  refine hK5 _ _ ?_
  refine c_seq fun K12 hK13 => ?_
  refine c_reg ?_
  refine st rfl (x_loadw (cs := [Value.slice A l.length c]) Try.underlying24 rfl sz_24 (ev_tmp rfl rfl) (M11.range (i := 1) rfl ⟨rfl, trivial⟩)) ?_
  refine st rfl (x_move (v := Value.int .i64 number) (ev_tmp rfl rfl)) ?_
  refine st rfl (x_move (v := Value.string y) (ev_tmp rfl rfl)) ?_
  refine sC rfl (x_callL (xs := [.tmp 11, .tmp 12, .tmp 13]) (vs := [Value.agg #[Value.slice A l.length c], Value.int .i64 number, Value.string y]) (cap := []) ent_52 rfl ⟨(ev_tmp rfl rfl), (ev_tmp rfl rfl), (ev_tmp rfl rfl), trivial⟩) (side_r _ _ l number y _ (M11.slw (i := 0) rfl)) ?_
  rintro _ w14 ⟨rfl, hb16⟩
  refine ⟨_, rfl, ?_⟩
  have M15 := M11.call hb16
  refine st rfl (x_assign (v := Value.int .i64 (sideE l y number)) (ev_tmp rfl rfl)) ?_
  refine s_nil ?_
  refine hK13 _ _ ?_
  refine c_seq fun K17 hK18 => ?_
  refine c_seq fun K19 hK20 => ?_
  refine c_reg ?_
  refine st rfl (x_move (v := Value.int .i64 (sideE l y number)) (ev_tmp rfl rfl)) ?_
  refine st rfl (x_neq (p := (sideE l y number)) (q := 0) (ev_tmp rfl rfl) rfl) ?_
  refine s_nil ?_
  refine hK20 _ _ ?_
  refine c_cond (b := !(decide (sideE l y number = 0))) (ev_tmp rfl rfl) (fun h21 => ?_) (fun h21 => ?_)
  · have h22 : ¬ (sideE l y number = 0) := of_decide_eq_false (not_t h21)
    refine c_seq fun K23 hK24 => ?_
    refine c_reg ?_
    refine st rfl (x_buildL (ps := []) (vs := []) (cs := #[Value.slice none 0 0]) trivial (by kernel_rfl)) ?_
    refine st rfl (x_move (v := Value.int .i64 (sideE l y number)) (ev_tmp rfl rfl)) ?_
    refine sset (i := 0) (L' := [Own.cells b9 24 #[Value.slice none 0 0], Own.cells b6 24 #[Value.slice A l.length c]]) M15 rfl rfl (x_storew (cs := [Value.slice none 0 0]) sz_24 (ev_tmp rfl rfl) (ev_tmp rfl rfl) (M15.cells_at (i := 0) rfl) rfl ⟨rfl, trivial⟩) fun w25 M26 => ?_
    refine st rfl (x_assign (v := Value.int .i64 (sideE l y number)) (ev_tmp rfl rfl)) ?_
    refine s_nil ?_
    refine hK24 _ _ ?_
    refine c_ret ?_
    refine hT3 _ _ ?_
    refine rm2 rfl (rL (cs := [Value.slice none 0 0]) (ev_tmp rfl rfl) Try.underlying24 rfl sz_24 (M26.range (i := 0) rfl ⟨rfl, trivial⟩)) (rT (ev_tmp (v := Value.int .i64 (sideE l y number)) rfl rfl)) ?_
    rw [confErr (of_decide_eq_false (not_t h21))]
    exact ⟨none, 0, rfl, M26.below, SlB.nil _ _ _ _ _⟩
  · have h27 : sideE l y number = 0 := of_decide_eq_true (not_f h21)
    obtain ⟨hr0, hr1, hr2, hr3, x, hx, ha⟩ := side_in (of_decide_eq_true (not_f h21))
    refine c_skip ?_
    refine hK18 _ _ ?_
    refine c_seq fun K28 hK29 => ?_
    refine c_reg ?_
    refine st rfl (x_loadw (cs := [Value.slice A l.length c]) Try.underlying24 rfl sz_24 (ev_tmp rfl rfl) (M15.range (i := 1) rfl ⟨rfl, trivial⟩)) ?_
    refine sC rfl (x_callL (xs := [.tmp 19]) (vs := [Value.agg #[Value.slice A l.length c]]) (cap := []) ent_16 rfl ⟨(ev_tmp rfl rfl), trivial⟩) (twin_r _ _ l _ (M15.slw (i := 0) rfl) (by omega)) ?_
    rintro _ w32 ⟨A30, c31, rfl, hb33, hr34⟩
    refine ⟨_, rfl, ?_⟩
    have M35 := M15.gotRow hb33 hr34
    refine snew (cs := #[Value.slice none 0 0]) M35 rfl (x_allocz z_24) fun b37 w38 M39 => ?_
    refine sset (i := 0) (L' := [Own.cells b37 24 #[Value.slice A30 l.length c31], Own.row 34 8 (Value.slice A30 l.length c31) l.length (l.flatMap Trade.cells), Own.cells b9 24 #[Value.slice none 0 0], Own.cells b6 24 #[Value.slice A l.length c]]) M39 rfl rfl (x_storew (cs := [Value.slice A30 l.length c31]) sz_24 (ev_tmp rfl rfl) (ev_tmp rfl rfl) (M39.cells_at (i := 0) rfl) rfl ⟨rfl, trivial⟩) fun w40 M41 => ?_
    refine s_nil ?_
    refine hK29 _ _ ?_
    refine c_seq fun K42 hK43 => ?_
    refine c_reg ?_
    refine st rfl (x_fieldv (b := b37) (o := 0) (q := 0) fa_24_0 (ev_tmp rfl rfl) rfl) ?_
    refine st rfl (x_load1 (v := Value.slice A30 l.length c31) Try.underlying22 rfl (ev_tmp rfl rfl) (M41.cell (i := 0) (o := 0) rfl rfl)) ?_
    refine st rfl (x_move (v := Value.int .i64 number) (ev_tmp rfl rfl)) ?_
    have hw44 : IntKind.i64.wrap (number - 1) = number - 1 := w64 (by rfl) (by omega) (by omega)
    refine st rfl (x_sub_eq (p := number) (q := 1) (ev_tmp rfl rfl) rfl hw44) ?_
    obtain ⟨g47, pre48, post49, hA50, M51, hback52⟩ := M41.openRow (i := 1) (k := ((number - 1).toNat)) rfl rfl Trade.len hx
    refine st rfl (x_elemA (b := g47) (o := 0) (k := ((number - 1).toNat)) ea_22 (ev_tmp rfl rfl) hA50 (ev_tmp rfl rfl) (by omega) (by omega)) ?_
    refine st rfl (x_loadw (cs := [Value.string x.b, Value.string x.s, Value.string x.p, Value.int .i64 x.q, Value.int .i64 x.r, Value.bool x.bo, Value.bool x.so, Value.int .u8 x.st]) Try.underlying34 rfl sz_34 (ev_tmp rfl rfl) (M51.segpt (i := 1) rfl).2) ?_
    refine snew (cs := #[Value.string ByteArray.empty, Value.string ByteArray.empty, Value.string ByteArray.empty, Value.int .i64 0, Value.int .i64 0, Value.bool false, Value.bool false, Value.int .u8 0]) M51 rfl (x_allocz z_34) fun b53 w54 M55 => ?_
    refine sset (i := 0) (L' := [Own.cells b53 34 #[Value.string x.b, Value.string x.s, Value.string x.p, Value.int .i64 x.q, Value.int .i64 x.r, Value.bool x.bo, Value.bool x.so, Value.int .u8 x.st], Own.cells b37 24 #[Value.slice A30 l.length c31], Own.seg g47 34 (0 + ((number - 1).toNat) * 8) pre48 #[Value.string x.b, Value.string x.s, Value.string x.p, Value.int .i64 x.q, Value.int .i64 x.r, Value.bool x.bo, Value.bool x.so, Value.int .u8 x.st] post49, Own.cells b9 24 #[Value.slice none 0 0], Own.cells b6 24 #[Value.slice A l.length c]]) M55 rfl rfl (x_storew (cs := [Value.string x.b, Value.string x.s, Value.string x.p, Value.int .i64 x.q, Value.int .i64 x.r, Value.bool x.bo, Value.bool x.so, Value.int .u8 x.st]) sz_34 (ev_tmp rfl rfl) (ev_tmp rfl rfl) (M55.cells_at (i := 0) rfl) rfl ⟨rfl, rfl, rfl, rfl, rfl, rfl, rfl, rfl, trivial⟩) fun w56 M57 => ?_
    refine s_nil ?_
    refine hK43 _ _ ?_
    refine c_seq fun K58 hK59 => ?_
    refine c_seq fun K60 hK61 => ?_
    refine c_reg ?_
    refine st rfl (x_move (v := Value.string y) (ev_tmp rfl rfl)) ?_
    refine st rfl (x_fieldv (b := b53) (o := 0) (q := 0) fa_34_0 (ev_tmp rfl rfl) rfl) ?_
    refine st rfl (x_load1 (v := Value.string x.b) Try.underlying9 rfl (ev_tmp rfl rfl) (M57.cell (i := 0) (o := 0) rfl rfl)) ?_
    refine st rfl (x_eqs (p := y) (q := x.b) (ev_tmp rfl rfl) (ev_tmp rfl rfl)) ?_
    refine st rfl (x_move (v := Value.bool (decide (y.data.toList = x.b.data.toList))) (ev_tmp rfl rfl)) ?_
    refine s_meet3 fun K62 hK63 => ?_
    have J64 : ∀ jk, K62 (fr 66 ([(34, Value.bool ((decide (y.data.toList = x.b.data.toList)) && x.bo)), (1, Value.int .i64 number), (2, Value.string y), (6, Value.pointer (some ⟨b9, 0, none⟩)), (7, Value.int .i64 0), (9, Value.pointer (some ⟨b37, 0, none⟩)), (10, Value.pointer (some ⟨b53, 0, none⟩)), (31, Value.bool (decide (y.data.toList = x.b.data.toList)))] ++ jk)) w56 := by
      intro jk
      refine hK63 _ _ ?_
      clear hK63
      refine st rfl (x_move (v := Value.bool ((decide (y.data.toList = x.b.data.toList)) && x.bo)) (ev_tmp rfl rfl)) ?_
      refine s_meet9 fun K67 hK68 => ?_
      have J69 : ∀ jk, K67 (fr 66 ([(44, Value.bool (((decide (y.data.toList = x.b.data.toList)) && x.bo) || ((decide (y.data.toList = x.s.data.toList)) && x.so))), (1, Value.int .i64 number), (2, Value.string y), (6, Value.pointer (some ⟨b9, 0, none⟩)), (7, Value.int .i64 0), (9, Value.pointer (some ⟨b37, 0, none⟩)), (10, Value.pointer (some ⟨b53, 0, none⟩)), (35, Value.bool ((decide (y.data.toList = x.b.data.toList)) && x.bo))] ++ jk)) w56 := by
        intro jk
        refine hK68 _ _ ?_
        clear hK68
        refine s_nil ?_
        refine hK61 _ _ ?_
        refine c_cond (b := ((decide (y.data.toList = x.b.data.toList)) && x.bo) || ((decide (y.data.toList = x.s.data.toList)) && x.so)) (ev_tmp rfl rfl) (fun h77 => ?_) (fun h77 => ?_)
        · have h78 : (((decide (y.data.toList = x.b.data.toList)) && x.bo) || ((decide (y.data.toList = x.s.data.toList)) && x.so)) = true := h77
          refine c_seq fun K79 hK80 => ?_
          refine c_reg ?_
          refine st rfl (x_buildL (ps := []) (vs := []) (cs := #[Value.slice none 0 0]) trivial (by kernel_rfl)) ?_
          refine sset (i := 3) (L' := [Own.cells b53 34 #[Value.string x.b, Value.string x.s, Value.string x.p, Value.int .i64 x.q, Value.int .i64 x.r, Value.bool x.bo, Value.bool x.so, Value.int .u8 x.st], Own.cells b37 24 #[Value.slice A30 l.length c31], Own.seg g47 34 (0 + ((number - 1).toNat) * 8) pre48 #[Value.string x.b, Value.string x.s, Value.string x.p, Value.int .i64 x.q, Value.int .i64 x.r, Value.bool x.bo, Value.bool x.so, Value.int .u8 x.st] post49, Own.cells b9 24 #[Value.slice none 0 0], Own.cells b6 24 #[Value.slice A l.length c]]) M57 rfl rfl (x_storew (cs := [Value.slice none 0 0]) sz_24 (ev_tmp rfl rfl) (ev_tmp rfl rfl) (M57.cells_at (i := 3) rfl) rfl ⟨rfl, trivial⟩) fun w81 M82 => ?_
          refine st rfl (x_assign (v := Value.int .i64 24) rfl) ?_
          refine s_nil ?_
          refine hK80 _ _ ?_
          refine c_ret ?_
          refine hT3 _ _ ?_
          refine rm2 rfl (rL (cs := [Value.slice none 0 0]) (ev_tmp rfl rfl) Try.underlying24 rfl sz_24 (M82.range (i := 3) rfl ⟨rfl, trivial⟩)) (rT (ev_tmp (v := Value.int .i64 24) rfl rfl)) ?_
          have M83 := M82.closeRow (i := 2) rfl hA50 (hback52 x w81)
          rw [confNo hr0 hr1 hr2 hx ha h77]
          exact ⟨none, 0, rfl, M83.below, SlB.nil _ _ _ _ _⟩
        · have h84 : ((decide (y.data.toList = x.b.data.toList)) && x.bo) = false := or_l h77
          have h85 : ((decide (y.data.toList = x.s.data.toList)) && x.so) = false := or_r h77
          refine c_skip ?_
          refine hK59 _ _ ?_
          refine c_seq fun K86 hK87 => ?_
          refine c_seq fun K88 hK89 => ?_
          refine c_reg ?_
          refine st rfl (x_move (v := Value.string y) (ev_tmp rfl rfl)) ?_
          refine st rfl (x_fieldv (b := b53) (o := 0) (q := 0) fa_34_0 (ev_tmp rfl rfl) rfl) ?_
          refine st rfl (x_load1 (v := Value.string x.b) Try.underlying9 rfl (ev_tmp rfl rfl) (M57.cell (i := 0) (o := 0) rfl rfl)) ?_
          refine st rfl (x_eqs (p := y) (q := x.b) (ev_tmp rfl rfl) (ev_tmp rfl rfl)) ?_
          refine s_nil ?_
          refine hK89 _ _ ?_
          refine c_cond (b := decide (y.data.toList = x.b.data.toList)) (ev_tmp rfl rfl) (fun h90 => ?_) (fun h90 => ?_)
          · have h91 : y.data.toList = x.b.data.toList := of_decide_eq_true h90
            refine c_reg ?_
            refine st rfl (x_fieldv (b := b53) (o := 0) (q := 5) fa_34_5 (ev_tmp rfl rfl) rfl) ?_
            refine sset1 (o := 5) (v := Value.bool true) (i := 0) (L' := [Own.cells b53 34 #[Value.string x.b, Value.string x.s, Value.string x.p, Value.int .i64 x.q, Value.int .i64 x.r, Value.bool true, Value.bool x.so, Value.int .u8 x.st], Own.cells b37 24 #[Value.slice A30 l.length c31], Own.seg g47 34 (0 + ((number - 1).toNat) * 8) pre48 #[Value.string x.b, Value.string x.s, Value.string x.p, Value.int .i64 x.q, Value.int .i64 x.r, Value.bool x.bo, Value.bool x.so, Value.int .u8 x.st] post49, Own.cells b9 24 #[Value.slice none 0 0], Own.cells b6 24 #[Value.slice A l.length c]]) M57 rfl rfl (x_store1 (v := Value.bool true) sz_4 rfl rfl (ev_tmp rfl rfl) rfl (M57.cell (i := 0) (o := 5) rfl rfl) (M57.free (i := 0) rfl)) fun w92 M93 => ?_
            refine s_nil ?_
            refine hK87 _ _ ?_
            refine c_seq fun K94 hK95 => ?_
            refine c_seq fun K96 hK97 => ?_
            refine c_reg ?_
            refine st rfl (x_fieldv (b := b53) (o := 0) (q := 5) fa_34_5 (ev_tmp rfl rfl) rfl) ?_
            refine st rfl (x_load1 (v := Value.bool true) Try.underlying4 rfl (ev_tmp rfl rfl) (M93.cell (i := 0) (o := 5) rfl rfl)) ?_
            refine st rfl (x_move (v := Value.bool true) (ev_tmp rfl rfl)) ?_
            refine gt rfl rfl rfl rfl (x_fieldv (b := b53) (o := 0) (q := 6) fa_34_6 (ev_tmp rfl rfl) rfl) ?_
            refine gt rfl rfl rfl rfl (x_load1 (v := Value.bool x.so) Try.underlying4 rfl (ev_tmp rfl rfl) (M93.cell (i := 0) (o := 6) rfl rfl)) ?_
            refine st rfl (x_pick_t (v := Value.bool x.so) (ev_tmp rfl rfl) (ev_tmp rfl rfl)) ?_
            refine s_nil ?_
            refine hK97 _ _ ?_
            refine c_cond (b := x.so) (ev_tmp rfl rfl) (fun h102 => ?_) (fun h102 => ?_)
            · have h103 : x.so = true := h102
              refine c_reg ?_
              refine st rfl (x_fieldv (b := b53) (o := 0) (q := 7) fa_34_7 (ev_tmp rfl rfl) rfl) ?_
              refine sset1 (o := 7) (v := Value.int .u8 1) (i := 0) (L' := [Own.cells b53 34 #[Value.string x.b, Value.string x.s, Value.string x.p, Value.int .i64 x.q, Value.int .i64 x.r, Value.bool true, Value.bool x.so, Value.int .u8 1], Own.cells b37 24 #[Value.slice A30 l.length c31], Own.seg g47 34 (0 + ((number - 1).toNat) * 8) pre48 #[Value.string x.b, Value.string x.s, Value.string x.p, Value.int .i64 x.q, Value.int .i64 x.r, Value.bool x.bo, Value.bool x.so, Value.int .u8 x.st] post49, Own.cells b9 24 #[Value.slice none 0 0], Own.cells b6 24 #[Value.slice A l.length c]]) M93 rfl rfl (x_store1 (v := Value.int .u8 1) sz_5 rfl rfl (ev_tmp rfl rfl) rfl (M93.cell (i := 0) (o := 7) rfl rfl) (M93.free (i := 0) rfl)) fun w104 M105 => ?_
              refine s_nil ?_
              refine hK95 _ _ ?_
              refine c_seq fun K106 hK107 => ?_
              refine c_reg ?_
              refine st rfl (x_fieldv (b := b37) (o := 0) (q := 0) fa_24_0 (ev_tmp rfl rfl) rfl) ?_
              refine st rfl (x_load1 (v := Value.slice A30 l.length c31) Try.underlying22 rfl (ev_tmp rfl rfl) (M105.cell (i := 1) (o := 0) rfl rfl)) ?_
              refine st rfl (x_move (v := Value.int .i64 number) (ev_tmp rfl rfl)) ?_
              have hw108 : IntKind.i64.wrap (number - 1) = number - 1 := w64 (by rfl) (by omega) (by omega)
              refine st rfl (x_sub_eq (p := number) (q := 1) (ev_tmp rfl rfl) rfl hw108) ?_
              refine st rfl (x_loadw (cs := [Value.string x.b, Value.string x.s, Value.string x.p, Value.int .i64 x.q, Value.int .i64 x.r, Value.bool true, Value.bool x.so, Value.int .u8 1]) Try.underlying34 rfl sz_34 (ev_tmp rfl rfl) (M105.range (i := 0) rfl ⟨rfl, rfl, rfl, rfl, rfl, rfl, rfl, rfl, trivial⟩)) ?_
              refine st rfl (x_elemA (b := g47) (o := 0) (k := ((number - 1).toNat)) ea_22 (ev_tmp rfl rfl) hA50 (ev_tmp rfl rfl) (by omega) (by omega)) ?_
              refine ssegw (k := 2) (cs := [Value.string x.b, Value.string x.s, Value.string x.p, Value.int .i64 x.q, Value.int .i64 x.r, Value.bool true, Value.bool x.so, Value.int .u8 1]) M105 rfl sz_34 (ev_tmp rfl rfl) (ev_tmp rfl rfl) rfl ⟨rfl, rfl, rfl, rfl, rfl, rfl, rfl, rfl, trivial⟩ fun w109 M110 => ?_
              refine s_nil ?_
              refine hK107 _ _ ?_
              refine c_seq fun K111 hK112 => ?_
              refine c_reg ?_
              refine st rfl (x_loadw (cs := [Value.slice A30 l.length c31]) Try.underlying24 rfl sz_24 (ev_tmp rfl rfl) (M110.range (i := 1) rfl ⟨rfl, trivial⟩)) ?_
              refine sset (i := 3) (L' := [Own.cells b53 34 #[Value.string x.b, Value.string x.s, Value.string x.p, Value.int .i64 x.q, Value.int .i64 x.r, Value.bool true, Value.bool x.so, Value.int .u8 1], Own.cells b37 24 #[Value.slice A30 l.length c31], Own.seg g47 34 (0 + ((number - 1).toNat) * 8) pre48 #[Value.string x.b, Value.string x.s, Value.string x.p, Value.int .i64 x.q, Value.int .i64 x.r, Value.bool true, Value.bool x.so, Value.int .u8 1] post49, Own.cells b9 24 #[Value.slice A30 l.length c31], Own.cells b6 24 #[Value.slice A l.length c]]) M110 rfl rfl (x_storew (cs := [Value.slice A30 l.length c31]) sz_24 (ev_tmp rfl rfl) (ev_tmp rfl rfl) (M110.cells_at (i := 3) rfl) rfl ⟨rfl, trivial⟩) fun w113 M114 => ?_
              refine st rfl (x_assign (v := Value.int .i64 0) rfl) ?_
              refine s_nil ?_
              refine hK112 _ _ ?_
              refine c_ret ?_
              refine hT3 _ _ ?_
              refine rm2 rfl (rL (cs := [Value.slice A30 l.length c31]) (ev_tmp rfl rfl) Try.underlying24 rfl sz_24 (M114.range (i := 3) rfl ⟨rfl, trivial⟩)) (rT (ev_tmp (v := Value.int .i64 0) rfl rfl)) ?_
              have M115 := M114.closeRow (i := 2) rfl hA50 (hback52 ({ x with bo := true, st := 1 }) w113)
              rw [confA1 hr0 hr1 hr2 hx ha h77 h90 h102]
              refine ⟨_, _, ?_, M115.below, SlB.of_row (M115.rownew (i := 2) rfl) (by rw [List.length_set]) Trade.len⟩
              rw [List.length_set]
            · have h116 : x.so = false := h102
              refine c_skip ?_
              refine hK95 _ _ ?_
              refine c_seq fun K117 hK118 => ?_
              refine c_reg ?_
              refine st rfl (x_fieldv (b := b37) (o := 0) (q := 0) fa_24_0 (ev_tmp rfl rfl) rfl) ?_
              refine st rfl (x_load1 (v := Value.slice A30 l.length c31) Try.underlying22 rfl (ev_tmp rfl rfl) (M93.cell (i := 1) (o := 0) rfl rfl)) ?_
              refine st rfl (x_move (v := Value.int .i64 number) (ev_tmp rfl rfl)) ?_
              have hw119 : IntKind.i64.wrap (number - 1) = number - 1 := w64 (by rfl) (by omega) (by omega)
              refine st rfl (x_sub_eq (p := number) (q := 1) (ev_tmp rfl rfl) rfl hw119) ?_
              refine st rfl (x_loadw (cs := [Value.string x.b, Value.string x.s, Value.string x.p, Value.int .i64 x.q, Value.int .i64 x.r, Value.bool true, Value.bool x.so, Value.int .u8 x.st]) Try.underlying34 rfl sz_34 (ev_tmp rfl rfl) (M93.range (i := 0) rfl ⟨rfl, rfl, rfl, rfl, rfl, rfl, rfl, rfl, trivial⟩)) ?_
              refine st rfl (x_elemA (b := g47) (o := 0) (k := ((number - 1).toNat)) ea_22 (ev_tmp rfl rfl) hA50 (ev_tmp rfl rfl) (by omega) (by omega)) ?_
              refine ssegw (k := 2) (cs := [Value.string x.b, Value.string x.s, Value.string x.p, Value.int .i64 x.q, Value.int .i64 x.r, Value.bool true, Value.bool x.so, Value.int .u8 x.st]) M93 rfl sz_34 (ev_tmp rfl rfl) (ev_tmp rfl rfl) rfl ⟨rfl, rfl, rfl, rfl, rfl, rfl, rfl, rfl, trivial⟩ fun w120 M121 => ?_
              refine s_nil ?_
              refine hK118 _ _ ?_
              refine c_seq fun K122 hK123 => ?_
              refine c_reg ?_
              refine st rfl (x_loadw (cs := [Value.slice A30 l.length c31]) Try.underlying24 rfl sz_24 (ev_tmp rfl rfl) (M121.range (i := 1) rfl ⟨rfl, trivial⟩)) ?_
              refine sset (i := 3) (L' := [Own.cells b53 34 #[Value.string x.b, Value.string x.s, Value.string x.p, Value.int .i64 x.q, Value.int .i64 x.r, Value.bool true, Value.bool x.so, Value.int .u8 x.st], Own.cells b37 24 #[Value.slice A30 l.length c31], Own.seg g47 34 (0 + ((number - 1).toNat) * 8) pre48 #[Value.string x.b, Value.string x.s, Value.string x.p, Value.int .i64 x.q, Value.int .i64 x.r, Value.bool true, Value.bool x.so, Value.int .u8 x.st] post49, Own.cells b9 24 #[Value.slice A30 l.length c31], Own.cells b6 24 #[Value.slice A l.length c]]) M121 rfl rfl (x_storew (cs := [Value.slice A30 l.length c31]) sz_24 (ev_tmp rfl rfl) (ev_tmp rfl rfl) (M121.cells_at (i := 3) rfl) rfl ⟨rfl, trivial⟩) fun w124 M125 => ?_
              refine st rfl (x_assign (v := Value.int .i64 0) rfl) ?_
              refine s_nil ?_
              refine hK123 _ _ ?_
              refine c_ret ?_
              refine hT3 _ _ ?_
              refine rm2 rfl (rL (cs := [Value.slice A30 l.length c31]) (ev_tmp rfl rfl) Try.underlying24 rfl sz_24 (M125.range (i := 3) rfl ⟨rfl, trivial⟩)) (rT (ev_tmp (v := Value.int .i64 0) rfl rfl)) ?_
              have M126 := M125.closeRow (i := 2) rfl hA50 (hback52 ({ x with bo := true }) w124)
              rw [confA0 hr0 hr1 hr2 hx ha h77 h90 h102]
              refine ⟨_, _, ?_, M126.below, SlB.of_row (M126.rownew (i := 2) rfl) (by rw [List.length_set]) Trade.len⟩
              rw [List.length_set]
          · have h127 : ¬ (y.data.toList = x.b.data.toList) := of_decide_eq_false h90
            refine c_reg ?_
            refine st rfl (x_fieldv (b := b53) (o := 0) (q := 6) fa_34_6 (ev_tmp rfl rfl) rfl) ?_
            refine sset1 (o := 6) (v := Value.bool true) (i := 0) (L' := [Own.cells b53 34 #[Value.string x.b, Value.string x.s, Value.string x.p, Value.int .i64 x.q, Value.int .i64 x.r, Value.bool x.bo, Value.bool true, Value.int .u8 x.st], Own.cells b37 24 #[Value.slice A30 l.length c31], Own.seg g47 34 (0 + ((number - 1).toNat) * 8) pre48 #[Value.string x.b, Value.string x.s, Value.string x.p, Value.int .i64 x.q, Value.int .i64 x.r, Value.bool x.bo, Value.bool x.so, Value.int .u8 x.st] post49, Own.cells b9 24 #[Value.slice none 0 0], Own.cells b6 24 #[Value.slice A l.length c]]) M57 rfl rfl (x_store1 (v := Value.bool true) sz_4 rfl rfl (ev_tmp rfl rfl) rfl (M57.cell (i := 0) (o := 6) rfl rfl) (M57.free (i := 0) rfl)) fun w128 M129 => ?_
            refine s_nil ?_
            refine hK87 _ _ ?_
            refine c_seq fun K130 hK131 => ?_
            refine c_seq fun K132 hK133 => ?_
            refine c_reg ?_
            refine st rfl (x_fieldv (b := b53) (o := 0) (q := 5) fa_34_5 (ev_tmp rfl rfl) rfl) ?_
            refine st rfl (x_load1 (v := Value.bool x.bo) Try.underlying4 rfl (ev_tmp rfl rfl) (M129.cell (i := 0) (o := 5) rfl rfl)) ?_
            refine st rfl (x_move (v := Value.bool x.bo) (ev_tmp rfl rfl)) ?_
            refine s_meet3 fun K134 hK135 => ?_
            have J136 : ∀ jk, K134 (fr 66 ([(57, Value.bool (x.bo && true)), (1, Value.int .i64 number), (6, Value.pointer (some ⟨b9, 0, none⟩)), (7, Value.int .i64 0), (9, Value.pointer (some ⟨b37, 0, none⟩)), (10, Value.pointer (some ⟨b53, 0, none⟩)), (54, Value.bool x.bo)] ++ jk)) w128 := by
              intro jk
              refine hK135 _ _ ?_
              clear hK135
              refine s_nil ?_
              refine hK133 _ _ ?_
              refine c_cond (b := x.bo && true) (ev_tmp rfl rfl) (fun h139 => ?_) (fun h139 => ?_)
              · have h140 : x.bo = true := and_l h139
                refine c_reg ?_
                refine st rfl (x_fieldv (b := b53) (o := 0) (q := 7) fa_34_7 (ev_tmp rfl rfl) rfl) ?_
                refine sset1 (o := 7) (v := Value.int .u8 1) (i := 0) (L' := [Own.cells b53 34 #[Value.string x.b, Value.string x.s, Value.string x.p, Value.int .i64 x.q, Value.int .i64 x.r, Value.bool x.bo, Value.bool true, Value.int .u8 1], Own.cells b37 24 #[Value.slice A30 l.length c31], Own.seg g47 34 (0 + ((number - 1).toNat) * 8) pre48 #[Value.string x.b, Value.string x.s, Value.string x.p, Value.int .i64 x.q, Value.int .i64 x.r, Value.bool x.bo, Value.bool x.so, Value.int .u8 x.st] post49, Own.cells b9 24 #[Value.slice none 0 0], Own.cells b6 24 #[Value.slice A l.length c]]) M129 rfl rfl (x_store1 (v := Value.int .u8 1) sz_5 rfl rfl (ev_tmp rfl rfl) rfl (M129.cell (i := 0) (o := 7) rfl rfl) (M129.free (i := 0) rfl)) fun w141 M142 => ?_
                refine s_nil ?_
                refine hK131 _ _ ?_
                refine c_seq fun K143 hK144 => ?_
                refine c_reg ?_
                refine st rfl (x_fieldv (b := b37) (o := 0) (q := 0) fa_24_0 (ev_tmp rfl rfl) rfl) ?_
                refine st rfl (x_load1 (v := Value.slice A30 l.length c31) Try.underlying22 rfl (ev_tmp rfl rfl) (M142.cell (i := 1) (o := 0) rfl rfl)) ?_
                refine st rfl (x_move (v := Value.int .i64 number) (ev_tmp rfl rfl)) ?_
                have hw145 : IntKind.i64.wrap (number - 1) = number - 1 := w64 (by rfl) (by omega) (by omega)
                refine st rfl (x_sub_eq (p := number) (q := 1) (ev_tmp rfl rfl) rfl hw145) ?_
                refine st rfl (x_loadw (cs := [Value.string x.b, Value.string x.s, Value.string x.p, Value.int .i64 x.q, Value.int .i64 x.r, Value.bool x.bo, Value.bool true, Value.int .u8 1]) Try.underlying34 rfl sz_34 (ev_tmp rfl rfl) (M142.range (i := 0) rfl ⟨rfl, rfl, rfl, rfl, rfl, rfl, rfl, rfl, trivial⟩)) ?_
                refine st rfl (x_elemA (b := g47) (o := 0) (k := ((number - 1).toNat)) ea_22 (ev_tmp rfl rfl) hA50 (ev_tmp rfl rfl) (by omega) (by omega)) ?_
                refine ssegw (k := 2) (cs := [Value.string x.b, Value.string x.s, Value.string x.p, Value.int .i64 x.q, Value.int .i64 x.r, Value.bool x.bo, Value.bool true, Value.int .u8 1]) M142 rfl sz_34 (ev_tmp rfl rfl) (ev_tmp rfl rfl) rfl ⟨rfl, rfl, rfl, rfl, rfl, rfl, rfl, rfl, trivial⟩ fun w146 M147 => ?_
                refine s_nil ?_
                refine hK144 _ _ ?_
                refine c_seq fun K148 hK149 => ?_
                refine c_reg ?_
                refine st rfl (x_loadw (cs := [Value.slice A30 l.length c31]) Try.underlying24 rfl sz_24 (ev_tmp rfl rfl) (M147.range (i := 1) rfl ⟨rfl, trivial⟩)) ?_
                refine sset (i := 3) (L' := [Own.cells b53 34 #[Value.string x.b, Value.string x.s, Value.string x.p, Value.int .i64 x.q, Value.int .i64 x.r, Value.bool x.bo, Value.bool true, Value.int .u8 1], Own.cells b37 24 #[Value.slice A30 l.length c31], Own.seg g47 34 (0 + ((number - 1).toNat) * 8) pre48 #[Value.string x.b, Value.string x.s, Value.string x.p, Value.int .i64 x.q, Value.int .i64 x.r, Value.bool x.bo, Value.bool true, Value.int .u8 1] post49, Own.cells b9 24 #[Value.slice A30 l.length c31], Own.cells b6 24 #[Value.slice A l.length c]]) M147 rfl rfl (x_storew (cs := [Value.slice A30 l.length c31]) sz_24 (ev_tmp rfl rfl) (ev_tmp rfl rfl) (M147.cells_at (i := 3) rfl) rfl ⟨rfl, trivial⟩) fun w150 M151 => ?_
                refine st rfl (x_assign (v := Value.int .i64 0) rfl) ?_
                refine s_nil ?_
                refine hK149 _ _ ?_
                refine c_ret ?_
                refine hT3 _ _ ?_
                refine rm2 rfl (rL (cs := [Value.slice A30 l.length c31]) (ev_tmp rfl rfl) Try.underlying24 rfl sz_24 (M151.range (i := 3) rfl ⟨rfl, trivial⟩)) (rT (ev_tmp (v := Value.int .i64 0) rfl rfl)) ?_
                have M152 := M151.closeRow (i := 2) rfl hA50 (hback52 ({ x with so := true, st := 1 }) w150)
                rw [confB1 hr0 hr1 hr2 hx ha h77 h90 h139]
                refine ⟨_, _, ?_, M152.below, SlB.of_row (M152.rownew (i := 2) rfl) (by rw [List.length_set]) Trade.len⟩
                rw [List.length_set]
              · have h153 : (x.bo && true) = false := h139
                refine c_skip ?_
                refine hK131 _ _ ?_
                refine c_seq fun K154 hK155 => ?_
                refine c_reg ?_
                refine st rfl (x_fieldv (b := b37) (o := 0) (q := 0) fa_24_0 (ev_tmp rfl rfl) rfl) ?_
                refine st rfl (x_load1 (v := Value.slice A30 l.length c31) Try.underlying22 rfl (ev_tmp rfl rfl) (M129.cell (i := 1) (o := 0) rfl rfl)) ?_
                refine st rfl (x_move (v := Value.int .i64 number) (ev_tmp rfl rfl)) ?_
                have hw156 : IntKind.i64.wrap (number - 1) = number - 1 := w64 (by rfl) (by omega) (by omega)
                refine st rfl (x_sub_eq (p := number) (q := 1) (ev_tmp rfl rfl) rfl hw156) ?_
                refine st rfl (x_loadw (cs := [Value.string x.b, Value.string x.s, Value.string x.p, Value.int .i64 x.q, Value.int .i64 x.r, Value.bool x.bo, Value.bool true, Value.int .u8 x.st]) Try.underlying34 rfl sz_34 (ev_tmp rfl rfl) (M129.range (i := 0) rfl ⟨rfl, rfl, rfl, rfl, rfl, rfl, rfl, rfl, trivial⟩)) ?_
                refine st rfl (x_elemA (b := g47) (o := 0) (k := ((number - 1).toNat)) ea_22 (ev_tmp rfl rfl) hA50 (ev_tmp rfl rfl) (by omega) (by omega)) ?_
                refine ssegw (k := 2) (cs := [Value.string x.b, Value.string x.s, Value.string x.p, Value.int .i64 x.q, Value.int .i64 x.r, Value.bool x.bo, Value.bool true, Value.int .u8 x.st]) M129 rfl sz_34 (ev_tmp rfl rfl) (ev_tmp rfl rfl) rfl ⟨rfl, rfl, rfl, rfl, rfl, rfl, rfl, rfl, trivial⟩ fun w157 M158 => ?_
                refine s_nil ?_
                refine hK155 _ _ ?_
                refine c_seq fun K159 hK160 => ?_
                refine c_reg ?_
                refine st rfl (x_loadw (cs := [Value.slice A30 l.length c31]) Try.underlying24 rfl sz_24 (ev_tmp rfl rfl) (M158.range (i := 1) rfl ⟨rfl, trivial⟩)) ?_
                refine sset (i := 3) (L' := [Own.cells b53 34 #[Value.string x.b, Value.string x.s, Value.string x.p, Value.int .i64 x.q, Value.int .i64 x.r, Value.bool x.bo, Value.bool true, Value.int .u8 x.st], Own.cells b37 24 #[Value.slice A30 l.length c31], Own.seg g47 34 (0 + ((number - 1).toNat) * 8) pre48 #[Value.string x.b, Value.string x.s, Value.string x.p, Value.int .i64 x.q, Value.int .i64 x.r, Value.bool x.bo, Value.bool true, Value.int .u8 x.st] post49, Own.cells b9 24 #[Value.slice A30 l.length c31], Own.cells b6 24 #[Value.slice A l.length c]]) M158 rfl rfl (x_storew (cs := [Value.slice A30 l.length c31]) sz_24 (ev_tmp rfl rfl) (ev_tmp rfl rfl) (M158.cells_at (i := 3) rfl) rfl ⟨rfl, trivial⟩) fun w161 M162 => ?_
                refine st rfl (x_assign (v := Value.int .i64 0) rfl) ?_
                refine s_nil ?_
                refine hK160 _ _ ?_
                refine c_ret ?_
                refine hT3 _ _ ?_
                refine rm2 rfl (rL (cs := [Value.slice A30 l.length c31]) (ev_tmp rfl rfl) Try.underlying24 rfl sz_24 (M162.range (i := 3) rfl ⟨rfl, trivial⟩)) (rT (ev_tmp (v := Value.int .i64 0) rfl rfl)) ?_
                have M163 := M162.closeRow (i := 2) rfl hA50 (hback52 ({ x with so := true }) w161)
                rw [confB0 hr0 hr1 hr2 hx ha h77 h90 h139]
                refine ⟨_, _, ?_, M163.below, SlB.of_row (M163.rownew (i := 2) rfl) (by rw [List.length_set]) Trade.len⟩
                rw [List.length_set]
            clear hK135
            rcases bcase (x.bo) with hg137 | hg137
            · refine gf (b' := false) rfl rfl rfl (congrArg Value.bool hg137) rfl ?_
              refine gf (b' := false) rfl rfl rfl (congrArg Value.bool hg137) rfl ?_
              refine st rfl (x_pick_f (v := Value.bool false) (ev_tmp rfl (congrArg Value.bool hg137)) rfl) ?_
              refine s_nil ?_
              exact j_to J136 ⟨(congrArg Value.bool (and_f hg137)), rfl, rfl, rfl, rfl, rfl, rfl, trivial⟩
            · have h138 : x.bo = true := hg137
              refine gt rfl rfl rfl (congrArg Value.bool hg137) (x_fieldv (b := b53) (o := 0) (q := 6) fa_34_6 (ev_tmp rfl rfl) rfl) ?_
              refine gt rfl rfl rfl (congrArg Value.bool hg137) (x_load1 (v := Value.bool true) Try.underlying4 rfl (ev_tmp rfl rfl) (M129.cell (i := 0) (o := 6) rfl rfl)) ?_
              refine st rfl (x_pick_t (v := Value.bool true) (ev_tmp rfl (congrArg Value.bool hg137)) (ev_tmp rfl rfl)) ?_
              refine s_nil ?_
              exact j_to J136 ⟨(congrArg Value.bool (and_t hg137)), rfl, rfl, rfl, rfl, rfl, rfl, trivial⟩
      clear hK68
      rcases bcase ((decide (y.data.toList = x.b.data.toList)) && x.bo) with hg70 | hg70
      · have h71 : ((decide (y.data.toList = x.b.data.toList)) && x.bo) = false := hg70
        refine gt rfl rfl rfl (congrArg Value.bool hg70) (x_move (v := Value.string y) (ev_tmp rfl rfl)) ?_
        refine gt rfl rfl rfl (congrArg Value.bool hg70) (x_fieldv (b := b53) (o := 0) (q := 1) fa_34_1 (ev_tmp rfl rfl) rfl) ?_
        refine gt rfl rfl rfl (congrArg Value.bool hg70) (x_load1 (v := Value.string x.s) Try.underlying9 rfl (ev_tmp rfl rfl) (M57.cell (i := 0) (o := 1) rfl rfl)) ?_
        refine gt rfl rfl rfl (congrArg Value.bool hg70) (x_eqs (p := y) (q := x.s) (ev_tmp rfl rfl) (ev_tmp rfl rfl)) ?_
        refine gt rfl rfl rfl (congrArg Value.bool hg70) (x_move (v := Value.bool (decide (y.data.toList = x.s.data.toList))) (ev_tmp rfl rfl)) ?_
        refine s_meet3 fun K72 hK73 => ?_
        have J74 : ∀ jk, K72 (fr 66 ([(43, Value.bool ((decide (y.data.toList = x.s.data.toList)) && x.so)), (1, Value.int .i64 number), (2, Value.string y), (6, Value.pointer (some ⟨b9, 0, none⟩)), (7, Value.int .i64 0), (9, Value.pointer (some ⟨b37, 0, none⟩)), (10, Value.pointer (some ⟨b53, 0, none⟩)), (35, Value.bool ((decide (y.data.toList = x.b.data.toList)) && x.bo)), (40, Value.bool (decide (y.data.toList = x.s.data.toList)))] ++ jk)) w56 := by
          intro jk
          refine hK73 _ _ ?_
          clear hK73
          refine st rfl (x_pick_f (v := Value.bool ((decide (y.data.toList = x.s.data.toList)) && x.so)) (ev_tmp rfl (congrArg Value.bool hg70)) (ev_tmp rfl rfl)) ?_
          refine s_nil ?_
          exact j_to J69 ⟨(congrArg Value.bool (or_f hg70)), rfl, rfl, rfl, rfl, rfl, rfl, rfl, trivial⟩
        clear hK73
        rcases bcase (decide (y.data.toList = x.s.data.toList)) with hg75 | hg75
        · refine gf (b' := false) rfl rfl rfl (congrArg Value.bool hg75) rfl ?_
          refine gf (b' := false) rfl rfl rfl (congrArg Value.bool hg75) rfl ?_
          refine gt rfl rfl rfl (congrArg Value.bool hg70) (x_pick_f (v := Value.bool false) (ev_tmp rfl (congrArg Value.bool hg75)) rfl) ?_
          refine s_nil ?_
          exact j_to J74 ⟨(congrArg Value.bool (and_f hg75)), rfl, rfl, rfl, rfl, rfl, rfl, rfl, rfl, trivial⟩
        · have h76 : y.data.toList = x.s.data.toList := of_decide_eq_true hg75
          refine gt rfl rfl rfl (congrArg Value.bool hg75) (x_fieldv (b := b53) (o := 0) (q := 6) fa_34_6 (ev_tmp rfl rfl) rfl) ?_
          refine gt rfl rfl rfl (congrArg Value.bool hg75) (x_load1 (v := Value.bool x.so) Try.underlying4 rfl (ev_tmp rfl rfl) (M57.cell (i := 0) (o := 6) rfl rfl)) ?_
          refine gt rfl rfl rfl (congrArg Value.bool hg70) (x_pick_t (v := Value.bool x.so) (ev_tmp rfl (congrArg Value.bool hg75)) (ev_tmp rfl rfl)) ?_
          refine s_nil ?_
          exact j_to J74 ⟨(congrArg Value.bool (and_t hg75)), rfl, rfl, rfl, rfl, rfl, rfl, rfl, rfl, trivial⟩
      · refine gf (b' := true) rfl rfl rfl (congrArg Value.bool hg70) rfl ?_
        refine gf (b' := true) rfl rfl rfl (congrArg Value.bool hg70) rfl ?_
        refine gf (b' := true) rfl rfl rfl (congrArg Value.bool hg70) rfl ?_
        refine gf (b' := true) rfl rfl rfl (congrArg Value.bool hg70) rfl ?_
        refine gf (b' := true) rfl rfl rfl (congrArg Value.bool hg70) rfl ?_
        refine gu rfl rfl rfl rfl ?_
        refine gu rfl rfl rfl rfl ?_
        refine gf (b' := true) rfl rfl rfl (congrArg Value.bool hg70) rfl ?_
        refine st rfl (x_pick_t (v := Value.bool true) (ev_tmp rfl (congrArg Value.bool hg70)) rfl) ?_
        refine s_nil ?_
        exact j_to J69 ⟨(congrArg Value.bool (or_t hg70)), rfl, rfl, rfl, rfl, rfl, rfl, rfl, trivial⟩
    clear hK63
    rcases bcase (decide (y.data.toList = x.b.data.toList)) with hg65 | hg65
    · refine gf (b' := false) rfl rfl rfl (congrArg Value.bool hg65) rfl ?_
      refine gf (b' := false) rfl rfl rfl (congrArg Value.bool hg65) rfl ?_
      refine st rfl (x_pick_f (v := Value.bool false) (ev_tmp rfl (congrArg Value.bool hg65)) rfl) ?_
      refine s_nil ?_
      exact j_to J64 ⟨(congrArg Value.bool (and_f hg65)), rfl, rfl, rfl, rfl, rfl, rfl, rfl, trivial⟩
    · have h66 : y.data.toList = x.b.data.toList := of_decide_eq_true hg65
      refine gt rfl rfl rfl (congrArg Value.bool hg65) (x_fieldv (b := b53) (o := 0) (q := 5) fa_34_5 (ev_tmp rfl rfl) rfl) ?_
      refine gt rfl rfl rfl (congrArg Value.bool hg65) (x_load1 (v := Value.bool x.bo) Try.underlying4 rfl (ev_tmp rfl rfl) (M57.cell (i := 0) (o := 5) rfl rfl)) ?_
      refine st rfl (x_pick_t (v := Value.bool x.bo) (ev_tmp rfl (congrArg Value.bool hg65)) (ev_tmp rfl rfl)) ?_
      refine s_nil ?_
      exact j_to J64 ⟨(congrArg Value.bool (and_t hg65)), rfl, rfl, rfl, rfl, rfl, rfl, rfl, trivial⟩

set_option maxHeartbeats 1000000 in
set_option maxRecDepth 20000 in
theorem submit_r (A : Option Addr) (c : Nat) (l : List Trade) (y s p : ByteArray) (q r : Int) (w : World) (hs : SlB 0 w.heap.size w A c 8 Trade.cells l) :
    Calls Try.prog 41 #[Value.agg #[Value.slice A l.length c], Value.string y, Value.string s, Value.string p, Value.int .i64 q, Value.int .i64 r] w fun e w' => ∃ A' c', e = .returned (.tuple #[.agg #[.slice A' (sub l (newT y s p q r)).1.length c'], .int .i64 (sub l (newT y s p q r)).2.1, .int .i64 (sub l (newT y s p q r)).2.2]) ∧ Below w.heap.size w w' ∧ SlB w.heap.size w'.heap.size w' A' c' 8 Trade.cells (sub l (newT y s p q r)).1 := by
  have M0 := Mem.start w []
  have M1 := M0.see (Ro.sl 0 w.heap.size A c 8 Trade.cells l) (hs) (Nat.le_refl _)
  refine enter (args := [Value.agg #[Value.slice A l.length c], Value.string y, Value.string s, Value.string p, Value.int .i64 q, Value.int .i64 r]) Try.func41 rfl (n := 48) rfl rfl fun T2 hT3 => ?_
  refine c_seq fun K4 hK5 => ?_
  refine c_reg ?_
  refine snew (cs := #[Value.slice A l.length c]) M1 rfl (x_box (v := Value.agg #[Value.slice A l.length c]) (ev_tmp rfl rfl)) fun b6 w7 M8 => ?_
  refine snew (cs := #[Value.slice none 0 0]) M8 rfl (x_allocz z_24) fun b9 w10 M11 => ?_
  refine st rfl (x_assign (v := Value.int .i64 0) rfl) ?_
  refine st rfl (x_assign (v := Value.int .i64 0) rfl) ?_
  refine s_nil ?_
  refine hK5 _ _ ?_
  refine c_seq fun K12 hK13 => ?_
  refine c_reg ?_
  refine st rfl (x_move (v := Value.string y) (ev_tmp rfl rfl)) ?_
  refine st rfl (x_move (v := Value.string s) (ev_tmp rfl rfl)) ?_
  refine st rfl (x_move (v := Value.string p) (ev_tmp rfl rfl)) ?_
  refine st rfl (x_move (v := Value.int .i64 q) (ev_tmp rfl rfl)) ?_
  refine st rfl (x_move (v := Value.int .i64 r) (ev_tmp rfl rfl)) ?_
  refine st rfl (x_buildL (ps := [(0, .tmp 17), (1, .tmp 18), (2, .tmp 19), (3, .tmp 20), (4, .tmp 21)]) (vs := [(0, Value.string y), (1, Value.string s), (2, Value.string p), (3, Value.int .i64 q), (4, Value.int .i64 r)]) (cs := #[Value.string y, Value.string s, Value.string p, Value.int .i64 q, Value.int .i64 r, Value.bool false, Value.bool false, Value.int .u8 0]) ⟨⟨rfl, (ev_tmp rfl rfl)⟩, ⟨rfl, (ev_tmp rfl rfl)⟩, ⟨rfl, (ev_tmp rfl rfl)⟩, ⟨rfl, (ev_tmp rfl rfl)⟩, ⟨rfl, (ev_tmp rfl rfl)⟩, trivial⟩ (by kernel_rfl)) ?_
  refine snew (cs := #[Value.string ByteArray.empty, Value.string ByteArray.empty, Value.string ByteArray.empty, Value.int .i64 0, Value.int .i64 0, Value.bool false, Value.bool false, Value.int .u8 0]) M11 rfl (x_allocz z_34) fun b14 w15 M16 => ?_
  refine sset (i := 0) (L' := [Own.cells b14 34 #[Value.string y, Value.string s, Value.string p, Value.int .i64 q, Value.int .i64 r, Value.bool false, Value.bool false, Value.int .u8 0], Own.cells b9 24 #[Value.slice none 0 0], Own.cells b6 24 #[Value.slice A l.length c]]) M16 rfl rfl (x_storew (cs := [Value.string y, Value.string s, Value.string p, Value.int .i64 q, Value.int .i64 r, Value.bool false, Value.bool false, Value.int .u8 0]) sz_34 (ev_tmp rfl rfl) (ev_tmp rfl rfl) (M16.cells_at (i := 0) rfl) rfl ⟨rfl, rfl, rfl, rfl, rfl, rfl, rfl, rfl, trivial⟩) fun w17 M18 => ?_
  refine s_nil ?_
  refine hK13 _ _ ?_
  refine c_seq fun K19 hK20 => ?_
  refine c_seq fun K21 hK22 => ?_
  refine c_reg ?_
  refine st rfl (x_loadw (cs := [Value.slice A l.length c]) Try.underlying24 rfl sz_24 (ev_tmp rfl rfl) (M18.range (i := 2) rfl ⟨rfl, trivial⟩)) ?_
  refine sC rfl (x_callL (xs := [.tmp 23]) (vs := [Value.agg #[Value.slice A l.length c]]) (cap := []) ent_30 rfl ⟨(ev_tmp rfl rfl), trivial⟩) (check_r _ _ l _ (M18.slw (i := 0) rfl)) ?_
  rintro _ w23 ⟨rfl, hb25⟩
  refine ⟨_, rfl, ?_⟩
  have M24 := M18.call hb25
  refine st rfl (x_neq (p := (chk l)) (q := 0) (ev_tmp rfl rfl) rfl) ?_
  refine s_nil ?_
  refine hK22 _ _ ?_
  refine c_cond (b := !(decide (chk l = 0))) (ev_tmp rfl rfl) (fun h26 => ?_) (fun h26 => ?_)
  · have h27 : ¬ (chk l = 0) := of_decide_eq_false (not_t h26)
    refine c_seq fun K28 hK29 => ?_
    refine c_reg ?_
    refine st rfl (x_buildL (ps := []) (vs := []) (cs := #[Value.slice none 0 0]) trivial (by kernel_rfl)) ?_
    refine sset (i := 1) (L' := [Own.cells b14 34 #[Value.string y, Value.string s, Value.string p, Value.int .i64 q, Value.int .i64 r, Value.bool false, Value.bool false, Value.int .u8 0], Own.cells b9 24 #[Value.slice none 0 0], Own.cells b6 24 #[Value.slice A l.length c]]) M24 rfl rfl (x_storew (cs := [Value.slice none 0 0]) sz_24 (ev_tmp rfl rfl) (ev_tmp rfl rfl) (M24.cells_at (i := 1) rfl) rfl ⟨rfl, trivial⟩) fun w30 M31 => ?_
    refine st rfl (x_assign (v := Value.int .i64 0) rfl) ?_
    refine st rfl (x_assign (v := Value.int .i64 8) rfl) ?_
    refine s_nil ?_
    refine hK29 _ _ ?_
    refine c_ret ?_
    refine hT3 _ _ ?_
    refine rm3 rfl (rL (cs := [Value.slice none 0 0]) (ev_tmp rfl rfl) Try.underlying24 rfl sz_24 (M31.range (i := 1) rfl ⟨rfl, trivial⟩)) (rT (ev_tmp (v := Value.int .i64 0) rfl rfl)) (rT (ev_tmp (v := Value.int .i64 8) rfl rfl)) ?_
    rw [sub8r h26]
    exact ⟨none, 0, rfl, M31.below, SlB.nil _ _ _ _ _⟩
  · have h32 : chk l = 0 := of_decide_eq_true (not_f h26)
    refine c_skip ?_
    refine hK20 _ _ ?_
    refine c_seq fun K33 hK34 => ?_
    refine c_seq fun K35 hK36 => ?_
    refine c_reg ?_
    refine st rfl (x_loadw (cs := [Value.string y, Value.string s, Value.string p, Value.int .i64 q, Value.int .i64 r, Value.bool false, Value.bool false, Value.int .u8 0]) Try.underlying34 rfl sz_34 (ev_tmp rfl rfl) (M24.range (i := 0) rfl ⟨rfl, rfl, rfl, rfl, rfl, rfl, rfl, rfl, trivial⟩)) ?_
    refine sC rfl (x_callL (xs := [.tmp 27]) (vs := [Value.agg #[Value.string y, Value.string s, Value.string p, Value.int .i64 q, Value.int .i64 r, Value.bool false, Value.bool false, Value.int .u8 0]]) (cap := []) ent_51 rfl ⟨(ev_tmp rfl rfl), trivial⟩) (terms_r (newT y s p q r) _) ?_
    rintro _ w37 ⟨rfl, hb39⟩
    refine ⟨_, rfl, ?_⟩
    have M38 := M24.call hb39
    refine st rfl (x_not (b := (termsB (newT y s p q r))) (ev_tmp rfl rfl)) ?_
    refine s_nil ?_
    refine hK36 _ _ ?_
    refine c_cond (b := !(termsB (newT y s p q r))) (ev_tmp rfl rfl) (fun h40 => ?_) (fun h40 => ?_)
    · have h41 : termsB (newT y s p q r) = false := not_t h40
      refine c_seq fun K42 hK43 => ?_
      refine c_reg ?_
      refine st rfl (x_buildL (ps := []) (vs := []) (cs := #[Value.slice none 0 0]) trivial (by kernel_rfl)) ?_
      refine sset (i := 1) (L' := [Own.cells b14 34 #[Value.string y, Value.string s, Value.string p, Value.int .i64 q, Value.int .i64 r, Value.bool false, Value.bool false, Value.int .u8 0], Own.cells b9 24 #[Value.slice none 0 0], Own.cells b6 24 #[Value.slice A l.length c]]) M38 rfl rfl (x_storew (cs := [Value.slice none 0 0]) sz_24 (ev_tmp rfl rfl) (ev_tmp rfl rfl) (M38.cells_at (i := 1) rfl) rfl ⟨rfl, trivial⟩) fun w44 M45 => ?_
      refine st rfl (x_assign (v := Value.int .i64 0) rfl) ?_
      refine st rfl (x_assign (v := Value.int .i64 2) rfl) ?_
      refine s_nil ?_
      refine hK43 _ _ ?_
      refine c_ret ?_
      refine hT3 _ _ ?_
      refine rm3 rfl (rL (cs := [Value.slice none 0 0]) (ev_tmp rfl rfl) Try.underlying24 rfl sz_24 (M45.range (i := 1) rfl ⟨rfl, trivial⟩)) (rT (ev_tmp (v := Value.int .i64 0) rfl rfl)) (rT (ev_tmp (v := Value.int .i64 2) rfl rfl)) ?_
      rw [sub2 h26 h40]
      exact ⟨none, 0, rfl, M45.below, SlB.nil _ _ _ _ _⟩
    · have h46 : termsB (newT y s p q r) = true := not_f h40
      refine c_skip ?_
      refine hK34 _ _ ?_
      refine c_seq fun K47 hK48 => ?_
      refine c_seq fun K49 hK50 => ?_
      refine c_reg ?_
      refine st rfl (x_fieldv (b := b6) (o := 0) (q := 0) fa_24_0 (ev_tmp rfl rfl) rfl) ?_
      refine st rfl (x_load1 (v := Value.slice A l.length c) Try.underlying22 rfl (ev_tmp rfl rfl) (M38.cell (i := 2) (o := 0) rfl rfl)) ?_
      refine st rfl (x_lensl (n := l.length) Try.underlying22 (ev_tmp rfl rfl)) ?_
      refine st rfl (x_geq (p := (l.length : Int)) (q := 200) (ev_tmp rfl rfl) rfl) ?_
      refine s_nil ?_
      refine hK50 _ _ ?_
      refine c_cond (b := decide ((200 : Int) ≤ (l.length : Int))) (ev_tmp rfl rfl) (fun h51 => ?_) (fun h51 => ?_)
      · have h52 : (200 : Int) ≤ (l.length : Int) := of_decide_eq_true h51
        refine c_seq fun K53 hK54 => ?_
        refine c_reg ?_
        refine st rfl (x_buildL (ps := []) (vs := []) (cs := #[Value.slice none 0 0]) trivial (by kernel_rfl)) ?_
        refine sset (i := 1) (L' := [Own.cells b14 34 #[Value.string y, Value.string s, Value.string p, Value.int .i64 q, Value.int .i64 r, Value.bool false, Value.bool false, Value.int .u8 0], Own.cells b9 24 #[Value.slice none 0 0], Own.cells b6 24 #[Value.slice A l.length c]]) M38 rfl rfl (x_storew (cs := [Value.slice none 0 0]) sz_24 (ev_tmp rfl rfl) (ev_tmp rfl rfl) (M38.cells_at (i := 1) rfl) rfl ⟨rfl, trivial⟩) fun w55 M56 => ?_
        refine st rfl (x_assign (v := Value.int .i64 0) rfl) ?_
        refine st rfl (x_assign (v := Value.int .i64 22) rfl) ?_
        refine s_nil ?_
        refine hK54 _ _ ?_
        refine c_ret ?_
        refine hT3 _ _ ?_
        refine rm3 rfl (rL (cs := [Value.slice none 0 0]) (ev_tmp rfl rfl) Try.underlying24 rfl sz_24 (M56.range (i := 1) rfl ⟨rfl, trivial⟩)) (rT (ev_tmp (v := Value.int .i64 0) rfl rfl)) (rT (ev_tmp (v := Value.int .i64 22) rfl rfl)) ?_
        rw [sub22r h26 h40 h51]
        exact ⟨none, 0, rfl, M56.below, SlB.nil _ _ _ _ _⟩
      · have h57 : ¬ ((200 : Int) ≤ (l.length : Int)) := of_decide_eq_false h51
        obtain ⟨hl0, hl1⟩ := sublen_r h26 h51
        refine c_skip ?_
        refine hK48 _ _ ?_
        refine c_seq fun K58 hK59 => ?_
        refine c_reg ?_
        refine st rfl (x_loadw (cs := [Value.slice A l.length c]) Try.underlying24 rfl sz_24 (ev_tmp rfl rfl) (M38.range (i := 2) rfl ⟨rfl, trivial⟩)) ?_
        refine sC rfl (x_callL (xs := [.tmp 36]) (vs := [Value.agg #[Value.slice A l.length c]]) (cap := []) ent_16 rfl ⟨(ev_tmp rfl rfl), trivial⟩) (twin_r _ _ l _ (M38.slw (i := 0) rfl) (by omega)) ?_
        rintro _ w62 ⟨A60, c61, rfl, hb63, hr64⟩
        refine ⟨_, rfl, ?_⟩
        have M65 := M38.gotRow hb63 hr64
        refine snew (cs := #[Value.slice none 0 0]) M65 rfl (x_allocz z_24) fun b67 w68 M69 => ?_
        refine sset (i := 0) (L' := [Own.cells b67 24 #[Value.slice A60 l.length c61], Own.row 34 8 (Value.slice A60 l.length c61) l.length (l.flatMap Trade.cells), Own.cells b14 34 #[Value.string y, Value.string s, Value.string p, Value.int .i64 q, Value.int .i64 r, Value.bool false, Value.bool false, Value.int .u8 0], Own.cells b9 24 #[Value.slice none 0 0], Own.cells b6 24 #[Value.slice A l.length c]]) M69 rfl rfl (x_storew (cs := [Value.slice A60 l.length c61]) sz_24 (ev_tmp rfl rfl) (ev_tmp rfl rfl) (M69.cells_at (i := 0) rfl) rfl ⟨rfl, trivial⟩) fun w70 M71 => ?_
        refine s_nil ?_
        refine hK59 _ _ ?_
        refine c_seq fun K72 hK73 => ?_
        refine c_reg ?_
        refine st rfl (x_fieldv (b := b67) (o := 0) (q := 0) fa_24_0 (ev_tmp rfl rfl) rfl) ?_
        refine st rfl (x_load1 (v := Value.slice A60 l.length c61) Try.underlying22 rfl (ev_tmp rfl rfl) (M71.cell (i := 0) (o := 0) rfl rfl)) ?_
        refine st rfl (x_loadw (cs := [Value.string y, Value.string s, Value.string p, Value.int .i64 q, Value.int .i64 r, Value.bool false, Value.bool false, Value.int .u8 0]) Try.underlying34 rfl sz_34 (ev_tmp rfl rfl) (M71.range (i := 2) rfl ⟨rfl, rfl, rfl, rfl, rfl, rfl, rfl, rfl, trivial⟩)) ?_
        refine snews (cs := #[Value.string y, Value.string s, Value.string p, Value.int .i64 q, Value.int .i64 r, Value.bool false, Value.bool false, Value.int .u8 0]) M71 rfl (x_buildSliceL (ps := [(0, .tmp 40)]) (vs := [(0, Value.agg #[Value.string y, Value.string s, Value.string p, Value.int .i64 q, Value.int .i64 r, Value.bool false, Value.bool false, Value.int .u8 0])]) (cs := #[Value.string y, Value.string s, Value.string p, Value.int .i64 q, Value.int .i64 r, Value.bool false, Value.bool false, Value.int .u8 0]) Try.underlying22 ⟨⟨rfl, (ev_tmp rfl rfl)⟩, trivial⟩ (by kernel_rfl)) fun b74 w75 M76 => ?_
        refine sapp (k := 2) (news := [Value.string y, Value.string s, Value.string p, Value.int .i64 q, Value.int .i64 r, Value.bool false, Value.bool false, Value.int .u8 0]) M76 rfl app_22 rfl (ev_tmp rfl rfl) (ev_tmp rfl rfl) rfl (M76.block_news (i := 0) rfl) (oneL_all ⟨rfl, rfl, rfl, rfl, rfl, rfl, rfl, rfl, trivial⟩) (by simp only [maxLen]; omega) (by omega) fun A77 c78 w79 M80 => ?_
        have M81 := M80.rexs (i := 2) rfl (xs' := (l ++ [newT y s p q r]).flatMap Trade.cells) (flat_snoc (E := Trade.cells) l (newT y s p q r))
        refine st rfl (x_fieldv (b := b67) (o := 0) (q := 0) fa_24_0 (ev_tmp rfl rfl) rfl) ?_
        refine sset1 (o := 0) (v := Value.slice A77 (l.length + 1) c78) (i := 1) (L' := [Own.cells b74 34 #[Value.string y, Value.string s, Value.string p, Value.int .i64 q, Value.int .i64 r, Value.bool false, Value.bool false, Value.int .u8 0], Own.cells b67 24 #[Value.slice A77 (l.length + 1) c78], Own.row 34 8 (Value.slice A77 (l.length + 1) c78) (l.length + 1) ((l ++ [newT y s p q r]).flatMap Trade.cells), Own.cells b14 34 #[Value.string y, Value.string s, Value.string p, Value.int .i64 q, Value.int .i64 r, Value.bool false, Value.bool false, Value.int .u8 0], Own.cells b9 24 #[Value.slice none 0 0], Own.cells b6 24 #[Value.slice A l.length c]]) M81 rfl rfl (x_store1 (v := Value.slice A77 (l.length + 1) c78) sz_22 rfl rfl (ev_tmp rfl rfl) (ev_tmp rfl rfl) (M81.cell (i := 1) (o := 0) rfl rfl) (M81.free (i := 1) rfl)) fun w82 M83 => ?_
        refine s_nil ?_
        refine hK73 _ _ ?_
        refine c_seq fun K84 hK85 => ?_
        have M86 := M83.perm (L' := [Own.cells b9 24 #[Value.slice none 0 0], Own.cells b74 34 #[Value.string y, Value.string s, Value.string p, Value.int .i64 q, Value.int .i64 r, Value.bool false, Value.bool false, Value.int .u8 0], Own.cells b67 24 #[Value.slice A77 (l.length + 1) c78], Own.row 34 8 (Value.slice A77 (l.length + 1) c78) (l.length + 1) ((l ++ [newT y s p q r]).flatMap Trade.cells), Own.cells b14 34 #[Value.string y, Value.string s, Value.string p, Value.int .i64 q, Value.int .i64 r, Value.bool false, Value.bool false, Value.int .u8 0], Own.cells b6 24 #[Value.slice A l.length c]]) (List.Perm.trans (List.Perm.cons _ (List.Perm.cons _ (List.Perm.cons _ (List.Perm.swap _ _ _)))) (List.Perm.trans (List.Perm.cons _ (List.Perm.cons _ (List.Perm.swap _ _ _))) (List.Perm.trans (List.Perm.cons _ (List.Perm.swap _ _ _)) (List.Perm.trans (List.Perm.swap _ _ _) (List.Perm.refl _)))))
        have M87 := M86.drew
        refine c_drawn (fun w1 => Mem w [] w1 [Own.cells b74 34 #[Value.string y, Value.string s, Value.string p, Value.int .i64 q, Value.int .i64 r, Value.bool false, Value.bool false, Value.int .u8 0], Own.cells b67 24 #[Value.slice A77 (l.length + 1) c78], Own.row 34 8 (Value.slice A77 (l.length + 1) c78) (l.length + 1) ((l ++ [newT y s p q r]).flatMap Trade.cells), Own.cells b14 34 #[Value.string y, Value.string s, Value.string p, Value.int .i64 q, Value.int .i64 r, Value.bool false, Value.bool false, Value.int .u8 0], Own.cells b6 24 #[Value.slice A l.length c]] [Ro.sl 0 w.heap.size A c 8 Trade.cells l]) mixed ?_
        generalize w82.drew = w88 at M87 ⊢
        refine dT (i := 0) (v := Value.agg #[Value.slice A77 (l.length + 1) c78]) rfl (by kernel_rfl) (by kernel_rfl) rfl (M87.dropL 1) (fun _ hS => x_loadw (cs := [Value.slice A77 (l.length + 1) c78]) Try.underlying24 rfl sz_24 (ev_tmp rfl rfl) (hS.range (i := 1) rfl ⟨rfl, trivial⟩)) ?_
        refine dT (i := 1) (v := Value.pointer (some ⟨b67, 0, none⟩)) rfl (by kernel_rfl) (by kernel_rfl) rfl (M87.dropL 1) (fun _ hS => x_fieldv (b := b67) (o := 0) (q := 0) fa_24_0 (ev_tmp rfl rfl) rfl) ?_
        refine dT (i := 2) (v := Value.slice A77 (l.length + 1) c78) rfl (by kernel_rfl) (by kernel_rfl) rfl (M87.dropL 1) (fun _ hS => x_load1 (v := Value.slice A77 (l.length + 1) c78) Try.underlying22 rfl (ev_tmp rfl rfl) (hS.cell (i := 1) (o := 0) rfl rfl)) ?_
        refine dT (i := 3) (v := Value.int .i64 ((l.length + 1 : Nat) : Int)) rfl (by kernel_rfl) (by kernel_rfl) rfl (M87.dropL 1) (fun _ hS => x_lensl (n := (l.length + 1)) Try.underlying22 (ev_tmp rfl rfl)) ?_
        refine dA (rs := [4]) (by kernel_rfl) rfl ?_
        refine dC ?_ ?_
        · refine dset (i := 4) (k := 0) (L' := [Own.cells b9 24 #[Value.slice A77 (l.length + 1) c78], Own.cells b74 34 #[Value.string y, Value.string s, Value.string p, Value.int .i64 q, Value.int .i64 r, Value.bool false, Value.bool false, Value.int .u8 0], Own.cells b67 24 #[Value.slice A77 (l.length + 1) c78], Own.row 34 8 (Value.slice A77 (l.length + 1) c78) (l.length + 1) ((l ++ [newT y s p q r]).flatMap Trade.cells), Own.cells b14 34 #[Value.string y, Value.string s, Value.string p, Value.int .i64 q, Value.int .i64 r, Value.bool false, Value.bool false, Value.int .u8 0], Own.cells b6 24 #[Value.slice A l.length c]]) M87 rfl rfl rfl (x_storew (cs := [Value.slice A77 (l.length + 1) c78]) sz_24 (ev_tmp rfl rfl) (ev_tmp rfl rfl) (M87.cells_at (i := 0) rfl) rfl ⟨rfl, trivial⟩) fun w89 M90 => ?_
          refine ⟨(M90.dropL 1), ?_⟩
          refine dT (i := 5) (v := Value.int .i64 ((l.length + 1 : Nat) : Int)) rfl (by kernel_rfl) (by kernel_rfl) rfl (M90.dropL 1) (fun _ hS => x_assign (v := Value.int .i64 ((l.length + 1 : Nat) : Int)) (ev_tmp rfl rfl)) ?_
          refine dT (i := 6) (v := Value.int .i64 0) rfl (by kernel_rfl) (by kernel_rfl) rfl (M90.dropL 1) (fun _ hS => x_assign (v := Value.int .i64 0) rfl) ?_
          refine dE (by kernel_rfl) ?_
          refine hK85 _ _ ?_
          refine c_ret ?_
          refine hT3 _ _ ?_
          refine rm3 rfl (rL (cs := [Value.slice A77 (l.length + 1) c78]) (ev_tmp rfl rfl) Try.underlying24 rfl sz_24 (M90.range (i := 0) rfl ⟨rfl, trivial⟩)) (rT (ev_tmp (v := Value.int .i64 ((l.length + 1 : Nat) : Int)) rfl rfl)) (rT (ev_tmp (v := Value.int .i64 0) rfl rfl)) ?_
          rw [subOkr h26 h40 h51]
          refine ⟨_, _, ?_, M90.below, SlB.of_row (M90.rownew (i := 3) rfl) (by simp) Trade.len⟩
          rw [List.length_append]; rfl
        exact dN

end Go.Proofs.Ytkimdlpfbojkgaa
