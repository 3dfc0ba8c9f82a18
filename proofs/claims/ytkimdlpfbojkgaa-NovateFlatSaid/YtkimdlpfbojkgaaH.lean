/- Contracts: the change of a book, and the calls over it. -/
import Derived.Test.YtkimdlpfbojkgaaG
namespace Go.Proofs.Ytkimdlpfbojkgaa
open Go.RowKit
/-- What a change makes of a book, and its error. -/
def chg (f : Trade → Trade × Int) (l : List Trade) (number : Int) : List Trade × Int :=
  if chk l = 0 then
    if number < 1 ∨ (l.length : Int) < number then ([], 6)
    else match l[(number - 1).toNat]? with
      | none => ([], 6)
      | some x => if (f x).2 = 0 then (l.set (number - 1).toNat (f x).1, 0) else ([], (f x).2)
  else ([], 8)
theorem chk_len {l : List Trade} (h : chk l = 0) : l.length ≤ 200 := by
  unfold chk at h
  by_cases hc : checkB l = true
  · unfold checkB at hc
    exact of_decide_eq_true (and_l hc)
  · rw [if_neg hc] at h; omega
theorem chk_ok {l : List Trade} (h : chk l = 0) : checkB l = true := by
  unfold chk at h
  by_cases hc : checkB l = true
  · exact hc
  · rw [if_neg hc] at h; omega
theorem chk_8 {l : List Trade} (h : ¬ chk l = 0) : chk l = 8 := by
  unfold chk at h ⊢
  by_cases hc : checkB l = true
  · rw [if_pos hc] at h; omega
  · rw [if_neg hc]
theorem rng {l : List Trade} {number : Int} (h1 : (decide (chk l = 0) && (decide (number < 1) || decide ((l.length : Int) < number))) = false) (h2 : (!decide (chk l = 0)) = false) : chk l = 0 ∧ ¬ number < 1 ∧ ¬ (l.length : Int) < number ∧ l.length ≤ 200 := by
  have h0 := of_decide_eq_true (not_f h2)
  rw [not_f h2, Bool.true_and] at h1
  exact ⟨h0, of_decide_eq_false (or_l h1), of_decide_eq_false (or_r h1), chk_len h0⟩
theorem chg6 {f : Trade → Trade × Int} {l : List Trade} {number : Int} (h1 : (decide (chk l = 0) && (decide (number < 1) || decide ((l.length : Int) < number))) = true) : chg f l number = ([], 6) := by
  have h0 := of_decide_eq_true (and_l h1)
  have h2 := and_r h1
  rw [Bool.or_eq_true] at h2
  unfold chg
  rw [if_pos h0, if_pos]
  rcases h2 with h | h
  · exact .inl (of_decide_eq_true h)
  · exact .inr (of_decide_eq_true h)
theorem chg8 {f : Trade → Trade × Int} {l : List Trade} {number : Int} (h : (!decide (chk l = 0)) = true) : chg f l number = ([], chk l) := by
  have h0 := of_decide_eq_false (not_t h)
  unfold chg
  rw [if_neg h0, chk_8 h0]
theorem chgE {f : Trade → Trade × Int} {l : List Trade} {number : Int} {x : Trade} (h0 : chk l = 0) (h1 : ¬ number < 1) (h2 : ¬ (l.length : Int) < number) (hx : l[(number - 1).toNat]? = some x) (h : (!decide ((f x).2 = 0)) = true) : chg f l number = ([], (f x).2) := by
  unfold chg
  rw [if_pos h0, if_neg (by rintro (h | h) <;> contradiction), hx]
  exact if_neg (of_decide_eq_false (not_t h))
theorem chgO {f : Trade → Trade × Int} {l : List Trade} {number : Int} {x : Trade} (h0 : chk l = 0) (h1 : ¬ number < 1) (h2 : ¬ (l.length : Int) < number) (hx : l[(number - 1).toNat]? = some x) (h : (!decide ((f x).2 = 0)) = false) : chg f l number = (l.set (number - 1).toNat (f x).1, 0) := by
  unfold chg
  rw [if_pos h0, if_neg (by rintro (h | h) <;> contradiction), hx]
  exact if_pos (of_decide_eq_true (not_f h))
def newT (y s p : ByteArray) (q r : Int) : Trade := ⟨y, s, p, q, r, false, false, 0⟩
/-- What Submit makes of a book, the number, and the error. -/
def sub (l : List Trade) (t : Trade) : List Trade × Int × Int :=
  if chk l = 0 then if termsB t = true then if l.length = 200 then ([], 0, 22) else (l ++ [t], (l.length : Int) + 1, 0) else ([], 0, 2) else ([], 0, 8)
theorem sub8 {l : List Trade} {t : Trade} (h : (!decide (chk l = 0)) = true) : sub l t = ([], 0, chk l) := by
  have h0 := of_decide_eq_false (not_t h)
  unfold sub; rw [if_neg h0, chk_8 h0]
theorem sub2 {l : List Trade} {t : Trade} (h : (!decide (chk l = 0)) = false) (h2 : (!termsB t) = true) : sub l t = ([], 0, 2) := by
  unfold sub; rw [if_pos (of_decide_eq_true (not_f h)), if_neg (by rw [not_t h2]; simp)]
theorem sub22 {l : List Trade} {t : Trade} (h : (!decide (chk l = 0)) = false) (h2 : (!termsB t) = false) (h3 : decide ((l.length : Int) = 200) = true) : sub l t = ([], 0, 22) := by
  unfold sub; rw [if_pos (of_decide_eq_true (not_f h)), if_pos (not_f h2), if_pos (by have := of_decide_eq_true h3; omega)]
theorem subOk {l : List Trade} {t : Trade} (h : (!decide (chk l = 0)) = false) (h2 : (!termsB t) = false) (h3 : decide ((l.length : Int) = 200) = false) : sub l t = (l ++ [t], (l.length : Int) + 1, 0) := by
  unfold sub; rw [if_pos (of_decide_eq_true (not_f h)), if_pos (not_f h2), if_neg (by have := of_decide_eq_false h3; omega)]
theorem sublen {l : List Trade} (h : (!decide (chk l = 0)) = false) (_ : decide ((l.length : Int) = 200) = false) : l.length ≤ 200 ∧ l.length ≤ 200 := ⟨chk_len (of_decide_eq_true (not_f h)), chk_len (of_decide_eq_true (not_f h))⟩
theorem sublen_r {l : List Trade} (h : (!decide (chk l = 0)) = false) (_ : decide ((200 : Int) ≤ (l.length : Int)) = false) : l.length ≤ 200 ∧ l.length ≤ 200 := ⟨chk_len (of_decide_eq_true (not_f h)), chk_len (of_decide_eq_true (not_f h))⟩
theorem sub22r {l : List Trade} {t : Trade} (h : (!decide (chk l = 0)) = false) (h2 : (!termsB t) = false) (h3 : decide ((200 : Int) ≤ (l.length : Int)) = true) : sub l t = ([], 0, 22) :=
  sub22 h h2 (by have h4 := chk_len (of_decide_eq_true (not_f h)); have h5 := of_decide_eq_true h3; exact decide_eq_true (by omega))
theorem subOkr {l : List Trade} {t : Trade} (h : (!decide (chk l = 0)) = false) (h2 : (!termsB t) = false) (h3 : decide ((200 : Int) ≤ (l.length : Int)) = false) : sub l t = (l ++ [t], (l.length : Int) + 1, 0) :=
  subOk h h2 (by have h5 := of_decide_eq_false h3; exact decide_eq_false (by omega))
set_option maxHeartbeats 1000000 in
set_option maxRecDepth 20000 in
theorem change_c (kf : Nat) (caps : List Value) (f : Trade → Trade × Int) (A : Option Addr) (c : Nat) (l : List Trade) (number : Int) (w : World) (hs : SlB 0 w.heap.size w A c 8 Trade.cells l) (hE : Enters Try.prog kf)
    (hdo : ∀ (w1 : World) (g o : Nat) (pre post : List Value) (x : Trade), Below w.heap.size w w1 → w.heap.size ≤ g → w1.heap[g]? = some (.cells (pre ++ Trade.cells x ++ post).toArray 34 (0, 0)) → pre.length = o →
      Calls Try.prog kf (Value.pointer (some ⟨g, o, none⟩) :: caps).toArray w1 fun e w2 => e = .returned (.int .i64 (f x).2) ∧ Kept w1 w2 [g] ∧ w2.heap[g]? = some (.cells (pre ++ Trade.cells (f x).1 ++ post).toArray 34 (0, 0))) :
    Calls Try.prog 37 #[Value.agg #[Value.slice A l.length c], Value.int .i64 number, Value.func (.func kf) #[] caps.toArray] w fun e w' => ∃ A' c', e = .returned (.tuple #[.agg #[.slice A' (chg f l number |>.1).length c'], .int .i64 (chg f l number |>.2)]) ∧ Below w.heap.size w w' ∧ SlB w.heap.size w'.heap.size w' A' c' 8 Trade.cells (chg f l number |>.1) := by
  have M0 := Mem.start w []
  have M1 := M0.see (Ro.sl 0 w.heap.size A c 8 Trade.cells l) (hs) (Nat.le_refl _)
  refine enter (args := [Value.agg #[Value.slice A l.length c], Value.int .i64 number, Value.func (.func kf) #[] caps.toArray]) Try.func37 rfl (n := 45) rfl rfl fun T2 hT3 => ?_
  refine c_seq fun K4 hK5 => ?_
  refine c_reg ?_
  refine snew (cs := #[Value.slice A l.length c]) M1 rfl (x_box (v := Value.agg #[Value.slice A l.length c]) (ev_tmp rfl rfl)) fun b6 w7 M8 => ?_
  refine snew (cs := #[Value.slice none 0 0]) M8 rfl (x_allocz z_24) fun b9 w10 M11 => ?_
  refine st rfl (x_assign (v := Value.int .i64 0) rfl) ?_
  refine s_nil ?_
  refine hK5 _ _ ?_
  refine c_seq fun K12 hK13 => ?_
  refine c_reg ?_
  refine st rfl (x_loadw (cs := [Value.slice A l.length c]) Try.underlying24 rfl sz_24 (ev_tmp rfl rfl) (M11.range (i := 1) rfl ⟨rfl, trivial⟩)) ?_
  refine sC rfl (x_callL (xs := [.tmp 11]) (vs := [Value.agg #[Value.slice A l.length c]]) (cap := []) ent_13 rfl ⟨(ev_tmp rfl rfl), trivial⟩) (check_c _ _ l _ (M11.slw (i := 0) rfl)) ?_
  rintro _ w14 ⟨rfl, hb16⟩
  refine ⟨_, rfl, ?_⟩
  have M15 := M11.call hb16
  refine st rfl (x_assign (v := Value.int .i64 (chk l)) (ev_tmp rfl rfl)) ?_
  refine s_nil ?_
  refine hK13 _ _ ?_
  refine c_seq fun K17 hK18 => ?_
  refine c_seq fun K19 hK20 => ?_
  refine c_reg ?_
  refine st rfl (x_move (v := Value.int .i64 (chk l)) (ev_tmp rfl rfl)) ?_
  refine st rfl (x_eql (p := (chk l)) (q := 0) (ev_tmp rfl rfl) rfl) ?_
  refine st rfl (x_move (v := Value.bool (decide (chk l = 0))) (ev_tmp rfl rfl)) ?_
  refine s_meet10 fun K21 hK22 => ?_
  have J23 : ∀ jk, K21 (fr 45 ([(25, Value.bool ((decide (chk l = 0)) && ((decide (number < 1)) || (decide ((l.length : Int) < number))))), (1, Value.int .i64 number), (2, Value.func (.func kf) #[] caps.toArray), (3, Value.pointer (some ⟨b6, 0, none⟩)), (6, Value.pointer (some ⟨b9, 0, none⟩)), (7, Value.int .i64 0), (8, Value.int .i64 (chk l)), (15, Value.bool (decide (chk l = 0)))] ++ jk)) w14 := by
    intro jk
    refine hK22 _ _ ?_
    clear hK22
    refine s_nil ?_
    refine hK20 _ _ ?_
    refine c_cond (b := (decide (chk l = 0)) && ((decide (number < 1)) || (decide ((l.length : Int) < number)))) (ev_tmp rfl rfl) (fun h31 => ?_) (fun h31 => ?_)
    · have h32 : chk l = 0 := of_decide_eq_true (and_l h31)
      have h33 : ((decide (number < 1)) || (decide ((l.length : Int) < number))) = true := and_r h31
      refine c_reg ?_
      refine st rfl (x_assign (v := Value.int .i64 6) rfl) ?_
      refine s_nil ?_
      refine hK18 _ _ ?_
      refine c_seq fun K34 hK35 => ?_
      refine c_seq fun K36 hK37 => ?_
      refine c_reg ?_
      refine st rfl (x_move (v := Value.int .i64 6) (ev_tmp rfl rfl)) ?_
      refine st rfl (x_neq (p := 6) (q := 0) (ev_tmp rfl rfl) rfl) ?_
      refine s_nil ?_
      refine hK37 _ _ ?_
      refine c_cond_t (ev_tmp rfl rfl) ?_
      refine c_seq fun K39 hK40 => ?_
      refine c_reg ?_
      refine st rfl (x_buildL (ps := []) (vs := []) (cs := #[Value.slice none 0 0]) trivial (by kernel_rfl)) ?_
      refine st rfl (x_move (v := Value.int .i64 6) (ev_tmp rfl rfl)) ?_
      refine sset (i := 0) (L' := [Own.cells b9 24 #[Value.slice none 0 0], Own.cells b6 24 #[Value.slice A l.length c]]) M15 rfl rfl (x_storew (cs := [Value.slice none 0 0]) sz_24 (ev_tmp rfl rfl) (ev_tmp rfl rfl) (M15.cells_at (i := 0) rfl) rfl ⟨rfl, trivial⟩) fun w41 M42 => ?_
      refine st rfl (x_assign (v := Value.int .i64 6) (ev_tmp rfl rfl)) ?_
      refine s_nil ?_
      refine hK40 _ _ ?_
      refine c_ret ?_
      refine hT3 _ _ ?_
      refine rm2 rfl (rL (cs := [Value.slice none 0 0]) (ev_tmp rfl rfl) Try.underlying24 rfl sz_24 (M42.range (i := 0) rfl ⟨rfl, trivial⟩)) (rT (ev_tmp (v := Value.int .i64 6) rfl rfl)) ?_
      have hc : chg f l number = ([], 6) := chg6 h31
      rw [hc]
      exact ⟨none, 0, rfl, M42.below, SlB.nil _ _ _ _ _⟩
    · have h43 : ((decide (chk l = 0)) && ((decide (number < 1)) || (decide ((l.length : Int) < number)))) = false := h31
      refine c_skip ?_
      refine hK18 _ _ ?_
      refine c_seq fun K44 hK45 => ?_
      refine c_seq fun K46 hK47 => ?_
      refine c_reg ?_
      refine st rfl (x_move (v := Value.int .i64 (chk l)) (ev_tmp rfl rfl)) ?_
      refine st rfl (x_neq (p := (chk l)) (q := 0) (ev_tmp rfl rfl) rfl) ?_
      refine s_nil ?_
      refine hK47 _ _ ?_
      refine c_cond (b := !(decide (chk l = 0))) (ev_tmp rfl rfl) (fun h48 => ?_) (fun h48 => ?_)
      · have h49 : ¬ (chk l = 0) := of_decide_eq_false (not_t h48)
        refine c_seq fun K50 hK51 => ?_
        refine c_reg ?_
        refine st rfl (x_buildL (ps := []) (vs := []) (cs := #[Value.slice none 0 0]) trivial (by kernel_rfl)) ?_
        refine st rfl (x_move (v := Value.int .i64 (chk l)) (ev_tmp rfl rfl)) ?_
        refine sset (i := 0) (L' := [Own.cells b9 24 #[Value.slice none 0 0], Own.cells b6 24 #[Value.slice A l.length c]]) M15 rfl rfl (x_storew (cs := [Value.slice none 0 0]) sz_24 (ev_tmp rfl rfl) (ev_tmp rfl rfl) (M15.cells_at (i := 0) rfl) rfl ⟨rfl, trivial⟩) fun w52 M53 => ?_
        refine st rfl (x_assign (v := Value.int .i64 (chk l)) (ev_tmp rfl rfl)) ?_
        refine s_nil ?_
        refine hK51 _ _ ?_
        refine c_ret ?_
        refine hT3 _ _ ?_
        refine rm2 rfl (rL (cs := [Value.slice none 0 0]) (ev_tmp rfl rfl) Try.underlying24 rfl sz_24 (M53.range (i := 0) rfl ⟨rfl, trivial⟩)) (rT (ev_tmp (v := Value.int .i64 (chk l)) rfl rfl)) ?_
        have hc : chg f l number = ([], chk l) := chg8 h48
        rw [hc]
        exact ⟨none, 0, rfl, M53.below, SlB.nil _ _ _ _ _⟩
      · have h54 : chk l = 0 := of_decide_eq_true (not_f h48)
        obtain ⟨hr0, hr1, hr2, hr3⟩ := rng h31 h48
        refine c_skip ?_
        refine hK45 _ _ ?_
        refine c_seq fun K55 hK56 => ?_
        refine c_reg ?_
        refine st rfl (x_fieldv (b := b6) (o := 0) (q := 0) fa_24_0 (ev_tmp rfl rfl) rfl) ?_
        refine st rfl (x_load1 (v := Value.slice A l.length c) Try.underlying22 rfl (ev_tmp rfl rfl) (M15.cell (i := 1) (o := 0) rfl rfl)) ?_
        refine sC rfl (x_callL (xs := [.tmp 31]) (vs := [Value.slice A l.length c]) (cap := []) ent_36 rfl ⟨(ev_tmp rfl rfl), trivial⟩) (clone_c _ _ l _ (M15.slw (i := 0) rfl) (by omega)) ?_
        rintro _ w59 ⟨A57, c58, rfl, hb60, hr61⟩
        refine ⟨_, rfl, ?_⟩
        have M62 := M15.gotRow hb60 hr61
        refine st rfl (x_assign (v := Value.slice A57 l.length c58) (ev_tmp rfl rfl)) ?_
        refine s_nil ?_
        refine hK56 _ _ ?_
        refine c_seq fun K64 hK65 => ?_
        refine c_seq fun K66 hK67 => ?_
        refine c_reg ?_
        refine st rfl (x_move (v := Value.func (.func kf) #[] caps.toArray) (ev_tmp rfl rfl)) ?_
        refine st rfl (x_move (v := Value.slice A57 l.length c58) (ev_tmp rfl rfl)) ?_
        refine st rfl (x_move (v := Value.int .i64 number) (ev_tmp rfl rfl)) ?_
        have hw68 : IntKind.i64.wrap (number - 1) = number - 1 := w64 (by rfl) (by omega) (by omega)
        refine st rfl (x_sub_eq (p := number) (q := 1) (ev_tmp rfl rfl) rfl hw68) ?_
        obtain ⟨x69, hx70⟩ : ∃ x, l[(number - 1).toNat]? = some x := ⟨_, List.getElem?_eq_getElem (by omega)⟩
        obtain ⟨g71, pre72, post73, hA74, M75, hback76⟩ := M62.openRow (i := 0) (k := ((number - 1).toNat)) rfl rfl Trade.len hx70
        refine st rfl (x_elemA (b := g71) (o := 0) (k := ((number - 1).toNat)) ea_22 (ev_tmp rfl rfl) hA74 (ev_tmp rfl rfl) (by omega) (by omega)) ?_
        refine sC rfl (x_callL (xs := [.tmp 37]) (vs := [Value.pointer (some ⟨g71, 0 + ((number - 1).toNat) * 8, none⟩)]) (cap := caps) hE (ev_tmp rfl rfl) ⟨(ev_tmp rfl rfl), trivial⟩) (hdo _ _ _ _ _ x69 M75.below (M75.segnew (i := 0) rfl) (M75.segok (i := 0) rfl).1 (M75.segok (i := 0) rfl).2) ?_
        rintro _ w77 ⟨rfl, hk78, hg79⟩
        refine ⟨_, rfl, ?_⟩
        have M80 := M75.callW (i := 0) (y := Own.seg g71 34 (0 + ((number - 1).toNat) * 8) pre72 (Trade.cells (f x69).1).toArray post73) rfl hk78 rfl ⟨hg79, (M75.segok (i := 0) rfl).2⟩ rfl
        refine st rfl (x_assign (v := Value.int .i64 ((f x69).2)) (ev_tmp rfl rfl)) ?_
        refine s_nil ?_
        refine hK67 _ _ ?_
        refine c_seq fun K81 hK82 => ?_
        refine c_reg ?_
        refine st rfl (x_move (v := Value.int .i64 ((f x69).2)) (ev_tmp rfl rfl)) ?_
        refine st rfl (x_neq (p := ((f x69).2)) (q := 0) (ev_tmp rfl rfl) rfl) ?_
        refine s_nil ?_
        refine hK82 _ _ ?_
        refine c_cond (b := !(decide ((f x69).2 = 0))) (ev_tmp rfl rfl) (fun h83 => ?_) (fun h83 => ?_)
        · have h84 : ¬ ((f x69).2 = 0) := of_decide_eq_false (not_t h83)
          refine c_seq fun K85 hK86 => ?_
          refine c_reg ?_
          refine st rfl (x_buildL (ps := []) (vs := []) (cs := #[Value.slice none 0 0]) trivial (by kernel_rfl)) ?_
          refine st rfl (x_move (v := Value.int .i64 ((f x69).2)) (ev_tmp rfl rfl)) ?_
          refine sset (i := 1) (L' := [Own.seg g71 34 (0 + ((number - 1).toNat) * 8) pre72 #[Value.string ((f x69).1.b), Value.string ((f x69).1.s), Value.string ((f x69).1.p), Value.int .i64 ((f x69).1.q), Value.int .i64 ((f x69).1.r), Value.bool ((f x69).1.bo), Value.bool ((f x69).1.so), Value.int .u8 ((f x69).1.st)] post73, Own.cells b9 24 #[Value.slice none 0 0], Own.cells b6 24 #[Value.slice A l.length c]]) M80 rfl rfl (x_storew (cs := [Value.slice none 0 0]) sz_24 (ev_tmp rfl rfl) (ev_tmp rfl rfl) (M80.cells_at (i := 1) rfl) rfl ⟨rfl, trivial⟩) fun w87 M88 => ?_
          refine st rfl (x_assign (v := Value.int .i64 ((f x69).2)) (ev_tmp rfl rfl)) ?_
          refine s_nil ?_
          refine hK86 _ _ ?_
          refine c_ret ?_
          refine hT3 _ _ ?_
          refine rm2 rfl (rL (cs := [Value.slice none 0 0]) (ev_tmp rfl rfl) Try.underlying24 rfl sz_24 (M88.range (i := 1) rfl ⟨rfl, trivial⟩)) (rT (ev_tmp (v := Value.int .i64 ((f x69).2)) rfl rfl)) ?_
          have M89 := M88.closeRow (i := 0) rfl hA74 (hback76 ((f x69).1) w87)
          have hc : chg f l number = ([], (f x69).2) := chgE hr0 hr1 hr2 hx70 h83
          rw [hc]
          exact ⟨none, 0, rfl, M89.below, SlB.nil _ _ _ _ _⟩
        · have h90 : (f x69).2 = 0 := of_decide_eq_true (not_f h83)
          refine c_skip ?_
          refine hK65 _ _ ?_
          refine c_seq fun K91 hK92 => ?_
          refine c_reg ?_
          refine st rfl (x_move (v := Value.slice A57 l.length c58) (ev_tmp rfl rfl)) ?_
          refine st rfl (x_buildL (ps := [(0, .tmp 43)]) (vs := [(0, Value.slice A57 l.length c58)]) (cs := #[Value.slice A57 l.length c58]) ⟨⟨rfl, (ev_tmp rfl rfl)⟩, trivial⟩ (by kernel_rfl)) ?_
          refine sset (i := 1) (L' := [Own.seg g71 34 (0 + ((number - 1).toNat) * 8) pre72 #[Value.string ((f x69).1.b), Value.string ((f x69).1.s), Value.string ((f x69).1.p), Value.int .i64 ((f x69).1.q), Value.int .i64 ((f x69).1.r), Value.bool ((f x69).1.bo), Value.bool ((f x69).1.so), Value.int .u8 ((f x69).1.st)] post73, Own.cells b9 24 #[Value.slice A57 l.length c58], Own.cells b6 24 #[Value.slice A l.length c]]) M80 rfl rfl (x_storew (cs := [Value.slice A57 l.length c58]) sz_24 (ev_tmp rfl rfl) (ev_tmp rfl rfl) (M80.cells_at (i := 1) rfl) rfl ⟨rfl, trivial⟩) fun w93 M94 => ?_
          refine st rfl (x_assign (v := Value.int .i64 0) rfl) ?_
          refine s_nil ?_
          refine hK92 _ _ ?_
          refine c_ret ?_
          refine hT3 _ _ ?_
          refine rm2 rfl (rL (cs := [Value.slice A57 l.length c58]) (ev_tmp rfl rfl) Try.underlying24 rfl sz_24 (M94.range (i := 1) rfl ⟨rfl, trivial⟩)) (rT (ev_tmp (v := Value.int .i64 0) rfl rfl)) ?_
          have M95 := M94.closeRow (i := 0) rfl hA74 (hback76 ((f x69).1) w93)
          have hc : chg f l number = (l.set (number - 1).toNat (f x69).1, 0) := chgO hr0 hr1 hr2 hx70 h83
          rw [hc]
          refine ⟨_, _, ?_, M95.below, SlB.of_row (M95.rownew (i := 0) rfl) (by rw [List.length_set]) Trade.len⟩
          rw [List.length_set]
  clear hK22
  rcases bcase (decide (chk l = 0)) with hg24 | hg24
  · refine gf (b' := false) rfl rfl rfl (congrArg Value.bool hg24) rfl ?_
    refine gf (b' := false) rfl rfl rfl (congrArg Value.bool hg24) rfl ?_
    refine gf (b' := false) rfl rfl rfl (congrArg Value.bool hg24) rfl ?_
    refine gu rfl rfl rfl rfl ?_
    refine gu rfl rfl rfl rfl ?_
    refine gu rfl rfl rfl rfl ?_
    refine gu rfl rfl rfl rfl ?_
    refine gu rfl rfl rfl rfl ?_
    refine gf (b' := false) rfl rfl rfl (congrArg Value.bool hg24) rfl ?_
    refine st rfl (x_pick_f (v := Value.bool false) (ev_tmp rfl (congrArg Value.bool hg24)) rfl) ?_
    refine s_nil ?_
    exact j_to J23 ⟨(congrArg Value.bool (and_f hg24)), rfl, rfl, rfl, rfl, rfl, rfl, rfl, trivial⟩
  · have h25 : chk l = 0 := of_decide_eq_true hg24
    refine gt rfl rfl rfl (congrArg Value.bool hg24) (x_move (v := Value.int .i64 number) (ev_tmp rfl rfl)) ?_
    refine gt rfl rfl rfl (congrArg Value.bool hg24) (x_lss (p := number) (q := 1) (ev_tmp rfl rfl) rfl) ?_
    refine gt rfl rfl rfl (congrArg Value.bool hg24) (x_move (v := Value.bool (decide (number < 1))) (ev_tmp rfl rfl)) ?_
    refine s_meet6 fun K26 hK27 => ?_
    have J28 : ∀ jk, K26 (fr 45 ([(24, Value.bool ((decide (number < 1)) || (decide ((l.length : Int) < number)))), (1, Value.int .i64 number), (2, Value.func (.func kf) #[] caps.toArray), (3, Value.pointer (some ⟨b6, 0, none⟩)), (6, Value.pointer (some ⟨b9, 0, none⟩)), (7, Value.int .i64 0), (8, Value.int .i64 (chk l)), (15, Value.bool (decide (chk l = 0))), (18, Value.bool (decide (number < 1)))] ++ jk)) w14 := by
      intro jk
      refine hK27 _ _ ?_
      clear hK27
      refine st rfl (x_pick_t (v := Value.bool ((decide (number < 1)) || (decide ((l.length : Int) < number)))) (ev_tmp rfl (congrArg Value.bool hg24)) (ev_tmp rfl rfl)) ?_
      refine s_nil ?_
      exact j_to J23 ⟨(congrArg Value.bool (and_t hg24)), rfl, rfl, rfl, rfl, rfl, rfl, rfl, trivial⟩
    clear hK27
    rcases bcase (decide (number < 1)) with hg29 | hg29
    · have h30 : ¬ (number < 1) := of_decide_eq_false hg29
      refine gt rfl rfl rfl (congrArg Value.bool hg29) (x_move (v := Value.int .i64 number) (ev_tmp rfl rfl)) ?_
      refine gt rfl rfl rfl (congrArg Value.bool hg29) (x_fieldv (b := b6) (o := 0) (q := 0) fa_24_0 (ev_tmp rfl rfl) rfl) ?_
      refine gt rfl rfl rfl (congrArg Value.bool hg29) (x_load1 (v := Value.slice A l.length c) Try.underlying22 rfl (ev_tmp rfl rfl) (M15.cell (i := 1) (o := 0) rfl rfl)) ?_
      refine gt rfl rfl rfl (congrArg Value.bool hg29) (x_lensl (n := l.length) Try.underlying22 (ev_tmp rfl rfl)) ?_
      refine gt rfl rfl rfl (congrArg Value.bool hg29) (x_gtr (p := number) (q := (l.length : Int)) (ev_tmp rfl rfl) (ev_tmp rfl rfl)) ?_
      refine gt rfl rfl rfl (congrArg Value.bool hg24) (x_pick_f (v := Value.bool (decide ((l.length : Int) < number))) (ev_tmp rfl (congrArg Value.bool hg29)) (ev_tmp rfl rfl)) ?_
      refine s_nil ?_
      exact j_to J28 ⟨(congrArg Value.bool (or_f hg29)), rfl, rfl, rfl, rfl, rfl, rfl, rfl, rfl, trivial⟩
    · refine gf (b' := true) rfl rfl rfl (congrArg Value.bool hg29) rfl ?_
      refine gf (b' := true) rfl rfl rfl (congrArg Value.bool hg29) rfl ?_
      refine gf (b' := true) rfl rfl rfl (congrArg Value.bool hg29) rfl ?_
      refine gf (b' := true) rfl rfl rfl (congrArg Value.bool hg29) rfl ?_
      refine gf (b' := true) rfl rfl rfl (congrArg Value.bool hg29) rfl ?_
      refine gt rfl rfl rfl (congrArg Value.bool hg24) (x_pick_t (v := Value.bool true) (ev_tmp rfl (congrArg Value.bool hg29)) rfl) ?_
      refine s_nil ?_
      exact j_to J28 ⟨(congrArg Value.bool (or_t hg29)), rfl, rfl, rfl, rfl, rfl, rfl, rfl, rfl, trivial⟩

set_option maxHeartbeats 1000000 in
set_option maxRecDepth 20000 in
theorem confirm_c (A : Option Addr) (c : Nat) (l : List Trade) (number : Int) (y : ByteArray) (w : World) (hs : SlB 0 w.heap.size w A c 8 Trade.cells l) :
    Calls Try.prog 17 #[Value.agg #[Value.slice A l.length c], Value.int .i64 number, Value.string y] w fun e w' => ∃ A' c', e = .returned (.tuple #[.agg #[.slice A' (chg (confF y) l number |>.1).length c'], .int .i64 (chg (confF y) l number |>.2)]) ∧ Below w.heap.size w w' ∧ SlB w.heap.size w'.heap.size w' A' c' 8 Trade.cells (chg (confF y) l number |>.1) := by
  have M0 := Mem.start w []
  have M1 := M0.see (Ro.sl 0 w.heap.size A c 8 Trade.cells l) (hs) (Nat.le_refl _)
  refine enter (args := [Value.agg #[Value.slice A l.length c], Value.int .i64 number, Value.string y]) Try.func17 rfl (n := 14) rfl rfl fun T2 hT3 => ?_
  refine c_seq fun K4 hK5 => ?_
  refine c_reg ?_
  refine snew (cs := #[Value.slice A l.length c]) M1 rfl (x_box (v := Value.agg #[Value.slice A l.length c]) (ev_tmp rfl rfl)) fun b6 w7 M8 => ?_
  refine snew (cs := #[Value.string y]) M8 rfl (x_box (v := Value.string y) (ev_tmp rfl rfl)) fun b9 w10 M11 => ?_
  refine snew (cs := #[Value.slice none 0 0]) M11 rfl (x_allocz z_24) fun b12 w13 M14 => ?_
  refine st rfl (x_assign (v := Value.int .i64 0) rfl) ?_
  refine s_nil ?_
  refine hK5 _ _ ?_
  refine c_seq fun K15 hK16 => ?_
  refine c_reg ?_
  refine st rfl (x_loadw (cs := [Value.slice A l.length c]) Try.underlying24 rfl sz_24 (ev_tmp rfl rfl) (M14.range (i := 2) rfl ⟨rfl, trivial⟩)) ?_
  refine st rfl (x_move (v := Value.int .i64 number) (ev_tmp rfl rfl)) ?_
  refine st rfl (x_makeFuncL (xs := [.tmp 5]) (vs := [Value.pointer (some ⟨b9, 0, none⟩)]) ⟨(ev_tmp rfl rfl), trivial⟩) ?_
  have hpt17 : Pt w13 b9 0 [Value.string y] := M14.cellspt (i := 1) rfl
  refine sC rfl (x_callL (xs := [.tmp 8, .tmp 9, .tmp 10]) (vs := [Value.agg #[Value.slice A l.length c], Value.int .i64 number, Value.func (.func 38) #[] #[Value.pointer (some ⟨b9, 0, none⟩)]]) (cap := []) ent_37 rfl ⟨(ev_tmp rfl rfl), (ev_tmp rfl rfl), (ev_tmp rfl rfl), trivial⟩) (change_c 38 [Value.pointer (some ⟨b9, 0, none⟩)] (confF y) _ _ l number _ (M14.slw (i := 0) rfl) ent_38 (fun w1 g o pre post x hb hlo hg ho => confirm1_c g o pre post x b9 y w1 hg ho (hpt17.below hb) (by have := hpt17.1; omega))) ?_
  rintro _ w20 ⟨A18, c19, rfl, hb21, hs22⟩
  refine ⟨_, rfl, ?_⟩
  have M23 := M14.gotSl hb21 hs22
  refine st rfl (x_extract (v := Value.agg #[Value.slice A18 (((chg (confF y) l number).1).length) c19]) (ev_tmp rfl rfl) rfl) ?_
  refine st rfl (x_extract (v := Value.int .i64 ((chg (confF y) l number).2)) (ev_tmp rfl rfl) rfl) ?_
  refine sset (i := 0) (L' := [Own.cells b12 24 #[Value.slice A18 (((chg (confF y) l number).1).length) c19], Own.cells b9 9 #[Value.string y], Own.cells b6 24 #[Value.slice A l.length c]]) M23 rfl rfl (x_storew (cs := [Value.slice A18 (((chg (confF y) l number).1).length) c19]) sz_24 (ev_tmp rfl rfl) (ev_tmp rfl rfl) (M23.cells_at (i := 0) rfl) rfl ⟨rfl, trivial⟩) fun w25 M26 => ?_
  refine st rfl (x_assign (v := Value.int .i64 ((chg (confF y) l number).2)) (ev_tmp rfl rfl)) ?_
  refine s_nil ?_
  refine hK16 _ _ ?_
  refine c_ret ?_
  refine hT3 _ _ ?_
  refine rm2 rfl (rL (cs := [Value.slice A18 (((chg (confF y) l number).1).length) c19]) (ev_tmp rfl rfl) Try.underlying24 rfl sz_24 (M26.range (i := 0) rfl ⟨rfl, trivial⟩)) (rT (ev_tmp (v := Value.int .i64 ((chg (confF y) l number).2)) rfl rfl)) ?_
  exact ⟨_, _, rfl, M26.below, M26.slout (i := 0) rfl M14.size⟩

set_option maxHeartbeats 1000000 in
set_option maxRecDepth 20000 in
theorem refuse_c (A : Option Addr) (c : Nat) (l : List Trade) (number : Int) (y : ByteArray) (w : World) (hs : SlB 0 w.heap.size w A c 8 Trade.cells l) :
    Calls Try.prog 23 #[Value.agg #[Value.slice A l.length c], Value.int .i64 number, Value.string y] w fun e w' => ∃ A' c', e = .returned (.tuple #[.agg #[.slice A' (chg (refF y) l number |>.1).length c'], .int .i64 (chg (refF y) l number |>.2)]) ∧ Below w.heap.size w w' ∧ SlB w.heap.size w'.heap.size w' A' c' 8 Trade.cells (chg (refF y) l number |>.1) := by
  have M0 := Mem.start w []
  have M1 := M0.see (Ro.sl 0 w.heap.size A c 8 Trade.cells l) (hs) (Nat.le_refl _)
  refine enter (args := [Value.agg #[Value.slice A l.length c], Value.int .i64 number, Value.string y]) Try.func23 rfl (n := 14) rfl rfl fun T2 hT3 => ?_
  refine c_seq fun K4 hK5 => ?_
  refine c_reg ?_
  refine snew (cs := #[Value.slice A l.length c]) M1 rfl (x_box (v := Value.agg #[Value.slice A l.length c]) (ev_tmp rfl rfl)) fun b6 w7 M8 => ?_
  refine snew (cs := #[Value.string y]) M8 rfl (x_box (v := Value.string y) (ev_tmp rfl rfl)) fun b9 w10 M11 => ?_
  refine snew (cs := #[Value.slice none 0 0]) M11 rfl (x_allocz z_24) fun b12 w13 M14 => ?_
  refine st rfl (x_assign (v := Value.int .i64 0) rfl) ?_
  refine s_nil ?_
  refine hK5 _ _ ?_
  refine c_seq fun K15 hK16 => ?_
  refine c_reg ?_
  refine st rfl (x_loadw (cs := [Value.slice A l.length c]) Try.underlying24 rfl sz_24 (ev_tmp rfl rfl) (M14.range (i := 2) rfl ⟨rfl, trivial⟩)) ?_
  refine st rfl (x_move (v := Value.int .i64 number) (ev_tmp rfl rfl)) ?_
  refine st rfl (x_makeFuncL (xs := [.tmp 5]) (vs := [Value.pointer (some ⟨b9, 0, none⟩)]) ⟨(ev_tmp rfl rfl), trivial⟩) ?_
  have hpt17 : Pt w13 b9 0 [Value.string y] := M14.cellspt (i := 1) rfl
  refine sC rfl (x_callL (xs := [.tmp 8, .tmp 9, .tmp 10]) (vs := [Value.agg #[Value.slice A l.length c], Value.int .i64 number, Value.func (.func 45) #[] #[Value.pointer (some ⟨b9, 0, none⟩)]]) (cap := []) ent_37 rfl ⟨(ev_tmp rfl rfl), (ev_tmp rfl rfl), (ev_tmp rfl rfl), trivial⟩) (change_c 45 [Value.pointer (some ⟨b9, 0, none⟩)] (refF y) _ _ l number _ (M14.slw (i := 0) rfl) ent_45 (fun w1 g o pre post x hb hlo hg ho => refuse1_c g o pre post x b9 y w1 hg ho (hpt17.below hb) (by have := hpt17.1; omega))) ?_
  rintro _ w20 ⟨A18, c19, rfl, hb21, hs22⟩
  refine ⟨_, rfl, ?_⟩
  have M23 := M14.gotSl hb21 hs22
  refine st rfl (x_extract (v := Value.agg #[Value.slice A18 (((chg (refF y) l number).1).length) c19]) (ev_tmp rfl rfl) rfl) ?_
  refine st rfl (x_extract (v := Value.int .i64 ((chg (refF y) l number).2)) (ev_tmp rfl rfl) rfl) ?_
  refine sset (i := 0) (L' := [Own.cells b12 24 #[Value.slice A18 (((chg (refF y) l number).1).length) c19], Own.cells b9 9 #[Value.string y], Own.cells b6 24 #[Value.slice A l.length c]]) M23 rfl rfl (x_storew (cs := [Value.slice A18 (((chg (refF y) l number).1).length) c19]) sz_24 (ev_tmp rfl rfl) (ev_tmp rfl rfl) (M23.cells_at (i := 0) rfl) rfl ⟨rfl, trivial⟩) fun w25 M26 => ?_
  refine st rfl (x_assign (v := Value.int .i64 ((chg (refF y) l number).2)) (ev_tmp rfl rfl)) ?_
  refine s_nil ?_
  refine hK16 _ _ ?_
  refine c_ret ?_
  refine hT3 _ _ ?_
  refine rm2 rfl (rL (cs := [Value.slice A18 (((chg (refF y) l number).1).length) c19]) (ev_tmp rfl rfl) Try.underlying24 rfl sz_24 (M26.range (i := 0) rfl ⟨rfl, trivial⟩)) (rT (ev_tmp (v := Value.int .i64 ((chg (refF y) l number).2)) rfl rfl)) ?_
  exact ⟨_, _, rfl, M26.below, M26.slout (i := 0) rfl M14.size⟩

set_option maxHeartbeats 1000000 in
set_option maxRecDepth 20000 in
theorem undo_c (A : Option Addr) (c : Nat) (l : List Trade) (number : Int) (w : World) (hs : SlB 0 w.heap.size w A c 8 Trade.cells l) :
    Calls Try.prog 18 #[Value.agg #[Value.slice A l.length c], Value.int .i64 number] w fun e w' => ∃ A' c', e = .returned (.tuple #[.agg #[.slice A' (chg undoF l number |>.1).length c'], .int .i64 (chg undoF l number |>.2)]) ∧ Below w.heap.size w w' ∧ SlB w.heap.size w'.heap.size w' A' c' 8 Trade.cells (chg undoF l number |>.1) := by
  have M0 := Mem.start w []
  have M1 := M0.see (Ro.sl 0 w.heap.size A c 8 Trade.cells l) (hs) (Nat.le_refl _)
  refine enter (args := [Value.agg #[Value.slice A l.length c], Value.int .i64 number]) Try.func18 rfl (n := 11) rfl rfl fun T2 hT3 => ?_
  refine c_seq fun K4 hK5 => ?_
  refine c_reg ?_
  refine snew (cs := #[Value.slice A l.length c]) M1 rfl (x_box (v := Value.agg #[Value.slice A l.length c]) (ev_tmp rfl rfl)) fun b6 w7 M8 => ?_
  refine snew (cs := #[Value.slice none 0 0]) M8 rfl (x_allocz z_24) fun b9 w10 M11 => ?_
  refine st rfl (x_assign (v := Value.int .i64 0) rfl) ?_
  refine s_nil ?_
  refine hK5 _ _ ?_
  refine c_seq fun K12 hK13 => ?_
  refine c_reg ?_
  refine st rfl (x_loadw (cs := [Value.slice A l.length c]) Try.underlying24 rfl sz_24 (ev_tmp rfl rfl) (M11.range (i := 1) rfl ⟨rfl, trivial⟩)) ?_
  refine st rfl (x_move (v := Value.int .i64 number) (ev_tmp rfl rfl)) ?_
  refine sC rfl (x_callL (xs := [.tmp 6, .tmp 7, .func 40]) (vs := [Value.agg #[Value.slice A l.length c], Value.int .i64 number, Value.func (.func 40) #[] #[]]) (cap := []) ent_37 rfl ⟨(ev_tmp rfl rfl), (ev_tmp rfl rfl), rfl, trivial⟩) (change_c 40 [] undoF _ _ l number _ (M11.slw (i := 0) rfl) ent_40 (fun w1 g o pre post x hb hlo hg ho => undo1_c g o pre post x w1 hg ho)) ?_
  rintro _ w16 ⟨A14, c15, rfl, hb17, hs18⟩
  refine ⟨_, rfl, ?_⟩
  have M19 := M11.gotSl hb17 hs18
  refine st rfl (x_extract (v := Value.agg #[Value.slice A14 (((chg undoF l number).1).length) c15]) (ev_tmp rfl rfl) rfl) ?_
  refine st rfl (x_extract (v := Value.int .i64 ((chg undoF l number).2)) (ev_tmp rfl rfl) rfl) ?_
  refine sset (i := 0) (L' := [Own.cells b9 24 #[Value.slice A14 (((chg undoF l number).1).length) c15], Own.cells b6 24 #[Value.slice A l.length c]]) M19 rfl rfl (x_storew (cs := [Value.slice A14 (((chg undoF l number).1).length) c15]) sz_24 (ev_tmp rfl rfl) (ev_tmp rfl rfl) (M19.cells_at (i := 0) rfl) rfl ⟨rfl, trivial⟩) fun w21 M22 => ?_
  refine st rfl (x_assign (v := Value.int .i64 ((chg undoF l number).2)) (ev_tmp rfl rfl)) ?_
  refine s_nil ?_
  refine hK13 _ _ ?_
  refine c_ret ?_
  refine hT3 _ _ ?_
  refine rm2 rfl (rL (cs := [Value.slice A14 (((chg undoF l number).1).length) c15]) (ev_tmp rfl rfl) Try.underlying24 rfl sz_24 (M22.range (i := 0) rfl ⟨rfl, trivial⟩)) (rT (ev_tmp (v := Value.int .i64 ((chg undoF l number).2)) rfl rfl)) ?_
  exact ⟨_, _, rfl, M22.below, M22.slout (i := 0) rfl M11.size⟩

set_option maxHeartbeats 1000000 in
set_option maxRecDepth 20000 in
theorem new_c (w : World) :
    Calls Try.prog 19 #[] w fun e w' => e = .returned (.agg #[.slice none 0 0]) ∧ Below w.heap.size w w' := by
  have M0 := Mem.start w []
  refine enter (args := []) Try.func19 rfl (n := 2) rfl rfl fun T1 hT2 => ?_
  refine c_seq fun K3 hK4 => ?_
  refine c_reg ?_
  refine snew (cs := #[Value.slice none 0 0]) M0 rfl (x_allocz z_24) fun b5 w6 M7 => ?_
  refine s_nil ?_
  refine hK4 _ _ ?_
  refine c_seq fun K8 hK9 => ?_
  refine c_reg ?_
  refine st rfl (x_buildL (ps := []) (vs := []) (cs := #[Value.slice none 0 0]) trivial (by kernel_rfl)) ?_
  refine sset (i := 0) (L' := [Own.cells b5 24 #[Value.slice none 0 0]]) M7 rfl rfl (x_storew (cs := [Value.slice none 0 0]) sz_24 (ev_tmp rfl rfl) (ev_tmp rfl rfl) (M7.cells_at (i := 0) rfl) rfl ⟨rfl, trivial⟩) fun w10 M11 => ?_
  refine s_nil ?_
  refine hK9 _ _ ?_
  refine c_ret ?_
  refine hT2 _ _ ?_
  refine rm1 rfl (rL (cs := [Value.slice none 0 0]) (ev_tmp rfl rfl) Try.underlying24 rfl sz_24 (M11.range (i := 0) rfl ⟨rfl, trivial⟩)) ?_
  exact ⟨rfl, M11.below⟩

set_option maxHeartbeats 1000000 in
set_option maxRecDepth 20000 in
theorem submit_c (A : Option Addr) (c : Nat) (l : List Trade) (y s p : ByteArray) (q r : Int) (w : World) (hs : SlB 0 w.heap.size w A c 8 Trade.cells l) :
    Calls Try.prog 15 #[Value.agg #[Value.slice A l.length c], Value.string y, Value.string s, Value.string p, Value.int .i64 q, Value.int .i64 r] w fun e w' => ∃ A' c', e = .returned (.tuple #[.agg #[.slice A' (sub l (newT y s p q r)).1.length c'], .int .i64 (sub l (newT y s p q r)).2.1, .int .i64 (sub l (newT y s p q r)).2.2]) ∧ Below w.heap.size w w' ∧ SlB w.heap.size w'.heap.size w' A' c' 8 Trade.cells (sub l (newT y s p q r)).1 := by
  have M0 := Mem.start w []
  have M1 := M0.see (Ro.sl 0 w.heap.size A c 8 Trade.cells l) (hs) (Nat.le_refl _)
  refine enter (args := [Value.agg #[Value.slice A l.length c], Value.string y, Value.string s, Value.string p, Value.int .i64 q, Value.int .i64 r]) Try.func15 rfl (n := 52) rfl rfl fun T2 hT3 => ?_
  refine c_seq fun K4 hK5 => ?_
  refine c_reg ?_
  refine snew (cs := #[Value.slice A l.length c]) M1 rfl (x_box (v := Value.agg #[Value.slice A l.length c]) (ev_tmp rfl rfl)) fun b6 w7 M8 => ?_
  refine snew (cs := #[Value.slice none 0 0]) M8 rfl (x_allocz z_24) fun b9 w10 M11 => ?_
  refine st rfl (x_assign (v := Value.int .i64 0) rfl) ?_
  refine st rfl (x_assign (v := Value.int .i64 0) rfl) ?_
  refine s_nil ?_
  refine hK5 _ _ ?_
  refine c_seq fun K12 hK13 => ?_
  refine c_reg ?_
  refine st rfl (x_move (v := Value.string y) (ev_tmp rfl rfl)) ?_
  refine st rfl (x_move (v := Value.string s) (ev_tmp rfl rfl)) ?_
  refine st rfl (x_move (v := Value.string p) (ev_tmp rfl rfl)) ?_
  refine st rfl (x_move (v := Value.int .i64 q) (ev_tmp rfl rfl)) ?_
  refine st rfl (x_move (v := Value.int .i64 r) (ev_tmp rfl rfl)) ?_
  refine st rfl (x_buildL (ps := [(0, .tmp 18), (1, .tmp 19), (2, .tmp 20), (3, .tmp 21), (4, .tmp 22)]) (vs := [(0, Value.string y), (1, Value.string s), (2, Value.string p), (3, Value.int .i64 q), (4, Value.int .i64 r)]) (cs := #[Value.string y, Value.string s, Value.string p, Value.int .i64 q, Value.int .i64 r, Value.bool false, Value.bool false, Value.int .u8 0]) ⟨⟨rfl, (ev_tmp rfl rfl)⟩, ⟨rfl, (ev_tmp rfl rfl)⟩, ⟨rfl, (ev_tmp rfl rfl)⟩, ⟨rfl, (ev_tmp rfl rfl)⟩, ⟨rfl, (ev_tmp rfl rfl)⟩, trivial⟩ (by kernel_rfl)) ?_
  refine snew (cs := #[Value.string ByteArray.empty, Value.string ByteArray.empty, Value.string ByteArray.empty, Value.int .i64 0, Value.int .i64 0, Value.bool false, Value.bool false, Value.int .u8 0]) M11 rfl (x_allocz z_34) fun b14 w15 M16 => ?_
  refine sset (i := 0) (L' := [Own.cells b14 34 #[Value.string y, Value.string s, Value.string p, Value.int .i64 q, Value.int .i64 r, Value.bool false, Value.bool false, Value.int .u8 0], Own.cells b9 24 #[Value.slice none 0 0], Own.cells b6 24 #[Value.slice A l.length c]]) M16 rfl rfl (x_storew (cs := [Value.string y, Value.string s, Value.string p, Value.int .i64 q, Value.int .i64 r, Value.bool false, Value.bool false, Value.int .u8 0]) sz_34 (ev_tmp rfl rfl) (ev_tmp rfl rfl) (M16.cells_at (i := 0) rfl) rfl ⟨rfl, rfl, rfl, rfl, rfl, rfl, rfl, rfl, trivial⟩) fun w17 M18 => ?_
  refine s_nil ?_
  refine hK13 _ _ ?_
  refine c_seq fun K19 hK20 => ?_
  refine c_reg ?_
  refine st rfl (x_loadw (cs := [Value.slice A l.length c]) Try.underlying24 rfl sz_24 (ev_tmp rfl rfl) (M18.range (i := 2) rfl ⟨rfl, trivial⟩)) ?_
  refine sC rfl (x_callL (xs := [.tmp 24]) (vs := [Value.agg #[Value.slice A l.length c]]) (cap := []) ent_13 rfl ⟨(ev_tmp rfl rfl), trivial⟩) (check_c _ _ l _ (M18.slw (i := 0) rfl)) ?_
  rintro _ w21 ⟨rfl, hb23⟩
  refine ⟨_, rfl, ?_⟩
  have M22 := M18.call hb23
  refine st rfl (x_assign (v := Value.int .i64 (chk l)) (ev_tmp rfl rfl)) ?_
  refine s_nil ?_
  refine hK20 _ _ ?_
  refine c_seq fun K24 hK25 => ?_
  refine c_block ?_
  refine c_seq fun K26 hK27 => ?_
  refine c_reg ?_
  refine st rfl (x_move (v := Value.int .i64 (chk l)) (ev_tmp rfl rfl)) ?_
  refine st rfl (x_neq (p := (chk l)) (q := 0) (ev_tmp rfl rfl) rfl) ?_
  refine st rfl (x_assign (v := Value.bool (!(decide (chk l = 0)))) (ev_tmp rfl rfl)) ?_
  refine s_nil ?_
  refine hK27 _ _ ?_
  refine c_cond (b := !(decide (chk l = 0))) (ev_tmp rfl rfl) (fun h28 => ?_) (fun h28 => ?_)
  · have h29 : ¬ (chk l = 0) := of_decide_eq_false (not_t h28)
    refine c_skip ?_
    refine hK25 _ _ ?_
    refine c_seq fun K30 hK31 => ?_
    refine c_seq fun K32 hK33 => ?_
    refine c_reg ?_
    refine st rfl (x_move (v := Value.int .i64 (chk l)) (ev_tmp rfl rfl)) ?_
    refine st rfl (x_neq (p := (chk l)) (q := 0) (ev_tmp rfl rfl) rfl) ?_
    refine s_nil ?_
    refine hK33 _ _ ?_
    refine c_cond (b := !(decide (chk l = 0))) (ev_tmp rfl rfl) (fun h34 => ?_) (fun h34 => ?_)
    · have h35 : ¬ (chk l = 0) := of_decide_eq_false (not_t h34)
      refine c_seq fun K36 hK37 => ?_
      refine c_reg ?_
      refine st rfl (x_buildL (ps := []) (vs := []) (cs := #[Value.slice none 0 0]) trivial (by kernel_rfl)) ?_
      refine st rfl (x_move (v := Value.int .i64 (chk l)) (ev_tmp rfl rfl)) ?_
      refine sset (i := 1) (L' := [Own.cells b14 34 #[Value.string y, Value.string s, Value.string p, Value.int .i64 q, Value.int .i64 r, Value.bool false, Value.bool false, Value.int .u8 0], Own.cells b9 24 #[Value.slice none 0 0], Own.cells b6 24 #[Value.slice A l.length c]]) M22 rfl rfl (x_storew (cs := [Value.slice none 0 0]) sz_24 (ev_tmp rfl rfl) (ev_tmp rfl rfl) (M22.cells_at (i := 1) rfl) rfl ⟨rfl, trivial⟩) fun w38 M39 => ?_
      refine st rfl (x_assign (v := Value.int .i64 0) rfl) ?_
      refine st rfl (x_assign (v := Value.int .i64 (chk l)) (ev_tmp rfl rfl)) ?_
      refine s_nil ?_
      refine hK37 _ _ ?_
      refine c_ret ?_
      refine hT3 _ _ ?_
      refine rm3 rfl (rL (cs := [Value.slice none 0 0]) (ev_tmp rfl rfl) Try.underlying24 rfl sz_24 (M39.range (i := 1) rfl ⟨rfl, trivial⟩)) (rT (ev_tmp (v := Value.int .i64 0) rfl rfl)) (rT (ev_tmp (v := Value.int .i64 (chk l)) rfl rfl)) ?_
      rw [sub8 h28]
      exact ⟨none, 0, rfl, M39.below, SlB.nil _ _ _ _ _⟩
    · have h40 : chk l = 0 := of_decide_eq_true (not_f h34)
      exact absurd (h28.symm.trans h34) (by simp)
  · have h41 : chk l = 0 := of_decide_eq_true (not_f h28)
    refine c_seq fun K42 hK43 => ?_
    refine c_reg ?_
    refine st rfl (x_loadw (cs := [Value.string y, Value.string s, Value.string p, Value.int .i64 q, Value.int .i64 r, Value.bool false, Value.bool false, Value.int .u8 0]) Try.underlying34 rfl sz_34 (ev_tmp rfl rfl) (M22.range (i := 0) rfl ⟨rfl, rfl, rfl, rfl, rfl, rfl, rfl, rfl, trivial⟩)) ?_
    refine sC rfl (x_callL (xs := [.tmp 30]) (vs := [Value.agg #[Value.string y, Value.string s, Value.string p, Value.int .i64 q, Value.int .i64 r, Value.bool false, Value.bool false, Value.int .u8 0]]) (cap := []) ent_35 rfl ⟨(ev_tmp rfl rfl), trivial⟩) (agreed_c (newT y s p q r) _) ?_
    rintro _ w44 ⟨rfl, hb46⟩
    refine ⟨_, rfl, ?_⟩
    have M45 := M22.call hb46
    refine st rfl (x_not (b := (termsB (newT y s p q r))) (ev_tmp rfl rfl)) ?_
    refine st rfl (x_assign (v := Value.bool (!(termsB (newT y s p q r)))) (ev_tmp rfl rfl)) ?_
    refine s_nil ?_
    refine hK43 _ _ ?_
    refine c_cond (b := !(termsB (newT y s p q r))) (ev_tmp rfl rfl) (fun h47 => ?_) (fun h47 => ?_)
    · have h48 : termsB (newT y s p q r) = false := not_t h47
      refine c_reg ?_
      refine st rfl (x_assign (v := Value.int .i64 2) rfl) ?_
      refine s_nil ?_
      refine hK25 _ _ ?_
      refine c_seq fun K49 hK50 => ?_
      refine c_seq fun K51 hK52 => ?_
      refine c_reg ?_
      refine st rfl (x_move (v := Value.int .i64 2) (ev_tmp rfl rfl)) ?_
      refine st rfl (x_neq (p := 2) (q := 0) (ev_tmp rfl rfl) rfl) ?_
      refine s_nil ?_
      refine hK52 _ _ ?_
      refine c_cond_t (ev_tmp rfl rfl) ?_
      refine c_seq fun K54 hK55 => ?_
      refine c_reg ?_
      refine st rfl (x_buildL (ps := []) (vs := []) (cs := #[Value.slice none 0 0]) trivial (by kernel_rfl)) ?_
      refine st rfl (x_move (v := Value.int .i64 2) (ev_tmp rfl rfl)) ?_
      refine sset (i := 1) (L' := [Own.cells b14 34 #[Value.string y, Value.string s, Value.string p, Value.int .i64 q, Value.int .i64 r, Value.bool false, Value.bool false, Value.int .u8 0], Own.cells b9 24 #[Value.slice none 0 0], Own.cells b6 24 #[Value.slice A l.length c]]) M45 rfl rfl (x_storew (cs := [Value.slice none 0 0]) sz_24 (ev_tmp rfl rfl) (ev_tmp rfl rfl) (M45.cells_at (i := 1) rfl) rfl ⟨rfl, trivial⟩) fun w56 M57 => ?_
      refine st rfl (x_assign (v := Value.int .i64 0) rfl) ?_
      refine st rfl (x_assign (v := Value.int .i64 2) (ev_tmp rfl rfl)) ?_
      refine s_nil ?_
      refine hK55 _ _ ?_
      refine c_ret ?_
      refine hT3 _ _ ?_
      refine rm3 rfl (rL (cs := [Value.slice none 0 0]) (ev_tmp rfl rfl) Try.underlying24 rfl sz_24 (M57.range (i := 1) rfl ⟨rfl, trivial⟩)) (rT (ev_tmp (v := Value.int .i64 0) rfl rfl)) (rT (ev_tmp (v := Value.int .i64 2) rfl rfl)) ?_
      rw [sub2 h28 h47]
      exact ⟨none, 0, rfl, M57.below, SlB.nil _ _ _ _ _⟩
    · have h58 : termsB (newT y s p q r) = true := not_f h47
      refine c_seq fun K59 hK60 => ?_
      refine c_reg ?_
      refine st rfl (x_fieldv (b := b6) (o := 0) (q := 0) fa_24_0 (ev_tmp rfl rfl) rfl) ?_
      refine st rfl (x_load1 (v := Value.slice A l.length c) Try.underlying22 rfl (ev_tmp rfl rfl) (M45.cell (i := 2) (o := 0) rfl rfl)) ?_
      refine st rfl (x_lensl (n := l.length) Try.underlying22 (ev_tmp rfl rfl)) ?_
      refine st rfl (x_eql (p := (l.length : Int)) (q := 200) (ev_tmp rfl rfl) rfl) ?_
      refine st rfl (x_assign (v := Value.bool (decide ((l.length : Int) = 200))) (ev_tmp rfl rfl)) ?_
      refine s_nil ?_
      refine hK60 _ _ ?_
      refine c_cond (b := decide ((l.length : Int) = 200)) (ev_tmp rfl rfl) (fun h61 => ?_) (fun h61 => ?_)
      · have h62 : (l.length : Int) = 200 := of_decide_eq_true h61
        refine c_reg ?_
        refine st rfl (x_assign (v := Value.int .i64 22) rfl) ?_
        refine s_nil ?_
        refine hK25 _ _ ?_
        refine c_seq fun K63 hK64 => ?_
        refine c_seq fun K65 hK66 => ?_
        refine c_reg ?_
        refine st rfl (x_move (v := Value.int .i64 22) (ev_tmp rfl rfl)) ?_
        refine st rfl (x_neq (p := 22) (q := 0) (ev_tmp rfl rfl) rfl) ?_
        refine s_nil ?_
        refine hK66 _ _ ?_
        refine c_cond_t (ev_tmp rfl rfl) ?_
        refine c_seq fun K68 hK69 => ?_
        refine c_reg ?_
        refine st rfl (x_buildL (ps := []) (vs := []) (cs := #[Value.slice none 0 0]) trivial (by kernel_rfl)) ?_
        refine st rfl (x_move (v := Value.int .i64 22) (ev_tmp rfl rfl)) ?_
        refine sset (i := 1) (L' := [Own.cells b14 34 #[Value.string y, Value.string s, Value.string p, Value.int .i64 q, Value.int .i64 r, Value.bool false, Value.bool false, Value.int .u8 0], Own.cells b9 24 #[Value.slice none 0 0], Own.cells b6 24 #[Value.slice A l.length c]]) M45 rfl rfl (x_storew (cs := [Value.slice none 0 0]) sz_24 (ev_tmp rfl rfl) (ev_tmp rfl rfl) (M45.cells_at (i := 1) rfl) rfl ⟨rfl, trivial⟩) fun w70 M71 => ?_
        refine st rfl (x_assign (v := Value.int .i64 0) rfl) ?_
        refine st rfl (x_assign (v := Value.int .i64 22) (ev_tmp rfl rfl)) ?_
        refine s_nil ?_
        refine hK69 _ _ ?_
        refine c_ret ?_
        refine hT3 _ _ ?_
        refine rm3 rfl (rL (cs := [Value.slice none 0 0]) (ev_tmp rfl rfl) Try.underlying24 rfl sz_24 (M71.range (i := 1) rfl ⟨rfl, trivial⟩)) (rT (ev_tmp (v := Value.int .i64 0) rfl rfl)) (rT (ev_tmp (v := Value.int .i64 22) rfl rfl)) ?_
        rw [sub22 h28 h47 h61]
        exact ⟨none, 0, rfl, M71.below, SlB.nil _ _ _ _ _⟩
      · have h72 : ¬ ((l.length : Int) = 200) := of_decide_eq_false h61
        obtain ⟨hl0, hl1⟩ := sublen h28 h61
        refine c_skip ?_
        refine hK25 _ _ ?_
        refine c_seq fun K73 hK74 => ?_
        refine c_seq fun K75 hK76 => ?_
        refine c_reg ?_
        refine st rfl (x_move (v := Value.int .i64 (chk l)) (ev_tmp rfl rfl)) ?_
        refine st rfl (x_neq (p := (chk l)) (q := 0) (ev_tmp rfl rfl) rfl) ?_
        refine s_nil ?_
        refine hK76 _ _ ?_
        refine c_cond (b := !(decide (chk l = 0))) (ev_tmp rfl rfl) (fun h77 => ?_) (fun h77 => ?_)
        · have h78 : ¬ (chk l = 0) := of_decide_eq_false (not_t h77)
          exact absurd (h28.symm.trans h77) (by simp)
        · have h79 : chk l = 0 := of_decide_eq_true (not_f h77)
          refine c_skip ?_
          refine hK74 _ _ ?_
          refine c_seq fun K80 hK81 => ?_
          have J114 : ∀ (b91 : Nat) (A94 : Option Addr) (c95 : Nat) jk w1, Mem w [] w1 [Own.cells b91 34 #[Value.string y, Value.string s, Value.string p, Value.int .i64 q, Value.int .i64 r, Value.bool false, Value.bool false, Value.int .u8 0], Own.row 34 8 (Value.slice A94 (l.length + 1) c95) (l.length + 1) ((l ++ [newT y s p q r]).flatMap Trade.cells), Own.cells b14 34 #[Value.string y, Value.string s, Value.string p, Value.int .i64 q, Value.int .i64 r, Value.bool false, Value.bool false, Value.int .u8 0], Own.cells b9 24 #[Value.slice none 0 0], Own.cells b6 24 #[Value.slice A l.length c]] [Ro.sl 0 w.heap.size A c 8 Trade.cells l] → K80 (fr 52 ([(12, Value.pointer (some ⟨b9, 0, none⟩)), (13, Value.int .i64 0), (14, Value.int .i64 0), (17, Value.slice A94 (l.length + 1) c95)] ++ jk)) w1 := by
            intro b91 A94 c95 jk w115 M116
            refine hK81 _ _ ?_
            refine c_seq fun K117 hK118 => ?_
            refine c_reg ?_
            refine st rfl (x_move (v := Value.slice A94 (l.length + 1) c95) (ev_tmp rfl rfl)) ?_
            refine st rfl (x_buildL (ps := [(0, .tmp 48)]) (vs := [(0, Value.slice A94 (l.length + 1) c95)]) (cs := #[Value.slice A94 (l.length + 1) c95]) ⟨⟨rfl, (ev_tmp rfl rfl)⟩, trivial⟩ (by kernel_rfl)) ?_
            refine st rfl (x_move (v := Value.slice A94 (l.length + 1) c95) (ev_tmp rfl rfl)) ?_
            refine st rfl (x_lensl (n := (l.length + 1)) Try.underlying22 (ev_tmp rfl rfl)) ?_
            refine sset (i := 3) (L' := [Own.cells b91 34 #[Value.string y, Value.string s, Value.string p, Value.int .i64 q, Value.int .i64 r, Value.bool false, Value.bool false, Value.int .u8 0], Own.row 34 8 (Value.slice A94 (l.length + 1) c95) (l.length + 1) ((l ++ [newT y s p q r]).flatMap Trade.cells), Own.cells b14 34 #[Value.string y, Value.string s, Value.string p, Value.int .i64 q, Value.int .i64 r, Value.bool false, Value.bool false, Value.int .u8 0], Own.cells b9 24 #[Value.slice A94 (l.length + 1) c95], Own.cells b6 24 #[Value.slice A l.length c]]) M116 rfl rfl (x_storew (cs := [Value.slice A94 (l.length + 1) c95]) sz_24 (ev_tmp rfl rfl) (ev_tmp rfl rfl) (M116.cells_at (i := 3) rfl) rfl ⟨rfl, trivial⟩) fun w119 M120 => ?_
            refine st rfl (x_assign (v := Value.int .i64 ((l.length + 1 : Nat) : Int)) (ev_tmp rfl rfl)) ?_
            refine st rfl (x_assign (v := Value.int .i64 0) rfl) ?_
            refine s_nil ?_
            refine hK118 _ _ ?_
            refine c_ret ?_
            refine hT3 _ _ ?_
            refine rm3 rfl (rL (cs := [Value.slice A94 (l.length + 1) c95]) (ev_tmp rfl rfl) Try.underlying24 rfl sz_24 (M120.range (i := 3) rfl ⟨rfl, trivial⟩)) (rT (ev_tmp (v := Value.int .i64 ((l.length + 1 : Nat) : Int)) rfl rfl)) (rT (ev_tmp (v := Value.int .i64 0) rfl rfl)) ?_
            rw [subOk h28 h47 h61]
            refine ⟨_, _, ?_, M120.below, SlB.of_row (M120.rownew (i := 1) rfl) (by simp) Trade.len⟩
            rw [List.length_append]; rfl
          have M82 := M45.drew
          refine c_drawn (fun w1 => Mem w [] w1 [Own.cells b14 34 #[Value.string y, Value.string s, Value.string p, Value.int .i64 q, Value.int .i64 r, Value.bool false, Value.bool false, Value.int .u8 0], Own.cells b9 24 #[Value.slice none 0 0], Own.cells b6 24 #[Value.slice A l.length c]] [Ro.sl 0 w.heap.size A c 8 Trade.cells l]) mixed ?_
          generalize w44.drew = w83 at M82 ⊢
          refine dT (i := 0) (v := Value.pointer (some ⟨b6, 0, none⟩)) rfl (by kernel_rfl) (by kernel_rfl) rfl M82 (fun _ hS => x_fieldv (b := b6) (o := 0) (q := 0) fa_24_0 (ev_tmp rfl rfl) rfl) ?_
          refine dT (i := 1) (v := Value.slice A l.length c) rfl (by kernel_rfl) (by kernel_rfl) rfl M82 (fun _ hS => x_load1 (v := Value.slice A l.length c) Try.underlying22 rfl (ev_tmp rfl rfl) (hS.cell (i := 2) (o := 0) rfl rfl)) ?_
          refine dT (i := 3) (v := Value.agg #[Value.string y, Value.string s, Value.string p, Value.int .i64 q, Value.int .i64 r, Value.bool false, Value.bool false, Value.int .u8 0]) rfl (by kernel_rfl) (by kernel_rfl) rfl M82 (fun _ hS => x_loadw (cs := [Value.string y, Value.string s, Value.string p, Value.int .i64 q, Value.int .i64 r, Value.bool false, Value.bool false, Value.int .u8 0]) Try.underlying34 rfl sz_34 (ev_tmp rfl rfl) (hS.range (i := 0) rfl ⟨rfl, rfl, rfl, rfl, rfl, rfl, rfl, rfl, trivial⟩)) ?_
          refine dA (rs := [2, 4]) (by kernel_rfl) rfl ?_
          refine dC ?_ ?_
          · refine dsC (i := 2) rfl rfl (x_callL (xs := [.tmp 43]) (vs := [Value.slice A l.length c]) (cap := []) ent_36 rfl ⟨(ev_tmp rfl rfl), trivial⟩) (clone_c _ _ l _ (M82.slw (i := 0) rfl) (by omega)) ?_
            rintro _ w86 ⟨A84, c85, rfl, hb87, hr88⟩
            refine ⟨_, rfl, ?_⟩
            have M89 := M82.gotRow hb87 hr88
            refine ⟨(M89.dropL 1), ?_⟩
            refine dA (rs := [4]) (by kernel_rfl) rfl ?_
            refine dC ?_ ?_
            · refine dnews (i := 4) (cs := #[Value.string y, Value.string s, Value.string p, Value.int .i64 q, Value.int .i64 r, Value.bool false, Value.bool false, Value.int .u8 0]) M89 rfl rfl (x_buildSliceL (ps := [(0, .tmp 45)]) (vs := [(0, Value.agg #[Value.string y, Value.string s, Value.string p, Value.int .i64 q, Value.int .i64 r, Value.bool false, Value.bool false, Value.int .u8 0])]) (cs := #[Value.string y, Value.string s, Value.string p, Value.int .i64 q, Value.int .i64 r, Value.bool false, Value.bool false, Value.int .u8 0]) Try.underlying22 ⟨⟨rfl, (ev_tmp rfl rfl)⟩, trivial⟩ (by kernel_rfl)) fun b91 w92 M93 => ?_
              refine ⟨(M93.dropL 2), ?_⟩
              refine dA (rs := [5]) (by kernel_rfl) rfl ?_
              refine dC ?_ ?_
              · refine dapp (i := 5) (k := 1) (news := [Value.string y, Value.string s, Value.string p, Value.int .i64 q, Value.int .i64 r, Value.bool false, Value.bool false, Value.int .u8 0]) rfl M93 rfl app_22 rfl (ev_tmp rfl rfl) (ev_tmp rfl rfl) rfl (M93.block_news (i := 0) rfl) (oneL_all ⟨rfl, rfl, rfl, rfl, rfl, rfl, rfl, rfl, trivial⟩) (by simp only [maxLen]; omega) (by omega) fun A94 c95 w96 M97 => ?_
                have M98 := M97.rexs (i := 1) rfl (xs' := (l ++ [newT y s p q r]).flatMap Trade.cells) (flat_snoc (E := Trade.cells) l (newT y s p q r))
                refine ⟨(M98.dropL 2), ?_⟩
                refine dT (i := 6) (v := Value.slice A94 (l.length + 1) c95) rfl (by kernel_rfl) (by kernel_rfl) rfl (M98.dropL 2) (fun _ hS => x_assign (v := Value.slice A94 (l.length + 1) c95) (ev_tmp rfl rfl)) ?_
                refine dE (by kernel_rfl) ?_
                exact j_to (fun jk => J114 b91 A94 c95 jk _ M98) ⟨rfl, rfl, rfl, rfl, trivial⟩
              exact dN
            exact dN
          refine dC ?_ ?_
          · refine dnews (i := 4) (cs := #[Value.string y, Value.string s, Value.string p, Value.int .i64 q, Value.int .i64 r, Value.bool false, Value.bool false, Value.int .u8 0]) M82 rfl rfl (x_buildSliceL (ps := [(0, .tmp 45)]) (vs := [(0, Value.agg #[Value.string y, Value.string s, Value.string p, Value.int .i64 q, Value.int .i64 r, Value.bool false, Value.bool false, Value.int .u8 0])]) (cs := #[Value.string y, Value.string s, Value.string p, Value.int .i64 q, Value.int .i64 r, Value.bool false, Value.bool false, Value.int .u8 0]) Try.underlying22 ⟨⟨rfl, (ev_tmp rfl rfl)⟩, trivial⟩ (by kernel_rfl)) fun b99 w100 M101 => ?_
            refine ⟨(M101.dropL 1), ?_⟩
            refine dA (rs := [2]) (by kernel_rfl) rfl ?_
            refine dC ?_ ?_
            · refine dsC (i := 2) rfl rfl (x_callL (xs := [.tmp 43]) (vs := [Value.slice A l.length c]) (cap := []) ent_36 rfl ⟨(ev_tmp rfl rfl), trivial⟩) (clone_c _ _ l _ (M101.slw (i := 0) rfl) (by omega)) ?_
              rintro _ w104 ⟨A102, c103, rfl, hb105, hr106⟩
              refine ⟨_, rfl, ?_⟩
              have M107 := M101.gotRow hb105 hr106
              refine ⟨(M107.dropL 2), ?_⟩
              refine dA (rs := [5]) (by kernel_rfl) rfl ?_
              refine dC ?_ ?_
              · refine dapp (i := 5) (k := 0) (news := [Value.string y, Value.string s, Value.string p, Value.int .i64 q, Value.int .i64 r, Value.bool false, Value.bool false, Value.int .u8 0]) rfl M107 rfl app_22 rfl (ev_tmp rfl rfl) (ev_tmp rfl rfl) rfl (M107.block_news (i := 1) rfl) (oneL_all ⟨rfl, rfl, rfl, rfl, rfl, rfl, rfl, rfl, trivial⟩) (by simp only [maxLen]; omega) (by omega) fun A109 c110 w111 M112 => ?_
                have M113 := M112.rexs (i := 0) rfl (xs' := (l ++ [newT y s p q r]).flatMap Trade.cells) (flat_snoc (E := Trade.cells) l (newT y s p q r))
                refine ⟨(M113.dropL 2), ?_⟩
                refine dT (i := 6) (v := Value.slice A109 (l.length + 1) c110) rfl (by kernel_rfl) (by kernel_rfl) rfl (M113.dropL 2) (fun _ hS => x_assign (v := Value.slice A109 (l.length + 1) c110) (ev_tmp rfl rfl)) ?_
                refine dE (by kernel_rfl) ?_
                exact j_to (fun jk => J114 b99 A109 c110 jk _ (M113.perm (L' := [Own.cells b99 34 #[Value.string y, Value.string s, Value.string p, Value.int .i64 q, Value.int .i64 r, Value.bool false, Value.bool false, Value.int .u8 0], Own.row 34 8 (Value.slice A109 (l.length + 1) c110) (l.length + 1) ((l ++ [newT y s p q r]).flatMap Trade.cells), Own.cells b14 34 #[Value.string y, Value.string s, Value.string p, Value.int .i64 q, Value.int .i64 r, Value.bool false, Value.bool false, Value.int .u8 0], Own.cells b9 24 #[Value.slice none 0 0], Own.cells b6 24 #[Value.slice A l.length c]]) (List.Perm.trans (List.Perm.swap _ _ _) (List.Perm.refl _)))) ⟨rfl, rfl, rfl, rfl, trivial⟩
              exact dN
            exact dN
          exact dN

end Go.Proofs.Ytkimdlpfbojkgaa
