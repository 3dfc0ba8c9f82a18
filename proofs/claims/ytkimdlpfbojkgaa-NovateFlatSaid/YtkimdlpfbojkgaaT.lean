/- The law NovateUndo, walked. -/
import Derived.Test.YtkimdlpfbojkgaaS
namespace Go.Proofs.Ytkimdlpfbojkgaa
open Go.RowKit
section
variable (A : Option Addr) (c : Nat) (l : List Trade)
theorem submit_n (y s p : ByteArray) (q r : Int) (w : World) (hs : SlB 0 w.heap.size w A c 8 Trade.cells l) :
    Calls Try.prog 15 #[.agg #[.slice A l.length c], .string y, .string s, .string p, .int .i64 q, .int .i64 r] w fun e w' => ∃ A' c' l2 n e2, sub l (newT y s p q r) = (l2, n, e2) ∧ e = .returned (.tuple #[.agg #[.slice A' l2.length c'], .int .i64 n, .int .i64 e2]) ∧ Below w.heap.size w w' ∧ SlB w.heap.size w'.heap.size w' A' c' 8 Trade.cells l2 :=
  (submit_c A c l y s p q r w hs).mono fun _ _ ⟨A', c', h1, h2, h3⟩ => ⟨A', c', _, _, _, rfl, h1, h2, h3⟩
theorem confirm_n (number : Int) (y : ByteArray) (w : World) (hs : SlB 0 w.heap.size w A c 8 Trade.cells l) :
    Calls Try.prog 17 #[.agg #[.slice A l.length c], .int .i64 number, .string y] w fun e w' => ∃ A' c' l2 e2, chg (confF y) l number = (l2, e2) ∧ e = .returned (.tuple #[.agg #[.slice A' l2.length c'], .int .i64 e2]) ∧ Below w.heap.size w w' ∧ SlB w.heap.size w'.heap.size w' A' c' 8 Trade.cells l2 :=
  (confirm_c A c l number y w hs).mono fun _ _ ⟨A', c', h1, h2, h3⟩ => ⟨A', c', _, _, rfl, h1, h2, h3⟩
theorem undo_n (number : Int) (w : World) (hs : SlB 0 w.heap.size w A c 8 Trade.cells l) :
    Calls Try.prog 18 #[.agg #[.slice A l.length c], .int .i64 number] w fun e w' => ∃ A' c' l2 e2, chg undoF l number = (l2, e2) ∧ e = .returned (.tuple #[.agg #[.slice A' l2.length c'], .int .i64 e2]) ∧ Below w.heap.size w w' ∧ SlB w.heap.size w'.heap.size w' A' c' 8 Trade.cells l2 :=
  (undo_c A c l number w hs).mono fun _ _ ⟨A', c', h1, h2, h3⟩ => ⟨A', c', _, _, rfl, h1, h2, h3⟩
end
theorem chk_of {l : List Trade} (h : checkB l = true) : chk l = 0 := by unfold chk; rw [if_pos h]
theorem chk_last {l : List Trade} {t : Trade} (h : chk l = 0) (hl : l.length < 200) (ht : rightB t = true) : chk (l ++ [t]) = 0 := by
  have h1 := chk_ok h
  apply chk_of
  unfold checkB at h1 ⊢
  rw [List.all_append, and_r h1, List.length_append]
  simp [ht]; omega
theorem chg_last {l : List Trade} {t : Trade} {f : Trade → Trade × Int} (h : chk (l ++ [t]) = 0) (hf : (f t).2 = 0) : chg f (l ++ [t]) ((l.length : Int) + 1) = (l ++ [(f t).1], 0) := by
  unfold chg
  have e : ((l.length : Int) + 1 - 1).toNat = l.length := by omega
  rw [if_pos h, if_neg (by simp [List.length_append]; omega), e]
  have hx : (l ++ [t])[l.length]? = some t := by simp
  rw [hx]
  simp only [hf, if_true]
  rw [List.set_append_right _ _ (Nat.le_refl _)]
  simp
theorem legs_last (l : List Trade) (t : Trade) : legs (l ++ [t]) = legs l ++ (if t.st = 1 then legs1 l.length t else []) := by
  have hx : (l ++ [t])[l.length]? = some t := by simp
  have := legs_snoc hx
  rw [List.take_of_length_le (by simp), List.take_left] at this
  exact this
theorem legsC_of {l : List Trade} (h : chk l = 0) : legsC l = legs l := by unfold legsC; rw [if_pos (chk_ok h)]
/-- A fresh trade, its terms right: confirmed by both, in either order, and undone. -/
theorem conf_both {t : Trade} {y1 y2 : ByteArray} (hst : t.st = 0) (hbo : t.bo = false) (hso : t.so = false) (hbs : ¬ t.b.data.toList = t.s.data.toList) (hy : (y1 = t.b ∧ y2 = t.s) ∨ (y1 = t.s ∧ y2 = t.b)) :
    (confF y1 t).2 = 0 ∧ (confF y1 t).1.st = 0 ∧ (confF y1 t).1.b = t.b ∧ (confF y1 t).1.s = t.s ∧ ((confF y1 t).1.bo && (confF y1 t).1.so) = false ∧ termsB (confF y1 t).1 = termsB t ∧ (confF y2 (confF y1 t).1).2 = 0 ∧ (confF y2 (confF y1 t).1).1 = { t with bo := true, so := true, st := 1 } := by
  obtain ⟨b, s, p, q, r, bo, so, st⟩ := t
  simp only at hst hbo hso hbs hy
  subst hst; subst hbo; subst hso
  have hsb : ¬ s.data.toList = b.data.toList := fun h => hbs h.symm
  rcases hy with ⟨h1, h2⟩ | ⟨h1, h2⟩ <;> subst h1 <;> subst h2 <;> simp [confF, askE, hbs, hsb, termsB]
theorem undo_plain {l l1 l2 l3 l4 : List Trade} {b s p : ByteArray} {q r n1 e1 e2 e3 e4 : Int} {y1 y2 : ByteArray} (h1 : sub l (newT b s p q r) = (l1, n1, e1)) (hz : e1 = 0) (h2 : chg (confF y1) l1 n1 = (l2, e2)) (h3 : chg (confF y2) l2 n1 = (l3, e3)) (h4 : chg undoF l3 n1 = (l4, e4)) (hy : (y1 = b ∧ y2 = s) ∨ (y1 = s ∧ y2 = b)) :
    e2 = 0 ∧ e3 = 0 ∧ e4 = 0 ∧ chk l = 0 ∧ chk l3 = 0 ∧ chk l4 = 0 ∧ 1 ≤ q ∧ q ≤ 1048576 ∧ -536870912 ≤ r ∧ r ≤ 536870912 ∧
    (posL (legsC l3) b p).1 = (posL (legsC l) b p).1 + q ∧ (posL (legsC l3) b p).2 = (posL (legsC l) b p).2 + q * r ∧ ∀ y z, posL (legsC l4) y z = posL (legsC l) y z := by
  subst hz
  unfold sub at h1
  by_cases hc : chk l = 0
  · rw [if_pos hc] at h1
    by_cases ht : termsB (newT b s p q r) = true
    · rw [if_pos ht] at h1
      by_cases hl : l.length = 200
      · rw [if_pos hl] at h1; simp at h1
      · rw [if_neg hl] at h1
        have hl2 : l.length < 200 := by have := chk_len hc; omega
        simp only [Prod.mk.injEq] at h1
        obtain ⟨rfl, rfl, -⟩ := h1
        have hbd := terms_bd ht
        have ht2 := ht
        unfold termsB at ht2
        have h5 := and_l (and_l (and_l (and_l (and_l ht2))))
        have hbs : ¬ b.data.toList = s.data.toList := of_decide_eq_false (not_t (and_r h5))
        have hbh : ¬ b.data.toList = house.data.toList := by
          have := and_l (and_l h5); unfold partyB at this
          exact of_decide_eq_false (not_t (and_l this))
        have hsh : ¬ s.data.toList = house.data.toList := by
          have := and_r (and_l h5); unfold partyB at this
          exact of_decide_eq_false (not_t (and_l this))
        obtain ⟨k1, k2, k3, k4, k5, k6, k7, k8⟩ := conf_both (t := newT b s p q r) (y1 := y1) (y2 := y2) rfl rfl rfl hbs hy
        have c1 : chk (l ++ [newT b s p q r]) = 0 := chk_last hc hl2 (by unfold rightB; rw [ht]; simp [newT])
        have c2 : chk (l ++ [(confF y1 (newT b s p q r)).1]) = 0 := chk_last hc hl2 (by unfold rightB; rw [k6, ht, k5, k2]; rfl)
        rw [chg_last c1 k1] at h2
        simp only [Prod.mk.injEq] at h2
        obtain ⟨rfl, rfl⟩ := h2
        rw [chg_last c2 k7, k8] at h3
        simp only [Prod.mk.injEq] at h3
        obtain ⟨rfl, rfl⟩ := h3
        have c3 : chk (l ++ [{ newT b s p q r with bo := true, so := true, st := 1 }]) = 0 := chk_last hc hl2 (by unfold rightB; rw [show termsB { newT b s p q r with bo := true, so := true, st := 1 } = true from ht]; rfl)
        rw [chg_last c3 (by simp [undoF])] at h4
        simp only [Prod.mk.injEq] at h4
        obtain ⟨rfl, rfl⟩ := h4
        have c4 : chk (l ++ [(undoF { newT b s p q r with bo := true, so := true, st := 1 }).1]) = 0 := chk_last hc hl2 (by
          rw [show (undoF { newT b s p q r with bo := true, so := true, st := 1 }).1 = { newT b s p q r with bo := true, so := true, st := 3 } from rfl]
          unfold rightB; rw [show termsB { newT b s p q r with bo := true, so := true, st := 3 } = true from ht]; rfl)
        have n1 : ¬ house.data.toList = b.data.toList := fun h => hbh h.symm
        have n2 : ¬ s.data.toList = b.data.toList := fun h => hbs h.symm
        have hp : posL (legsC (l ++ [{ newT b s p q r with bo := true, so := true, st := 1 }])) b p = ((posL (legsC l) b p).1 + q, (posL (legsC l) b p).2 + q * r) := by
          rw [legsC_of c3, legsC_of hc, legs_last, if_pos rfl]
          unfold posL
          rw [List.foldl_append]
          simp only [legs1, newT, List.foldl_cons, List.foldl_nil, addLeg, if_true, if_neg n1, if_neg n2]
        refine ⟨rfl, rfl, rfl, hc, c3, c4, hbd.1, hbd.2.1, hbd.2.2.1, hbd.2.2.2, by rw [hp], by rw [hp], fun y z => ?_⟩
        rw [legsC_of c4, legsC_of hc, legs_last, if_neg (by simp [undoF]), List.append_nil]
    · rw [if_neg ht] at h1; simp at h1
  · rw [if_neg hc] at h1; simp at h1
theorem fa_40_3 : FieldAt Try.prog 40 3 3 := fieldAt_of Try.underlying40 rfl (sz := 1) (by kernel_rfl) rfl rfl
theorem fa_40_4 : FieldAt Try.prog 40 4 4 := fieldAt_of Try.underlying40 rfl (sz := 1) (by kernel_rfl) rfl rfl
theorem fa_40_5 : FieldAt Try.prog 40 5 5 := fieldAt_of Try.underlying40 rfl (sz := 1) (by kernel_rfl) rfl rfl
theorem fa_40_6 : FieldAt Try.prog 40 6 6 := fieldAt_of Try.underlying40 rfl (sz := 1) (by kernel_rfl) rfl rfl
theorem fa_40_7 : FieldAt Try.prog 40 7 7 := fieldAt_of Try.underlying40 rfl (sz := 1) (by kernel_rfl) rfl rfl
theorem ent_16 : Enters Try.prog 16 := enters_of Try.func16 (by kernel_rfl) rfl
set_option maxHeartbeats 1000000 in
set_option maxRecDepth 20000 in
theorem undo_law (A : Option Addr) (c : Nat) (l : List Trade) (kd nb : Int) (by_ ob os op : ByteArray) (oq or_ : Int) (fl : Bool) (who product : ByteArray) (w : World) (hs : SlB 0 w.heap.size w A c 8 Trade.cells l) :
    Calls Try.prog 5 #[Value.agg #[Value.slice A l.length c], Value.agg #[Value.int .u8 kd, Value.int .i64 nb, Value.string by_, Value.string ob, Value.string os, Value.string op, Value.int .i64 oq, Value.int .i64 or_], Value.bool fl, Value.string who, Value.string product] w fun e w' => e = .returned (.bool (true)) ∧ Below w.heap.size w w' := by
  have hcm : l.length ≤ 9223372036854775807 := by have := hs.1; have := hs.2.1; simp only [maxLen] at this; omega
  have M0 := Mem.start w []
  have M1 := M0.see (Ro.sl 0 w.heap.size A c 8 Trade.cells l) (hs) (Nat.le_refl _)
  refine enter (args := [Value.agg #[Value.slice A l.length c], Value.agg #[Value.int .u8 kd, Value.int .i64 nb, Value.string by_, Value.string ob, Value.string os, Value.string op, Value.int .i64 oq, Value.int .i64 or_], Value.bool fl, Value.string who, Value.string product]) Try.func5 rfl (n := 186) rfl rfl fun T2 hT3 => ?_
  refine c_seq fun K4 hK5 => ?_
  refine c_reg ?_
  refine snew (cs := #[Value.slice A l.length c]) M1 rfl (x_box (v := Value.agg #[Value.slice A l.length c]) (ev_tmp rfl rfl)) fun b6 w7 M8 => ?_
  refine snew (cs := #[Value.int .u8 kd, Value.int .i64 nb, Value.string by_, Value.string ob, Value.string os, Value.string op, Value.int .i64 oq, Value.int .i64 or_]) M8 rfl (x_box (v := Value.agg #[Value.int .u8 kd, Value.int .i64 nb, Value.string by_, Value.string ob, Value.string os, Value.string op, Value.int .i64 oq, Value.int .i64 or_]) (ev_tmp rfl rfl)) fun b9 w10 M11 => ?_
  refine st rfl (x_assign (v := Value.bool false) rfl) ?_
  refine s_nil ?_
  refine hK5 _ _ ?_
  refine c_seq fun K12 hK13 => ?_
  refine c_reg ?_
  refine sC rfl (x_callL (xs := []) (vs := []) (cap := []) ent_11 rfl trivial) (alive_c _) ?_
  rintro _ w14 ⟨rfl, hb16⟩
  refine ⟨_, rfl, ?_⟩
  have M15 := M11.call hb16
  refine st rfl (x_assign (v := Value.bool true) (ev_tmp rfl rfl)) ?_
  refine s_nil ?_
  refine hK13 _ _ ?_
  refine c_seq fun K17 hK18 => ?_
  refine c_seq fun K19 hK20 => ?_
  refine c_reg ?_
  refine st rfl (x_fieldv (b := b6) (o := 0) (q := 0) fa_24_0 (ev_tmp rfl rfl) rfl) ?_
  refine st rfl (x_load1 (v := Value.slice A l.length c) Try.underlying22 rfl (ev_tmp rfl rfl) (M15.cell (i := 1) (o := 0) rfl rfl)) ?_
  refine st rfl (x_lensl (n := l.length) Try.underlying22 (ev_tmp rfl rfl)) ?_
  refine st rfl (x_gtr (p := (l.length : Int)) (q := 220) (ev_tmp rfl rfl) rfl) ?_
  refine st rfl (x_move (v := Value.bool (decide ((220 : Int) < (l.length : Int)))) (ev_tmp rfl rfl)) ?_
  refine s_meet3 fun K21 hK22 => ?_
  have J23 : ∀ jk, K21 (fr 186 ([(42, Value.bool ((decide ((220 : Int) < (l.length : Int))) || false)), (2, Value.bool fl), (3, Value.string who), (4, Value.string product), (5, Value.pointer (some ⟨b6, 0, none⟩)), (6, Value.pointer (some ⟨b9, 0, none⟩)), (10, Value.bool false), (11, Value.bool true), (39, Value.bool (decide ((220 : Int) < (l.length : Int))))] ++ jk)) w14 := by
    intro jk
    refine hK22 _ _ ?_
    clear hK22
    refine s_nil ?_
    refine hK20 _ _ ?_
    refine c_cond (b := (decide ((220 : Int) < (l.length : Int))) || false) (ev_tmp rfl rfl) (fun h26 => ?_) (fun h26 => ?_)
    · have h27 : ((decide ((220 : Int) < (l.length : Int))) || false) = true := h26
      refine c_seq fun K28 hK29 => ?_
      refine c_reg ?_
      refine st rfl (x_move (v := Value.bool true) (ev_tmp rfl rfl)) ?_
      refine st rfl (x_assign (v := Value.bool true) (ev_tmp rfl rfl)) ?_
      refine s_nil ?_
      refine hK29 _ _ ?_
      refine c_ret ?_
      refine hT3 _ _ ?_
      refine r1 rfl (ev_tmp (v := Value.bool true) rfl rfl) ?_
      exact ⟨rfl, M15.below⟩
    · have h30 : ¬ ((220 : Int) < (l.length : Int)) := of_decide_eq_false (or_l h26)
      have hlen : l.length ≤ 220 := by omega
      refine c_skip ?_
      refine hK18 _ _ ?_
      refine c_seq fun K31 hK32 => ?_
      have M33 := M15.drew
      refine c_drawn (fun w1 => Mem w [] w1 [Own.cells b9 40 #[Value.int .u8 kd, Value.int .i64 nb, Value.string by_, Value.string ob, Value.string os, Value.string op, Value.int .i64 oq, Value.int .i64 or_], Own.cells b6 24 #[Value.slice A l.length c]] [Ro.sl 0 w.heap.size A c 8 Trade.cells l]) mixed ?_
      generalize w14.drew = w34 at M33 ⊢
      refine dT (i := 0) (v := Value.agg #[Value.slice A l.length c]) rfl (by kernel_rfl) (by kernel_rfl) rfl M33 (fun _ hS => x_loadw (cs := [Value.slice A l.length c]) Try.underlying24 rfl sz_24 (ev_tmp rfl rfl) (hS.range (i := 1) rfl ⟨rfl, trivial⟩)) ?_
      refine dT (i := 2) (v := Value.pointer (some ⟨b9, 3, none⟩)) rfl (by kernel_rfl) (by kernel_rfl) rfl M33 (fun _ hS => x_fieldv (b := b9) (o := 0) (q := 3) fa_40_3 (ev_tmp rfl rfl) rfl) ?_
      refine dT (i := 3) (v := Value.string ob) rfl (by kernel_rfl) (by kernel_rfl) rfl M33 (fun _ hS => x_load1 (v := Value.string ob) Try.underlying9 rfl (ev_tmp rfl rfl) (hS.cell (i := 0) (o := 3) rfl rfl)) ?_
      refine dT (i := 4) (v := Value.pointer (some ⟨b9, 4, none⟩)) rfl (by kernel_rfl) (by kernel_rfl) rfl M33 (fun _ hS => x_fieldv (b := b9) (o := 0) (q := 4) fa_40_4 (ev_tmp rfl rfl) rfl) ?_
      refine dT (i := 5) (v := Value.string os) rfl (by kernel_rfl) (by kernel_rfl) rfl M33 (fun _ hS => x_load1 (v := Value.string os) Try.underlying9 rfl (ev_tmp rfl rfl) (hS.cell (i := 0) (o := 4) rfl rfl)) ?_
      refine dT (i := 6) (v := Value.pointer (some ⟨b9, 5, none⟩)) rfl (by kernel_rfl) (by kernel_rfl) rfl M33 (fun _ hS => x_fieldv (b := b9) (o := 0) (q := 5) fa_40_5 (ev_tmp rfl rfl) rfl) ?_
      refine dT (i := 7) (v := Value.string op) rfl (by kernel_rfl) (by kernel_rfl) rfl M33 (fun _ hS => x_load1 (v := Value.string op) Try.underlying9 rfl (ev_tmp rfl rfl) (hS.cell (i := 0) (o := 5) rfl rfl)) ?_
      refine dT (i := 8) (v := Value.pointer (some ⟨b9, 6, none⟩)) rfl (by kernel_rfl) (by kernel_rfl) rfl M33 (fun _ hS => x_fieldv (b := b9) (o := 0) (q := 6) fa_40_6 (ev_tmp rfl rfl) rfl) ?_
      refine dT (i := 9) (v := Value.int .i64 oq) rfl (by kernel_rfl) (by kernel_rfl) rfl M33 (fun _ hS => x_load1 (v := Value.int .i64 oq) Try.underlying3 rfl (ev_tmp rfl rfl) (hS.cell (i := 0) (o := 6) rfl rfl)) ?_
      refine dT (i := 10) (v := Value.pointer (some ⟨b9, 7, none⟩)) rfl (by kernel_rfl) (by kernel_rfl) rfl M33 (fun _ hS => x_fieldv (b := b9) (o := 0) (q := 7) fa_40_7 (ev_tmp rfl rfl) rfl) ?_
      refine dT (i := 11) (v := Value.int .i64 or_) rfl (by kernel_rfl) (by kernel_rfl) rfl M33 (fun _ hS => x_load1 (v := Value.int .i64 or_) Try.underlying3 rfl (ev_tmp rfl rfl) (hS.cell (i := 0) (o := 7) rfl rfl)) ?_
      refine dA (rs := [1, 17]) (by kernel_rfl) rfl ?_
      refine dC ?_ ?_
      · refine dsC (i := 1) rfl rfl (x_callL (xs := [.tmp 45]) (vs := [Value.agg #[Value.slice A l.length c]]) (cap := []) ent_16 rfl ⟨(ev_tmp rfl rfl), trivial⟩) (twin_r _ _ l _ (M33.slw (i := 0) rfl) (by omega)) ?_
        rintro _ w37 ⟨A35, c36, rfl, hb38, hr39⟩
        refine ⟨_, rfl, ?_⟩
        have M40 := M33.gotRow hb38 hr39
        refine ⟨(M40.dropL 1), ?_⟩
        refine dA (rs := [12, 17]) (by kernel_rfl) rfl ?_
        refine dC ?_ ?_
        · refine dsC (i := 12) rfl rfl (x_callL (xs := [.tmp 46, .tmp 48, .tmp 50, .tmp 52, .tmp 54, .tmp 56]) (vs := [Value.agg #[Value.slice A35 l.length c36], Value.string ob, Value.string os, Value.string op, Value.int .i64 oq, Value.int .i64 or_]) (cap := []) ent_15 rfl ⟨(ev_tmp rfl rfl), (ev_tmp rfl rfl), (ev_tmp rfl rfl), (ev_tmp rfl rfl), (ev_tmp rfl rfl), (ev_tmp rfl rfl), trivial⟩) (submit_n _ _ l ob os op oq or_ _ (M40.rowsl (i := 0) rfl rfl Trade.len)) ?_
          rintro _ w44 ⟨A42, c43, l48, e50, e51, he49, rfl, hb45, hs46⟩
          refine ⟨_, rfl, ?_⟩
          have M47 := M40.gotSl hb45 hs46
          refine ⟨((M47.dropL 1).dropR 1), ?_⟩
          refine dT (i := 13) (v := Value.tuple #[Value.agg #[Value.slice A42 l48.length c43], Value.int .i64 e50, Value.int .i64 e51]) rfl (by kernel_rfl) (by kernel_rfl) rfl ((M47.dropL 1).dropR 1) (fun _ hS => x_move (v := Value.tuple #[Value.agg #[Value.slice A42 l48.length c43], Value.int .i64 e50, Value.int .i64 e51]) (ev_tmp rfl rfl)) ?_
          refine dT (i := 14) (v := Value.agg #[Value.slice A42 l48.length c43]) rfl (by kernel_rfl) (by kernel_rfl) rfl ((M47.dropL 1).dropR 1) (fun _ hS => x_extract (v := Value.agg #[Value.slice A42 l48.length c43]) (ev_tmp rfl rfl) rfl) ?_
          refine dT (i := 15) (v := Value.int .i64 e50) rfl (by kernel_rfl) (by kernel_rfl) rfl ((M47.dropL 1).dropR 1) (fun _ hS => x_extract (v := Value.int .i64 e50) (ev_tmp rfl rfl) rfl) ?_
          refine dT (i := 16) (v := Value.int .i64 e51) rfl (by kernel_rfl) (by kernel_rfl) rfl ((M47.dropL 1).dropR 1) (fun _ hS => x_extract (v := Value.int .i64 e51) (ev_tmp rfl rfl) rfl) ?_
          refine dA (rs := [17]) (by kernel_rfl) rfl ?_
          refine dC ?_ ?_
          · refine dnew (i := 17) (cs := #[Value.slice none 0 0]) M47 rfl rfl (x_allocz z_24) fun b53 w54 M55 => ?_
            refine ⟨((M55.dropL 2).dropR 1), ?_⟩
            refine dA (rs := [18]) (by kernel_rfl) rfl ?_
            refine dC ?_ ?_
            · refine dset (i := 18) (k := 0) (L' := [Own.cells b53 24 #[Value.slice A42 l48.length c43], Own.row 34 8 (Value.slice A35 l.length c36) l.length (l.flatMap Trade.cells), Own.cells b9 40 #[Value.int .u8 kd, Value.int .i64 nb, Value.string by_, Value.string ob, Value.string os, Value.string op, Value.int .i64 oq, Value.int .i64 or_], Own.cells b6 24 #[Value.slice A l.length c]]) M55 rfl rfl rfl (x_storew (cs := [Value.slice A42 l48.length c43]) sz_24 (ev_tmp rfl rfl) (ev_tmp rfl rfl) (M55.cells_at (i := 0) rfl) rfl ⟨rfl, trivial⟩) fun w56 M57 => ?_
              refine ⟨((M57.dropL 2).dropR 1), ?_⟩
              refine dT (i := 19) (v := Value.int .i64 e50) rfl (by kernel_rfl) (by kernel_rfl) rfl ((M57.dropL 2).dropR 1) (fun _ hS => x_assign (v := Value.int .i64 e50) (ev_tmp rfl rfl)) ?_
              refine dT (i := 20) (v := Value.int .i64 e51) rfl (by kernel_rfl) (by kernel_rfl) rfl ((M57.dropL 2).dropR 1) (fun _ hS => x_assign (v := Value.int .i64 e51) (ev_tmp rfl rfl)) ?_
              refine dE (by kernel_rfl) ?_
              refine hK32 _ _ ?_
              refine c_seq fun K58 hK59 => ?_
              refine c_seq fun K60 hK61 => ?_
              refine c_reg ?_
              refine st rfl (x_move (v := Value.int .i64 e51) (ev_tmp rfl rfl)) ?_
              refine st rfl (x_neq (p := e51) (q := 0) (ev_tmp rfl rfl) rfl) ?_
              refine s_nil ?_
              refine hK61 _ _ ?_
              refine c_cond (b := !(decide (e51 = 0))) (ev_tmp rfl rfl) (fun h62 => ?_) (fun h62 => ?_)
              · have h63 : ¬ (e51 = 0) := of_decide_eq_false (not_t h62)
                refine c_seq fun K64 hK65 => ?_
                refine c_reg ?_
                refine st rfl (x_move (v := Value.bool true) (ev_tmp rfl rfl)) ?_
                refine st rfl (x_assign (v := Value.bool true) (ev_tmp rfl rfl)) ?_
                refine s_nil ?_
                refine hK65 _ _ ?_
                refine c_ret ?_
                refine hT3 _ _ ?_
                refine r1 rfl (ev_tmp (v := Value.bool true) rfl rfl) ?_
                exact ⟨rfl, M57.below⟩
              · have h66 : e51 = 0 := of_decide_eq_true (not_f h62)
                have hz : e51 = 0 := of_decide_eq_true (not_f h62)
                refine c_skip ?_
                refine hK59 _ _ ?_
                refine c_seq fun K67 hK68 => ?_
                have M69 := M57.drew
                refine c_drawn (fun w1 => Mem w [] w1 [Own.cells b53 24 #[Value.slice A42 l48.length c43], Own.row 34 8 (Value.slice A35 l.length c36) l.length (l.flatMap Trade.cells), Own.cells b9 40 #[Value.int .u8 kd, Value.int .i64 nb, Value.string by_, Value.string ob, Value.string os, Value.string op, Value.int .i64 oq, Value.int .i64 or_], Own.cells b6 24 #[Value.slice A l.length c]] [Ro.sl w37.heap.size w44.heap.size A42 c43 8 Trade.cells l48, Ro.sl 0 w.heap.size A c 8 Trade.cells l]) mixed ?_
                generalize w56.drew = w70 at M69 ⊢
                refine dT (i := 0) (v := Value.pointer (some ⟨b9, 3, none⟩)) rfl (by kernel_rfl) (by kernel_rfl) rfl M69 (fun _ hS => x_fieldv (b := b9) (o := 0) (q := 3) fa_40_3 (ev_tmp rfl rfl) rfl) ?_
                refine dT (i := 1) (v := Value.string ob) rfl (by kernel_rfl) (by kernel_rfl) rfl M69 (fun _ hS => x_load1 (v := Value.string ob) Try.underlying9 rfl (ev_tmp rfl rfl) (hS.cell (i := 2) (o := 3) rfl rfl)) ?_
                refine dT (i := 2) (v := Value.pointer (some ⟨b9, 4, none⟩)) rfl (by kernel_rfl) (by kernel_rfl) rfl M69 (fun _ hS => x_fieldv (b := b9) (o := 0) (q := 4) fa_40_4 (ev_tmp rfl rfl) rfl) ?_
                refine dT (i := 3) (v := Value.string os) rfl (by kernel_rfl) (by kernel_rfl) rfl M69 (fun _ hS => x_load1 (v := Value.string os) Try.underlying9 rfl (ev_tmp rfl rfl) (hS.cell (i := 2) (o := 4) rfl rfl)) ?_
                refine dT (i := 4) (v := Value.string ob) rfl (by kernel_rfl) (by kernel_rfl) rfl M69 (fun _ hS => x_assign (v := Value.string ob) (ev_tmp rfl rfl)) ?_
                refine dT (i := 5) (v := Value.string os) rfl (by kernel_rfl) (by kernel_rfl) rfl M69 (fun _ hS => x_assign (v := Value.string os) (ev_tmp rfl rfl)) ?_
                refine dE (by kernel_rfl) ?_
                refine hK68 _ _ ?_
                refine c_seq fun K71 hK72 => ?_
                refine c_seq fun K73 hK74 => ?_
                refine c_reg ?_
                refine st rfl (x_move (v := Value.bool fl) (ev_tmp rfl rfl)) ?_
                refine s_nil ?_
                refine hK74 _ _ ?_
                refine c_cond (b := fl) (ev_tmp rfl rfl) (fun h75 => ?_) (fun h75 => ?_)
                · have h76 : fl = true := h75
                  refine c_reg ?_
                  refine st rfl (x_move (v := Value.string os) (ev_tmp rfl rfl)) ?_
                  refine st rfl (x_move (v := Value.string ob) (ev_tmp rfl rfl)) ?_
                  refine st rfl (x_assign (v := Value.string os) (ev_tmp rfl rfl)) ?_
                  refine st rfl (x_assign (v := Value.string ob) (ev_tmp rfl rfl)) ?_
                  refine s_nil ?_
                  refine hK72 _ _ ?_
                  refine c_seq fun K77 hK78 => ?_
                  refine c_reg ?_
                  refine st rfl (x_loadw (cs := [Value.slice A42 l48.length c43]) Try.underlying24 rfl sz_24 (ev_tmp rfl rfl) (M69.range (i := 0) rfl ⟨rfl, trivial⟩)) ?_
                  refine st rfl (x_move (v := Value.int .i64 e50) (ev_tmp rfl rfl)) ?_
                  refine st rfl (x_move (v := Value.string os) (ev_tmp rfl rfl)) ?_
                  refine sC rfl (x_callL (xs := [.tmp 72, .tmp 73, .tmp 74]) (vs := [Value.agg #[Value.slice A42 l48.length c43], Value.int .i64 e50, Value.string os]) (cap := []) ent_17 rfl ⟨(ev_tmp rfl rfl), (ev_tmp rfl rfl), (ev_tmp rfl rfl), trivial⟩) (confirm_n _ _ l48 e50 os _ (M69.slw (i := 0) rfl)) ?_
                  rintro _ w81 ⟨A79, c80, l85, e87, he86, rfl, hb82, hs83⟩
                  refine ⟨_, rfl, ?_⟩
                  have M84 := M69.gotSl hb82 hs83
                  refine st rfl (x_move (v := Value.tuple #[Value.agg #[Value.slice A79 l85.length c80], Value.int .i64 e87]) (ev_tmp rfl rfl)) ?_
                  refine st rfl (x_extract (v := Value.agg #[Value.slice A79 l85.length c80]) (ev_tmp rfl rfl) rfl) ?_
                  refine st rfl (x_extract (v := Value.int .i64 e87) (ev_tmp rfl rfl) rfl) ?_
                  refine sset (i := 0) (L' := [Own.cells b53 24 #[Value.slice A79 l85.length c80], Own.row 34 8 (Value.slice A35 l.length c36) l.length (l.flatMap Trade.cells), Own.cells b9 40 #[Value.int .u8 kd, Value.int .i64 nb, Value.string by_, Value.string ob, Value.string os, Value.string op, Value.int .i64 oq, Value.int .i64 or_], Own.cells b6 24 #[Value.slice A l.length c]]) M84 rfl rfl (x_storew (cs := [Value.slice A79 l85.length c80]) sz_24 (ev_tmp rfl rfl) (ev_tmp rfl rfl) (M84.cells_at (i := 0) rfl) rfl ⟨rfl, trivial⟩) fun w89 M90 => ?_
                  refine st rfl (x_assign (v := Value.int .i64 e87) (ev_tmp rfl rfl)) ?_
                  refine s_nil ?_
                  refine hK78 _ _ ?_
                  refine c_seq fun K91 hK92 => ?_
                  refine c_reg ?_
                  refine st rfl (x_loadw (cs := [Value.slice A79 l85.length c80]) Try.underlying24 rfl sz_24 (ev_tmp rfl rfl) (M90.range (i := 0) rfl ⟨rfl, trivial⟩)) ?_
                  refine st rfl (x_move (v := Value.int .i64 e50) (ev_tmp rfl rfl)) ?_
                  refine st rfl (x_move (v := Value.string ob) (ev_tmp rfl rfl)) ?_
                  refine sC rfl (x_callL (xs := [.tmp 79, .tmp 80, .tmp 81]) (vs := [Value.agg #[Value.slice A79 l85.length c80], Value.int .i64 e50, Value.string ob]) (cap := []) ent_17 rfl ⟨(ev_tmp rfl rfl), (ev_tmp rfl rfl), (ev_tmp rfl rfl), trivial⟩) (confirm_n _ _ l85 e50 ob _ (M90.slw (i := 0) rfl)) ?_
                  rintro _ w95 ⟨A93, c94, l99, e101, he100, rfl, hb96, hs97⟩
                  refine ⟨_, rfl, ?_⟩
                  have M98 := M90.gotSl hb96 hs97
                  refine st rfl (x_move (v := Value.tuple #[Value.agg #[Value.slice A93 l99.length c94], Value.int .i64 e101]) (ev_tmp rfl rfl)) ?_
                  refine st rfl (x_extract (v := Value.agg #[Value.slice A93 l99.length c94]) (ev_tmp rfl rfl) rfl) ?_
                  refine st rfl (x_extract (v := Value.int .i64 e101) (ev_tmp rfl rfl) rfl) ?_
                  refine sset (i := 0) (L' := [Own.cells b53 24 #[Value.slice A93 l99.length c94], Own.row 34 8 (Value.slice A35 l.length c36) l.length (l.flatMap Trade.cells), Own.cells b9 40 #[Value.int .u8 kd, Value.int .i64 nb, Value.string by_, Value.string ob, Value.string os, Value.string op, Value.int .i64 oq, Value.int .i64 or_], Own.cells b6 24 #[Value.slice A l.length c]]) M98 rfl rfl (x_storew (cs := [Value.slice A93 l99.length c94]) sz_24 (ev_tmp rfl rfl) (ev_tmp rfl rfl) (M98.cells_at (i := 0) rfl) rfl ⟨rfl, trivial⟩) fun w103 M104 => ?_
                  refine st rfl (x_assign (v := Value.int .i64 e101) (ev_tmp rfl rfl)) ?_
                  refine s_nil ?_
                  refine hK92 _ _ ?_
                  refine c_seq fun K105 hK106 => ?_
                  refine c_reg ?_
                  refine st rfl (x_loadw (cs := [Value.slice A93 l99.length c94]) Try.underlying24 rfl sz_24 (ev_tmp rfl rfl) (M104.range (i := 0) rfl ⟨rfl, trivial⟩)) ?_
                  refine st rfl (x_fieldv (b := b9) (o := 0) (q := 3) fa_40_3 (ev_tmp rfl rfl) rfl) ?_
                  refine st rfl (x_load1 (v := Value.string ob) Try.underlying9 rfl (ev_tmp rfl rfl) (M104.cell (i := 2) (o := 3) rfl rfl)) ?_
                  refine st rfl (x_fieldv (b := b9) (o := 0) (q := 5) fa_40_5 (ev_tmp rfl rfl) rfl) ?_
                  refine st rfl (x_load1 (v := Value.string op) Try.underlying9 rfl (ev_tmp rfl rfl) (M104.cell (i := 2) (o := 5) rfl rfl)) ?_
                  refine sC rfl (x_callL (xs := [.tmp 86, .tmp 88, .tmp 90]) (vs := [Value.agg #[Value.slice A93 l99.length c94], Value.string ob, Value.string op]) (cap := []) ent_14 rfl ⟨(ev_tmp rfl rfl), (ev_tmp rfl rfl), (ev_tmp rfl rfl), trivial⟩) (position_c _ _ l99 ob op _ (M104.slw (i := 0) rfl)) ?_
                  rintro _ w107 ⟨rfl, hb109⟩
                  refine ⟨_, rfl, ?_⟩
                  have M108 := M104.call hb109
                  refine st rfl (x_move (v := Value.tuple #[Value.int .i64 ((posL (legsC l99) ob op).1), Value.int .i64 ((posL (legsC l99) ob op).2), Value.int .i64 (chk l99)]) (ev_tmp rfl rfl)) ?_
                  refine st rfl (x_extract (v := Value.int .i64 ((posL (legsC l99) ob op).1)) (ev_tmp rfl rfl) rfl) ?_
                  refine st rfl (x_extract (v := Value.int .i64 ((posL (legsC l99) ob op).2)) (ev_tmp rfl rfl) rfl) ?_
                  refine st rfl (x_extract (v := Value.int .i64 (chk l99)) (ev_tmp rfl rfl) rfl) ?_
                  refine st rfl (x_assign (v := Value.int .i64 ((posL (legsC l99) ob op).1)) (ev_tmp rfl rfl)) ?_
                  refine st rfl (x_assign (v := Value.int .i64 ((posL (legsC l99) ob op).2)) (ev_tmp rfl rfl)) ?_
                  refine st rfl (x_assign (v := Value.int .i64 (chk l99)) (ev_tmp rfl rfl)) ?_
                  refine s_nil ?_
                  refine hK106 _ _ ?_
                  refine c_seq fun K110 hK111 => ?_
                  refine c_reg ?_
                  refine st rfl (x_loadw (cs := [Value.slice A l.length c]) Try.underlying24 rfl sz_24 (ev_tmp rfl rfl) (M108.range (i := 3) rfl ⟨rfl, trivial⟩)) ?_
                  refine st rfl (x_fieldv (b := b9) (o := 0) (q := 3) fa_40_3 (ev_tmp rfl rfl) rfl) ?_
                  refine st rfl (x_load1 (v := Value.string ob) Try.underlying9 rfl (ev_tmp rfl rfl) (M108.cell (i := 2) (o := 3) rfl rfl)) ?_
                  refine st rfl (x_fieldv (b := b9) (o := 0) (q := 5) fa_40_5 (ev_tmp rfl rfl) rfl) ?_
                  refine st rfl (x_load1 (v := Value.string op) Try.underlying9 rfl (ev_tmp rfl rfl) (M108.cell (i := 2) (o := 5) rfl rfl)) ?_
                  refine sC rfl (x_callL (xs := [.tmp 96, .tmp 98, .tmp 100]) (vs := [Value.agg #[Value.slice A l.length c], Value.string ob, Value.string op]) (cap := []) ent_14 rfl ⟨(ev_tmp rfl rfl), (ev_tmp rfl rfl), (ev_tmp rfl rfl), trivial⟩) (position_c _ _ l ob op _ (M108.slw (i := 3) rfl)) ?_
                  rintro _ w112 ⟨rfl, hb114⟩
                  refine ⟨_, rfl, ?_⟩
                  have M113 := M108.call hb114
                  refine st rfl (x_move (v := Value.tuple #[Value.int .i64 ((posL (legsC l) ob op).1), Value.int .i64 ((posL (legsC l) ob op).2), Value.int .i64 (chk l)]) (ev_tmp rfl rfl)) ?_
                  refine st rfl (x_extract (v := Value.int .i64 ((posL (legsC l) ob op).1)) (ev_tmp rfl rfl) rfl) ?_
                  refine st rfl (x_extract (v := Value.int .i64 ((posL (legsC l) ob op).2)) (ev_tmp rfl rfl) rfl) ?_
                  refine st rfl (x_extract (v := Value.int .i64 (chk l)) (ev_tmp rfl rfl) rfl) ?_
                  refine st rfl (x_assign (v := Value.int .i64 ((posL (legsC l) ob op).1)) (ev_tmp rfl rfl)) ?_
                  refine st rfl (x_assign (v := Value.int .i64 ((posL (legsC l) ob op).2)) (ev_tmp rfl rfl)) ?_
                  refine st rfl (x_assign (v := Value.int .i64 (chk l)) (ev_tmp rfl rfl)) ?_
                  refine s_nil ?_
                  refine hK111 _ _ ?_
                  refine c_seq fun K115 hK116 => ?_
                  refine c_reg ?_
                  refine st rfl (x_loadw (cs := [Value.slice A93 l99.length c94]) Try.underlying24 rfl sz_24 (ev_tmp rfl rfl) (M113.range (i := 0) rfl ⟨rfl, trivial⟩)) ?_
                  refine st rfl (x_move (v := Value.int .i64 e50) (ev_tmp rfl rfl)) ?_
                  refine sC rfl (x_callL (xs := [.tmp 106, .tmp 107]) (vs := [Value.agg #[Value.slice A93 l99.length c94], Value.int .i64 e50]) (cap := []) ent_18 rfl ⟨(ev_tmp rfl rfl), (ev_tmp rfl rfl), trivial⟩) (undo_n _ _ l99 e50 _ (M113.slw (i := 0) rfl)) ?_
                  rintro _ w119 ⟨A117, c118, l123, e125, he124, rfl, hb120, hs121⟩
                  refine ⟨_, rfl, ?_⟩
                  have M122 := M113.gotSl hb120 hs121
                  refine st rfl (x_move (v := Value.tuple #[Value.agg #[Value.slice A117 l123.length c118], Value.int .i64 e125]) (ev_tmp rfl rfl)) ?_
                  refine st rfl (x_extract (v := Value.agg #[Value.slice A117 l123.length c118]) (ev_tmp rfl rfl) rfl) ?_
                  refine st rfl (x_extract (v := Value.int .i64 e125) (ev_tmp rfl rfl) rfl) ?_
                  refine snew (cs := #[Value.slice none 0 0]) M122 rfl (x_allocz z_24) fun b127 w128 M129 => ?_
                  refine sset (i := 0) (L' := [Own.cells b127 24 #[Value.slice A117 l123.length c118], Own.cells b53 24 #[Value.slice A93 l99.length c94], Own.row 34 8 (Value.slice A35 l.length c36) l.length (l.flatMap Trade.cells), Own.cells b9 40 #[Value.int .u8 kd, Value.int .i64 nb, Value.string by_, Value.string ob, Value.string os, Value.string op, Value.int .i64 oq, Value.int .i64 or_], Own.cells b6 24 #[Value.slice A l.length c]]) M129 rfl rfl (x_storew (cs := [Value.slice A117 l123.length c118]) sz_24 (ev_tmp rfl rfl) (ev_tmp rfl rfl) (M129.cells_at (i := 0) rfl) rfl ⟨rfl, trivial⟩) fun w130 M131 => ?_
                  refine st rfl (x_assign (v := Value.int .i64 e125) (ev_tmp rfl rfl)) ?_
                  refine s_nil ?_
                  refine hK116 _ _ ?_
                  refine c_seq fun K132 hK133 => ?_
                  refine c_reg ?_
                  refine st rfl (x_loadw (cs := [Value.slice A117 l123.length c118]) Try.underlying24 rfl sz_24 (ev_tmp rfl rfl) (M131.range (i := 0) rfl ⟨rfl, trivial⟩)) ?_
                  refine st rfl (x_move (v := Value.string who) (ev_tmp rfl rfl)) ?_
                  refine st rfl (x_move (v := Value.string product) (ev_tmp rfl rfl)) ?_
                  refine sC rfl (x_callL (xs := [.tmp 112, .tmp 113, .tmp 114]) (vs := [Value.agg #[Value.slice A117 l123.length c118], Value.string who, Value.string product]) (cap := []) ent_14 rfl ⟨(ev_tmp rfl rfl), (ev_tmp rfl rfl), (ev_tmp rfl rfl), trivial⟩) (position_c _ _ l123 who product _ (M131.slw (i := 0) rfl)) ?_
                  rintro _ w134 ⟨rfl, hb136⟩
                  refine ⟨_, rfl, ?_⟩
                  have M135 := M131.call hb136
                  refine st rfl (x_move (v := Value.tuple #[Value.int .i64 ((posL (legsC l123) who product).1), Value.int .i64 ((posL (legsC l123) who product).2), Value.int .i64 (chk l123)]) (ev_tmp rfl rfl)) ?_
                  refine st rfl (x_extract (v := Value.int .i64 ((posL (legsC l123) who product).1)) (ev_tmp rfl rfl) rfl) ?_
                  refine st rfl (x_extract (v := Value.int .i64 ((posL (legsC l123) who product).2)) (ev_tmp rfl rfl) rfl) ?_
                  refine st rfl (x_extract (v := Value.int .i64 (chk l123)) (ev_tmp rfl rfl) rfl) ?_
                  refine st rfl (x_assign (v := Value.int .i64 ((posL (legsC l123) who product).1)) (ev_tmp rfl rfl)) ?_
                  refine st rfl (x_assign (v := Value.int .i64 ((posL (legsC l123) who product).2)) (ev_tmp rfl rfl)) ?_
                  refine st rfl (x_assign (v := Value.int .i64 (chk l123)) (ev_tmp rfl rfl)) ?_
                  refine s_nil ?_
                  refine hK133 _ _ ?_
                  refine c_seq fun K137 hK138 => ?_
                  refine c_reg ?_
                  refine st rfl (x_loadw (cs := [Value.slice A l.length c]) Try.underlying24 rfl sz_24 (ev_tmp rfl rfl) (M135.range (i := 4) rfl ⟨rfl, trivial⟩)) ?_
                  refine st rfl (x_move (v := Value.string who) (ev_tmp rfl rfl)) ?_
                  refine st rfl (x_move (v := Value.string product) (ev_tmp rfl rfl)) ?_
                  refine sC rfl (x_callL (xs := [.tmp 120, .tmp 121, .tmp 122]) (vs := [Value.agg #[Value.slice A l.length c], Value.string who, Value.string product]) (cap := []) ent_14 rfl ⟨(ev_tmp rfl rfl), (ev_tmp rfl rfl), (ev_tmp rfl rfl), trivial⟩) (position_c _ _ l who product _ (M135.slw (i := 4) rfl)) ?_
                  rintro _ w139 ⟨rfl, hb141⟩
                  refine ⟨_, rfl, ?_⟩
                  have M140 := M135.call hb141
                  refine st rfl (x_move (v := Value.tuple #[Value.int .i64 ((posL (legsC l) who product).1), Value.int .i64 ((posL (legsC l) who product).2), Value.int .i64 (chk l)]) (ev_tmp rfl rfl)) ?_
                  refine st rfl (x_extract (v := Value.int .i64 ((posL (legsC l) who product).1)) (ev_tmp rfl rfl) rfl) ?_
                  refine st rfl (x_extract (v := Value.int .i64 ((posL (legsC l) who product).2)) (ev_tmp rfl rfl) rfl) ?_
                  refine st rfl (x_extract (v := Value.int .i64 (chk l)) (ev_tmp rfl rfl) rfl) ?_
                  refine st rfl (x_assign (v := Value.int .i64 ((posL (legsC l) who product).1)) (ev_tmp rfl rfl)) ?_
                  refine st rfl (x_assign (v := Value.int .i64 ((posL (legsC l) who product).2)) (ev_tmp rfl rfl)) ?_
                  refine st rfl (x_assign (v := Value.int .i64 (chk l)) (ev_tmp rfl rfl)) ?_
                  refine s_nil ?_
                  refine hK138 _ _ ?_
                  refine c_seq fun K142 hK143 => ?_
                  refine c_reg ?_
                  refine st rfl (x_move (v := Value.int .i64 e87) (ev_tmp rfl rfl)) ?_
                  refine st rfl (x_eql (p := e87) (q := 0) (ev_tmp rfl rfl) rfl) ?_
                  refine st rfl (x_move (v := Value.bool (decide (e87 = 0))) (ev_tmp rfl rfl)) ?_
                  obtain ⟨z2, z3, z4, c0, c3, c4, q1, q2, rr1, rr2, p1, p2, p3⟩ := undo_plain he49 hz he86 he100 he124 (.inr ⟨rfl, rfl⟩)
                  obtain ⟨b1, b2, b3, b4⟩ := posL_bd l ob op
                  obtain ⟨m1, m2⟩ := mul_bd q1 q2 rr1 rr2
                  have hg147 : (decide (e87 = 0)) = true := (decide_eq_true z2)
                  refine gt rfl rfl rfl (congrArg Value.bool hg147) (x_move (v := Value.int .i64 e101) (ev_tmp rfl rfl)) ?_
                  refine gt rfl rfl rfl (congrArg Value.bool hg147) (x_eql (p := e101) (q := 0) (ev_tmp rfl rfl) rfl) ?_
                  refine st rfl (x_pick_t (v := Value.bool (decide (e101 = 0))) (ev_tmp rfl (congrArg Value.bool hg147)) (ev_tmp rfl rfl)) ?_
                  refine st rfl (x_move (v := Value.bool (decide (e101 = 0))) (ev_tmp rfl rfl)) ?_
                  have hg151 : (decide (e101 = 0)) = true := (decide_eq_true z3)
                  refine gt rfl rfl rfl (congrArg Value.bool hg151) (x_move (v := Value.int .i64 (chk l99)) (ev_tmp rfl rfl)) ?_
                  refine gt rfl rfl rfl (congrArg Value.bool hg151) (x_eql (p := (chk l99)) (q := 0) (ev_tmp rfl rfl) rfl) ?_
                  refine st rfl (x_pick_t (v := Value.bool (decide (chk l99 = 0))) (ev_tmp rfl (congrArg Value.bool hg151)) (ev_tmp rfl rfl)) ?_
                  refine st rfl (x_move (v := Value.bool (decide (chk l99 = 0))) (ev_tmp rfl rfl)) ?_
                  have hg155 : (decide (chk l99 = 0)) = true := (decide_eq_true c3)
                  refine gt rfl rfl rfl (congrArg Value.bool hg155) (x_move (v := Value.int .i64 (chk l)) (ev_tmp rfl rfl)) ?_
                  refine gt rfl rfl rfl (congrArg Value.bool hg155) (x_eql (p := (chk l)) (q := 0) (ev_tmp rfl rfl) rfl) ?_
                  refine st rfl (x_pick_t (v := Value.bool (decide (chk l = 0))) (ev_tmp rfl (congrArg Value.bool hg155)) (ev_tmp rfl rfl)) ?_
                  refine st rfl (x_move (v := Value.bool (decide (chk l = 0))) (ev_tmp rfl rfl)) ?_
                  have hg159 : (decide (chk l = 0)) = true := (decide_eq_true c0)
                  refine gt rfl rfl rfl (congrArg Value.bool hg159) (x_move (v := Value.int .i64 e125) (ev_tmp rfl rfl)) ?_
                  refine gt rfl rfl rfl (congrArg Value.bool hg159) (x_eql (p := e125) (q := 0) (ev_tmp rfl rfl) rfl) ?_
                  refine st rfl (x_pick_t (v := Value.bool (decide (e125 = 0))) (ev_tmp rfl (congrArg Value.bool hg159)) (ev_tmp rfl rfl)) ?_
                  refine st rfl (x_move (v := Value.bool (decide (e125 = 0))) (ev_tmp rfl rfl)) ?_
                  have hg163 : (decide (e125 = 0)) = true := (decide_eq_true z4)
                  refine gt rfl rfl rfl (congrArg Value.bool hg163) (x_move (v := Value.int .i64 (chk l123)) (ev_tmp rfl rfl)) ?_
                  refine gt rfl rfl rfl (congrArg Value.bool hg163) (x_eql (p := (chk l123)) (q := 0) (ev_tmp rfl rfl) rfl) ?_
                  refine st rfl (x_pick_t (v := Value.bool (decide (chk l123 = 0))) (ev_tmp rfl (congrArg Value.bool hg163)) (ev_tmp rfl rfl)) ?_
                  refine st rfl (x_move (v := Value.bool (decide (chk l123 = 0))) (ev_tmp rfl rfl)) ?_
                  have hg167 : (decide (chk l123 = 0)) = true := (decide_eq_true c4)
                  refine gt rfl rfl rfl (congrArg Value.bool hg167) (x_move (v := Value.int .i64 (chk l)) (ev_tmp rfl rfl)) ?_
                  refine gt rfl rfl rfl (congrArg Value.bool hg167) (x_eql (p := (chk l)) (q := 0) (ev_tmp rfl rfl) rfl) ?_
                  refine st rfl (x_pick_t (v := Value.bool (decide (chk l = 0))) (ev_tmp rfl (congrArg Value.bool hg167)) (ev_tmp rfl rfl)) ?_
                  refine st rfl (x_assign (v := Value.bool (decide (chk l = 0))) (ev_tmp rfl rfl)) ?_
                  refine s_nil ?_
                  refine hK143 _ _ ?_
                  refine c_seq fun K168 hK169 => ?_
                  refine c_reg ?_
                  refine st rfl (x_move (v := Value.bool true) (ev_tmp rfl rfl)) ?_
                  refine st rfl (x_move (v := Value.bool true) (ev_tmp rfl rfl)) ?_
                  refine gt rfl rfl rfl rfl (x_move (v := Value.bool (decide (chk l = 0))) (ev_tmp rfl rfl)) ?_
                  refine st rfl (x_pick_t (v := Value.bool (decide (chk l = 0))) (ev_tmp rfl rfl) (ev_tmp rfl rfl)) ?_
                  refine st rfl (x_move (v := Value.bool (decide (chk l = 0))) (ev_tmp rfl rfl)) ?_
                  have hg177 : (decide (chk l = 0)) = true := (decide_eq_true c0)
                  refine gt rfl rfl rfl (congrArg Value.bool hg177) (x_move (v := Value.int .i64 ((posL (legsC l99) ob op).1)) (ev_tmp rfl rfl)) ?_
                  refine gt rfl rfl rfl (congrArg Value.bool hg177) (x_move (v := Value.int .i64 ((posL (legsC l) ob op).1)) (ev_tmp rfl rfl)) ?_
                  refine gt rfl rfl rfl (congrArg Value.bool hg177) (x_fieldv (b := b9) (o := 0) (q := 6) fa_40_6 (ev_tmp rfl rfl) rfl) ?_
                  refine gt rfl rfl rfl (congrArg Value.bool hg177) (x_load1 (v := Value.int .i64 oq) Try.underlying3 rfl (ev_tmp rfl rfl) (M140.cell (i := 3) (o := 6) rfl rfl)) ?_
                  have hw178 : IntKind.i64.wrap (((posL (legsC l) ob op).1) + oq) = ((posL (legsC l) ob op).1) + oq := w64 (by rfl) (by omega) (by omega)
                  refine gt rfl rfl rfl (congrArg Value.bool hg177) (x_add_eq (p := ((posL (legsC l) ob op).1)) (q := oq) (ev_tmp rfl rfl) (ev_tmp rfl rfl) hw178) ?_
                  refine gt rfl rfl rfl (congrArg Value.bool hg177) (x_eql (p := ((posL (legsC l99) ob op).1)) (q := (((posL (legsC l) ob op).1) + oq)) (ev_tmp rfl rfl) (ev_tmp rfl rfl)) ?_
                  refine st rfl (x_pick_t (v := Value.bool (decide ((posL (legsC l99) ob op).1 = ((posL (legsC l) ob op).1) + oq))) (ev_tmp rfl (congrArg Value.bool hg177)) (ev_tmp rfl rfl)) ?_
                  refine st rfl (x_move (v := Value.bool (decide ((posL (legsC l99) ob op).1 = ((posL (legsC l) ob op).1) + oq))) (ev_tmp rfl rfl)) ?_
                  have hg182 : (decide ((posL (legsC l99) ob op).1 = ((posL (legsC l) ob op).1) + oq)) = true := (decide_eq_true p1)
                  refine gt rfl rfl rfl (congrArg Value.bool hg182) (x_move (v := Value.int .i64 ((posL (legsC l99) ob op).2)) (ev_tmp rfl rfl)) ?_
                  refine gt rfl rfl rfl (congrArg Value.bool hg182) (x_move (v := Value.int .i64 ((posL (legsC l) ob op).2)) (ev_tmp rfl rfl)) ?_
                  refine gt rfl rfl rfl (congrArg Value.bool hg182) (x_fieldv (b := b9) (o := 0) (q := 6) fa_40_6 (ev_tmp rfl rfl) rfl) ?_
                  refine gt rfl rfl rfl (congrArg Value.bool hg182) (x_load1 (v := Value.int .i64 oq) Try.underlying3 rfl (ev_tmp rfl rfl) (M140.cell (i := 3) (o := 6) rfl rfl)) ?_
                  refine gt rfl rfl rfl (congrArg Value.bool hg182) (x_fieldv (b := b9) (o := 0) (q := 7) fa_40_7 (ev_tmp rfl rfl) rfl) ?_
                  refine gt rfl rfl rfl (congrArg Value.bool hg182) (x_load1 (v := Value.int .i64 or_) Try.underlying3 rfl (ev_tmp rfl rfl) (M140.cell (i := 3) (o := 7) rfl rfl)) ?_
                  have hw183 : IntKind.i64.wrap (oq * or_) = oq * or_ := w64 (by rfl) (by omega) (by omega)
                  refine gt rfl rfl rfl (congrArg Value.bool hg182) (x_mul_eq (p := oq) (q := or_) (ev_tmp rfl rfl) (ev_tmp rfl rfl) hw183) ?_
                  have hw184 : IntKind.i64.wrap (((posL (legsC l) ob op).2) + (oq * or_)) = ((posL (legsC l) ob op).2) + (oq * or_) := w64 (by rfl) (by omega) (by omega)
                  refine gt rfl rfl rfl (congrArg Value.bool hg182) (x_add_eq (p := ((posL (legsC l) ob op).2)) (q := (oq * or_)) (ev_tmp rfl rfl) (ev_tmp rfl rfl) hw184) ?_
                  refine gt rfl rfl rfl (congrArg Value.bool hg182) (x_eql (p := ((posL (legsC l99) ob op).2)) (q := (((posL (legsC l) ob op).2) + (oq * or_))) (ev_tmp rfl rfl) (ev_tmp rfl rfl)) ?_
                  refine st rfl (x_pick_t (v := Value.bool (decide ((posL (legsC l99) ob op).2 = ((posL (legsC l) ob op).2) + (oq * or_)))) (ev_tmp rfl (congrArg Value.bool hg182)) (ev_tmp rfl rfl)) ?_
                  refine st rfl (x_move (v := Value.bool (decide ((posL (legsC l99) ob op).2 = ((posL (legsC l) ob op).2) + (oq * or_)))) (ev_tmp rfl rfl)) ?_
                  have hg188 : (decide ((posL (legsC l99) ob op).2 = ((posL (legsC l) ob op).2) + (oq * or_))) = true := (decide_eq_true p2)
                  refine gt rfl rfl rfl (congrArg Value.bool hg188) (x_move (v := Value.int .i64 ((posL (legsC l123) who product).1)) (ev_tmp rfl rfl)) ?_
                  refine gt rfl rfl rfl (congrArg Value.bool hg188) (x_move (v := Value.int .i64 ((posL (legsC l) who product).1)) (ev_tmp rfl rfl)) ?_
                  refine gt rfl rfl rfl (congrArg Value.bool hg188) (x_eql (p := ((posL (legsC l123) who product).1)) (q := ((posL (legsC l) who product).1)) (ev_tmp rfl rfl) (ev_tmp rfl rfl)) ?_
                  refine st rfl (x_pick_t (v := Value.bool (decide ((posL (legsC l123) who product).1 = (posL (legsC l) who product).1))) (ev_tmp rfl (congrArg Value.bool hg188)) (ev_tmp rfl rfl)) ?_
                  refine st rfl (x_move (v := Value.bool (decide ((posL (legsC l123) who product).1 = (posL (legsC l) who product).1))) (ev_tmp rfl rfl)) ?_
                  have hg192 : (decide ((posL (legsC l123) who product).1 = (posL (legsC l) who product).1)) = true := (decide_eq_true (congrArg Prod.fst (p3 who product)))
                  refine gt rfl rfl rfl (congrArg Value.bool hg192) (x_move (v := Value.int .i64 ((posL (legsC l123) who product).2)) (ev_tmp rfl rfl)) ?_
                  refine gt rfl rfl rfl (congrArg Value.bool hg192) (x_move (v := Value.int .i64 ((posL (legsC l) who product).2)) (ev_tmp rfl rfl)) ?_
                  refine gt rfl rfl rfl (congrArg Value.bool hg192) (x_eql (p := ((posL (legsC l123) who product).2)) (q := ((posL (legsC l) who product).2)) (ev_tmp rfl rfl) (ev_tmp rfl rfl)) ?_
                  refine st rfl (x_pick_t (v := Value.bool (decide ((posL (legsC l123) who product).2 = (posL (legsC l) who product).2))) (ev_tmp rfl (congrArg Value.bool hg192)) (ev_tmp rfl rfl)) ?_
                  refine st rfl (x_assign (v := Value.bool (decide ((posL (legsC l123) who product).2 = (posL (legsC l) who product).2))) (ev_tmp rfl rfl)) ?_
                  refine s_nil ?_
                  refine hK169 _ _ ?_
                  refine c_ret ?_
                  refine hT3 _ _ ?_
                  refine r1 rfl (ev_tmp (v := Value.bool (decide ((posL (legsC l123) who product).2 = (posL (legsC l) who product).2))) rfl rfl) ?_
                  exact ⟨ret_bool (decide_eq_true (congrArg Prod.snd (p3 who product))), M140.below⟩
                · have h193 : fl = false := h75
                  refine c_skip ?_
                  refine hK72 _ _ ?_
                  refine c_seq fun K194 hK195 => ?_
                  refine c_reg ?_
                  refine st rfl (x_loadw (cs := [Value.slice A42 l48.length c43]) Try.underlying24 rfl sz_24 (ev_tmp rfl rfl) (M69.range (i := 0) rfl ⟨rfl, trivial⟩)) ?_
                  refine st rfl (x_move (v := Value.int .i64 e50) (ev_tmp rfl rfl)) ?_
                  refine st rfl (x_move (v := Value.string ob) (ev_tmp rfl rfl)) ?_
                  refine sC rfl (x_callL (xs := [.tmp 72, .tmp 73, .tmp 74]) (vs := [Value.agg #[Value.slice A42 l48.length c43], Value.int .i64 e50, Value.string ob]) (cap := []) ent_17 rfl ⟨(ev_tmp rfl rfl), (ev_tmp rfl rfl), (ev_tmp rfl rfl), trivial⟩) (confirm_n _ _ l48 e50 ob _ (M69.slw (i := 0) rfl)) ?_
                  rintro _ w198 ⟨A196, c197, l202, e204, he203, rfl, hb199, hs200⟩
                  refine ⟨_, rfl, ?_⟩
                  have M201 := M69.gotSl hb199 hs200
                  refine st rfl (x_move (v := Value.tuple #[Value.agg #[Value.slice A196 l202.length c197], Value.int .i64 e204]) (ev_tmp rfl rfl)) ?_
                  refine st rfl (x_extract (v := Value.agg #[Value.slice A196 l202.length c197]) (ev_tmp rfl rfl) rfl) ?_
                  refine st rfl (x_extract (v := Value.int .i64 e204) (ev_tmp rfl rfl) rfl) ?_
                  refine sset (i := 0) (L' := [Own.cells b53 24 #[Value.slice A196 l202.length c197], Own.row 34 8 (Value.slice A35 l.length c36) l.length (l.flatMap Trade.cells), Own.cells b9 40 #[Value.int .u8 kd, Value.int .i64 nb, Value.string by_, Value.string ob, Value.string os, Value.string op, Value.int .i64 oq, Value.int .i64 or_], Own.cells b6 24 #[Value.slice A l.length c]]) M201 rfl rfl (x_storew (cs := [Value.slice A196 l202.length c197]) sz_24 (ev_tmp rfl rfl) (ev_tmp rfl rfl) (M201.cells_at (i := 0) rfl) rfl ⟨rfl, trivial⟩) fun w206 M207 => ?_
                  refine st rfl (x_assign (v := Value.int .i64 e204) (ev_tmp rfl rfl)) ?_
                  refine s_nil ?_
                  refine hK195 _ _ ?_
                  refine c_seq fun K208 hK209 => ?_
                  refine c_reg ?_
                  refine st rfl (x_loadw (cs := [Value.slice A196 l202.length c197]) Try.underlying24 rfl sz_24 (ev_tmp rfl rfl) (M207.range (i := 0) rfl ⟨rfl, trivial⟩)) ?_
                  refine st rfl (x_move (v := Value.int .i64 e50) (ev_tmp rfl rfl)) ?_
                  refine st rfl (x_move (v := Value.string os) (ev_tmp rfl rfl)) ?_
                  refine sC rfl (x_callL (xs := [.tmp 79, .tmp 80, .tmp 81]) (vs := [Value.agg #[Value.slice A196 l202.length c197], Value.int .i64 e50, Value.string os]) (cap := []) ent_17 rfl ⟨(ev_tmp rfl rfl), (ev_tmp rfl rfl), (ev_tmp rfl rfl), trivial⟩) (confirm_n _ _ l202 e50 os _ (M207.slw (i := 0) rfl)) ?_
                  rintro _ w212 ⟨A210, c211, l216, e218, he217, rfl, hb213, hs214⟩
                  refine ⟨_, rfl, ?_⟩
                  have M215 := M207.gotSl hb213 hs214
                  refine st rfl (x_move (v := Value.tuple #[Value.agg #[Value.slice A210 l216.length c211], Value.int .i64 e218]) (ev_tmp rfl rfl)) ?_
                  refine st rfl (x_extract (v := Value.agg #[Value.slice A210 l216.length c211]) (ev_tmp rfl rfl) rfl) ?_
                  refine st rfl (x_extract (v := Value.int .i64 e218) (ev_tmp rfl rfl) rfl) ?_
                  refine sset (i := 0) (L' := [Own.cells b53 24 #[Value.slice A210 l216.length c211], Own.row 34 8 (Value.slice A35 l.length c36) l.length (l.flatMap Trade.cells), Own.cells b9 40 #[Value.int .u8 kd, Value.int .i64 nb, Value.string by_, Value.string ob, Value.string os, Value.string op, Value.int .i64 oq, Value.int .i64 or_], Own.cells b6 24 #[Value.slice A l.length c]]) M215 rfl rfl (x_storew (cs := [Value.slice A210 l216.length c211]) sz_24 (ev_tmp rfl rfl) (ev_tmp rfl rfl) (M215.cells_at (i := 0) rfl) rfl ⟨rfl, trivial⟩) fun w220 M221 => ?_
                  refine st rfl (x_assign (v := Value.int .i64 e218) (ev_tmp rfl rfl)) ?_
                  refine s_nil ?_
                  refine hK209 _ _ ?_
                  refine c_seq fun K222 hK223 => ?_
                  refine c_reg ?_
                  refine st rfl (x_loadw (cs := [Value.slice A210 l216.length c211]) Try.underlying24 rfl sz_24 (ev_tmp rfl rfl) (M221.range (i := 0) rfl ⟨rfl, trivial⟩)) ?_
                  refine st rfl (x_fieldv (b := b9) (o := 0) (q := 3) fa_40_3 (ev_tmp rfl rfl) rfl) ?_
                  refine st rfl (x_load1 (v := Value.string ob) Try.underlying9 rfl (ev_tmp rfl rfl) (M221.cell (i := 2) (o := 3) rfl rfl)) ?_
                  refine st rfl (x_fieldv (b := b9) (o := 0) (q := 5) fa_40_5 (ev_tmp rfl rfl) rfl) ?_
                  refine st rfl (x_load1 (v := Value.string op) Try.underlying9 rfl (ev_tmp rfl rfl) (M221.cell (i := 2) (o := 5) rfl rfl)) ?_
                  refine sC rfl (x_callL (xs := [.tmp 86, .tmp 88, .tmp 90]) (vs := [Value.agg #[Value.slice A210 l216.length c211], Value.string ob, Value.string op]) (cap := []) ent_14 rfl ⟨(ev_tmp rfl rfl), (ev_tmp rfl rfl), (ev_tmp rfl rfl), trivial⟩) (position_c _ _ l216 ob op _ (M221.slw (i := 0) rfl)) ?_
                  rintro _ w224 ⟨rfl, hb226⟩
                  refine ⟨_, rfl, ?_⟩
                  have M225 := M221.call hb226
                  refine st rfl (x_move (v := Value.tuple #[Value.int .i64 ((posL (legsC l216) ob op).1), Value.int .i64 ((posL (legsC l216) ob op).2), Value.int .i64 (chk l216)]) (ev_tmp rfl rfl)) ?_
                  refine st rfl (x_extract (v := Value.int .i64 ((posL (legsC l216) ob op).1)) (ev_tmp rfl rfl) rfl) ?_
                  refine st rfl (x_extract (v := Value.int .i64 ((posL (legsC l216) ob op).2)) (ev_tmp rfl rfl) rfl) ?_
                  refine st rfl (x_extract (v := Value.int .i64 (chk l216)) (ev_tmp rfl rfl) rfl) ?_
                  refine st rfl (x_assign (v := Value.int .i64 ((posL (legsC l216) ob op).1)) (ev_tmp rfl rfl)) ?_
                  refine st rfl (x_assign (v := Value.int .i64 ((posL (legsC l216) ob op).2)) (ev_tmp rfl rfl)) ?_
                  refine st rfl (x_assign (v := Value.int .i64 (chk l216)) (ev_tmp rfl rfl)) ?_
                  refine s_nil ?_
                  refine hK223 _ _ ?_
                  refine c_seq fun K227 hK228 => ?_
                  refine c_reg ?_
                  refine st rfl (x_loadw (cs := [Value.slice A l.length c]) Try.underlying24 rfl sz_24 (ev_tmp rfl rfl) (M225.range (i := 3) rfl ⟨rfl, trivial⟩)) ?_
                  refine st rfl (x_fieldv (b := b9) (o := 0) (q := 3) fa_40_3 (ev_tmp rfl rfl) rfl) ?_
                  refine st rfl (x_load1 (v := Value.string ob) Try.underlying9 rfl (ev_tmp rfl rfl) (M225.cell (i := 2) (o := 3) rfl rfl)) ?_
                  refine st rfl (x_fieldv (b := b9) (o := 0) (q := 5) fa_40_5 (ev_tmp rfl rfl) rfl) ?_
                  refine st rfl (x_load1 (v := Value.string op) Try.underlying9 rfl (ev_tmp rfl rfl) (M225.cell (i := 2) (o := 5) rfl rfl)) ?_
                  refine sC rfl (x_callL (xs := [.tmp 96, .tmp 98, .tmp 100]) (vs := [Value.agg #[Value.slice A l.length c], Value.string ob, Value.string op]) (cap := []) ent_14 rfl ⟨(ev_tmp rfl rfl), (ev_tmp rfl rfl), (ev_tmp rfl rfl), trivial⟩) (position_c _ _ l ob op _ (M225.slw (i := 3) rfl)) ?_
                  rintro _ w229 ⟨rfl, hb231⟩
                  refine ⟨_, rfl, ?_⟩
                  have M230 := M225.call hb231
                  refine st rfl (x_move (v := Value.tuple #[Value.int .i64 ((posL (legsC l) ob op).1), Value.int .i64 ((posL (legsC l) ob op).2), Value.int .i64 (chk l)]) (ev_tmp rfl rfl)) ?_
                  refine st rfl (x_extract (v := Value.int .i64 ((posL (legsC l) ob op).1)) (ev_tmp rfl rfl) rfl) ?_
                  refine st rfl (x_extract (v := Value.int .i64 ((posL (legsC l) ob op).2)) (ev_tmp rfl rfl) rfl) ?_
                  refine st rfl (x_extract (v := Value.int .i64 (chk l)) (ev_tmp rfl rfl) rfl) ?_
                  refine st rfl (x_assign (v := Value.int .i64 ((posL (legsC l) ob op).1)) (ev_tmp rfl rfl)) ?_
                  refine st rfl (x_assign (v := Value.int .i64 ((posL (legsC l) ob op).2)) (ev_tmp rfl rfl)) ?_
                  refine st rfl (x_assign (v := Value.int .i64 (chk l)) (ev_tmp rfl rfl)) ?_
                  refine s_nil ?_
                  refine hK228 _ _ ?_
                  refine c_seq fun K232 hK233 => ?_
                  refine c_reg ?_
                  refine st rfl (x_loadw (cs := [Value.slice A210 l216.length c211]) Try.underlying24 rfl sz_24 (ev_tmp rfl rfl) (M230.range (i := 0) rfl ⟨rfl, trivial⟩)) ?_
                  refine st rfl (x_move (v := Value.int .i64 e50) (ev_tmp rfl rfl)) ?_
                  refine sC rfl (x_callL (xs := [.tmp 106, .tmp 107]) (vs := [Value.agg #[Value.slice A210 l216.length c211], Value.int .i64 e50]) (cap := []) ent_18 rfl ⟨(ev_tmp rfl rfl), (ev_tmp rfl rfl), trivial⟩) (undo_n _ _ l216 e50 _ (M230.slw (i := 0) rfl)) ?_
                  rintro _ w236 ⟨A234, c235, l240, e242, he241, rfl, hb237, hs238⟩
                  refine ⟨_, rfl, ?_⟩
                  have M239 := M230.gotSl hb237 hs238
                  refine st rfl (x_move (v := Value.tuple #[Value.agg #[Value.slice A234 l240.length c235], Value.int .i64 e242]) (ev_tmp rfl rfl)) ?_
                  refine st rfl (x_extract (v := Value.agg #[Value.slice A234 l240.length c235]) (ev_tmp rfl rfl) rfl) ?_
                  refine st rfl (x_extract (v := Value.int .i64 e242) (ev_tmp rfl rfl) rfl) ?_
                  refine snew (cs := #[Value.slice none 0 0]) M239 rfl (x_allocz z_24) fun b244 w245 M246 => ?_
                  refine sset (i := 0) (L' := [Own.cells b244 24 #[Value.slice A234 l240.length c235], Own.cells b53 24 #[Value.slice A210 l216.length c211], Own.row 34 8 (Value.slice A35 l.length c36) l.length (l.flatMap Trade.cells), Own.cells b9 40 #[Value.int .u8 kd, Value.int .i64 nb, Value.string by_, Value.string ob, Value.string os, Value.string op, Value.int .i64 oq, Value.int .i64 or_], Own.cells b6 24 #[Value.slice A l.length c]]) M246 rfl rfl (x_storew (cs := [Value.slice A234 l240.length c235]) sz_24 (ev_tmp rfl rfl) (ev_tmp rfl rfl) (M246.cells_at (i := 0) rfl) rfl ⟨rfl, trivial⟩) fun w247 M248 => ?_
                  refine st rfl (x_assign (v := Value.int .i64 e242) (ev_tmp rfl rfl)) ?_
                  refine s_nil ?_
                  refine hK233 _ _ ?_
                  refine c_seq fun K249 hK250 => ?_
                  refine c_reg ?_
                  refine st rfl (x_loadw (cs := [Value.slice A234 l240.length c235]) Try.underlying24 rfl sz_24 (ev_tmp rfl rfl) (M248.range (i := 0) rfl ⟨rfl, trivial⟩)) ?_
                  refine st rfl (x_move (v := Value.string who) (ev_tmp rfl rfl)) ?_
                  refine st rfl (x_move (v := Value.string product) (ev_tmp rfl rfl)) ?_
                  refine sC rfl (x_callL (xs := [.tmp 112, .tmp 113, .tmp 114]) (vs := [Value.agg #[Value.slice A234 l240.length c235], Value.string who, Value.string product]) (cap := []) ent_14 rfl ⟨(ev_tmp rfl rfl), (ev_tmp rfl rfl), (ev_tmp rfl rfl), trivial⟩) (position_c _ _ l240 who product _ (M248.slw (i := 0) rfl)) ?_
                  rintro _ w251 ⟨rfl, hb253⟩
                  refine ⟨_, rfl, ?_⟩
                  have M252 := M248.call hb253
                  refine st rfl (x_move (v := Value.tuple #[Value.int .i64 ((posL (legsC l240) who product).1), Value.int .i64 ((posL (legsC l240) who product).2), Value.int .i64 (chk l240)]) (ev_tmp rfl rfl)) ?_
                  refine st rfl (x_extract (v := Value.int .i64 ((posL (legsC l240) who product).1)) (ev_tmp rfl rfl) rfl) ?_
                  refine st rfl (x_extract (v := Value.int .i64 ((posL (legsC l240) who product).2)) (ev_tmp rfl rfl) rfl) ?_
                  refine st rfl (x_extract (v := Value.int .i64 (chk l240)) (ev_tmp rfl rfl) rfl) ?_
                  refine st rfl (x_assign (v := Value.int .i64 ((posL (legsC l240) who product).1)) (ev_tmp rfl rfl)) ?_
                  refine st rfl (x_assign (v := Value.int .i64 ((posL (legsC l240) who product).2)) (ev_tmp rfl rfl)) ?_
                  refine st rfl (x_assign (v := Value.int .i64 (chk l240)) (ev_tmp rfl rfl)) ?_
                  refine s_nil ?_
                  refine hK250 _ _ ?_
                  refine c_seq fun K254 hK255 => ?_
                  refine c_reg ?_
                  refine st rfl (x_loadw (cs := [Value.slice A l.length c]) Try.underlying24 rfl sz_24 (ev_tmp rfl rfl) (M252.range (i := 4) rfl ⟨rfl, trivial⟩)) ?_
                  refine st rfl (x_move (v := Value.string who) (ev_tmp rfl rfl)) ?_
                  refine st rfl (x_move (v := Value.string product) (ev_tmp rfl rfl)) ?_
                  refine sC rfl (x_callL (xs := [.tmp 120, .tmp 121, .tmp 122]) (vs := [Value.agg #[Value.slice A l.length c], Value.string who, Value.string product]) (cap := []) ent_14 rfl ⟨(ev_tmp rfl rfl), (ev_tmp rfl rfl), (ev_tmp rfl rfl), trivial⟩) (position_c _ _ l who product _ (M252.slw (i := 4) rfl)) ?_
                  rintro _ w256 ⟨rfl, hb258⟩
                  refine ⟨_, rfl, ?_⟩
                  have M257 := M252.call hb258
                  refine st rfl (x_move (v := Value.tuple #[Value.int .i64 ((posL (legsC l) who product).1), Value.int .i64 ((posL (legsC l) who product).2), Value.int .i64 (chk l)]) (ev_tmp rfl rfl)) ?_
                  refine st rfl (x_extract (v := Value.int .i64 ((posL (legsC l) who product).1)) (ev_tmp rfl rfl) rfl) ?_
                  refine st rfl (x_extract (v := Value.int .i64 ((posL (legsC l) who product).2)) (ev_tmp rfl rfl) rfl) ?_
                  refine st rfl (x_extract (v := Value.int .i64 (chk l)) (ev_tmp rfl rfl) rfl) ?_
                  refine st rfl (x_assign (v := Value.int .i64 ((posL (legsC l) who product).1)) (ev_tmp rfl rfl)) ?_
                  refine st rfl (x_assign (v := Value.int .i64 ((posL (legsC l) who product).2)) (ev_tmp rfl rfl)) ?_
                  refine st rfl (x_assign (v := Value.int .i64 (chk l)) (ev_tmp rfl rfl)) ?_
                  refine s_nil ?_
                  refine hK255 _ _ ?_
                  refine c_seq fun K259 hK260 => ?_
                  refine c_reg ?_
                  refine st rfl (x_move (v := Value.int .i64 e204) (ev_tmp rfl rfl)) ?_
                  refine st rfl (x_eql (p := e204) (q := 0) (ev_tmp rfl rfl) rfl) ?_
                  refine st rfl (x_move (v := Value.bool (decide (e204 = 0))) (ev_tmp rfl rfl)) ?_
                  obtain ⟨z2, z3, z4, c0, c3, c4, q1, q2, rr1, rr2, p1, p2, p3⟩ := undo_plain he49 hz he203 he217 he241 (.inl ⟨rfl, rfl⟩)
                  obtain ⟨b1, b2, b3, b4⟩ := posL_bd l ob op
                  obtain ⟨m1, m2⟩ := mul_bd q1 q2 rr1 rr2
                  have hg264 : (decide (e204 = 0)) = true := (decide_eq_true z2)
                  refine gt rfl rfl rfl (congrArg Value.bool hg264) (x_move (v := Value.int .i64 e218) (ev_tmp rfl rfl)) ?_
                  refine gt rfl rfl rfl (congrArg Value.bool hg264) (x_eql (p := e218) (q := 0) (ev_tmp rfl rfl) rfl) ?_
                  refine st rfl (x_pick_t (v := Value.bool (decide (e218 = 0))) (ev_tmp rfl (congrArg Value.bool hg264)) (ev_tmp rfl rfl)) ?_
                  refine st rfl (x_move (v := Value.bool (decide (e218 = 0))) (ev_tmp rfl rfl)) ?_
                  have hg268 : (decide (e218 = 0)) = true := (decide_eq_true z3)
                  refine gt rfl rfl rfl (congrArg Value.bool hg268) (x_move (v := Value.int .i64 (chk l216)) (ev_tmp rfl rfl)) ?_
                  refine gt rfl rfl rfl (congrArg Value.bool hg268) (x_eql (p := (chk l216)) (q := 0) (ev_tmp rfl rfl) rfl) ?_
                  refine st rfl (x_pick_t (v := Value.bool (decide (chk l216 = 0))) (ev_tmp rfl (congrArg Value.bool hg268)) (ev_tmp rfl rfl)) ?_
                  refine st rfl (x_move (v := Value.bool (decide (chk l216 = 0))) (ev_tmp rfl rfl)) ?_
                  have hg272 : (decide (chk l216 = 0)) = true := (decide_eq_true c3)
                  refine gt rfl rfl rfl (congrArg Value.bool hg272) (x_move (v := Value.int .i64 (chk l)) (ev_tmp rfl rfl)) ?_
                  refine gt rfl rfl rfl (congrArg Value.bool hg272) (x_eql (p := (chk l)) (q := 0) (ev_tmp rfl rfl) rfl) ?_
                  refine st rfl (x_pick_t (v := Value.bool (decide (chk l = 0))) (ev_tmp rfl (congrArg Value.bool hg272)) (ev_tmp rfl rfl)) ?_
                  refine st rfl (x_move (v := Value.bool (decide (chk l = 0))) (ev_tmp rfl rfl)) ?_
                  have hg276 : (decide (chk l = 0)) = true := (decide_eq_true c0)
                  refine gt rfl rfl rfl (congrArg Value.bool hg276) (x_move (v := Value.int .i64 e242) (ev_tmp rfl rfl)) ?_
                  refine gt rfl rfl rfl (congrArg Value.bool hg276) (x_eql (p := e242) (q := 0) (ev_tmp rfl rfl) rfl) ?_
                  refine st rfl (x_pick_t (v := Value.bool (decide (e242 = 0))) (ev_tmp rfl (congrArg Value.bool hg276)) (ev_tmp rfl rfl)) ?_
                  refine st rfl (x_move (v := Value.bool (decide (e242 = 0))) (ev_tmp rfl rfl)) ?_
                  have hg280 : (decide (e242 = 0)) = true := (decide_eq_true z4)
                  refine gt rfl rfl rfl (congrArg Value.bool hg280) (x_move (v := Value.int .i64 (chk l240)) (ev_tmp rfl rfl)) ?_
                  refine gt rfl rfl rfl (congrArg Value.bool hg280) (x_eql (p := (chk l240)) (q := 0) (ev_tmp rfl rfl) rfl) ?_
                  refine st rfl (x_pick_t (v := Value.bool (decide (chk l240 = 0))) (ev_tmp rfl (congrArg Value.bool hg280)) (ev_tmp rfl rfl)) ?_
                  refine st rfl (x_move (v := Value.bool (decide (chk l240 = 0))) (ev_tmp rfl rfl)) ?_
                  have hg284 : (decide (chk l240 = 0)) = true := (decide_eq_true c4)
                  refine gt rfl rfl rfl (congrArg Value.bool hg284) (x_move (v := Value.int .i64 (chk l)) (ev_tmp rfl rfl)) ?_
                  refine gt rfl rfl rfl (congrArg Value.bool hg284) (x_eql (p := (chk l)) (q := 0) (ev_tmp rfl rfl) rfl) ?_
                  refine st rfl (x_pick_t (v := Value.bool (decide (chk l = 0))) (ev_tmp rfl (congrArg Value.bool hg284)) (ev_tmp rfl rfl)) ?_
                  refine st rfl (x_assign (v := Value.bool (decide (chk l = 0))) (ev_tmp rfl rfl)) ?_
                  refine s_nil ?_
                  refine hK260 _ _ ?_
                  refine c_seq fun K285 hK286 => ?_
                  refine c_reg ?_
                  refine st rfl (x_move (v := Value.bool true) (ev_tmp rfl rfl)) ?_
                  refine st rfl (x_move (v := Value.bool true) (ev_tmp rfl rfl)) ?_
                  refine gt rfl rfl rfl rfl (x_move (v := Value.bool (decide (chk l = 0))) (ev_tmp rfl rfl)) ?_
                  refine st rfl (x_pick_t (v := Value.bool (decide (chk l = 0))) (ev_tmp rfl rfl) (ev_tmp rfl rfl)) ?_
                  refine st rfl (x_move (v := Value.bool (decide (chk l = 0))) (ev_tmp rfl rfl)) ?_
                  have hg294 : (decide (chk l = 0)) = true := (decide_eq_true c0)
                  refine gt rfl rfl rfl (congrArg Value.bool hg294) (x_move (v := Value.int .i64 ((posL (legsC l216) ob op).1)) (ev_tmp rfl rfl)) ?_
                  refine gt rfl rfl rfl (congrArg Value.bool hg294) (x_move (v := Value.int .i64 ((posL (legsC l) ob op).1)) (ev_tmp rfl rfl)) ?_
                  refine gt rfl rfl rfl (congrArg Value.bool hg294) (x_fieldv (b := b9) (o := 0) (q := 6) fa_40_6 (ev_tmp rfl rfl) rfl) ?_
                  refine gt rfl rfl rfl (congrArg Value.bool hg294) (x_load1 (v := Value.int .i64 oq) Try.underlying3 rfl (ev_tmp rfl rfl) (M257.cell (i := 3) (o := 6) rfl rfl)) ?_
                  have hw295 : IntKind.i64.wrap (((posL (legsC l) ob op).1) + oq) = ((posL (legsC l) ob op).1) + oq := w64 (by rfl) (by omega) (by omega)
                  refine gt rfl rfl rfl (congrArg Value.bool hg294) (x_add_eq (p := ((posL (legsC l) ob op).1)) (q := oq) (ev_tmp rfl rfl) (ev_tmp rfl rfl) hw295) ?_
                  refine gt rfl rfl rfl (congrArg Value.bool hg294) (x_eql (p := ((posL (legsC l216) ob op).1)) (q := (((posL (legsC l) ob op).1) + oq)) (ev_tmp rfl rfl) (ev_tmp rfl rfl)) ?_
                  refine st rfl (x_pick_t (v := Value.bool (decide ((posL (legsC l216) ob op).1 = ((posL (legsC l) ob op).1) + oq))) (ev_tmp rfl (congrArg Value.bool hg294)) (ev_tmp rfl rfl)) ?_
                  refine st rfl (x_move (v := Value.bool (decide ((posL (legsC l216) ob op).1 = ((posL (legsC l) ob op).1) + oq))) (ev_tmp rfl rfl)) ?_
                  have hg299 : (decide ((posL (legsC l216) ob op).1 = ((posL (legsC l) ob op).1) + oq)) = true := (decide_eq_true p1)
                  refine gt rfl rfl rfl (congrArg Value.bool hg299) (x_move (v := Value.int .i64 ((posL (legsC l216) ob op).2)) (ev_tmp rfl rfl)) ?_
                  refine gt rfl rfl rfl (congrArg Value.bool hg299) (x_move (v := Value.int .i64 ((posL (legsC l) ob op).2)) (ev_tmp rfl rfl)) ?_
                  refine gt rfl rfl rfl (congrArg Value.bool hg299) (x_fieldv (b := b9) (o := 0) (q := 6) fa_40_6 (ev_tmp rfl rfl) rfl) ?_
                  refine gt rfl rfl rfl (congrArg Value.bool hg299) (x_load1 (v := Value.int .i64 oq) Try.underlying3 rfl (ev_tmp rfl rfl) (M257.cell (i := 3) (o := 6) rfl rfl)) ?_
                  refine gt rfl rfl rfl (congrArg Value.bool hg299) (x_fieldv (b := b9) (o := 0) (q := 7) fa_40_7 (ev_tmp rfl rfl) rfl) ?_
                  refine gt rfl rfl rfl (congrArg Value.bool hg299) (x_load1 (v := Value.int .i64 or_) Try.underlying3 rfl (ev_tmp rfl rfl) (M257.cell (i := 3) (o := 7) rfl rfl)) ?_
                  have hw300 : IntKind.i64.wrap (oq * or_) = oq * or_ := w64 (by rfl) (by omega) (by omega)
                  refine gt rfl rfl rfl (congrArg Value.bool hg299) (x_mul_eq (p := oq) (q := or_) (ev_tmp rfl rfl) (ev_tmp rfl rfl) hw300) ?_
                  have hw301 : IntKind.i64.wrap (((posL (legsC l) ob op).2) + (oq * or_)) = ((posL (legsC l) ob op).2) + (oq * or_) := w64 (by rfl) (by omega) (by omega)
                  refine gt rfl rfl rfl (congrArg Value.bool hg299) (x_add_eq (p := ((posL (legsC l) ob op).2)) (q := (oq * or_)) (ev_tmp rfl rfl) (ev_tmp rfl rfl) hw301) ?_
                  refine gt rfl rfl rfl (congrArg Value.bool hg299) (x_eql (p := ((posL (legsC l216) ob op).2)) (q := (((posL (legsC l) ob op).2) + (oq * or_))) (ev_tmp rfl rfl) (ev_tmp rfl rfl)) ?_
                  refine st rfl (x_pick_t (v := Value.bool (decide ((posL (legsC l216) ob op).2 = ((posL (legsC l) ob op).2) + (oq * or_)))) (ev_tmp rfl (congrArg Value.bool hg299)) (ev_tmp rfl rfl)) ?_
                  refine st rfl (x_move (v := Value.bool (decide ((posL (legsC l216) ob op).2 = ((posL (legsC l) ob op).2) + (oq * or_)))) (ev_tmp rfl rfl)) ?_
                  have hg305 : (decide ((posL (legsC l216) ob op).2 = ((posL (legsC l) ob op).2) + (oq * or_))) = true := (decide_eq_true p2)
                  refine gt rfl rfl rfl (congrArg Value.bool hg305) (x_move (v := Value.int .i64 ((posL (legsC l240) who product).1)) (ev_tmp rfl rfl)) ?_
                  refine gt rfl rfl rfl (congrArg Value.bool hg305) (x_move (v := Value.int .i64 ((posL (legsC l) who product).1)) (ev_tmp rfl rfl)) ?_
                  refine gt rfl rfl rfl (congrArg Value.bool hg305) (x_eql (p := ((posL (legsC l240) who product).1)) (q := ((posL (legsC l) who product).1)) (ev_tmp rfl rfl) (ev_tmp rfl rfl)) ?_
                  refine st rfl (x_pick_t (v := Value.bool (decide ((posL (legsC l240) who product).1 = (posL (legsC l) who product).1))) (ev_tmp rfl (congrArg Value.bool hg305)) (ev_tmp rfl rfl)) ?_
                  refine st rfl (x_move (v := Value.bool (decide ((posL (legsC l240) who product).1 = (posL (legsC l) who product).1))) (ev_tmp rfl rfl)) ?_
                  have hg309 : (decide ((posL (legsC l240) who product).1 = (posL (legsC l) who product).1)) = true := (decide_eq_true (congrArg Prod.fst (p3 who product)))
                  refine gt rfl rfl rfl (congrArg Value.bool hg309) (x_move (v := Value.int .i64 ((posL (legsC l240) who product).2)) (ev_tmp rfl rfl)) ?_
                  refine gt rfl rfl rfl (congrArg Value.bool hg309) (x_move (v := Value.int .i64 ((posL (legsC l) who product).2)) (ev_tmp rfl rfl)) ?_
                  refine gt rfl rfl rfl (congrArg Value.bool hg309) (x_eql (p := ((posL (legsC l240) who product).2)) (q := ((posL (legsC l) who product).2)) (ev_tmp rfl rfl) (ev_tmp rfl rfl)) ?_
                  refine st rfl (x_pick_t (v := Value.bool (decide ((posL (legsC l240) who product).2 = (posL (legsC l) who product).2))) (ev_tmp rfl (congrArg Value.bool hg309)) (ev_tmp rfl rfl)) ?_
                  refine st rfl (x_assign (v := Value.bool (decide ((posL (legsC l240) who product).2 = (posL (legsC l) who product).2))) (ev_tmp rfl rfl)) ?_
                  refine s_nil ?_
                  refine hK286 _ _ ?_
                  refine c_ret ?_
                  refine hT3 _ _ ?_
                  refine r1 rfl (ev_tmp (v := Value.bool (decide ((posL (legsC l240) who product).2 = (posL (legsC l) who product).2))) rfl rfl) ?_
                  exact ⟨ret_bool (decide_eq_true (congrArg Prod.snd (p3 who product))), M257.below⟩
            exact dN
          exact dN
        refine dC ?_ ?_
        · refine dnew (i := 17) (cs := #[Value.slice none 0 0]) M40 rfl rfl (x_allocz z_24) fun b310 w311 M312 => ?_
          refine ⟨(M312.dropL 2), ?_⟩
          refine dA (rs := [12]) (by kernel_rfl) rfl ?_
          refine dC ?_ ?_
          · refine dsC (i := 12) rfl rfl (x_callL (xs := [.tmp 46, .tmp 48, .tmp 50, .tmp 52, .tmp 54, .tmp 56]) (vs := [Value.agg #[Value.slice A35 l.length c36], Value.string ob, Value.string os, Value.string op, Value.int .i64 oq, Value.int .i64 or_]) (cap := []) ent_15 rfl ⟨(ev_tmp rfl rfl), (ev_tmp rfl rfl), (ev_tmp rfl rfl), (ev_tmp rfl rfl), (ev_tmp rfl rfl), (ev_tmp rfl rfl), trivial⟩) (submit_n _ _ l ob os op oq or_ _ (M312.rowsl (i := 1) rfl rfl Trade.len)) ?_
            rintro _ w315 ⟨A313, c314, l319, e321, e322, he320, rfl, hb316, hs317⟩
            refine ⟨_, rfl, ?_⟩
            have M318 := M312.gotSl hb316 hs317
            refine ⟨((M318.dropL 2).dropR 1), ?_⟩
            refine dT (i := 13) (v := Value.tuple #[Value.agg #[Value.slice A313 l319.length c314], Value.int .i64 e321, Value.int .i64 e322]) rfl (by kernel_rfl) (by kernel_rfl) rfl ((M318.dropL 2).dropR 1) (fun _ hS => x_move (v := Value.tuple #[Value.agg #[Value.slice A313 l319.length c314], Value.int .i64 e321, Value.int .i64 e322]) (ev_tmp rfl rfl)) ?_
            refine dT (i := 14) (v := Value.agg #[Value.slice A313 l319.length c314]) rfl (by kernel_rfl) (by kernel_rfl) rfl ((M318.dropL 2).dropR 1) (fun _ hS => x_extract (v := Value.agg #[Value.slice A313 l319.length c314]) (ev_tmp rfl rfl) rfl) ?_
            refine dT (i := 15) (v := Value.int .i64 e321) rfl (by kernel_rfl) (by kernel_rfl) rfl ((M318.dropL 2).dropR 1) (fun _ hS => x_extract (v := Value.int .i64 e321) (ev_tmp rfl rfl) rfl) ?_
            refine dT (i := 16) (v := Value.int .i64 e322) rfl (by kernel_rfl) (by kernel_rfl) rfl ((M318.dropL 2).dropR 1) (fun _ hS => x_extract (v := Value.int .i64 e322) (ev_tmp rfl rfl) rfl) ?_
            refine dA (rs := [18]) (by kernel_rfl) rfl ?_
            refine dC ?_ ?_
            · refine dset (i := 18) (k := 0) (L' := [Own.cells b310 24 #[Value.slice A313 l319.length c314], Own.row 34 8 (Value.slice A35 l.length c36) l.length (l.flatMap Trade.cells), Own.cells b9 40 #[Value.int .u8 kd, Value.int .i64 nb, Value.string by_, Value.string ob, Value.string os, Value.string op, Value.int .i64 oq, Value.int .i64 or_], Own.cells b6 24 #[Value.slice A l.length c]]) M318 rfl rfl rfl (x_storew (cs := [Value.slice A313 l319.length c314]) sz_24 (ev_tmp rfl rfl) (ev_tmp rfl rfl) (M318.cells_at (i := 0) rfl) rfl ⟨rfl, trivial⟩) fun w324 M325 => ?_
              refine ⟨((M325.dropL 2).dropR 1), ?_⟩
              refine dT (i := 19) (v := Value.int .i64 e321) rfl (by kernel_rfl) (by kernel_rfl) rfl ((M325.dropL 2).dropR 1) (fun _ hS => x_assign (v := Value.int .i64 e321) (ev_tmp rfl rfl)) ?_
              refine dT (i := 20) (v := Value.int .i64 e322) rfl (by kernel_rfl) (by kernel_rfl) rfl ((M325.dropL 2).dropR 1) (fun _ hS => x_assign (v := Value.int .i64 e322) (ev_tmp rfl rfl)) ?_
              refine dE (by kernel_rfl) ?_
              refine hK32 _ _ ?_
              refine c_seq fun K326 hK327 => ?_
              refine c_seq fun K328 hK329 => ?_
              refine c_reg ?_
              refine st rfl (x_move (v := Value.int .i64 e322) (ev_tmp rfl rfl)) ?_
              refine st rfl (x_neq (p := e322) (q := 0) (ev_tmp rfl rfl) rfl) ?_
              refine s_nil ?_
              refine hK329 _ _ ?_
              refine c_cond (b := !(decide (e322 = 0))) (ev_tmp rfl rfl) (fun h330 => ?_) (fun h330 => ?_)
              · have h331 : ¬ (e322 = 0) := of_decide_eq_false (not_t h330)
                refine c_seq fun K332 hK333 => ?_
                refine c_reg ?_
                refine st rfl (x_move (v := Value.bool true) (ev_tmp rfl rfl)) ?_
                refine st rfl (x_assign (v := Value.bool true) (ev_tmp rfl rfl)) ?_
                refine s_nil ?_
                refine hK333 _ _ ?_
                refine c_ret ?_
                refine hT3 _ _ ?_
                refine r1 rfl (ev_tmp (v := Value.bool true) rfl rfl) ?_
                exact ⟨rfl, M325.below⟩
              · have h334 : e322 = 0 := of_decide_eq_true (not_f h330)
                have hz : e322 = 0 := of_decide_eq_true (not_f h330)
                refine c_skip ?_
                refine hK327 _ _ ?_
                refine c_seq fun K335 hK336 => ?_
                have M337 := M325.drew
                refine c_drawn (fun w1 => Mem w [] w1 [Own.cells b310 24 #[Value.slice A313 l319.length c314], Own.row 34 8 (Value.slice A35 l.length c36) l.length (l.flatMap Trade.cells), Own.cells b9 40 #[Value.int .u8 kd, Value.int .i64 nb, Value.string by_, Value.string ob, Value.string os, Value.string op, Value.int .i64 oq, Value.int .i64 or_], Own.cells b6 24 #[Value.slice A l.length c]] [Ro.sl w311.heap.size w315.heap.size A313 c314 8 Trade.cells l319, Ro.sl 0 w.heap.size A c 8 Trade.cells l]) mixed ?_
                generalize w324.drew = w338 at M337 ⊢
                refine dT (i := 0) (v := Value.pointer (some ⟨b9, 3, none⟩)) rfl (by kernel_rfl) (by kernel_rfl) rfl M337 (fun _ hS => x_fieldv (b := b9) (o := 0) (q := 3) fa_40_3 (ev_tmp rfl rfl) rfl) ?_
                refine dT (i := 1) (v := Value.string ob) rfl (by kernel_rfl) (by kernel_rfl) rfl M337 (fun _ hS => x_load1 (v := Value.string ob) Try.underlying9 rfl (ev_tmp rfl rfl) (hS.cell (i := 2) (o := 3) rfl rfl)) ?_
                refine dT (i := 2) (v := Value.pointer (some ⟨b9, 4, none⟩)) rfl (by kernel_rfl) (by kernel_rfl) rfl M337 (fun _ hS => x_fieldv (b := b9) (o := 0) (q := 4) fa_40_4 (ev_tmp rfl rfl) rfl) ?_
                refine dT (i := 3) (v := Value.string os) rfl (by kernel_rfl) (by kernel_rfl) rfl M337 (fun _ hS => x_load1 (v := Value.string os) Try.underlying9 rfl (ev_tmp rfl rfl) (hS.cell (i := 2) (o := 4) rfl rfl)) ?_
                refine dT (i := 4) (v := Value.string ob) rfl (by kernel_rfl) (by kernel_rfl) rfl M337 (fun _ hS => x_assign (v := Value.string ob) (ev_tmp rfl rfl)) ?_
                refine dT (i := 5) (v := Value.string os) rfl (by kernel_rfl) (by kernel_rfl) rfl M337 (fun _ hS => x_assign (v := Value.string os) (ev_tmp rfl rfl)) ?_
                refine dE (by kernel_rfl) ?_
                refine hK336 _ _ ?_
                refine c_seq fun K339 hK340 => ?_
                refine c_seq fun K341 hK342 => ?_
                refine c_reg ?_
                refine st rfl (x_move (v := Value.bool fl) (ev_tmp rfl rfl)) ?_
                refine s_nil ?_
                refine hK342 _ _ ?_
                refine c_cond (b := fl) (ev_tmp rfl rfl) (fun h343 => ?_) (fun h343 => ?_)
                · have h344 : fl = true := h343
                  refine c_reg ?_
                  refine st rfl (x_move (v := Value.string os) (ev_tmp rfl rfl)) ?_
                  refine st rfl (x_move (v := Value.string ob) (ev_tmp rfl rfl)) ?_
                  refine st rfl (x_assign (v := Value.string os) (ev_tmp rfl rfl)) ?_
                  refine st rfl (x_assign (v := Value.string ob) (ev_tmp rfl rfl)) ?_
                  refine s_nil ?_
                  refine hK340 _ _ ?_
                  refine c_seq fun K345 hK346 => ?_
                  refine c_reg ?_
                  refine st rfl (x_loadw (cs := [Value.slice A313 l319.length c314]) Try.underlying24 rfl sz_24 (ev_tmp rfl rfl) (M337.range (i := 0) rfl ⟨rfl, trivial⟩)) ?_
                  refine st rfl (x_move (v := Value.int .i64 e321) (ev_tmp rfl rfl)) ?_
                  refine st rfl (x_move (v := Value.string os) (ev_tmp rfl rfl)) ?_
                  refine sC rfl (x_callL (xs := [.tmp 72, .tmp 73, .tmp 74]) (vs := [Value.agg #[Value.slice A313 l319.length c314], Value.int .i64 e321, Value.string os]) (cap := []) ent_17 rfl ⟨(ev_tmp rfl rfl), (ev_tmp rfl rfl), (ev_tmp rfl rfl), trivial⟩) (confirm_n _ _ l319 e321 os _ (M337.slw (i := 0) rfl)) ?_
                  rintro _ w349 ⟨A347, c348, l353, e355, he354, rfl, hb350, hs351⟩
                  refine ⟨_, rfl, ?_⟩
                  have M352 := M337.gotSl hb350 hs351
                  refine st rfl (x_move (v := Value.tuple #[Value.agg #[Value.slice A347 l353.length c348], Value.int .i64 e355]) (ev_tmp rfl rfl)) ?_
                  refine st rfl (x_extract (v := Value.agg #[Value.slice A347 l353.length c348]) (ev_tmp rfl rfl) rfl) ?_
                  refine st rfl (x_extract (v := Value.int .i64 e355) (ev_tmp rfl rfl) rfl) ?_
                  refine sset (i := 0) (L' := [Own.cells b310 24 #[Value.slice A347 l353.length c348], Own.row 34 8 (Value.slice A35 l.length c36) l.length (l.flatMap Trade.cells), Own.cells b9 40 #[Value.int .u8 kd, Value.int .i64 nb, Value.string by_, Value.string ob, Value.string os, Value.string op, Value.int .i64 oq, Value.int .i64 or_], Own.cells b6 24 #[Value.slice A l.length c]]) M352 rfl rfl (x_storew (cs := [Value.slice A347 l353.length c348]) sz_24 (ev_tmp rfl rfl) (ev_tmp rfl rfl) (M352.cells_at (i := 0) rfl) rfl ⟨rfl, trivial⟩) fun w357 M358 => ?_
                  refine st rfl (x_assign (v := Value.int .i64 e355) (ev_tmp rfl rfl)) ?_
                  refine s_nil ?_
                  refine hK346 _ _ ?_
                  refine c_seq fun K359 hK360 => ?_
                  refine c_reg ?_
                  refine st rfl (x_loadw (cs := [Value.slice A347 l353.length c348]) Try.underlying24 rfl sz_24 (ev_tmp rfl rfl) (M358.range (i := 0) rfl ⟨rfl, trivial⟩)) ?_
                  refine st rfl (x_move (v := Value.int .i64 e321) (ev_tmp rfl rfl)) ?_
                  refine st rfl (x_move (v := Value.string ob) (ev_tmp rfl rfl)) ?_
                  refine sC rfl (x_callL (xs := [.tmp 79, .tmp 80, .tmp 81]) (vs := [Value.agg #[Value.slice A347 l353.length c348], Value.int .i64 e321, Value.string ob]) (cap := []) ent_17 rfl ⟨(ev_tmp rfl rfl), (ev_tmp rfl rfl), (ev_tmp rfl rfl), trivial⟩) (confirm_n _ _ l353 e321 ob _ (M358.slw (i := 0) rfl)) ?_
                  rintro _ w363 ⟨A361, c362, l367, e369, he368, rfl, hb364, hs365⟩
                  refine ⟨_, rfl, ?_⟩
                  have M366 := M358.gotSl hb364 hs365
                  refine st rfl (x_move (v := Value.tuple #[Value.agg #[Value.slice A361 l367.length c362], Value.int .i64 e369]) (ev_tmp rfl rfl)) ?_
                  refine st rfl (x_extract (v := Value.agg #[Value.slice A361 l367.length c362]) (ev_tmp rfl rfl) rfl) ?_
                  refine st rfl (x_extract (v := Value.int .i64 e369) (ev_tmp rfl rfl) rfl) ?_
                  refine sset (i := 0) (L' := [Own.cells b310 24 #[Value.slice A361 l367.length c362], Own.row 34 8 (Value.slice A35 l.length c36) l.length (l.flatMap Trade.cells), Own.cells b9 40 #[Value.int .u8 kd, Value.int .i64 nb, Value.string by_, Value.string ob, Value.string os, Value.string op, Value.int .i64 oq, Value.int .i64 or_], Own.cells b6 24 #[Value.slice A l.length c]]) M366 rfl rfl (x_storew (cs := [Value.slice A361 l367.length c362]) sz_24 (ev_tmp rfl rfl) (ev_tmp rfl rfl) (M366.cells_at (i := 0) rfl) rfl ⟨rfl, trivial⟩) fun w371 M372 => ?_
                  refine st rfl (x_assign (v := Value.int .i64 e369) (ev_tmp rfl rfl)) ?_
                  refine s_nil ?_
                  refine hK360 _ _ ?_
                  refine c_seq fun K373 hK374 => ?_
                  refine c_reg ?_
                  refine st rfl (x_loadw (cs := [Value.slice A361 l367.length c362]) Try.underlying24 rfl sz_24 (ev_tmp rfl rfl) (M372.range (i := 0) rfl ⟨rfl, trivial⟩)) ?_
                  refine st rfl (x_fieldv (b := b9) (o := 0) (q := 3) fa_40_3 (ev_tmp rfl rfl) rfl) ?_
                  refine st rfl (x_load1 (v := Value.string ob) Try.underlying9 rfl (ev_tmp rfl rfl) (M372.cell (i := 2) (o := 3) rfl rfl)) ?_
                  refine st rfl (x_fieldv (b := b9) (o := 0) (q := 5) fa_40_5 (ev_tmp rfl rfl) rfl) ?_
                  refine st rfl (x_load1 (v := Value.string op) Try.underlying9 rfl (ev_tmp rfl rfl) (M372.cell (i := 2) (o := 5) rfl rfl)) ?_
                  refine sC rfl (x_callL (xs := [.tmp 86, .tmp 88, .tmp 90]) (vs := [Value.agg #[Value.slice A361 l367.length c362], Value.string ob, Value.string op]) (cap := []) ent_14 rfl ⟨(ev_tmp rfl rfl), (ev_tmp rfl rfl), (ev_tmp rfl rfl), trivial⟩) (position_c _ _ l367 ob op _ (M372.slw (i := 0) rfl)) ?_
                  rintro _ w375 ⟨rfl, hb377⟩
                  refine ⟨_, rfl, ?_⟩
                  have M376 := M372.call hb377
                  refine st rfl (x_move (v := Value.tuple #[Value.int .i64 ((posL (legsC l367) ob op).1), Value.int .i64 ((posL (legsC l367) ob op).2), Value.int .i64 (chk l367)]) (ev_tmp rfl rfl)) ?_
                  refine st rfl (x_extract (v := Value.int .i64 ((posL (legsC l367) ob op).1)) (ev_tmp rfl rfl) rfl) ?_
                  refine st rfl (x_extract (v := Value.int .i64 ((posL (legsC l367) ob op).2)) (ev_tmp rfl rfl) rfl) ?_
                  refine st rfl (x_extract (v := Value.int .i64 (chk l367)) (ev_tmp rfl rfl) rfl) ?_
                  refine st rfl (x_assign (v := Value.int .i64 ((posL (legsC l367) ob op).1)) (ev_tmp rfl rfl)) ?_
                  refine st rfl (x_assign (v := Value.int .i64 ((posL (legsC l367) ob op).2)) (ev_tmp rfl rfl)) ?_
                  refine st rfl (x_assign (v := Value.int .i64 (chk l367)) (ev_tmp rfl rfl)) ?_
                  refine s_nil ?_
                  refine hK374 _ _ ?_
                  refine c_seq fun K378 hK379 => ?_
                  refine c_reg ?_
                  refine st rfl (x_loadw (cs := [Value.slice A l.length c]) Try.underlying24 rfl sz_24 (ev_tmp rfl rfl) (M376.range (i := 3) rfl ⟨rfl, trivial⟩)) ?_
                  refine st rfl (x_fieldv (b := b9) (o := 0) (q := 3) fa_40_3 (ev_tmp rfl rfl) rfl) ?_
                  refine st rfl (x_load1 (v := Value.string ob) Try.underlying9 rfl (ev_tmp rfl rfl) (M376.cell (i := 2) (o := 3) rfl rfl)) ?_
                  refine st rfl (x_fieldv (b := b9) (o := 0) (q := 5) fa_40_5 (ev_tmp rfl rfl) rfl) ?_
                  refine st rfl (x_load1 (v := Value.string op) Try.underlying9 rfl (ev_tmp rfl rfl) (M376.cell (i := 2) (o := 5) rfl rfl)) ?_
                  refine sC rfl (x_callL (xs := [.tmp 96, .tmp 98, .tmp 100]) (vs := [Value.agg #[Value.slice A l.length c], Value.string ob, Value.string op]) (cap := []) ent_14 rfl ⟨(ev_tmp rfl rfl), (ev_tmp rfl rfl), (ev_tmp rfl rfl), trivial⟩) (position_c _ _ l ob op _ (M376.slw (i := 3) rfl)) ?_
                  rintro _ w380 ⟨rfl, hb382⟩
                  refine ⟨_, rfl, ?_⟩
                  have M381 := M376.call hb382
                  refine st rfl (x_move (v := Value.tuple #[Value.int .i64 ((posL (legsC l) ob op).1), Value.int .i64 ((posL (legsC l) ob op).2), Value.int .i64 (chk l)]) (ev_tmp rfl rfl)) ?_
                  refine st rfl (x_extract (v := Value.int .i64 ((posL (legsC l) ob op).1)) (ev_tmp rfl rfl) rfl) ?_
                  refine st rfl (x_extract (v := Value.int .i64 ((posL (legsC l) ob op).2)) (ev_tmp rfl rfl) rfl) ?_
                  refine st rfl (x_extract (v := Value.int .i64 (chk l)) (ev_tmp rfl rfl) rfl) ?_
                  refine st rfl (x_assign (v := Value.int .i64 ((posL (legsC l) ob op).1)) (ev_tmp rfl rfl)) ?_
                  refine st rfl (x_assign (v := Value.int .i64 ((posL (legsC l) ob op).2)) (ev_tmp rfl rfl)) ?_
                  refine st rfl (x_assign (v := Value.int .i64 (chk l)) (ev_tmp rfl rfl)) ?_
                  refine s_nil ?_
                  refine hK379 _ _ ?_
                  refine c_seq fun K383 hK384 => ?_
                  refine c_reg ?_
                  refine st rfl (x_loadw (cs := [Value.slice A361 l367.length c362]) Try.underlying24 rfl sz_24 (ev_tmp rfl rfl) (M381.range (i := 0) rfl ⟨rfl, trivial⟩)) ?_
                  refine st rfl (x_move (v := Value.int .i64 e321) (ev_tmp rfl rfl)) ?_
                  refine sC rfl (x_callL (xs := [.tmp 106, .tmp 107]) (vs := [Value.agg #[Value.slice A361 l367.length c362], Value.int .i64 e321]) (cap := []) ent_18 rfl ⟨(ev_tmp rfl rfl), (ev_tmp rfl rfl), trivial⟩) (undo_n _ _ l367 e321 _ (M381.slw (i := 0) rfl)) ?_
                  rintro _ w387 ⟨A385, c386, l391, e393, he392, rfl, hb388, hs389⟩
                  refine ⟨_, rfl, ?_⟩
                  have M390 := M381.gotSl hb388 hs389
                  refine st rfl (x_move (v := Value.tuple #[Value.agg #[Value.slice A385 l391.length c386], Value.int .i64 e393]) (ev_tmp rfl rfl)) ?_
                  refine st rfl (x_extract (v := Value.agg #[Value.slice A385 l391.length c386]) (ev_tmp rfl rfl) rfl) ?_
                  refine st rfl (x_extract (v := Value.int .i64 e393) (ev_tmp rfl rfl) rfl) ?_
                  refine snew (cs := #[Value.slice none 0 0]) M390 rfl (x_allocz z_24) fun b395 w396 M397 => ?_
                  refine sset (i := 0) (L' := [Own.cells b395 24 #[Value.slice A385 l391.length c386], Own.cells b310 24 #[Value.slice A361 l367.length c362], Own.row 34 8 (Value.slice A35 l.length c36) l.length (l.flatMap Trade.cells), Own.cells b9 40 #[Value.int .u8 kd, Value.int .i64 nb, Value.string by_, Value.string ob, Value.string os, Value.string op, Value.int .i64 oq, Value.int .i64 or_], Own.cells b6 24 #[Value.slice A l.length c]]) M397 rfl rfl (x_storew (cs := [Value.slice A385 l391.length c386]) sz_24 (ev_tmp rfl rfl) (ev_tmp rfl rfl) (M397.cells_at (i := 0) rfl) rfl ⟨rfl, trivial⟩) fun w398 M399 => ?_
                  refine st rfl (x_assign (v := Value.int .i64 e393) (ev_tmp rfl rfl)) ?_
                  refine s_nil ?_
                  refine hK384 _ _ ?_
                  refine c_seq fun K400 hK401 => ?_
                  refine c_reg ?_
                  refine st rfl (x_loadw (cs := [Value.slice A385 l391.length c386]) Try.underlying24 rfl sz_24 (ev_tmp rfl rfl) (M399.range (i := 0) rfl ⟨rfl, trivial⟩)) ?_
                  refine st rfl (x_move (v := Value.string who) (ev_tmp rfl rfl)) ?_
                  refine st rfl (x_move (v := Value.string product) (ev_tmp rfl rfl)) ?_
                  refine sC rfl (x_callL (xs := [.tmp 112, .tmp 113, .tmp 114]) (vs := [Value.agg #[Value.slice A385 l391.length c386], Value.string who, Value.string product]) (cap := []) ent_14 rfl ⟨(ev_tmp rfl rfl), (ev_tmp rfl rfl), (ev_tmp rfl rfl), trivial⟩) (position_c _ _ l391 who product _ (M399.slw (i := 0) rfl)) ?_
                  rintro _ w402 ⟨rfl, hb404⟩
                  refine ⟨_, rfl, ?_⟩
                  have M403 := M399.call hb404
                  refine st rfl (x_move (v := Value.tuple #[Value.int .i64 ((posL (legsC l391) who product).1), Value.int .i64 ((posL (legsC l391) who product).2), Value.int .i64 (chk l391)]) (ev_tmp rfl rfl)) ?_
                  refine st rfl (x_extract (v := Value.int .i64 ((posL (legsC l391) who product).1)) (ev_tmp rfl rfl) rfl) ?_
                  refine st rfl (x_extract (v := Value.int .i64 ((posL (legsC l391) who product).2)) (ev_tmp rfl rfl) rfl) ?_
                  refine st rfl (x_extract (v := Value.int .i64 (chk l391)) (ev_tmp rfl rfl) rfl) ?_
                  refine st rfl (x_assign (v := Value.int .i64 ((posL (legsC l391) who product).1)) (ev_tmp rfl rfl)) ?_
                  refine st rfl (x_assign (v := Value.int .i64 ((posL (legsC l391) who product).2)) (ev_tmp rfl rfl)) ?_
                  refine st rfl (x_assign (v := Value.int .i64 (chk l391)) (ev_tmp rfl rfl)) ?_
                  refine s_nil ?_
                  refine hK401 _ _ ?_
                  refine c_seq fun K405 hK406 => ?_
                  refine c_reg ?_
                  refine st rfl (x_loadw (cs := [Value.slice A l.length c]) Try.underlying24 rfl sz_24 (ev_tmp rfl rfl) (M403.range (i := 4) rfl ⟨rfl, trivial⟩)) ?_
                  refine st rfl (x_move (v := Value.string who) (ev_tmp rfl rfl)) ?_
                  refine st rfl (x_move (v := Value.string product) (ev_tmp rfl rfl)) ?_
                  refine sC rfl (x_callL (xs := [.tmp 120, .tmp 121, .tmp 122]) (vs := [Value.agg #[Value.slice A l.length c], Value.string who, Value.string product]) (cap := []) ent_14 rfl ⟨(ev_tmp rfl rfl), (ev_tmp rfl rfl), (ev_tmp rfl rfl), trivial⟩) (position_c _ _ l who product _ (M403.slw (i := 4) rfl)) ?_
                  rintro _ w407 ⟨rfl, hb409⟩
                  refine ⟨_, rfl, ?_⟩
                  have M408 := M403.call hb409
                  refine st rfl (x_move (v := Value.tuple #[Value.int .i64 ((posL (legsC l) who product).1), Value.int .i64 ((posL (legsC l) who product).2), Value.int .i64 (chk l)]) (ev_tmp rfl rfl)) ?_
                  refine st rfl (x_extract (v := Value.int .i64 ((posL (legsC l) who product).1)) (ev_tmp rfl rfl) rfl) ?_
                  refine st rfl (x_extract (v := Value.int .i64 ((posL (legsC l) who product).2)) (ev_tmp rfl rfl) rfl) ?_
                  refine st rfl (x_extract (v := Value.int .i64 (chk l)) (ev_tmp rfl rfl) rfl) ?_
                  refine st rfl (x_assign (v := Value.int .i64 ((posL (legsC l) who product).1)) (ev_tmp rfl rfl)) ?_
                  refine st rfl (x_assign (v := Value.int .i64 ((posL (legsC l) who product).2)) (ev_tmp rfl rfl)) ?_
                  refine st rfl (x_assign (v := Value.int .i64 (chk l)) (ev_tmp rfl rfl)) ?_
                  refine s_nil ?_
                  refine hK406 _ _ ?_
                  refine c_seq fun K410 hK411 => ?_
                  refine c_reg ?_
                  refine st rfl (x_move (v := Value.int .i64 e355) (ev_tmp rfl rfl)) ?_
                  refine st rfl (x_eql (p := e355) (q := 0) (ev_tmp rfl rfl) rfl) ?_
                  refine st rfl (x_move (v := Value.bool (decide (e355 = 0))) (ev_tmp rfl rfl)) ?_
                  obtain ⟨z2, z3, z4, c0, c3, c4, q1, q2, rr1, rr2, p1, p2, p3⟩ := undo_plain he320 hz he354 he368 he392 (.inr ⟨rfl, rfl⟩)
                  obtain ⟨b1, b2, b3, b4⟩ := posL_bd l ob op
                  obtain ⟨m1, m2⟩ := mul_bd q1 q2 rr1 rr2
                  have hg415 : (decide (e355 = 0)) = true := (decide_eq_true z2)
                  refine gt rfl rfl rfl (congrArg Value.bool hg415) (x_move (v := Value.int .i64 e369) (ev_tmp rfl rfl)) ?_
                  refine gt rfl rfl rfl (congrArg Value.bool hg415) (x_eql (p := e369) (q := 0) (ev_tmp rfl rfl) rfl) ?_
                  refine st rfl (x_pick_t (v := Value.bool (decide (e369 = 0))) (ev_tmp rfl (congrArg Value.bool hg415)) (ev_tmp rfl rfl)) ?_
                  refine st rfl (x_move (v := Value.bool (decide (e369 = 0))) (ev_tmp rfl rfl)) ?_
                  have hg419 : (decide (e369 = 0)) = true := (decide_eq_true z3)
                  refine gt rfl rfl rfl (congrArg Value.bool hg419) (x_move (v := Value.int .i64 (chk l367)) (ev_tmp rfl rfl)) ?_
                  refine gt rfl rfl rfl (congrArg Value.bool hg419) (x_eql (p := (chk l367)) (q := 0) (ev_tmp rfl rfl) rfl) ?_
                  refine st rfl (x_pick_t (v := Value.bool (decide (chk l367 = 0))) (ev_tmp rfl (congrArg Value.bool hg419)) (ev_tmp rfl rfl)) ?_
                  refine st rfl (x_move (v := Value.bool (decide (chk l367 = 0))) (ev_tmp rfl rfl)) ?_
                  have hg423 : (decide (chk l367 = 0)) = true := (decide_eq_true c3)
                  refine gt rfl rfl rfl (congrArg Value.bool hg423) (x_move (v := Value.int .i64 (chk l)) (ev_tmp rfl rfl)) ?_
                  refine gt rfl rfl rfl (congrArg Value.bool hg423) (x_eql (p := (chk l)) (q := 0) (ev_tmp rfl rfl) rfl) ?_
                  refine st rfl (x_pick_t (v := Value.bool (decide (chk l = 0))) (ev_tmp rfl (congrArg Value.bool hg423)) (ev_tmp rfl rfl)) ?_
                  refine st rfl (x_move (v := Value.bool (decide (chk l = 0))) (ev_tmp rfl rfl)) ?_
                  have hg427 : (decide (chk l = 0)) = true := (decide_eq_true c0)
                  refine gt rfl rfl rfl (congrArg Value.bool hg427) (x_move (v := Value.int .i64 e393) (ev_tmp rfl rfl)) ?_
                  refine gt rfl rfl rfl (congrArg Value.bool hg427) (x_eql (p := e393) (q := 0) (ev_tmp rfl rfl) rfl) ?_
                  refine st rfl (x_pick_t (v := Value.bool (decide (e393 = 0))) (ev_tmp rfl (congrArg Value.bool hg427)) (ev_tmp rfl rfl)) ?_
                  refine st rfl (x_move (v := Value.bool (decide (e393 = 0))) (ev_tmp rfl rfl)) ?_
                  have hg431 : (decide (e393 = 0)) = true := (decide_eq_true z4)
                  refine gt rfl rfl rfl (congrArg Value.bool hg431) (x_move (v := Value.int .i64 (chk l391)) (ev_tmp rfl rfl)) ?_
                  refine gt rfl rfl rfl (congrArg Value.bool hg431) (x_eql (p := (chk l391)) (q := 0) (ev_tmp rfl rfl) rfl) ?_
                  refine st rfl (x_pick_t (v := Value.bool (decide (chk l391 = 0))) (ev_tmp rfl (congrArg Value.bool hg431)) (ev_tmp rfl rfl)) ?_
                  refine st rfl (x_move (v := Value.bool (decide (chk l391 = 0))) (ev_tmp rfl rfl)) ?_
                  have hg435 : (decide (chk l391 = 0)) = true := (decide_eq_true c4)
                  refine gt rfl rfl rfl (congrArg Value.bool hg435) (x_move (v := Value.int .i64 (chk l)) (ev_tmp rfl rfl)) ?_
                  refine gt rfl rfl rfl (congrArg Value.bool hg435) (x_eql (p := (chk l)) (q := 0) (ev_tmp rfl rfl) rfl) ?_
                  refine st rfl (x_pick_t (v := Value.bool (decide (chk l = 0))) (ev_tmp rfl (congrArg Value.bool hg435)) (ev_tmp rfl rfl)) ?_
                  refine st rfl (x_assign (v := Value.bool (decide (chk l = 0))) (ev_tmp rfl rfl)) ?_
                  refine s_nil ?_
                  refine hK411 _ _ ?_
                  refine c_seq fun K436 hK437 => ?_
                  refine c_reg ?_
                  refine st rfl (x_move (v := Value.bool true) (ev_tmp rfl rfl)) ?_
                  refine st rfl (x_move (v := Value.bool true) (ev_tmp rfl rfl)) ?_
                  refine gt rfl rfl rfl rfl (x_move (v := Value.bool (decide (chk l = 0))) (ev_tmp rfl rfl)) ?_
                  refine st rfl (x_pick_t (v := Value.bool (decide (chk l = 0))) (ev_tmp rfl rfl) (ev_tmp rfl rfl)) ?_
                  refine st rfl (x_move (v := Value.bool (decide (chk l = 0))) (ev_tmp rfl rfl)) ?_
                  have hg445 : (decide (chk l = 0)) = true := (decide_eq_true c0)
                  refine gt rfl rfl rfl (congrArg Value.bool hg445) (x_move (v := Value.int .i64 ((posL (legsC l367) ob op).1)) (ev_tmp rfl rfl)) ?_
                  refine gt rfl rfl rfl (congrArg Value.bool hg445) (x_move (v := Value.int .i64 ((posL (legsC l) ob op).1)) (ev_tmp rfl rfl)) ?_
                  refine gt rfl rfl rfl (congrArg Value.bool hg445) (x_fieldv (b := b9) (o := 0) (q := 6) fa_40_6 (ev_tmp rfl rfl) rfl) ?_
                  refine gt rfl rfl rfl (congrArg Value.bool hg445) (x_load1 (v := Value.int .i64 oq) Try.underlying3 rfl (ev_tmp rfl rfl) (M408.cell (i := 3) (o := 6) rfl rfl)) ?_
                  have hw446 : IntKind.i64.wrap (((posL (legsC l) ob op).1) + oq) = ((posL (legsC l) ob op).1) + oq := w64 (by rfl) (by omega) (by omega)
                  refine gt rfl rfl rfl (congrArg Value.bool hg445) (x_add_eq (p := ((posL (legsC l) ob op).1)) (q := oq) (ev_tmp rfl rfl) (ev_tmp rfl rfl) hw446) ?_
                  refine gt rfl rfl rfl (congrArg Value.bool hg445) (x_eql (p := ((posL (legsC l367) ob op).1)) (q := (((posL (legsC l) ob op).1) + oq)) (ev_tmp rfl rfl) (ev_tmp rfl rfl)) ?_
                  refine st rfl (x_pick_t (v := Value.bool (decide ((posL (legsC l367) ob op).1 = ((posL (legsC l) ob op).1) + oq))) (ev_tmp rfl (congrArg Value.bool hg445)) (ev_tmp rfl rfl)) ?_
                  refine st rfl (x_move (v := Value.bool (decide ((posL (legsC l367) ob op).1 = ((posL (legsC l) ob op).1) + oq))) (ev_tmp rfl rfl)) ?_
                  have hg450 : (decide ((posL (legsC l367) ob op).1 = ((posL (legsC l) ob op).1) + oq)) = true := (decide_eq_true p1)
                  refine gt rfl rfl rfl (congrArg Value.bool hg450) (x_move (v := Value.int .i64 ((posL (legsC l367) ob op).2)) (ev_tmp rfl rfl)) ?_
                  refine gt rfl rfl rfl (congrArg Value.bool hg450) (x_move (v := Value.int .i64 ((posL (legsC l) ob op).2)) (ev_tmp rfl rfl)) ?_
                  refine gt rfl rfl rfl (congrArg Value.bool hg450) (x_fieldv (b := b9) (o := 0) (q := 6) fa_40_6 (ev_tmp rfl rfl) rfl) ?_
                  refine gt rfl rfl rfl (congrArg Value.bool hg450) (x_load1 (v := Value.int .i64 oq) Try.underlying3 rfl (ev_tmp rfl rfl) (M408.cell (i := 3) (o := 6) rfl rfl)) ?_
                  refine gt rfl rfl rfl (congrArg Value.bool hg450) (x_fieldv (b := b9) (o := 0) (q := 7) fa_40_7 (ev_tmp rfl rfl) rfl) ?_
                  refine gt rfl rfl rfl (congrArg Value.bool hg450) (x_load1 (v := Value.int .i64 or_) Try.underlying3 rfl (ev_tmp rfl rfl) (M408.cell (i := 3) (o := 7) rfl rfl)) ?_
                  have hw451 : IntKind.i64.wrap (oq * or_) = oq * or_ := w64 (by rfl) (by omega) (by omega)
                  refine gt rfl rfl rfl (congrArg Value.bool hg450) (x_mul_eq (p := oq) (q := or_) (ev_tmp rfl rfl) (ev_tmp rfl rfl) hw451) ?_
                  have hw452 : IntKind.i64.wrap (((posL (legsC l) ob op).2) + (oq * or_)) = ((posL (legsC l) ob op).2) + (oq * or_) := w64 (by rfl) (by omega) (by omega)
                  refine gt rfl rfl rfl (congrArg Value.bool hg450) (x_add_eq (p := ((posL (legsC l) ob op).2)) (q := (oq * or_)) (ev_tmp rfl rfl) (ev_tmp rfl rfl) hw452) ?_
                  refine gt rfl rfl rfl (congrArg Value.bool hg450) (x_eql (p := ((posL (legsC l367) ob op).2)) (q := (((posL (legsC l) ob op).2) + (oq * or_))) (ev_tmp rfl rfl) (ev_tmp rfl rfl)) ?_
                  refine st rfl (x_pick_t (v := Value.bool (decide ((posL (legsC l367) ob op).2 = ((posL (legsC l) ob op).2) + (oq * or_)))) (ev_tmp rfl (congrArg Value.bool hg450)) (ev_tmp rfl rfl)) ?_
                  refine st rfl (x_move (v := Value.bool (decide ((posL (legsC l367) ob op).2 = ((posL (legsC l) ob op).2) + (oq * or_)))) (ev_tmp rfl rfl)) ?_
                  have hg456 : (decide ((posL (legsC l367) ob op).2 = ((posL (legsC l) ob op).2) + (oq * or_))) = true := (decide_eq_true p2)
                  refine gt rfl rfl rfl (congrArg Value.bool hg456) (x_move (v := Value.int .i64 ((posL (legsC l391) who product).1)) (ev_tmp rfl rfl)) ?_
                  refine gt rfl rfl rfl (congrArg Value.bool hg456) (x_move (v := Value.int .i64 ((posL (legsC l) who product).1)) (ev_tmp rfl rfl)) ?_
                  refine gt rfl rfl rfl (congrArg Value.bool hg456) (x_eql (p := ((posL (legsC l391) who product).1)) (q := ((posL (legsC l) who product).1)) (ev_tmp rfl rfl) (ev_tmp rfl rfl)) ?_
                  refine st rfl (x_pick_t (v := Value.bool (decide ((posL (legsC l391) who product).1 = (posL (legsC l) who product).1))) (ev_tmp rfl (congrArg Value.bool hg456)) (ev_tmp rfl rfl)) ?_
                  refine st rfl (x_move (v := Value.bool (decide ((posL (legsC l391) who product).1 = (posL (legsC l) who product).1))) (ev_tmp rfl rfl)) ?_
                  have hg460 : (decide ((posL (legsC l391) who product).1 = (posL (legsC l) who product).1)) = true := (decide_eq_true (congrArg Prod.fst (p3 who product)))
                  refine gt rfl rfl rfl (congrArg Value.bool hg460) (x_move (v := Value.int .i64 ((posL (legsC l391) who product).2)) (ev_tmp rfl rfl)) ?_
                  refine gt rfl rfl rfl (congrArg Value.bool hg460) (x_move (v := Value.int .i64 ((posL (legsC l) who product).2)) (ev_tmp rfl rfl)) ?_
                  refine gt rfl rfl rfl (congrArg Value.bool hg460) (x_eql (p := ((posL (legsC l391) who product).2)) (q := ((posL (legsC l) who product).2)) (ev_tmp rfl rfl) (ev_tmp rfl rfl)) ?_
                  refine st rfl (x_pick_t (v := Value.bool (decide ((posL (legsC l391) who product).2 = (posL (legsC l) who product).2))) (ev_tmp rfl (congrArg Value.bool hg460)) (ev_tmp rfl rfl)) ?_
                  refine st rfl (x_assign (v := Value.bool (decide ((posL (legsC l391) who product).2 = (posL (legsC l) who product).2))) (ev_tmp rfl rfl)) ?_
                  refine s_nil ?_
                  refine hK437 _ _ ?_
                  refine c_ret ?_
                  refine hT3 _ _ ?_
                  refine r1 rfl (ev_tmp (v := Value.bool (decide ((posL (legsC l391) who product).2 = (posL (legsC l) who product).2))) rfl rfl) ?_
                  exact ⟨ret_bool (decide_eq_true (congrArg Prod.snd (p3 who product))), M408.below⟩
                · have h461 : fl = false := h343
                  refine c_skip ?_
                  refine hK340 _ _ ?_
                  refine c_seq fun K462 hK463 => ?_
                  refine c_reg ?_
                  refine st rfl (x_loadw (cs := [Value.slice A313 l319.length c314]) Try.underlying24 rfl sz_24 (ev_tmp rfl rfl) (M337.range (i := 0) rfl ⟨rfl, trivial⟩)) ?_
                  refine st rfl (x_move (v := Value.int .i64 e321) (ev_tmp rfl rfl)) ?_
                  refine st rfl (x_move (v := Value.string ob) (ev_tmp rfl rfl)) ?_
                  refine sC rfl (x_callL (xs := [.tmp 72, .tmp 73, .tmp 74]) (vs := [Value.agg #[Value.slice A313 l319.length c314], Value.int .i64 e321, Value.string ob]) (cap := []) ent_17 rfl ⟨(ev_tmp rfl rfl), (ev_tmp rfl rfl), (ev_tmp rfl rfl), trivial⟩) (confirm_n _ _ l319 e321 ob _ (M337.slw (i := 0) rfl)) ?_
                  rintro _ w466 ⟨A464, c465, l470, e472, he471, rfl, hb467, hs468⟩
                  refine ⟨_, rfl, ?_⟩
                  have M469 := M337.gotSl hb467 hs468
                  refine st rfl (x_move (v := Value.tuple #[Value.agg #[Value.slice A464 l470.length c465], Value.int .i64 e472]) (ev_tmp rfl rfl)) ?_
                  refine st rfl (x_extract (v := Value.agg #[Value.slice A464 l470.length c465]) (ev_tmp rfl rfl) rfl) ?_
                  refine st rfl (x_extract (v := Value.int .i64 e472) (ev_tmp rfl rfl) rfl) ?_
                  refine sset (i := 0) (L' := [Own.cells b310 24 #[Value.slice A464 l470.length c465], Own.row 34 8 (Value.slice A35 l.length c36) l.length (l.flatMap Trade.cells), Own.cells b9 40 #[Value.int .u8 kd, Value.int .i64 nb, Value.string by_, Value.string ob, Value.string os, Value.string op, Value.int .i64 oq, Value.int .i64 or_], Own.cells b6 24 #[Value.slice A l.length c]]) M469 rfl rfl (x_storew (cs := [Value.slice A464 l470.length c465]) sz_24 (ev_tmp rfl rfl) (ev_tmp rfl rfl) (M469.cells_at (i := 0) rfl) rfl ⟨rfl, trivial⟩) fun w474 M475 => ?_
                  refine st rfl (x_assign (v := Value.int .i64 e472) (ev_tmp rfl rfl)) ?_
                  refine s_nil ?_
                  refine hK463 _ _ ?_
                  refine c_seq fun K476 hK477 => ?_
                  refine c_reg ?_
                  refine st rfl (x_loadw (cs := [Value.slice A464 l470.length c465]) Try.underlying24 rfl sz_24 (ev_tmp rfl rfl) (M475.range (i := 0) rfl ⟨rfl, trivial⟩)) ?_
                  refine st rfl (x_move (v := Value.int .i64 e321) (ev_tmp rfl rfl)) ?_
                  refine st rfl (x_move (v := Value.string os) (ev_tmp rfl rfl)) ?_
                  refine sC rfl (x_callL (xs := [.tmp 79, .tmp 80, .tmp 81]) (vs := [Value.agg #[Value.slice A464 l470.length c465], Value.int .i64 e321, Value.string os]) (cap := []) ent_17 rfl ⟨(ev_tmp rfl rfl), (ev_tmp rfl rfl), (ev_tmp rfl rfl), trivial⟩) (confirm_n _ _ l470 e321 os _ (M475.slw (i := 0) rfl)) ?_
                  rintro _ w480 ⟨A478, c479, l484, e486, he485, rfl, hb481, hs482⟩
                  refine ⟨_, rfl, ?_⟩
                  have M483 := M475.gotSl hb481 hs482
                  refine st rfl (x_move (v := Value.tuple #[Value.agg #[Value.slice A478 l484.length c479], Value.int .i64 e486]) (ev_tmp rfl rfl)) ?_
                  refine st rfl (x_extract (v := Value.agg #[Value.slice A478 l484.length c479]) (ev_tmp rfl rfl) rfl) ?_
                  refine st rfl (x_extract (v := Value.int .i64 e486) (ev_tmp rfl rfl) rfl) ?_
                  refine sset (i := 0) (L' := [Own.cells b310 24 #[Value.slice A478 l484.length c479], Own.row 34 8 (Value.slice A35 l.length c36) l.length (l.flatMap Trade.cells), Own.cells b9 40 #[Value.int .u8 kd, Value.int .i64 nb, Value.string by_, Value.string ob, Value.string os, Value.string op, Value.int .i64 oq, Value.int .i64 or_], Own.cells b6 24 #[Value.slice A l.length c]]) M483 rfl rfl (x_storew (cs := [Value.slice A478 l484.length c479]) sz_24 (ev_tmp rfl rfl) (ev_tmp rfl rfl) (M483.cells_at (i := 0) rfl) rfl ⟨rfl, trivial⟩) fun w488 M489 => ?_
                  refine st rfl (x_assign (v := Value.int .i64 e486) (ev_tmp rfl rfl)) ?_
                  refine s_nil ?_
                  refine hK477 _ _ ?_
                  refine c_seq fun K490 hK491 => ?_
                  refine c_reg ?_
                  refine st rfl (x_loadw (cs := [Value.slice A478 l484.length c479]) Try.underlying24 rfl sz_24 (ev_tmp rfl rfl) (M489.range (i := 0) rfl ⟨rfl, trivial⟩)) ?_
                  refine st rfl (x_fieldv (b := b9) (o := 0) (q := 3) fa_40_3 (ev_tmp rfl rfl) rfl) ?_
                  refine st rfl (x_load1 (v := Value.string ob) Try.underlying9 rfl (ev_tmp rfl rfl) (M489.cell (i := 2) (o := 3) rfl rfl)) ?_
                  refine st rfl (x_fieldv (b := b9) (o := 0) (q := 5) fa_40_5 (ev_tmp rfl rfl) rfl) ?_
                  refine st rfl (x_load1 (v := Value.string op) Try.underlying9 rfl (ev_tmp rfl rfl) (M489.cell (i := 2) (o := 5) rfl rfl)) ?_
                  refine sC rfl (x_callL (xs := [.tmp 86, .tmp 88, .tmp 90]) (vs := [Value.agg #[Value.slice A478 l484.length c479], Value.string ob, Value.string op]) (cap := []) ent_14 rfl ⟨(ev_tmp rfl rfl), (ev_tmp rfl rfl), (ev_tmp rfl rfl), trivial⟩) (position_c _ _ l484 ob op _ (M489.slw (i := 0) rfl)) ?_
                  rintro _ w492 ⟨rfl, hb494⟩
                  refine ⟨_, rfl, ?_⟩
                  have M493 := M489.call hb494
                  refine st rfl (x_move (v := Value.tuple #[Value.int .i64 ((posL (legsC l484) ob op).1), Value.int .i64 ((posL (legsC l484) ob op).2), Value.int .i64 (chk l484)]) (ev_tmp rfl rfl)) ?_
                  refine st rfl (x_extract (v := Value.int .i64 ((posL (legsC l484) ob op).1)) (ev_tmp rfl rfl) rfl) ?_
                  refine st rfl (x_extract (v := Value.int .i64 ((posL (legsC l484) ob op).2)) (ev_tmp rfl rfl) rfl) ?_
                  refine st rfl (x_extract (v := Value.int .i64 (chk l484)) (ev_tmp rfl rfl) rfl) ?_
                  refine st rfl (x_assign (v := Value.int .i64 ((posL (legsC l484) ob op).1)) (ev_tmp rfl rfl)) ?_
                  refine st rfl (x_assign (v := Value.int .i64 ((posL (legsC l484) ob op).2)) (ev_tmp rfl rfl)) ?_
                  refine st rfl (x_assign (v := Value.int .i64 (chk l484)) (ev_tmp rfl rfl)) ?_
                  refine s_nil ?_
                  refine hK491 _ _ ?_
                  refine c_seq fun K495 hK496 => ?_
                  refine c_reg ?_
                  refine st rfl (x_loadw (cs := [Value.slice A l.length c]) Try.underlying24 rfl sz_24 (ev_tmp rfl rfl) (M493.range (i := 3) rfl ⟨rfl, trivial⟩)) ?_
                  refine st rfl (x_fieldv (b := b9) (o := 0) (q := 3) fa_40_3 (ev_tmp rfl rfl) rfl) ?_
                  refine st rfl (x_load1 (v := Value.string ob) Try.underlying9 rfl (ev_tmp rfl rfl) (M493.cell (i := 2) (o := 3) rfl rfl)) ?_
                  refine st rfl (x_fieldv (b := b9) (o := 0) (q := 5) fa_40_5 (ev_tmp rfl rfl) rfl) ?_
                  refine st rfl (x_load1 (v := Value.string op) Try.underlying9 rfl (ev_tmp rfl rfl) (M493.cell (i := 2) (o := 5) rfl rfl)) ?_
                  refine sC rfl (x_callL (xs := [.tmp 96, .tmp 98, .tmp 100]) (vs := [Value.agg #[Value.slice A l.length c], Value.string ob, Value.string op]) (cap := []) ent_14 rfl ⟨(ev_tmp rfl rfl), (ev_tmp rfl rfl), (ev_tmp rfl rfl), trivial⟩) (position_c _ _ l ob op _ (M493.slw (i := 3) rfl)) ?_
                  rintro _ w497 ⟨rfl, hb499⟩
                  refine ⟨_, rfl, ?_⟩
                  have M498 := M493.call hb499
                  refine st rfl (x_move (v := Value.tuple #[Value.int .i64 ((posL (legsC l) ob op).1), Value.int .i64 ((posL (legsC l) ob op).2), Value.int .i64 (chk l)]) (ev_tmp rfl rfl)) ?_
                  refine st rfl (x_extract (v := Value.int .i64 ((posL (legsC l) ob op).1)) (ev_tmp rfl rfl) rfl) ?_
                  refine st rfl (x_extract (v := Value.int .i64 ((posL (legsC l) ob op).2)) (ev_tmp rfl rfl) rfl) ?_
                  refine st rfl (x_extract (v := Value.int .i64 (chk l)) (ev_tmp rfl rfl) rfl) ?_
                  refine st rfl (x_assign (v := Value.int .i64 ((posL (legsC l) ob op).1)) (ev_tmp rfl rfl)) ?_
                  refine st rfl (x_assign (v := Value.int .i64 ((posL (legsC l) ob op).2)) (ev_tmp rfl rfl)) ?_
                  refine st rfl (x_assign (v := Value.int .i64 (chk l)) (ev_tmp rfl rfl)) ?_
                  refine s_nil ?_
                  refine hK496 _ _ ?_
                  refine c_seq fun K500 hK501 => ?_
                  refine c_reg ?_
                  refine st rfl (x_loadw (cs := [Value.slice A478 l484.length c479]) Try.underlying24 rfl sz_24 (ev_tmp rfl rfl) (M498.range (i := 0) rfl ⟨rfl, trivial⟩)) ?_
                  refine st rfl (x_move (v := Value.int .i64 e321) (ev_tmp rfl rfl)) ?_
                  refine sC rfl (x_callL (xs := [.tmp 106, .tmp 107]) (vs := [Value.agg #[Value.slice A478 l484.length c479], Value.int .i64 e321]) (cap := []) ent_18 rfl ⟨(ev_tmp rfl rfl), (ev_tmp rfl rfl), trivial⟩) (undo_n _ _ l484 e321 _ (M498.slw (i := 0) rfl)) ?_
                  rintro _ w504 ⟨A502, c503, l508, e510, he509, rfl, hb505, hs506⟩
                  refine ⟨_, rfl, ?_⟩
                  have M507 := M498.gotSl hb505 hs506
                  refine st rfl (x_move (v := Value.tuple #[Value.agg #[Value.slice A502 l508.length c503], Value.int .i64 e510]) (ev_tmp rfl rfl)) ?_
                  refine st rfl (x_extract (v := Value.agg #[Value.slice A502 l508.length c503]) (ev_tmp rfl rfl) rfl) ?_
                  refine st rfl (x_extract (v := Value.int .i64 e510) (ev_tmp rfl rfl) rfl) ?_
                  refine snew (cs := #[Value.slice none 0 0]) M507 rfl (x_allocz z_24) fun b512 w513 M514 => ?_
                  refine sset (i := 0) (L' := [Own.cells b512 24 #[Value.slice A502 l508.length c503], Own.cells b310 24 #[Value.slice A478 l484.length c479], Own.row 34 8 (Value.slice A35 l.length c36) l.length (l.flatMap Trade.cells), Own.cells b9 40 #[Value.int .u8 kd, Value.int .i64 nb, Value.string by_, Value.string ob, Value.string os, Value.string op, Value.int .i64 oq, Value.int .i64 or_], Own.cells b6 24 #[Value.slice A l.length c]]) M514 rfl rfl (x_storew (cs := [Value.slice A502 l508.length c503]) sz_24 (ev_tmp rfl rfl) (ev_tmp rfl rfl) (M514.cells_at (i := 0) rfl) rfl ⟨rfl, trivial⟩) fun w515 M516 => ?_
                  refine st rfl (x_assign (v := Value.int .i64 e510) (ev_tmp rfl rfl)) ?_
                  refine s_nil ?_
                  refine hK501 _ _ ?_
                  refine c_seq fun K517 hK518 => ?_
                  refine c_reg ?_
                  refine st rfl (x_loadw (cs := [Value.slice A502 l508.length c503]) Try.underlying24 rfl sz_24 (ev_tmp rfl rfl) (M516.range (i := 0) rfl ⟨rfl, trivial⟩)) ?_
                  refine st rfl (x_move (v := Value.string who) (ev_tmp rfl rfl)) ?_
                  refine st rfl (x_move (v := Value.string product) (ev_tmp rfl rfl)) ?_
                  refine sC rfl (x_callL (xs := [.tmp 112, .tmp 113, .tmp 114]) (vs := [Value.agg #[Value.slice A502 l508.length c503], Value.string who, Value.string product]) (cap := []) ent_14 rfl ⟨(ev_tmp rfl rfl), (ev_tmp rfl rfl), (ev_tmp rfl rfl), trivial⟩) (position_c _ _ l508 who product _ (M516.slw (i := 0) rfl)) ?_
                  rintro _ w519 ⟨rfl, hb521⟩
                  refine ⟨_, rfl, ?_⟩
                  have M520 := M516.call hb521
                  refine st rfl (x_move (v := Value.tuple #[Value.int .i64 ((posL (legsC l508) who product).1), Value.int .i64 ((posL (legsC l508) who product).2), Value.int .i64 (chk l508)]) (ev_tmp rfl rfl)) ?_
                  refine st rfl (x_extract (v := Value.int .i64 ((posL (legsC l508) who product).1)) (ev_tmp rfl rfl) rfl) ?_
                  refine st rfl (x_extract (v := Value.int .i64 ((posL (legsC l508) who product).2)) (ev_tmp rfl rfl) rfl) ?_
                  refine st rfl (x_extract (v := Value.int .i64 (chk l508)) (ev_tmp rfl rfl) rfl) ?_
                  refine st rfl (x_assign (v := Value.int .i64 ((posL (legsC l508) who product).1)) (ev_tmp rfl rfl)) ?_
                  refine st rfl (x_assign (v := Value.int .i64 ((posL (legsC l508) who product).2)) (ev_tmp rfl rfl)) ?_
                  refine st rfl (x_assign (v := Value.int .i64 (chk l508)) (ev_tmp rfl rfl)) ?_
                  refine s_nil ?_
                  refine hK518 _ _ ?_
                  refine c_seq fun K522 hK523 => ?_
                  refine c_reg ?_
                  refine st rfl (x_loadw (cs := [Value.slice A l.length c]) Try.underlying24 rfl sz_24 (ev_tmp rfl rfl) (M520.range (i := 4) rfl ⟨rfl, trivial⟩)) ?_
                  refine st rfl (x_move (v := Value.string who) (ev_tmp rfl rfl)) ?_
                  refine st rfl (x_move (v := Value.string product) (ev_tmp rfl rfl)) ?_
                  refine sC rfl (x_callL (xs := [.tmp 120, .tmp 121, .tmp 122]) (vs := [Value.agg #[Value.slice A l.length c], Value.string who, Value.string product]) (cap := []) ent_14 rfl ⟨(ev_tmp rfl rfl), (ev_tmp rfl rfl), (ev_tmp rfl rfl), trivial⟩) (position_c _ _ l who product _ (M520.slw (i := 4) rfl)) ?_
                  rintro _ w524 ⟨rfl, hb526⟩
                  refine ⟨_, rfl, ?_⟩
                  have M525 := M520.call hb526
                  refine st rfl (x_move (v := Value.tuple #[Value.int .i64 ((posL (legsC l) who product).1), Value.int .i64 ((posL (legsC l) who product).2), Value.int .i64 (chk l)]) (ev_tmp rfl rfl)) ?_
                  refine st rfl (x_extract (v := Value.int .i64 ((posL (legsC l) who product).1)) (ev_tmp rfl rfl) rfl) ?_
                  refine st rfl (x_extract (v := Value.int .i64 ((posL (legsC l) who product).2)) (ev_tmp rfl rfl) rfl) ?_
                  refine st rfl (x_extract (v := Value.int .i64 (chk l)) (ev_tmp rfl rfl) rfl) ?_
                  refine st rfl (x_assign (v := Value.int .i64 ((posL (legsC l) who product).1)) (ev_tmp rfl rfl)) ?_
                  refine st rfl (x_assign (v := Value.int .i64 ((posL (legsC l) who product).2)) (ev_tmp rfl rfl)) ?_
                  refine st rfl (x_assign (v := Value.int .i64 (chk l)) (ev_tmp rfl rfl)) ?_
                  refine s_nil ?_
                  refine hK523 _ _ ?_
                  refine c_seq fun K527 hK528 => ?_
                  refine c_reg ?_
                  refine st rfl (x_move (v := Value.int .i64 e472) (ev_tmp rfl rfl)) ?_
                  refine st rfl (x_eql (p := e472) (q := 0) (ev_tmp rfl rfl) rfl) ?_
                  refine st rfl (x_move (v := Value.bool (decide (e472 = 0))) (ev_tmp rfl rfl)) ?_
                  obtain ⟨z2, z3, z4, c0, c3, c4, q1, q2, rr1, rr2, p1, p2, p3⟩ := undo_plain he320 hz he471 he485 he509 (.inl ⟨rfl, rfl⟩)
                  obtain ⟨b1, b2, b3, b4⟩ := posL_bd l ob op
                  obtain ⟨m1, m2⟩ := mul_bd q1 q2 rr1 rr2
                  have hg532 : (decide (e472 = 0)) = true := (decide_eq_true z2)
                  refine gt rfl rfl rfl (congrArg Value.bool hg532) (x_move (v := Value.int .i64 e486) (ev_tmp rfl rfl)) ?_
                  refine gt rfl rfl rfl (congrArg Value.bool hg532) (x_eql (p := e486) (q := 0) (ev_tmp rfl rfl) rfl) ?_
                  refine st rfl (x_pick_t (v := Value.bool (decide (e486 = 0))) (ev_tmp rfl (congrArg Value.bool hg532)) (ev_tmp rfl rfl)) ?_
                  refine st rfl (x_move (v := Value.bool (decide (e486 = 0))) (ev_tmp rfl rfl)) ?_
                  have hg536 : (decide (e486 = 0)) = true := (decide_eq_true z3)
                  refine gt rfl rfl rfl (congrArg Value.bool hg536) (x_move (v := Value.int .i64 (chk l484)) (ev_tmp rfl rfl)) ?_
                  refine gt rfl rfl rfl (congrArg Value.bool hg536) (x_eql (p := (chk l484)) (q := 0) (ev_tmp rfl rfl) rfl) ?_
                  refine st rfl (x_pick_t (v := Value.bool (decide (chk l484 = 0))) (ev_tmp rfl (congrArg Value.bool hg536)) (ev_tmp rfl rfl)) ?_
                  refine st rfl (x_move (v := Value.bool (decide (chk l484 = 0))) (ev_tmp rfl rfl)) ?_
                  have hg540 : (decide (chk l484 = 0)) = true := (decide_eq_true c3)
                  refine gt rfl rfl rfl (congrArg Value.bool hg540) (x_move (v := Value.int .i64 (chk l)) (ev_tmp rfl rfl)) ?_
                  refine gt rfl rfl rfl (congrArg Value.bool hg540) (x_eql (p := (chk l)) (q := 0) (ev_tmp rfl rfl) rfl) ?_
                  refine st rfl (x_pick_t (v := Value.bool (decide (chk l = 0))) (ev_tmp rfl (congrArg Value.bool hg540)) (ev_tmp rfl rfl)) ?_
                  refine st rfl (x_move (v := Value.bool (decide (chk l = 0))) (ev_tmp rfl rfl)) ?_
                  have hg544 : (decide (chk l = 0)) = true := (decide_eq_true c0)
                  refine gt rfl rfl rfl (congrArg Value.bool hg544) (x_move (v := Value.int .i64 e510) (ev_tmp rfl rfl)) ?_
                  refine gt rfl rfl rfl (congrArg Value.bool hg544) (x_eql (p := e510) (q := 0) (ev_tmp rfl rfl) rfl) ?_
                  refine st rfl (x_pick_t (v := Value.bool (decide (e510 = 0))) (ev_tmp rfl (congrArg Value.bool hg544)) (ev_tmp rfl rfl)) ?_
                  refine st rfl (x_move (v := Value.bool (decide (e510 = 0))) (ev_tmp rfl rfl)) ?_
                  have hg548 : (decide (e510 = 0)) = true := (decide_eq_true z4)
                  refine gt rfl rfl rfl (congrArg Value.bool hg548) (x_move (v := Value.int .i64 (chk l508)) (ev_tmp rfl rfl)) ?_
                  refine gt rfl rfl rfl (congrArg Value.bool hg548) (x_eql (p := (chk l508)) (q := 0) (ev_tmp rfl rfl) rfl) ?_
                  refine st rfl (x_pick_t (v := Value.bool (decide (chk l508 = 0))) (ev_tmp rfl (congrArg Value.bool hg548)) (ev_tmp rfl rfl)) ?_
                  refine st rfl (x_move (v := Value.bool (decide (chk l508 = 0))) (ev_tmp rfl rfl)) ?_
                  have hg552 : (decide (chk l508 = 0)) = true := (decide_eq_true c4)
                  refine gt rfl rfl rfl (congrArg Value.bool hg552) (x_move (v := Value.int .i64 (chk l)) (ev_tmp rfl rfl)) ?_
                  refine gt rfl rfl rfl (congrArg Value.bool hg552) (x_eql (p := (chk l)) (q := 0) (ev_tmp rfl rfl) rfl) ?_
                  refine st rfl (x_pick_t (v := Value.bool (decide (chk l = 0))) (ev_tmp rfl (congrArg Value.bool hg552)) (ev_tmp rfl rfl)) ?_
                  refine st rfl (x_assign (v := Value.bool (decide (chk l = 0))) (ev_tmp rfl rfl)) ?_
                  refine s_nil ?_
                  refine hK528 _ _ ?_
                  refine c_seq fun K553 hK554 => ?_
                  refine c_reg ?_
                  refine st rfl (x_move (v := Value.bool true) (ev_tmp rfl rfl)) ?_
                  refine st rfl (x_move (v := Value.bool true) (ev_tmp rfl rfl)) ?_
                  refine gt rfl rfl rfl rfl (x_move (v := Value.bool (decide (chk l = 0))) (ev_tmp rfl rfl)) ?_
                  refine st rfl (x_pick_t (v := Value.bool (decide (chk l = 0))) (ev_tmp rfl rfl) (ev_tmp rfl rfl)) ?_
                  refine st rfl (x_move (v := Value.bool (decide (chk l = 0))) (ev_tmp rfl rfl)) ?_
                  have hg562 : (decide (chk l = 0)) = true := (decide_eq_true c0)
                  refine gt rfl rfl rfl (congrArg Value.bool hg562) (x_move (v := Value.int .i64 ((posL (legsC l484) ob op).1)) (ev_tmp rfl rfl)) ?_
                  refine gt rfl rfl rfl (congrArg Value.bool hg562) (x_move (v := Value.int .i64 ((posL (legsC l) ob op).1)) (ev_tmp rfl rfl)) ?_
                  refine gt rfl rfl rfl (congrArg Value.bool hg562) (x_fieldv (b := b9) (o := 0) (q := 6) fa_40_6 (ev_tmp rfl rfl) rfl) ?_
                  refine gt rfl rfl rfl (congrArg Value.bool hg562) (x_load1 (v := Value.int .i64 oq) Try.underlying3 rfl (ev_tmp rfl rfl) (M525.cell (i := 3) (o := 6) rfl rfl)) ?_
                  have hw563 : IntKind.i64.wrap (((posL (legsC l) ob op).1) + oq) = ((posL (legsC l) ob op).1) + oq := w64 (by rfl) (by omega) (by omega)
                  refine gt rfl rfl rfl (congrArg Value.bool hg562) (x_add_eq (p := ((posL (legsC l) ob op).1)) (q := oq) (ev_tmp rfl rfl) (ev_tmp rfl rfl) hw563) ?_
                  refine gt rfl rfl rfl (congrArg Value.bool hg562) (x_eql (p := ((posL (legsC l484) ob op).1)) (q := (((posL (legsC l) ob op).1) + oq)) (ev_tmp rfl rfl) (ev_tmp rfl rfl)) ?_
                  refine st rfl (x_pick_t (v := Value.bool (decide ((posL (legsC l484) ob op).1 = ((posL (legsC l) ob op).1) + oq))) (ev_tmp rfl (congrArg Value.bool hg562)) (ev_tmp rfl rfl)) ?_
                  refine st rfl (x_move (v := Value.bool (decide ((posL (legsC l484) ob op).1 = ((posL (legsC l) ob op).1) + oq))) (ev_tmp rfl rfl)) ?_
                  have hg567 : (decide ((posL (legsC l484) ob op).1 = ((posL (legsC l) ob op).1) + oq)) = true := (decide_eq_true p1)
                  refine gt rfl rfl rfl (congrArg Value.bool hg567) (x_move (v := Value.int .i64 ((posL (legsC l484) ob op).2)) (ev_tmp rfl rfl)) ?_
                  refine gt rfl rfl rfl (congrArg Value.bool hg567) (x_move (v := Value.int .i64 ((posL (legsC l) ob op).2)) (ev_tmp rfl rfl)) ?_
                  refine gt rfl rfl rfl (congrArg Value.bool hg567) (x_fieldv (b := b9) (o := 0) (q := 6) fa_40_6 (ev_tmp rfl rfl) rfl) ?_
                  refine gt rfl rfl rfl (congrArg Value.bool hg567) (x_load1 (v := Value.int .i64 oq) Try.underlying3 rfl (ev_tmp rfl rfl) (M525.cell (i := 3) (o := 6) rfl rfl)) ?_
                  refine gt rfl rfl rfl (congrArg Value.bool hg567) (x_fieldv (b := b9) (o := 0) (q := 7) fa_40_7 (ev_tmp rfl rfl) rfl) ?_
                  refine gt rfl rfl rfl (congrArg Value.bool hg567) (x_load1 (v := Value.int .i64 or_) Try.underlying3 rfl (ev_tmp rfl rfl) (M525.cell (i := 3) (o := 7) rfl rfl)) ?_
                  have hw568 : IntKind.i64.wrap (oq * or_) = oq * or_ := w64 (by rfl) (by omega) (by omega)
                  refine gt rfl rfl rfl (congrArg Value.bool hg567) (x_mul_eq (p := oq) (q := or_) (ev_tmp rfl rfl) (ev_tmp rfl rfl) hw568) ?_
                  have hw569 : IntKind.i64.wrap (((posL (legsC l) ob op).2) + (oq * or_)) = ((posL (legsC l) ob op).2) + (oq * or_) := w64 (by rfl) (by omega) (by omega)
                  refine gt rfl rfl rfl (congrArg Value.bool hg567) (x_add_eq (p := ((posL (legsC l) ob op).2)) (q := (oq * or_)) (ev_tmp rfl rfl) (ev_tmp rfl rfl) hw569) ?_
                  refine gt rfl rfl rfl (congrArg Value.bool hg567) (x_eql (p := ((posL (legsC l484) ob op).2)) (q := (((posL (legsC l) ob op).2) + (oq * or_))) (ev_tmp rfl rfl) (ev_tmp rfl rfl)) ?_
                  refine st rfl (x_pick_t (v := Value.bool (decide ((posL (legsC l484) ob op).2 = ((posL (legsC l) ob op).2) + (oq * or_)))) (ev_tmp rfl (congrArg Value.bool hg567)) (ev_tmp rfl rfl)) ?_
                  refine st rfl (x_move (v := Value.bool (decide ((posL (legsC l484) ob op).2 = ((posL (legsC l) ob op).2) + (oq * or_)))) (ev_tmp rfl rfl)) ?_
                  have hg573 : (decide ((posL (legsC l484) ob op).2 = ((posL (legsC l) ob op).2) + (oq * or_))) = true := (decide_eq_true p2)
                  refine gt rfl rfl rfl (congrArg Value.bool hg573) (x_move (v := Value.int .i64 ((posL (legsC l508) who product).1)) (ev_tmp rfl rfl)) ?_
                  refine gt rfl rfl rfl (congrArg Value.bool hg573) (x_move (v := Value.int .i64 ((posL (legsC l) who product).1)) (ev_tmp rfl rfl)) ?_
                  refine gt rfl rfl rfl (congrArg Value.bool hg573) (x_eql (p := ((posL (legsC l508) who product).1)) (q := ((posL (legsC l) who product).1)) (ev_tmp rfl rfl) (ev_tmp rfl rfl)) ?_
                  refine st rfl (x_pick_t (v := Value.bool (decide ((posL (legsC l508) who product).1 = (posL (legsC l) who product).1))) (ev_tmp rfl (congrArg Value.bool hg573)) (ev_tmp rfl rfl)) ?_
                  refine st rfl (x_move (v := Value.bool (decide ((posL (legsC l508) who product).1 = (posL (legsC l) who product).1))) (ev_tmp rfl rfl)) ?_
                  have hg577 : (decide ((posL (legsC l508) who product).1 = (posL (legsC l) who product).1)) = true := (decide_eq_true (congrArg Prod.fst (p3 who product)))
                  refine gt rfl rfl rfl (congrArg Value.bool hg577) (x_move (v := Value.int .i64 ((posL (legsC l508) who product).2)) (ev_tmp rfl rfl)) ?_
                  refine gt rfl rfl rfl (congrArg Value.bool hg577) (x_move (v := Value.int .i64 ((posL (legsC l) who product).2)) (ev_tmp rfl rfl)) ?_
                  refine gt rfl rfl rfl (congrArg Value.bool hg577) (x_eql (p := ((posL (legsC l508) who product).2)) (q := ((posL (legsC l) who product).2)) (ev_tmp rfl rfl) (ev_tmp rfl rfl)) ?_
                  refine st rfl (x_pick_t (v := Value.bool (decide ((posL (legsC l508) who product).2 = (posL (legsC l) who product).2))) (ev_tmp rfl (congrArg Value.bool hg577)) (ev_tmp rfl rfl)) ?_
                  refine st rfl (x_assign (v := Value.bool (decide ((posL (legsC l508) who product).2 = (posL (legsC l) who product).2))) (ev_tmp rfl rfl)) ?_
                  refine s_nil ?_
                  refine hK554 _ _ ?_
                  refine c_ret ?_
                  refine hT3 _ _ ?_
                  refine r1 rfl (ev_tmp (v := Value.bool (decide ((posL (legsC l508) who product).2 = (posL (legsC l) who product).2))) rfl rfl) ?_
                  exact ⟨ret_bool (decide_eq_true (congrArg Prod.snd (p3 who product))), M525.below⟩
            exact dN
          exact dN
        exact dN
      refine dC ?_ ?_
      · refine dnew (i := 17) (cs := #[Value.slice none 0 0]) M33 rfl rfl (x_allocz z_24) fun b578 w579 M580 => ?_
        refine ⟨(M580.dropL 1), ?_⟩
        refine dA (rs := [1]) (by kernel_rfl) rfl ?_
        refine dC ?_ ?_
        · refine dsC (i := 1) rfl rfl (x_callL (xs := [.tmp 45]) (vs := [Value.agg #[Value.slice A l.length c]]) (cap := []) ent_16 rfl ⟨(ev_tmp rfl rfl), trivial⟩) (twin_r _ _ l _ (M580.slw (i := 0) rfl) (by omega)) ?_
          rintro _ w583 ⟨A581, c582, rfl, hb584, hr585⟩
          refine ⟨_, rfl, ?_⟩
          have M586 := M580.gotRow hb584 hr585
          refine ⟨(M586.dropL 2), ?_⟩
          refine dA (rs := [12]) (by kernel_rfl) rfl ?_
          refine dC ?_ ?_
          · refine dsC (i := 12) rfl rfl (x_callL (xs := [.tmp 46, .tmp 48, .tmp 50, .tmp 52, .tmp 54, .tmp 56]) (vs := [Value.agg #[Value.slice A581 l.length c582], Value.string ob, Value.string os, Value.string op, Value.int .i64 oq, Value.int .i64 or_]) (cap := []) ent_15 rfl ⟨(ev_tmp rfl rfl), (ev_tmp rfl rfl), (ev_tmp rfl rfl), (ev_tmp rfl rfl), (ev_tmp rfl rfl), (ev_tmp rfl rfl), trivial⟩) (submit_n _ _ l ob os op oq or_ _ (M586.rowsl (i := 0) rfl rfl Trade.len)) ?_
            rintro _ w590 ⟨A588, c589, l594, e596, e597, he595, rfl, hb591, hs592⟩
            refine ⟨_, rfl, ?_⟩
            have M593 := M586.gotSl hb591 hs592
            refine ⟨((M593.dropL 2).dropR 1), ?_⟩
            refine dT (i := 13) (v := Value.tuple #[Value.agg #[Value.slice A588 l594.length c589], Value.int .i64 e596, Value.int .i64 e597]) rfl (by kernel_rfl) (by kernel_rfl) rfl ((M593.dropL 2).dropR 1) (fun _ hS => x_move (v := Value.tuple #[Value.agg #[Value.slice A588 l594.length c589], Value.int .i64 e596, Value.int .i64 e597]) (ev_tmp rfl rfl)) ?_
            refine dT (i := 14) (v := Value.agg #[Value.slice A588 l594.length c589]) rfl (by kernel_rfl) (by kernel_rfl) rfl ((M593.dropL 2).dropR 1) (fun _ hS => x_extract (v := Value.agg #[Value.slice A588 l594.length c589]) (ev_tmp rfl rfl) rfl) ?_
            refine dT (i := 15) (v := Value.int .i64 e596) rfl (by kernel_rfl) (by kernel_rfl) rfl ((M593.dropL 2).dropR 1) (fun _ hS => x_extract (v := Value.int .i64 e596) (ev_tmp rfl rfl) rfl) ?_
            refine dT (i := 16) (v := Value.int .i64 e597) rfl (by kernel_rfl) (by kernel_rfl) rfl ((M593.dropL 2).dropR 1) (fun _ hS => x_extract (v := Value.int .i64 e597) (ev_tmp rfl rfl) rfl) ?_
            refine dA (rs := [18]) (by kernel_rfl) rfl ?_
            refine dC ?_ ?_
            · refine dset (i := 18) (k := 1) (L' := [Own.row 34 8 (Value.slice A581 l.length c582) l.length (l.flatMap Trade.cells), Own.cells b578 24 #[Value.slice A588 l594.length c589], Own.cells b9 40 #[Value.int .u8 kd, Value.int .i64 nb, Value.string by_, Value.string ob, Value.string os, Value.string op, Value.int .i64 oq, Value.int .i64 or_], Own.cells b6 24 #[Value.slice A l.length c]]) M593 rfl rfl rfl (x_storew (cs := [Value.slice A588 l594.length c589]) sz_24 (ev_tmp rfl rfl) (ev_tmp rfl rfl) (M593.cells_at (i := 1) rfl) rfl ⟨rfl, trivial⟩) fun w599 M600 => ?_
              refine ⟨((M600.dropL 2).dropR 1), ?_⟩
              refine dT (i := 19) (v := Value.int .i64 e596) rfl (by kernel_rfl) (by kernel_rfl) rfl ((M600.dropL 2).dropR 1) (fun _ hS => x_assign (v := Value.int .i64 e596) (ev_tmp rfl rfl)) ?_
              refine dT (i := 20) (v := Value.int .i64 e597) rfl (by kernel_rfl) (by kernel_rfl) rfl ((M600.dropL 2).dropR 1) (fun _ hS => x_assign (v := Value.int .i64 e597) (ev_tmp rfl rfl)) ?_
              refine dE (by kernel_rfl) ?_
              refine hK32 _ _ ?_
              refine c_seq fun K601 hK602 => ?_
              refine c_seq fun K603 hK604 => ?_
              refine c_reg ?_
              refine st rfl (x_move (v := Value.int .i64 e597) (ev_tmp rfl rfl)) ?_
              refine st rfl (x_neq (p := e597) (q := 0) (ev_tmp rfl rfl) rfl) ?_
              refine s_nil ?_
              refine hK604 _ _ ?_
              refine c_cond (b := !(decide (e597 = 0))) (ev_tmp rfl rfl) (fun h605 => ?_) (fun h605 => ?_)
              · have h606 : ¬ (e597 = 0) := of_decide_eq_false (not_t h605)
                refine c_seq fun K607 hK608 => ?_
                refine c_reg ?_
                refine st rfl (x_move (v := Value.bool true) (ev_tmp rfl rfl)) ?_
                refine st rfl (x_assign (v := Value.bool true) (ev_tmp rfl rfl)) ?_
                refine s_nil ?_
                refine hK608 _ _ ?_
                refine c_ret ?_
                refine hT3 _ _ ?_
                refine r1 rfl (ev_tmp (v := Value.bool true) rfl rfl) ?_
                exact ⟨rfl, M600.below⟩
              · have h609 : e597 = 0 := of_decide_eq_true (not_f h605)
                have hz : e597 = 0 := of_decide_eq_true (not_f h605)
                refine c_skip ?_
                refine hK602 _ _ ?_
                refine c_seq fun K610 hK611 => ?_
                have M612 := M600.drew
                refine c_drawn (fun w1 => Mem w [] w1 [Own.row 34 8 (Value.slice A581 l.length c582) l.length (l.flatMap Trade.cells), Own.cells b578 24 #[Value.slice A588 l594.length c589], Own.cells b9 40 #[Value.int .u8 kd, Value.int .i64 nb, Value.string by_, Value.string ob, Value.string os, Value.string op, Value.int .i64 oq, Value.int .i64 or_], Own.cells b6 24 #[Value.slice A l.length c]] [Ro.sl w583.heap.size w590.heap.size A588 c589 8 Trade.cells l594, Ro.sl 0 w.heap.size A c 8 Trade.cells l]) mixed ?_
                generalize w599.drew = w613 at M612 ⊢
                refine dT (i := 0) (v := Value.pointer (some ⟨b9, 3, none⟩)) rfl (by kernel_rfl) (by kernel_rfl) rfl M612 (fun _ hS => x_fieldv (b := b9) (o := 0) (q := 3) fa_40_3 (ev_tmp rfl rfl) rfl) ?_
                refine dT (i := 1) (v := Value.string ob) rfl (by kernel_rfl) (by kernel_rfl) rfl M612 (fun _ hS => x_load1 (v := Value.string ob) Try.underlying9 rfl (ev_tmp rfl rfl) (hS.cell (i := 2) (o := 3) rfl rfl)) ?_
                refine dT (i := 2) (v := Value.pointer (some ⟨b9, 4, none⟩)) rfl (by kernel_rfl) (by kernel_rfl) rfl M612 (fun _ hS => x_fieldv (b := b9) (o := 0) (q := 4) fa_40_4 (ev_tmp rfl rfl) rfl) ?_
                refine dT (i := 3) (v := Value.string os) rfl (by kernel_rfl) (by kernel_rfl) rfl M612 (fun _ hS => x_load1 (v := Value.string os) Try.underlying9 rfl (ev_tmp rfl rfl) (hS.cell (i := 2) (o := 4) rfl rfl)) ?_
                refine dT (i := 4) (v := Value.string ob) rfl (by kernel_rfl) (by kernel_rfl) rfl M612 (fun _ hS => x_assign (v := Value.string ob) (ev_tmp rfl rfl)) ?_
                refine dT (i := 5) (v := Value.string os) rfl (by kernel_rfl) (by kernel_rfl) rfl M612 (fun _ hS => x_assign (v := Value.string os) (ev_tmp rfl rfl)) ?_
                refine dE (by kernel_rfl) ?_
                refine hK611 _ _ ?_
                refine c_seq fun K614 hK615 => ?_
                refine c_seq fun K616 hK617 => ?_
                refine c_reg ?_
                refine st rfl (x_move (v := Value.bool fl) (ev_tmp rfl rfl)) ?_
                refine s_nil ?_
                refine hK617 _ _ ?_
                refine c_cond (b := fl) (ev_tmp rfl rfl) (fun h618 => ?_) (fun h618 => ?_)
                · have h619 : fl = true := h618
                  refine c_reg ?_
                  refine st rfl (x_move (v := Value.string os) (ev_tmp rfl rfl)) ?_
                  refine st rfl (x_move (v := Value.string ob) (ev_tmp rfl rfl)) ?_
                  refine st rfl (x_assign (v := Value.string os) (ev_tmp rfl rfl)) ?_
                  refine st rfl (x_assign (v := Value.string ob) (ev_tmp rfl rfl)) ?_
                  refine s_nil ?_
                  refine hK615 _ _ ?_
                  refine c_seq fun K620 hK621 => ?_
                  refine c_reg ?_
                  refine st rfl (x_loadw (cs := [Value.slice A588 l594.length c589]) Try.underlying24 rfl sz_24 (ev_tmp rfl rfl) (M612.range (i := 1) rfl ⟨rfl, trivial⟩)) ?_
                  refine st rfl (x_move (v := Value.int .i64 e596) (ev_tmp rfl rfl)) ?_
                  refine st rfl (x_move (v := Value.string os) (ev_tmp rfl rfl)) ?_
                  refine sC rfl (x_callL (xs := [.tmp 72, .tmp 73, .tmp 74]) (vs := [Value.agg #[Value.slice A588 l594.length c589], Value.int .i64 e596, Value.string os]) (cap := []) ent_17 rfl ⟨(ev_tmp rfl rfl), (ev_tmp rfl rfl), (ev_tmp rfl rfl), trivial⟩) (confirm_n _ _ l594 e596 os _ (M612.slw (i := 0) rfl)) ?_
                  rintro _ w624 ⟨A622, c623, l628, e630, he629, rfl, hb625, hs626⟩
                  refine ⟨_, rfl, ?_⟩
                  have M627 := M612.gotSl hb625 hs626
                  refine st rfl (x_move (v := Value.tuple #[Value.agg #[Value.slice A622 l628.length c623], Value.int .i64 e630]) (ev_tmp rfl rfl)) ?_
                  refine st rfl (x_extract (v := Value.agg #[Value.slice A622 l628.length c623]) (ev_tmp rfl rfl) rfl) ?_
                  refine st rfl (x_extract (v := Value.int .i64 e630) (ev_tmp rfl rfl) rfl) ?_
                  refine sset (i := 1) (L' := [Own.row 34 8 (Value.slice A581 l.length c582) l.length (l.flatMap Trade.cells), Own.cells b578 24 #[Value.slice A622 l628.length c623], Own.cells b9 40 #[Value.int .u8 kd, Value.int .i64 nb, Value.string by_, Value.string ob, Value.string os, Value.string op, Value.int .i64 oq, Value.int .i64 or_], Own.cells b6 24 #[Value.slice A l.length c]]) M627 rfl rfl (x_storew (cs := [Value.slice A622 l628.length c623]) sz_24 (ev_tmp rfl rfl) (ev_tmp rfl rfl) (M627.cells_at (i := 1) rfl) rfl ⟨rfl, trivial⟩) fun w632 M633 => ?_
                  refine st rfl (x_assign (v := Value.int .i64 e630) (ev_tmp rfl rfl)) ?_
                  refine s_nil ?_
                  refine hK621 _ _ ?_
                  refine c_seq fun K634 hK635 => ?_
                  refine c_reg ?_
                  refine st rfl (x_loadw (cs := [Value.slice A622 l628.length c623]) Try.underlying24 rfl sz_24 (ev_tmp rfl rfl) (M633.range (i := 1) rfl ⟨rfl, trivial⟩)) ?_
                  refine st rfl (x_move (v := Value.int .i64 e596) (ev_tmp rfl rfl)) ?_
                  refine st rfl (x_move (v := Value.string ob) (ev_tmp rfl rfl)) ?_
                  refine sC rfl (x_callL (xs := [.tmp 79, .tmp 80, .tmp 81]) (vs := [Value.agg #[Value.slice A622 l628.length c623], Value.int .i64 e596, Value.string ob]) (cap := []) ent_17 rfl ⟨(ev_tmp rfl rfl), (ev_tmp rfl rfl), (ev_tmp rfl rfl), trivial⟩) (confirm_n _ _ l628 e596 ob _ (M633.slw (i := 0) rfl)) ?_
                  rintro _ w638 ⟨A636, c637, l642, e644, he643, rfl, hb639, hs640⟩
                  refine ⟨_, rfl, ?_⟩
                  have M641 := M633.gotSl hb639 hs640
                  refine st rfl (x_move (v := Value.tuple #[Value.agg #[Value.slice A636 l642.length c637], Value.int .i64 e644]) (ev_tmp rfl rfl)) ?_
                  refine st rfl (x_extract (v := Value.agg #[Value.slice A636 l642.length c637]) (ev_tmp rfl rfl) rfl) ?_
                  refine st rfl (x_extract (v := Value.int .i64 e644) (ev_tmp rfl rfl) rfl) ?_
                  refine sset (i := 1) (L' := [Own.row 34 8 (Value.slice A581 l.length c582) l.length (l.flatMap Trade.cells), Own.cells b578 24 #[Value.slice A636 l642.length c637], Own.cells b9 40 #[Value.int .u8 kd, Value.int .i64 nb, Value.string by_, Value.string ob, Value.string os, Value.string op, Value.int .i64 oq, Value.int .i64 or_], Own.cells b6 24 #[Value.slice A l.length c]]) M641 rfl rfl (x_storew (cs := [Value.slice A636 l642.length c637]) sz_24 (ev_tmp rfl rfl) (ev_tmp rfl rfl) (M641.cells_at (i := 1) rfl) rfl ⟨rfl, trivial⟩) fun w646 M647 => ?_
                  refine st rfl (x_assign (v := Value.int .i64 e644) (ev_tmp rfl rfl)) ?_
                  refine s_nil ?_
                  refine hK635 _ _ ?_
                  refine c_seq fun K648 hK649 => ?_
                  refine c_reg ?_
                  refine st rfl (x_loadw (cs := [Value.slice A636 l642.length c637]) Try.underlying24 rfl sz_24 (ev_tmp rfl rfl) (M647.range (i := 1) rfl ⟨rfl, trivial⟩)) ?_
                  refine st rfl (x_fieldv (b := b9) (o := 0) (q := 3) fa_40_3 (ev_tmp rfl rfl) rfl) ?_
                  refine st rfl (x_load1 (v := Value.string ob) Try.underlying9 rfl (ev_tmp rfl rfl) (M647.cell (i := 2) (o := 3) rfl rfl)) ?_
                  refine st rfl (x_fieldv (b := b9) (o := 0) (q := 5) fa_40_5 (ev_tmp rfl rfl) rfl) ?_
                  refine st rfl (x_load1 (v := Value.string op) Try.underlying9 rfl (ev_tmp rfl rfl) (M647.cell (i := 2) (o := 5) rfl rfl)) ?_
                  refine sC rfl (x_callL (xs := [.tmp 86, .tmp 88, .tmp 90]) (vs := [Value.agg #[Value.slice A636 l642.length c637], Value.string ob, Value.string op]) (cap := []) ent_14 rfl ⟨(ev_tmp rfl rfl), (ev_tmp rfl rfl), (ev_tmp rfl rfl), trivial⟩) (position_c _ _ l642 ob op _ (M647.slw (i := 0) rfl)) ?_
                  rintro _ w650 ⟨rfl, hb652⟩
                  refine ⟨_, rfl, ?_⟩
                  have M651 := M647.call hb652
                  refine st rfl (x_move (v := Value.tuple #[Value.int .i64 ((posL (legsC l642) ob op).1), Value.int .i64 ((posL (legsC l642) ob op).2), Value.int .i64 (chk l642)]) (ev_tmp rfl rfl)) ?_
                  refine st rfl (x_extract (v := Value.int .i64 ((posL (legsC l642) ob op).1)) (ev_tmp rfl rfl) rfl) ?_
                  refine st rfl (x_extract (v := Value.int .i64 ((posL (legsC l642) ob op).2)) (ev_tmp rfl rfl) rfl) ?_
                  refine st rfl (x_extract (v := Value.int .i64 (chk l642)) (ev_tmp rfl rfl) rfl) ?_
                  refine st rfl (x_assign (v := Value.int .i64 ((posL (legsC l642) ob op).1)) (ev_tmp rfl rfl)) ?_
                  refine st rfl (x_assign (v := Value.int .i64 ((posL (legsC l642) ob op).2)) (ev_tmp rfl rfl)) ?_
                  refine st rfl (x_assign (v := Value.int .i64 (chk l642)) (ev_tmp rfl rfl)) ?_
                  refine s_nil ?_
                  refine hK649 _ _ ?_
                  refine c_seq fun K653 hK654 => ?_
                  refine c_reg ?_
                  refine st rfl (x_loadw (cs := [Value.slice A l.length c]) Try.underlying24 rfl sz_24 (ev_tmp rfl rfl) (M651.range (i := 3) rfl ⟨rfl, trivial⟩)) ?_
                  refine st rfl (x_fieldv (b := b9) (o := 0) (q := 3) fa_40_3 (ev_tmp rfl rfl) rfl) ?_
                  refine st rfl (x_load1 (v := Value.string ob) Try.underlying9 rfl (ev_tmp rfl rfl) (M651.cell (i := 2) (o := 3) rfl rfl)) ?_
                  refine st rfl (x_fieldv (b := b9) (o := 0) (q := 5) fa_40_5 (ev_tmp rfl rfl) rfl) ?_
                  refine st rfl (x_load1 (v := Value.string op) Try.underlying9 rfl (ev_tmp rfl rfl) (M651.cell (i := 2) (o := 5) rfl rfl)) ?_
                  refine sC rfl (x_callL (xs := [.tmp 96, .tmp 98, .tmp 100]) (vs := [Value.agg #[Value.slice A l.length c], Value.string ob, Value.string op]) (cap := []) ent_14 rfl ⟨(ev_tmp rfl rfl), (ev_tmp rfl rfl), (ev_tmp rfl rfl), trivial⟩) (position_c _ _ l ob op _ (M651.slw (i := 3) rfl)) ?_
                  rintro _ w655 ⟨rfl, hb657⟩
                  refine ⟨_, rfl, ?_⟩
                  have M656 := M651.call hb657
                  refine st rfl (x_move (v := Value.tuple #[Value.int .i64 ((posL (legsC l) ob op).1), Value.int .i64 ((posL (legsC l) ob op).2), Value.int .i64 (chk l)]) (ev_tmp rfl rfl)) ?_
                  refine st rfl (x_extract (v := Value.int .i64 ((posL (legsC l) ob op).1)) (ev_tmp rfl rfl) rfl) ?_
                  refine st rfl (x_extract (v := Value.int .i64 ((posL (legsC l) ob op).2)) (ev_tmp rfl rfl) rfl) ?_
                  refine st rfl (x_extract (v := Value.int .i64 (chk l)) (ev_tmp rfl rfl) rfl) ?_
                  refine st rfl (x_assign (v := Value.int .i64 ((posL (legsC l) ob op).1)) (ev_tmp rfl rfl)) ?_
                  refine st rfl (x_assign (v := Value.int .i64 ((posL (legsC l) ob op).2)) (ev_tmp rfl rfl)) ?_
                  refine st rfl (x_assign (v := Value.int .i64 (chk l)) (ev_tmp rfl rfl)) ?_
                  refine s_nil ?_
                  refine hK654 _ _ ?_
                  refine c_seq fun K658 hK659 => ?_
                  refine c_reg ?_
                  refine st rfl (x_loadw (cs := [Value.slice A636 l642.length c637]) Try.underlying24 rfl sz_24 (ev_tmp rfl rfl) (M656.range (i := 1) rfl ⟨rfl, trivial⟩)) ?_
                  refine st rfl (x_move (v := Value.int .i64 e596) (ev_tmp rfl rfl)) ?_
                  refine sC rfl (x_callL (xs := [.tmp 106, .tmp 107]) (vs := [Value.agg #[Value.slice A636 l642.length c637], Value.int .i64 e596]) (cap := []) ent_18 rfl ⟨(ev_tmp rfl rfl), (ev_tmp rfl rfl), trivial⟩) (undo_n _ _ l642 e596 _ (M656.slw (i := 0) rfl)) ?_
                  rintro _ w662 ⟨A660, c661, l666, e668, he667, rfl, hb663, hs664⟩
                  refine ⟨_, rfl, ?_⟩
                  have M665 := M656.gotSl hb663 hs664
                  refine st rfl (x_move (v := Value.tuple #[Value.agg #[Value.slice A660 l666.length c661], Value.int .i64 e668]) (ev_tmp rfl rfl)) ?_
                  refine st rfl (x_extract (v := Value.agg #[Value.slice A660 l666.length c661]) (ev_tmp rfl rfl) rfl) ?_
                  refine st rfl (x_extract (v := Value.int .i64 e668) (ev_tmp rfl rfl) rfl) ?_
                  refine snew (cs := #[Value.slice none 0 0]) M665 rfl (x_allocz z_24) fun b670 w671 M672 => ?_
                  refine sset (i := 0) (L' := [Own.cells b670 24 #[Value.slice A660 l666.length c661], Own.row 34 8 (Value.slice A581 l.length c582) l.length (l.flatMap Trade.cells), Own.cells b578 24 #[Value.slice A636 l642.length c637], Own.cells b9 40 #[Value.int .u8 kd, Value.int .i64 nb, Value.string by_, Value.string ob, Value.string os, Value.string op, Value.int .i64 oq, Value.int .i64 or_], Own.cells b6 24 #[Value.slice A l.length c]]) M672 rfl rfl (x_storew (cs := [Value.slice A660 l666.length c661]) sz_24 (ev_tmp rfl rfl) (ev_tmp rfl rfl) (M672.cells_at (i := 0) rfl) rfl ⟨rfl, trivial⟩) fun w673 M674 => ?_
                  refine st rfl (x_assign (v := Value.int .i64 e668) (ev_tmp rfl rfl)) ?_
                  refine s_nil ?_
                  refine hK659 _ _ ?_
                  refine c_seq fun K675 hK676 => ?_
                  refine c_reg ?_
                  refine st rfl (x_loadw (cs := [Value.slice A660 l666.length c661]) Try.underlying24 rfl sz_24 (ev_tmp rfl rfl) (M674.range (i := 0) rfl ⟨rfl, trivial⟩)) ?_
                  refine st rfl (x_move (v := Value.string who) (ev_tmp rfl rfl)) ?_
                  refine st rfl (x_move (v := Value.string product) (ev_tmp rfl rfl)) ?_
                  refine sC rfl (x_callL (xs := [.tmp 112, .tmp 113, .tmp 114]) (vs := [Value.agg #[Value.slice A660 l666.length c661], Value.string who, Value.string product]) (cap := []) ent_14 rfl ⟨(ev_tmp rfl rfl), (ev_tmp rfl rfl), (ev_tmp rfl rfl), trivial⟩) (position_c _ _ l666 who product _ (M674.slw (i := 0) rfl)) ?_
                  rintro _ w677 ⟨rfl, hb679⟩
                  refine ⟨_, rfl, ?_⟩
                  have M678 := M674.call hb679
                  refine st rfl (x_move (v := Value.tuple #[Value.int .i64 ((posL (legsC l666) who product).1), Value.int .i64 ((posL (legsC l666) who product).2), Value.int .i64 (chk l666)]) (ev_tmp rfl rfl)) ?_
                  refine st rfl (x_extract (v := Value.int .i64 ((posL (legsC l666) who product).1)) (ev_tmp rfl rfl) rfl) ?_
                  refine st rfl (x_extract (v := Value.int .i64 ((posL (legsC l666) who product).2)) (ev_tmp rfl rfl) rfl) ?_
                  refine st rfl (x_extract (v := Value.int .i64 (chk l666)) (ev_tmp rfl rfl) rfl) ?_
                  refine st rfl (x_assign (v := Value.int .i64 ((posL (legsC l666) who product).1)) (ev_tmp rfl rfl)) ?_
                  refine st rfl (x_assign (v := Value.int .i64 ((posL (legsC l666) who product).2)) (ev_tmp rfl rfl)) ?_
                  refine st rfl (x_assign (v := Value.int .i64 (chk l666)) (ev_tmp rfl rfl)) ?_
                  refine s_nil ?_
                  refine hK676 _ _ ?_
                  refine c_seq fun K680 hK681 => ?_
                  refine c_reg ?_
                  refine st rfl (x_loadw (cs := [Value.slice A l.length c]) Try.underlying24 rfl sz_24 (ev_tmp rfl rfl) (M678.range (i := 4) rfl ⟨rfl, trivial⟩)) ?_
                  refine st rfl (x_move (v := Value.string who) (ev_tmp rfl rfl)) ?_
                  refine st rfl (x_move (v := Value.string product) (ev_tmp rfl rfl)) ?_
                  refine sC rfl (x_callL (xs := [.tmp 120, .tmp 121, .tmp 122]) (vs := [Value.agg #[Value.slice A l.length c], Value.string who, Value.string product]) (cap := []) ent_14 rfl ⟨(ev_tmp rfl rfl), (ev_tmp rfl rfl), (ev_tmp rfl rfl), trivial⟩) (position_c _ _ l who product _ (M678.slw (i := 4) rfl)) ?_
                  rintro _ w682 ⟨rfl, hb684⟩
                  refine ⟨_, rfl, ?_⟩
                  have M683 := M678.call hb684
                  refine st rfl (x_move (v := Value.tuple #[Value.int .i64 ((posL (legsC l) who product).1), Value.int .i64 ((posL (legsC l) who product).2), Value.int .i64 (chk l)]) (ev_tmp rfl rfl)) ?_
                  refine st rfl (x_extract (v := Value.int .i64 ((posL (legsC l) who product).1)) (ev_tmp rfl rfl) rfl) ?_
                  refine st rfl (x_extract (v := Value.int .i64 ((posL (legsC l) who product).2)) (ev_tmp rfl rfl) rfl) ?_
                  refine st rfl (x_extract (v := Value.int .i64 (chk l)) (ev_tmp rfl rfl) rfl) ?_
                  refine st rfl (x_assign (v := Value.int .i64 ((posL (legsC l) who product).1)) (ev_tmp rfl rfl)) ?_
                  refine st rfl (x_assign (v := Value.int .i64 ((posL (legsC l) who product).2)) (ev_tmp rfl rfl)) ?_
                  refine st rfl (x_assign (v := Value.int .i64 (chk l)) (ev_tmp rfl rfl)) ?_
                  refine s_nil ?_
                  refine hK681 _ _ ?_
                  refine c_seq fun K685 hK686 => ?_
                  refine c_reg ?_
                  refine st rfl (x_move (v := Value.int .i64 e630) (ev_tmp rfl rfl)) ?_
                  refine st rfl (x_eql (p := e630) (q := 0) (ev_tmp rfl rfl) rfl) ?_
                  refine st rfl (x_move (v := Value.bool (decide (e630 = 0))) (ev_tmp rfl rfl)) ?_
                  obtain ⟨z2, z3, z4, c0, c3, c4, q1, q2, rr1, rr2, p1, p2, p3⟩ := undo_plain he595 hz he629 he643 he667 (.inr ⟨rfl, rfl⟩)
                  obtain ⟨b1, b2, b3, b4⟩ := posL_bd l ob op
                  obtain ⟨m1, m2⟩ := mul_bd q1 q2 rr1 rr2
                  have hg690 : (decide (e630 = 0)) = true := (decide_eq_true z2)
                  refine gt rfl rfl rfl (congrArg Value.bool hg690) (x_move (v := Value.int .i64 e644) (ev_tmp rfl rfl)) ?_
                  refine gt rfl rfl rfl (congrArg Value.bool hg690) (x_eql (p := e644) (q := 0) (ev_tmp rfl rfl) rfl) ?_
                  refine st rfl (x_pick_t (v := Value.bool (decide (e644 = 0))) (ev_tmp rfl (congrArg Value.bool hg690)) (ev_tmp rfl rfl)) ?_
                  refine st rfl (x_move (v := Value.bool (decide (e644 = 0))) (ev_tmp rfl rfl)) ?_
                  have hg694 : (decide (e644 = 0)) = true := (decide_eq_true z3)
                  refine gt rfl rfl rfl (congrArg Value.bool hg694) (x_move (v := Value.int .i64 (chk l642)) (ev_tmp rfl rfl)) ?_
                  refine gt rfl rfl rfl (congrArg Value.bool hg694) (x_eql (p := (chk l642)) (q := 0) (ev_tmp rfl rfl) rfl) ?_
                  refine st rfl (x_pick_t (v := Value.bool (decide (chk l642 = 0))) (ev_tmp rfl (congrArg Value.bool hg694)) (ev_tmp rfl rfl)) ?_
                  refine st rfl (x_move (v := Value.bool (decide (chk l642 = 0))) (ev_tmp rfl rfl)) ?_
                  have hg698 : (decide (chk l642 = 0)) = true := (decide_eq_true c3)
                  refine gt rfl rfl rfl (congrArg Value.bool hg698) (x_move (v := Value.int .i64 (chk l)) (ev_tmp rfl rfl)) ?_
                  refine gt rfl rfl rfl (congrArg Value.bool hg698) (x_eql (p := (chk l)) (q := 0) (ev_tmp rfl rfl) rfl) ?_
                  refine st rfl (x_pick_t (v := Value.bool (decide (chk l = 0))) (ev_tmp rfl (congrArg Value.bool hg698)) (ev_tmp rfl rfl)) ?_
                  refine st rfl (x_move (v := Value.bool (decide (chk l = 0))) (ev_tmp rfl rfl)) ?_
                  have hg702 : (decide (chk l = 0)) = true := (decide_eq_true c0)
                  refine gt rfl rfl rfl (congrArg Value.bool hg702) (x_move (v := Value.int .i64 e668) (ev_tmp rfl rfl)) ?_
                  refine gt rfl rfl rfl (congrArg Value.bool hg702) (x_eql (p := e668) (q := 0) (ev_tmp rfl rfl) rfl) ?_
                  refine st rfl (x_pick_t (v := Value.bool (decide (e668 = 0))) (ev_tmp rfl (congrArg Value.bool hg702)) (ev_tmp rfl rfl)) ?_
                  refine st rfl (x_move (v := Value.bool (decide (e668 = 0))) (ev_tmp rfl rfl)) ?_
                  have hg706 : (decide (e668 = 0)) = true := (decide_eq_true z4)
                  refine gt rfl rfl rfl (congrArg Value.bool hg706) (x_move (v := Value.int .i64 (chk l666)) (ev_tmp rfl rfl)) ?_
                  refine gt rfl rfl rfl (congrArg Value.bool hg706) (x_eql (p := (chk l666)) (q := 0) (ev_tmp rfl rfl) rfl) ?_
                  refine st rfl (x_pick_t (v := Value.bool (decide (chk l666 = 0))) (ev_tmp rfl (congrArg Value.bool hg706)) (ev_tmp rfl rfl)) ?_
                  refine st rfl (x_move (v := Value.bool (decide (chk l666 = 0))) (ev_tmp rfl rfl)) ?_
                  have hg710 : (decide (chk l666 = 0)) = true := (decide_eq_true c4)
                  refine gt rfl rfl rfl (congrArg Value.bool hg710) (x_move (v := Value.int .i64 (chk l)) (ev_tmp rfl rfl)) ?_
                  refine gt rfl rfl rfl (congrArg Value.bool hg710) (x_eql (p := (chk l)) (q := 0) (ev_tmp rfl rfl) rfl) ?_
                  refine st rfl (x_pick_t (v := Value.bool (decide (chk l = 0))) (ev_tmp rfl (congrArg Value.bool hg710)) (ev_tmp rfl rfl)) ?_
                  refine st rfl (x_assign (v := Value.bool (decide (chk l = 0))) (ev_tmp rfl rfl)) ?_
                  refine s_nil ?_
                  refine hK686 _ _ ?_
                  refine c_seq fun K711 hK712 => ?_
                  refine c_reg ?_
                  refine st rfl (x_move (v := Value.bool true) (ev_tmp rfl rfl)) ?_
                  refine st rfl (x_move (v := Value.bool true) (ev_tmp rfl rfl)) ?_
                  refine gt rfl rfl rfl rfl (x_move (v := Value.bool (decide (chk l = 0))) (ev_tmp rfl rfl)) ?_
                  refine st rfl (x_pick_t (v := Value.bool (decide (chk l = 0))) (ev_tmp rfl rfl) (ev_tmp rfl rfl)) ?_
                  refine st rfl (x_move (v := Value.bool (decide (chk l = 0))) (ev_tmp rfl rfl)) ?_
                  have hg720 : (decide (chk l = 0)) = true := (decide_eq_true c0)
                  refine gt rfl rfl rfl (congrArg Value.bool hg720) (x_move (v := Value.int .i64 ((posL (legsC l642) ob op).1)) (ev_tmp rfl rfl)) ?_
                  refine gt rfl rfl rfl (congrArg Value.bool hg720) (x_move (v := Value.int .i64 ((posL (legsC l) ob op).1)) (ev_tmp rfl rfl)) ?_
                  refine gt rfl rfl rfl (congrArg Value.bool hg720) (x_fieldv (b := b9) (o := 0) (q := 6) fa_40_6 (ev_tmp rfl rfl) rfl) ?_
                  refine gt rfl rfl rfl (congrArg Value.bool hg720) (x_load1 (v := Value.int .i64 oq) Try.underlying3 rfl (ev_tmp rfl rfl) (M683.cell (i := 3) (o := 6) rfl rfl)) ?_
                  have hw721 : IntKind.i64.wrap (((posL (legsC l) ob op).1) + oq) = ((posL (legsC l) ob op).1) + oq := w64 (by rfl) (by omega) (by omega)
                  refine gt rfl rfl rfl (congrArg Value.bool hg720) (x_add_eq (p := ((posL (legsC l) ob op).1)) (q := oq) (ev_tmp rfl rfl) (ev_tmp rfl rfl) hw721) ?_
                  refine gt rfl rfl rfl (congrArg Value.bool hg720) (x_eql (p := ((posL (legsC l642) ob op).1)) (q := (((posL (legsC l) ob op).1) + oq)) (ev_tmp rfl rfl) (ev_tmp rfl rfl)) ?_
                  refine st rfl (x_pick_t (v := Value.bool (decide ((posL (legsC l642) ob op).1 = ((posL (legsC l) ob op).1) + oq))) (ev_tmp rfl (congrArg Value.bool hg720)) (ev_tmp rfl rfl)) ?_
                  refine st rfl (x_move (v := Value.bool (decide ((posL (legsC l642) ob op).1 = ((posL (legsC l) ob op).1) + oq))) (ev_tmp rfl rfl)) ?_
                  have hg725 : (decide ((posL (legsC l642) ob op).1 = ((posL (legsC l) ob op).1) + oq)) = true := (decide_eq_true p1)
                  refine gt rfl rfl rfl (congrArg Value.bool hg725) (x_move (v := Value.int .i64 ((posL (legsC l642) ob op).2)) (ev_tmp rfl rfl)) ?_
                  refine gt rfl rfl rfl (congrArg Value.bool hg725) (x_move (v := Value.int .i64 ((posL (legsC l) ob op).2)) (ev_tmp rfl rfl)) ?_
                  refine gt rfl rfl rfl (congrArg Value.bool hg725) (x_fieldv (b := b9) (o := 0) (q := 6) fa_40_6 (ev_tmp rfl rfl) rfl) ?_
                  refine gt rfl rfl rfl (congrArg Value.bool hg725) (x_load1 (v := Value.int .i64 oq) Try.underlying3 rfl (ev_tmp rfl rfl) (M683.cell (i := 3) (o := 6) rfl rfl)) ?_
                  refine gt rfl rfl rfl (congrArg Value.bool hg725) (x_fieldv (b := b9) (o := 0) (q := 7) fa_40_7 (ev_tmp rfl rfl) rfl) ?_
                  refine gt rfl rfl rfl (congrArg Value.bool hg725) (x_load1 (v := Value.int .i64 or_) Try.underlying3 rfl (ev_tmp rfl rfl) (M683.cell (i := 3) (o := 7) rfl rfl)) ?_
                  have hw726 : IntKind.i64.wrap (oq * or_) = oq * or_ := w64 (by rfl) (by omega) (by omega)
                  refine gt rfl rfl rfl (congrArg Value.bool hg725) (x_mul_eq (p := oq) (q := or_) (ev_tmp rfl rfl) (ev_tmp rfl rfl) hw726) ?_
                  have hw727 : IntKind.i64.wrap (((posL (legsC l) ob op).2) + (oq * or_)) = ((posL (legsC l) ob op).2) + (oq * or_) := w64 (by rfl) (by omega) (by omega)
                  refine gt rfl rfl rfl (congrArg Value.bool hg725) (x_add_eq (p := ((posL (legsC l) ob op).2)) (q := (oq * or_)) (ev_tmp rfl rfl) (ev_tmp rfl rfl) hw727) ?_
                  refine gt rfl rfl rfl (congrArg Value.bool hg725) (x_eql (p := ((posL (legsC l642) ob op).2)) (q := (((posL (legsC l) ob op).2) + (oq * or_))) (ev_tmp rfl rfl) (ev_tmp rfl rfl)) ?_
                  refine st rfl (x_pick_t (v := Value.bool (decide ((posL (legsC l642) ob op).2 = ((posL (legsC l) ob op).2) + (oq * or_)))) (ev_tmp rfl (congrArg Value.bool hg725)) (ev_tmp rfl rfl)) ?_
                  refine st rfl (x_move (v := Value.bool (decide ((posL (legsC l642) ob op).2 = ((posL (legsC l) ob op).2) + (oq * or_)))) (ev_tmp rfl rfl)) ?_
                  have hg731 : (decide ((posL (legsC l642) ob op).2 = ((posL (legsC l) ob op).2) + (oq * or_))) = true := (decide_eq_true p2)
                  refine gt rfl rfl rfl (congrArg Value.bool hg731) (x_move (v := Value.int .i64 ((posL (legsC l666) who product).1)) (ev_tmp rfl rfl)) ?_
                  refine gt rfl rfl rfl (congrArg Value.bool hg731) (x_move (v := Value.int .i64 ((posL (legsC l) who product).1)) (ev_tmp rfl rfl)) ?_
                  refine gt rfl rfl rfl (congrArg Value.bool hg731) (x_eql (p := ((posL (legsC l666) who product).1)) (q := ((posL (legsC l) who product).1)) (ev_tmp rfl rfl) (ev_tmp rfl rfl)) ?_
                  refine st rfl (x_pick_t (v := Value.bool (decide ((posL (legsC l666) who product).1 = (posL (legsC l) who product).1))) (ev_tmp rfl (congrArg Value.bool hg731)) (ev_tmp rfl rfl)) ?_
                  refine st rfl (x_move (v := Value.bool (decide ((posL (legsC l666) who product).1 = (posL (legsC l) who product).1))) (ev_tmp rfl rfl)) ?_
                  have hg735 : (decide ((posL (legsC l666) who product).1 = (posL (legsC l) who product).1)) = true := (decide_eq_true (congrArg Prod.fst (p3 who product)))
                  refine gt rfl rfl rfl (congrArg Value.bool hg735) (x_move (v := Value.int .i64 ((posL (legsC l666) who product).2)) (ev_tmp rfl rfl)) ?_
                  refine gt rfl rfl rfl (congrArg Value.bool hg735) (x_move (v := Value.int .i64 ((posL (legsC l) who product).2)) (ev_tmp rfl rfl)) ?_
                  refine gt rfl rfl rfl (congrArg Value.bool hg735) (x_eql (p := ((posL (legsC l666) who product).2)) (q := ((posL (legsC l) who product).2)) (ev_tmp rfl rfl) (ev_tmp rfl rfl)) ?_
                  refine st rfl (x_pick_t (v := Value.bool (decide ((posL (legsC l666) who product).2 = (posL (legsC l) who product).2))) (ev_tmp rfl (congrArg Value.bool hg735)) (ev_tmp rfl rfl)) ?_
                  refine st rfl (x_assign (v := Value.bool (decide ((posL (legsC l666) who product).2 = (posL (legsC l) who product).2))) (ev_tmp rfl rfl)) ?_
                  refine s_nil ?_
                  refine hK712 _ _ ?_
                  refine c_ret ?_
                  refine hT3 _ _ ?_
                  refine r1 rfl (ev_tmp (v := Value.bool (decide ((posL (legsC l666) who product).2 = (posL (legsC l) who product).2))) rfl rfl) ?_
                  exact ⟨ret_bool (decide_eq_true (congrArg Prod.snd (p3 who product))), M683.below⟩
                · have h736 : fl = false := h618
                  refine c_skip ?_
                  refine hK615 _ _ ?_
                  refine c_seq fun K737 hK738 => ?_
                  refine c_reg ?_
                  refine st rfl (x_loadw (cs := [Value.slice A588 l594.length c589]) Try.underlying24 rfl sz_24 (ev_tmp rfl rfl) (M612.range (i := 1) rfl ⟨rfl, trivial⟩)) ?_
                  refine st rfl (x_move (v := Value.int .i64 e596) (ev_tmp rfl rfl)) ?_
                  refine st rfl (x_move (v := Value.string ob) (ev_tmp rfl rfl)) ?_
                  refine sC rfl (x_callL (xs := [.tmp 72, .tmp 73, .tmp 74]) (vs := [Value.agg #[Value.slice A588 l594.length c589], Value.int .i64 e596, Value.string ob]) (cap := []) ent_17 rfl ⟨(ev_tmp rfl rfl), (ev_tmp rfl rfl), (ev_tmp rfl rfl), trivial⟩) (confirm_n _ _ l594 e596 ob _ (M612.slw (i := 0) rfl)) ?_
                  rintro _ w741 ⟨A739, c740, l745, e747, he746, rfl, hb742, hs743⟩
                  refine ⟨_, rfl, ?_⟩
                  have M744 := M612.gotSl hb742 hs743
                  refine st rfl (x_move (v := Value.tuple #[Value.agg #[Value.slice A739 l745.length c740], Value.int .i64 e747]) (ev_tmp rfl rfl)) ?_
                  refine st rfl (x_extract (v := Value.agg #[Value.slice A739 l745.length c740]) (ev_tmp rfl rfl) rfl) ?_
                  refine st rfl (x_extract (v := Value.int .i64 e747) (ev_tmp rfl rfl) rfl) ?_
                  refine sset (i := 1) (L' := [Own.row 34 8 (Value.slice A581 l.length c582) l.length (l.flatMap Trade.cells), Own.cells b578 24 #[Value.slice A739 l745.length c740], Own.cells b9 40 #[Value.int .u8 kd, Value.int .i64 nb, Value.string by_, Value.string ob, Value.string os, Value.string op, Value.int .i64 oq, Value.int .i64 or_], Own.cells b6 24 #[Value.slice A l.length c]]) M744 rfl rfl (x_storew (cs := [Value.slice A739 l745.length c740]) sz_24 (ev_tmp rfl rfl) (ev_tmp rfl rfl) (M744.cells_at (i := 1) rfl) rfl ⟨rfl, trivial⟩) fun w749 M750 => ?_
                  refine st rfl (x_assign (v := Value.int .i64 e747) (ev_tmp rfl rfl)) ?_
                  refine s_nil ?_
                  refine hK738 _ _ ?_
                  refine c_seq fun K751 hK752 => ?_
                  refine c_reg ?_
                  refine st rfl (x_loadw (cs := [Value.slice A739 l745.length c740]) Try.underlying24 rfl sz_24 (ev_tmp rfl rfl) (M750.range (i := 1) rfl ⟨rfl, trivial⟩)) ?_
                  refine st rfl (x_move (v := Value.int .i64 e596) (ev_tmp rfl rfl)) ?_
                  refine st rfl (x_move (v := Value.string os) (ev_tmp rfl rfl)) ?_
                  refine sC rfl (x_callL (xs := [.tmp 79, .tmp 80, .tmp 81]) (vs := [Value.agg #[Value.slice A739 l745.length c740], Value.int .i64 e596, Value.string os]) (cap := []) ent_17 rfl ⟨(ev_tmp rfl rfl), (ev_tmp rfl rfl), (ev_tmp rfl rfl), trivial⟩) (confirm_n _ _ l745 e596 os _ (M750.slw (i := 0) rfl)) ?_
                  rintro _ w755 ⟨A753, c754, l759, e761, he760, rfl, hb756, hs757⟩
                  refine ⟨_, rfl, ?_⟩
                  have M758 := M750.gotSl hb756 hs757
                  refine st rfl (x_move (v := Value.tuple #[Value.agg #[Value.slice A753 l759.length c754], Value.int .i64 e761]) (ev_tmp rfl rfl)) ?_
                  refine st rfl (x_extract (v := Value.agg #[Value.slice A753 l759.length c754]) (ev_tmp rfl rfl) rfl) ?_
                  refine st rfl (x_extract (v := Value.int .i64 e761) (ev_tmp rfl rfl) rfl) ?_
                  refine sset (i := 1) (L' := [Own.row 34 8 (Value.slice A581 l.length c582) l.length (l.flatMap Trade.cells), Own.cells b578 24 #[Value.slice A753 l759.length c754], Own.cells b9 40 #[Value.int .u8 kd, Value.int .i64 nb, Value.string by_, Value.string ob, Value.string os, Value.string op, Value.int .i64 oq, Value.int .i64 or_], Own.cells b6 24 #[Value.slice A l.length c]]) M758 rfl rfl (x_storew (cs := [Value.slice A753 l759.length c754]) sz_24 (ev_tmp rfl rfl) (ev_tmp rfl rfl) (M758.cells_at (i := 1) rfl) rfl ⟨rfl, trivial⟩) fun w763 M764 => ?_
                  refine st rfl (x_assign (v := Value.int .i64 e761) (ev_tmp rfl rfl)) ?_
                  refine s_nil ?_
                  refine hK752 _ _ ?_
                  refine c_seq fun K765 hK766 => ?_
                  refine c_reg ?_
                  refine st rfl (x_loadw (cs := [Value.slice A753 l759.length c754]) Try.underlying24 rfl sz_24 (ev_tmp rfl rfl) (M764.range (i := 1) rfl ⟨rfl, trivial⟩)) ?_
                  refine st rfl (x_fieldv (b := b9) (o := 0) (q := 3) fa_40_3 (ev_tmp rfl rfl) rfl) ?_
                  refine st rfl (x_load1 (v := Value.string ob) Try.underlying9 rfl (ev_tmp rfl rfl) (M764.cell (i := 2) (o := 3) rfl rfl)) ?_
                  refine st rfl (x_fieldv (b := b9) (o := 0) (q := 5) fa_40_5 (ev_tmp rfl rfl) rfl) ?_
                  refine st rfl (x_load1 (v := Value.string op) Try.underlying9 rfl (ev_tmp rfl rfl) (M764.cell (i := 2) (o := 5) rfl rfl)) ?_
                  refine sC rfl (x_callL (xs := [.tmp 86, .tmp 88, .tmp 90]) (vs := [Value.agg #[Value.slice A753 l759.length c754], Value.string ob, Value.string op]) (cap := []) ent_14 rfl ⟨(ev_tmp rfl rfl), (ev_tmp rfl rfl), (ev_tmp rfl rfl), trivial⟩) (position_c _ _ l759 ob op _ (M764.slw (i := 0) rfl)) ?_
                  rintro _ w767 ⟨rfl, hb769⟩
                  refine ⟨_, rfl, ?_⟩
                  have M768 := M764.call hb769
                  refine st rfl (x_move (v := Value.tuple #[Value.int .i64 ((posL (legsC l759) ob op).1), Value.int .i64 ((posL (legsC l759) ob op).2), Value.int .i64 (chk l759)]) (ev_tmp rfl rfl)) ?_
                  refine st rfl (x_extract (v := Value.int .i64 ((posL (legsC l759) ob op).1)) (ev_tmp rfl rfl) rfl) ?_
                  refine st rfl (x_extract (v := Value.int .i64 ((posL (legsC l759) ob op).2)) (ev_tmp rfl rfl) rfl) ?_
                  refine st rfl (x_extract (v := Value.int .i64 (chk l759)) (ev_tmp rfl rfl) rfl) ?_
                  refine st rfl (x_assign (v := Value.int .i64 ((posL (legsC l759) ob op).1)) (ev_tmp rfl rfl)) ?_
                  refine st rfl (x_assign (v := Value.int .i64 ((posL (legsC l759) ob op).2)) (ev_tmp rfl rfl)) ?_
                  refine st rfl (x_assign (v := Value.int .i64 (chk l759)) (ev_tmp rfl rfl)) ?_
                  refine s_nil ?_
                  refine hK766 _ _ ?_
                  refine c_seq fun K770 hK771 => ?_
                  refine c_reg ?_
                  refine st rfl (x_loadw (cs := [Value.slice A l.length c]) Try.underlying24 rfl sz_24 (ev_tmp rfl rfl) (M768.range (i := 3) rfl ⟨rfl, trivial⟩)) ?_
                  refine st rfl (x_fieldv (b := b9) (o := 0) (q := 3) fa_40_3 (ev_tmp rfl rfl) rfl) ?_
                  refine st rfl (x_load1 (v := Value.string ob) Try.underlying9 rfl (ev_tmp rfl rfl) (M768.cell (i := 2) (o := 3) rfl rfl)) ?_
                  refine st rfl (x_fieldv (b := b9) (o := 0) (q := 5) fa_40_5 (ev_tmp rfl rfl) rfl) ?_
                  refine st rfl (x_load1 (v := Value.string op) Try.underlying9 rfl (ev_tmp rfl rfl) (M768.cell (i := 2) (o := 5) rfl rfl)) ?_
                  refine sC rfl (x_callL (xs := [.tmp 96, .tmp 98, .tmp 100]) (vs := [Value.agg #[Value.slice A l.length c], Value.string ob, Value.string op]) (cap := []) ent_14 rfl ⟨(ev_tmp rfl rfl), (ev_tmp rfl rfl), (ev_tmp rfl rfl), trivial⟩) (position_c _ _ l ob op _ (M768.slw (i := 3) rfl)) ?_
                  rintro _ w772 ⟨rfl, hb774⟩
                  refine ⟨_, rfl, ?_⟩
                  have M773 := M768.call hb774
                  refine st rfl (x_move (v := Value.tuple #[Value.int .i64 ((posL (legsC l) ob op).1), Value.int .i64 ((posL (legsC l) ob op).2), Value.int .i64 (chk l)]) (ev_tmp rfl rfl)) ?_
                  refine st rfl (x_extract (v := Value.int .i64 ((posL (legsC l) ob op).1)) (ev_tmp rfl rfl) rfl) ?_
                  refine st rfl (x_extract (v := Value.int .i64 ((posL (legsC l) ob op).2)) (ev_tmp rfl rfl) rfl) ?_
                  refine st rfl (x_extract (v := Value.int .i64 (chk l)) (ev_tmp rfl rfl) rfl) ?_
                  refine st rfl (x_assign (v := Value.int .i64 ((posL (legsC l) ob op).1)) (ev_tmp rfl rfl)) ?_
                  refine st rfl (x_assign (v := Value.int .i64 ((posL (legsC l) ob op).2)) (ev_tmp rfl rfl)) ?_
                  refine st rfl (x_assign (v := Value.int .i64 (chk l)) (ev_tmp rfl rfl)) ?_
                  refine s_nil ?_
                  refine hK771 _ _ ?_
                  refine c_seq fun K775 hK776 => ?_
                  refine c_reg ?_
                  refine st rfl (x_loadw (cs := [Value.slice A753 l759.length c754]) Try.underlying24 rfl sz_24 (ev_tmp rfl rfl) (M773.range (i := 1) rfl ⟨rfl, trivial⟩)) ?_
                  refine st rfl (x_move (v := Value.int .i64 e596) (ev_tmp rfl rfl)) ?_
                  refine sC rfl (x_callL (xs := [.tmp 106, .tmp 107]) (vs := [Value.agg #[Value.slice A753 l759.length c754], Value.int .i64 e596]) (cap := []) ent_18 rfl ⟨(ev_tmp rfl rfl), (ev_tmp rfl rfl), trivial⟩) (undo_n _ _ l759 e596 _ (M773.slw (i := 0) rfl)) ?_
                  rintro _ w779 ⟨A777, c778, l783, e785, he784, rfl, hb780, hs781⟩
                  refine ⟨_, rfl, ?_⟩
                  have M782 := M773.gotSl hb780 hs781
                  refine st rfl (x_move (v := Value.tuple #[Value.agg #[Value.slice A777 l783.length c778], Value.int .i64 e785]) (ev_tmp rfl rfl)) ?_
                  refine st rfl (x_extract (v := Value.agg #[Value.slice A777 l783.length c778]) (ev_tmp rfl rfl) rfl) ?_
                  refine st rfl (x_extract (v := Value.int .i64 e785) (ev_tmp rfl rfl) rfl) ?_
                  refine snew (cs := #[Value.slice none 0 0]) M782 rfl (x_allocz z_24) fun b787 w788 M789 => ?_
                  refine sset (i := 0) (L' := [Own.cells b787 24 #[Value.slice A777 l783.length c778], Own.row 34 8 (Value.slice A581 l.length c582) l.length (l.flatMap Trade.cells), Own.cells b578 24 #[Value.slice A753 l759.length c754], Own.cells b9 40 #[Value.int .u8 kd, Value.int .i64 nb, Value.string by_, Value.string ob, Value.string os, Value.string op, Value.int .i64 oq, Value.int .i64 or_], Own.cells b6 24 #[Value.slice A l.length c]]) M789 rfl rfl (x_storew (cs := [Value.slice A777 l783.length c778]) sz_24 (ev_tmp rfl rfl) (ev_tmp rfl rfl) (M789.cells_at (i := 0) rfl) rfl ⟨rfl, trivial⟩) fun w790 M791 => ?_
                  refine st rfl (x_assign (v := Value.int .i64 e785) (ev_tmp rfl rfl)) ?_
                  refine s_nil ?_
                  refine hK776 _ _ ?_
                  refine c_seq fun K792 hK793 => ?_
                  refine c_reg ?_
                  refine st rfl (x_loadw (cs := [Value.slice A777 l783.length c778]) Try.underlying24 rfl sz_24 (ev_tmp rfl rfl) (M791.range (i := 0) rfl ⟨rfl, trivial⟩)) ?_
                  refine st rfl (x_move (v := Value.string who) (ev_tmp rfl rfl)) ?_
                  refine st rfl (x_move (v := Value.string product) (ev_tmp rfl rfl)) ?_
                  refine sC rfl (x_callL (xs := [.tmp 112, .tmp 113, .tmp 114]) (vs := [Value.agg #[Value.slice A777 l783.length c778], Value.string who, Value.string product]) (cap := []) ent_14 rfl ⟨(ev_tmp rfl rfl), (ev_tmp rfl rfl), (ev_tmp rfl rfl), trivial⟩) (position_c _ _ l783 who product _ (M791.slw (i := 0) rfl)) ?_
                  rintro _ w794 ⟨rfl, hb796⟩
                  refine ⟨_, rfl, ?_⟩
                  have M795 := M791.call hb796
                  refine st rfl (x_move (v := Value.tuple #[Value.int .i64 ((posL (legsC l783) who product).1), Value.int .i64 ((posL (legsC l783) who product).2), Value.int .i64 (chk l783)]) (ev_tmp rfl rfl)) ?_
                  refine st rfl (x_extract (v := Value.int .i64 ((posL (legsC l783) who product).1)) (ev_tmp rfl rfl) rfl) ?_
                  refine st rfl (x_extract (v := Value.int .i64 ((posL (legsC l783) who product).2)) (ev_tmp rfl rfl) rfl) ?_
                  refine st rfl (x_extract (v := Value.int .i64 (chk l783)) (ev_tmp rfl rfl) rfl) ?_
                  refine st rfl (x_assign (v := Value.int .i64 ((posL (legsC l783) who product).1)) (ev_tmp rfl rfl)) ?_
                  refine st rfl (x_assign (v := Value.int .i64 ((posL (legsC l783) who product).2)) (ev_tmp rfl rfl)) ?_
                  refine st rfl (x_assign (v := Value.int .i64 (chk l783)) (ev_tmp rfl rfl)) ?_
                  refine s_nil ?_
                  refine hK793 _ _ ?_
                  refine c_seq fun K797 hK798 => ?_
                  refine c_reg ?_
                  refine st rfl (x_loadw (cs := [Value.slice A l.length c]) Try.underlying24 rfl sz_24 (ev_tmp rfl rfl) (M795.range (i := 4) rfl ⟨rfl, trivial⟩)) ?_
                  refine st rfl (x_move (v := Value.string who) (ev_tmp rfl rfl)) ?_
                  refine st rfl (x_move (v := Value.string product) (ev_tmp rfl rfl)) ?_
                  refine sC rfl (x_callL (xs := [.tmp 120, .tmp 121, .tmp 122]) (vs := [Value.agg #[Value.slice A l.length c], Value.string who, Value.string product]) (cap := []) ent_14 rfl ⟨(ev_tmp rfl rfl), (ev_tmp rfl rfl), (ev_tmp rfl rfl), trivial⟩) (position_c _ _ l who product _ (M795.slw (i := 4) rfl)) ?_
                  rintro _ w799 ⟨rfl, hb801⟩
                  refine ⟨_, rfl, ?_⟩
                  have M800 := M795.call hb801
                  refine st rfl (x_move (v := Value.tuple #[Value.int .i64 ((posL (legsC l) who product).1), Value.int .i64 ((posL (legsC l) who product).2), Value.int .i64 (chk l)]) (ev_tmp rfl rfl)) ?_
                  refine st rfl (x_extract (v := Value.int .i64 ((posL (legsC l) who product).1)) (ev_tmp rfl rfl) rfl) ?_
                  refine st rfl (x_extract (v := Value.int .i64 ((posL (legsC l) who product).2)) (ev_tmp rfl rfl) rfl) ?_
                  refine st rfl (x_extract (v := Value.int .i64 (chk l)) (ev_tmp rfl rfl) rfl) ?_
                  refine st rfl (x_assign (v := Value.int .i64 ((posL (legsC l) who product).1)) (ev_tmp rfl rfl)) ?_
                  refine st rfl (x_assign (v := Value.int .i64 ((posL (legsC l) who product).2)) (ev_tmp rfl rfl)) ?_
                  refine st rfl (x_assign (v := Value.int .i64 (chk l)) (ev_tmp rfl rfl)) ?_
                  refine s_nil ?_
                  refine hK798 _ _ ?_
                  refine c_seq fun K802 hK803 => ?_
                  refine c_reg ?_
                  refine st rfl (x_move (v := Value.int .i64 e747) (ev_tmp rfl rfl)) ?_
                  refine st rfl (x_eql (p := e747) (q := 0) (ev_tmp rfl rfl) rfl) ?_
                  refine st rfl (x_move (v := Value.bool (decide (e747 = 0))) (ev_tmp rfl rfl)) ?_
                  obtain ⟨z2, z3, z4, c0, c3, c4, q1, q2, rr1, rr2, p1, p2, p3⟩ := undo_plain he595 hz he746 he760 he784 (.inl ⟨rfl, rfl⟩)
                  obtain ⟨b1, b2, b3, b4⟩ := posL_bd l ob op
                  obtain ⟨m1, m2⟩ := mul_bd q1 q2 rr1 rr2
                  have hg807 : (decide (e747 = 0)) = true := (decide_eq_true z2)
                  refine gt rfl rfl rfl (congrArg Value.bool hg807) (x_move (v := Value.int .i64 e761) (ev_tmp rfl rfl)) ?_
                  refine gt rfl rfl rfl (congrArg Value.bool hg807) (x_eql (p := e761) (q := 0) (ev_tmp rfl rfl) rfl) ?_
                  refine st rfl (x_pick_t (v := Value.bool (decide (e761 = 0))) (ev_tmp rfl (congrArg Value.bool hg807)) (ev_tmp rfl rfl)) ?_
                  refine st rfl (x_move (v := Value.bool (decide (e761 = 0))) (ev_tmp rfl rfl)) ?_
                  have hg811 : (decide (e761 = 0)) = true := (decide_eq_true z3)
                  refine gt rfl rfl rfl (congrArg Value.bool hg811) (x_move (v := Value.int .i64 (chk l759)) (ev_tmp rfl rfl)) ?_
                  refine gt rfl rfl rfl (congrArg Value.bool hg811) (x_eql (p := (chk l759)) (q := 0) (ev_tmp rfl rfl) rfl) ?_
                  refine st rfl (x_pick_t (v := Value.bool (decide (chk l759 = 0))) (ev_tmp rfl (congrArg Value.bool hg811)) (ev_tmp rfl rfl)) ?_
                  refine st rfl (x_move (v := Value.bool (decide (chk l759 = 0))) (ev_tmp rfl rfl)) ?_
                  have hg815 : (decide (chk l759 = 0)) = true := (decide_eq_true c3)
                  refine gt rfl rfl rfl (congrArg Value.bool hg815) (x_move (v := Value.int .i64 (chk l)) (ev_tmp rfl rfl)) ?_
                  refine gt rfl rfl rfl (congrArg Value.bool hg815) (x_eql (p := (chk l)) (q := 0) (ev_tmp rfl rfl) rfl) ?_
                  refine st rfl (x_pick_t (v := Value.bool (decide (chk l = 0))) (ev_tmp rfl (congrArg Value.bool hg815)) (ev_tmp rfl rfl)) ?_
                  refine st rfl (x_move (v := Value.bool (decide (chk l = 0))) (ev_tmp rfl rfl)) ?_
                  have hg819 : (decide (chk l = 0)) = true := (decide_eq_true c0)
                  refine gt rfl rfl rfl (congrArg Value.bool hg819) (x_move (v := Value.int .i64 e785) (ev_tmp rfl rfl)) ?_
                  refine gt rfl rfl rfl (congrArg Value.bool hg819) (x_eql (p := e785) (q := 0) (ev_tmp rfl rfl) rfl) ?_
                  refine st rfl (x_pick_t (v := Value.bool (decide (e785 = 0))) (ev_tmp rfl (congrArg Value.bool hg819)) (ev_tmp rfl rfl)) ?_
                  refine st rfl (x_move (v := Value.bool (decide (e785 = 0))) (ev_tmp rfl rfl)) ?_
                  have hg823 : (decide (e785 = 0)) = true := (decide_eq_true z4)
                  refine gt rfl rfl rfl (congrArg Value.bool hg823) (x_move (v := Value.int .i64 (chk l783)) (ev_tmp rfl rfl)) ?_
                  refine gt rfl rfl rfl (congrArg Value.bool hg823) (x_eql (p := (chk l783)) (q := 0) (ev_tmp rfl rfl) rfl) ?_
                  refine st rfl (x_pick_t (v := Value.bool (decide (chk l783 = 0))) (ev_tmp rfl (congrArg Value.bool hg823)) (ev_tmp rfl rfl)) ?_
                  refine st rfl (x_move (v := Value.bool (decide (chk l783 = 0))) (ev_tmp rfl rfl)) ?_
                  have hg827 : (decide (chk l783 = 0)) = true := (decide_eq_true c4)
                  refine gt rfl rfl rfl (congrArg Value.bool hg827) (x_move (v := Value.int .i64 (chk l)) (ev_tmp rfl rfl)) ?_
                  refine gt rfl rfl rfl (congrArg Value.bool hg827) (x_eql (p := (chk l)) (q := 0) (ev_tmp rfl rfl) rfl) ?_
                  refine st rfl (x_pick_t (v := Value.bool (decide (chk l = 0))) (ev_tmp rfl (congrArg Value.bool hg827)) (ev_tmp rfl rfl)) ?_
                  refine st rfl (x_assign (v := Value.bool (decide (chk l = 0))) (ev_tmp rfl rfl)) ?_
                  refine s_nil ?_
                  refine hK803 _ _ ?_
                  refine c_seq fun K828 hK829 => ?_
                  refine c_reg ?_
                  refine st rfl (x_move (v := Value.bool true) (ev_tmp rfl rfl)) ?_
                  refine st rfl (x_move (v := Value.bool true) (ev_tmp rfl rfl)) ?_
                  refine gt rfl rfl rfl rfl (x_move (v := Value.bool (decide (chk l = 0))) (ev_tmp rfl rfl)) ?_
                  refine st rfl (x_pick_t (v := Value.bool (decide (chk l = 0))) (ev_tmp rfl rfl) (ev_tmp rfl rfl)) ?_
                  refine st rfl (x_move (v := Value.bool (decide (chk l = 0))) (ev_tmp rfl rfl)) ?_
                  have hg837 : (decide (chk l = 0)) = true := (decide_eq_true c0)
                  refine gt rfl rfl rfl (congrArg Value.bool hg837) (x_move (v := Value.int .i64 ((posL (legsC l759) ob op).1)) (ev_tmp rfl rfl)) ?_
                  refine gt rfl rfl rfl (congrArg Value.bool hg837) (x_move (v := Value.int .i64 ((posL (legsC l) ob op).1)) (ev_tmp rfl rfl)) ?_
                  refine gt rfl rfl rfl (congrArg Value.bool hg837) (x_fieldv (b := b9) (o := 0) (q := 6) fa_40_6 (ev_tmp rfl rfl) rfl) ?_
                  refine gt rfl rfl rfl (congrArg Value.bool hg837) (x_load1 (v := Value.int .i64 oq) Try.underlying3 rfl (ev_tmp rfl rfl) (M800.cell (i := 3) (o := 6) rfl rfl)) ?_
                  have hw838 : IntKind.i64.wrap (((posL (legsC l) ob op).1) + oq) = ((posL (legsC l) ob op).1) + oq := w64 (by rfl) (by omega) (by omega)
                  refine gt rfl rfl rfl (congrArg Value.bool hg837) (x_add_eq (p := ((posL (legsC l) ob op).1)) (q := oq) (ev_tmp rfl rfl) (ev_tmp rfl rfl) hw838) ?_
                  refine gt rfl rfl rfl (congrArg Value.bool hg837) (x_eql (p := ((posL (legsC l759) ob op).1)) (q := (((posL (legsC l) ob op).1) + oq)) (ev_tmp rfl rfl) (ev_tmp rfl rfl)) ?_
                  refine st rfl (x_pick_t (v := Value.bool (decide ((posL (legsC l759) ob op).1 = ((posL (legsC l) ob op).1) + oq))) (ev_tmp rfl (congrArg Value.bool hg837)) (ev_tmp rfl rfl)) ?_
                  refine st rfl (x_move (v := Value.bool (decide ((posL (legsC l759) ob op).1 = ((posL (legsC l) ob op).1) + oq))) (ev_tmp rfl rfl)) ?_
                  have hg842 : (decide ((posL (legsC l759) ob op).1 = ((posL (legsC l) ob op).1) + oq)) = true := (decide_eq_true p1)
                  refine gt rfl rfl rfl (congrArg Value.bool hg842) (x_move (v := Value.int .i64 ((posL (legsC l759) ob op).2)) (ev_tmp rfl rfl)) ?_
                  refine gt rfl rfl rfl (congrArg Value.bool hg842) (x_move (v := Value.int .i64 ((posL (legsC l) ob op).2)) (ev_tmp rfl rfl)) ?_
                  refine gt rfl rfl rfl (congrArg Value.bool hg842) (x_fieldv (b := b9) (o := 0) (q := 6) fa_40_6 (ev_tmp rfl rfl) rfl) ?_
                  refine gt rfl rfl rfl (congrArg Value.bool hg842) (x_load1 (v := Value.int .i64 oq) Try.underlying3 rfl (ev_tmp rfl rfl) (M800.cell (i := 3) (o := 6) rfl rfl)) ?_
                  refine gt rfl rfl rfl (congrArg Value.bool hg842) (x_fieldv (b := b9) (o := 0) (q := 7) fa_40_7 (ev_tmp rfl rfl) rfl) ?_
                  refine gt rfl rfl rfl (congrArg Value.bool hg842) (x_load1 (v := Value.int .i64 or_) Try.underlying3 rfl (ev_tmp rfl rfl) (M800.cell (i := 3) (o := 7) rfl rfl)) ?_
                  have hw843 : IntKind.i64.wrap (oq * or_) = oq * or_ := w64 (by rfl) (by omega) (by omega)
                  refine gt rfl rfl rfl (congrArg Value.bool hg842) (x_mul_eq (p := oq) (q := or_) (ev_tmp rfl rfl) (ev_tmp rfl rfl) hw843) ?_
                  have hw844 : IntKind.i64.wrap (((posL (legsC l) ob op).2) + (oq * or_)) = ((posL (legsC l) ob op).2) + (oq * or_) := w64 (by rfl) (by omega) (by omega)
                  refine gt rfl rfl rfl (congrArg Value.bool hg842) (x_add_eq (p := ((posL (legsC l) ob op).2)) (q := (oq * or_)) (ev_tmp rfl rfl) (ev_tmp rfl rfl) hw844) ?_
                  refine gt rfl rfl rfl (congrArg Value.bool hg842) (x_eql (p := ((posL (legsC l759) ob op).2)) (q := (((posL (legsC l) ob op).2) + (oq * or_))) (ev_tmp rfl rfl) (ev_tmp rfl rfl)) ?_
                  refine st rfl (x_pick_t (v := Value.bool (decide ((posL (legsC l759) ob op).2 = ((posL (legsC l) ob op).2) + (oq * or_)))) (ev_tmp rfl (congrArg Value.bool hg842)) (ev_tmp rfl rfl)) ?_
                  refine st rfl (x_move (v := Value.bool (decide ((posL (legsC l759) ob op).2 = ((posL (legsC l) ob op).2) + (oq * or_)))) (ev_tmp rfl rfl)) ?_
                  have hg848 : (decide ((posL (legsC l759) ob op).2 = ((posL (legsC l) ob op).2) + (oq * or_))) = true := (decide_eq_true p2)
                  refine gt rfl rfl rfl (congrArg Value.bool hg848) (x_move (v := Value.int .i64 ((posL (legsC l783) who product).1)) (ev_tmp rfl rfl)) ?_
                  refine gt rfl rfl rfl (congrArg Value.bool hg848) (x_move (v := Value.int .i64 ((posL (legsC l) who product).1)) (ev_tmp rfl rfl)) ?_
                  refine gt rfl rfl rfl (congrArg Value.bool hg848) (x_eql (p := ((posL (legsC l783) who product).1)) (q := ((posL (legsC l) who product).1)) (ev_tmp rfl rfl) (ev_tmp rfl rfl)) ?_
                  refine st rfl (x_pick_t (v := Value.bool (decide ((posL (legsC l783) who product).1 = (posL (legsC l) who product).1))) (ev_tmp rfl (congrArg Value.bool hg848)) (ev_tmp rfl rfl)) ?_
                  refine st rfl (x_move (v := Value.bool (decide ((posL (legsC l783) who product).1 = (posL (legsC l) who product).1))) (ev_tmp rfl rfl)) ?_
                  have hg852 : (decide ((posL (legsC l783) who product).1 = (posL (legsC l) who product).1)) = true := (decide_eq_true (congrArg Prod.fst (p3 who product)))
                  refine gt rfl rfl rfl (congrArg Value.bool hg852) (x_move (v := Value.int .i64 ((posL (legsC l783) who product).2)) (ev_tmp rfl rfl)) ?_
                  refine gt rfl rfl rfl (congrArg Value.bool hg852) (x_move (v := Value.int .i64 ((posL (legsC l) who product).2)) (ev_tmp rfl rfl)) ?_
                  refine gt rfl rfl rfl (congrArg Value.bool hg852) (x_eql (p := ((posL (legsC l783) who product).2)) (q := ((posL (legsC l) who product).2)) (ev_tmp rfl rfl) (ev_tmp rfl rfl)) ?_
                  refine st rfl (x_pick_t (v := Value.bool (decide ((posL (legsC l783) who product).2 = (posL (legsC l) who product).2))) (ev_tmp rfl (congrArg Value.bool hg852)) (ev_tmp rfl rfl)) ?_
                  refine st rfl (x_assign (v := Value.bool (decide ((posL (legsC l783) who product).2 = (posL (legsC l) who product).2))) (ev_tmp rfl rfl)) ?_
                  refine s_nil ?_
                  refine hK829 _ _ ?_
                  refine c_ret ?_
                  refine hT3 _ _ ?_
                  refine r1 rfl (ev_tmp (v := Value.bool (decide ((posL (legsC l783) who product).2 = (posL (legsC l) who product).2))) rfl rfl) ?_
                  exact ⟨ret_bool (decide_eq_true (congrArg Prod.snd (p3 who product))), M800.below⟩
            exact dN
          exact dN
        exact dN
      exact dN
  clear hK22
  rcases bcase (decide ((220 : Int) < (l.length : Int))) with hg24 | hg24
  · have h25 : ¬ ((220 : Int) < (l.length : Int)) := of_decide_eq_false hg24
    refine gt rfl rfl rfl (congrArg Value.bool hg24) (x_move (v := Value.bool true) (ev_tmp rfl rfl)) ?_
    refine gt rfl rfl rfl (congrArg Value.bool hg24) (x_not (b := true) (ev_tmp rfl rfl)) ?_
    refine st rfl (x_pick_f (v := Value.bool false) (ev_tmp rfl (congrArg Value.bool hg24)) (ev_tmp rfl rfl)) ?_
    refine s_nil ?_
    exact j_to J23 ⟨(congrArg Value.bool (or_f hg24)), rfl, rfl, rfl, rfl, rfl, rfl, rfl, rfl, trivial⟩
  · refine gf (b' := true) rfl rfl rfl (congrArg Value.bool hg24) rfl ?_
    refine gf (b' := true) rfl rfl rfl (congrArg Value.bool hg24) rfl ?_
    refine st rfl (x_pick_t (v := Value.bool true) (ev_tmp rfl (congrArg Value.bool hg24)) rfl) ?_
    refine s_nil ?_
    exact j_to J23 ⟨(congrArg Value.bool (or_t hg24)), rfl, rfl, rfl, rfl, rfl, rfl, rfl, rfl, trivial⟩

end Go.Proofs.Ytkimdlpfbojkgaa
