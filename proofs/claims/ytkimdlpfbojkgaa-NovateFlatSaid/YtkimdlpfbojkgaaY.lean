/- The law NovateLegs, walked. -/
import Derived.Test.YtkimdlpfbojkgaaX
namespace Go.Proofs.Ytkimdlpfbojkgaa
open Go.RowKit
/-- The trades that are done, with their places. -/
def doneT (l : List Trade) : List (Trade × Nat) := l.zipIdx.filter fun x => decide (x.1.st = 1)
def cnt (l : List Trade) : Nat := (l.filter fun t => decide (t.st = 1)).length
theorem legs_done (l : List Trade) : legs l = (doneT l).flatMap fun x => legs1 x.2 x.1 := by
  unfold legs doneT
  generalize l.zipIdx = z
  induction z with
  | nil => rfl
  | cons x z ih =>
    rw [List.flatMap_cons, List.filter_cons, ih]
    by_cases h : x.1.st = 1
    · rw [if_pos h, if_pos (by simpa using h), List.flatMap_cons]
    · rw [if_neg h, if_neg (by simpa using h)]; rfl
theorem legsC_done {l : List Trade} (h : chk l = 0) : (legsC l).length = 2 * (doneT l).length := by
  unfold legsC
  rw [if_pos (chk_ok h), legs_done, flat_len' (sz := 2) (fun _ => rfl)]
  omega
theorem done_ex {l : List Trade} {j : Nat} (h : j < (doneT l).length) : ∃ t i, (doneT l)[j]? = some (t, i) := ⟨_, _, List.getElem?_eq_getElem h⟩
theorem done_get {l : List Trade} {j i : Nat} {t : Trade} (h : (doneT l)[j]? = some (t, i)) : l[i]? = some t ∧ t.st = 1 := by
  have hm := List.mem_of_getElem? h
  unfold doneT at hm
  obtain ⟨h1, h2⟩ := List.mem_filter.1 hm
  exact ⟨by simpa [List.mem_zipIdx_iff_getElem?] using h1, by simpa using h2⟩
theorem legsC_get {l : List Trade} {j i : Nat} {t : Trade} (h0 : chk l = 0) (h : (doneT l)[j]? = some (t, i)) :
    (legsC l)[2 * j]? = some ⟨(i : Int) + 1, t.b, house, t.p, t.q, t.r⟩ ∧ (legsC l)[2 * j + 1]? = some ⟨(i : Int) + 1, house, t.s, t.p, t.q, t.r⟩ := by
  unfold legsC
  rw [if_pos (chk_ok h0), legs_done]
  have e0 := flat_get (E := fun x : Trade × Nat => legs1 x.2 x.1) (sz := 2) (fun _ => rfl) (doneT l) j 0 (by omega)
  have e1 := flat_get (E := fun x : Trade × Nat => legs1 x.2 x.1) (sz := 2) (fun _ => rfl) (doneT l) j 1 (by omega)
  rw [h] at e0 e1
  rw [Nat.mul_comm 2 j]
  exact ⟨e0, e1⟩
theorem done_both {l : List Trade} {i : Nat} {t : Trade} (h0 : chk l = 0) (ht : l[i]? = some t) (hst : t.st = 1) : t.bo = true ∧ t.so = true := by
  have hr : rightB t = true := List.all_eq_true.1 (and_r (chk_ok h0)) t (List.mem_of_getElem? ht)
  unfold rightB at hr
  have h2 := and_r hr
  by_cases hb : (t.bo && t.so) = true
  · exact ⟨and_l hb, and_r hb⟩
  · rw [if_neg hb, hst] at h2; simp at h2
theorem zip_pair (l : List Trade) : l.zipIdx.Pairwise fun x y => x.2 < y.2 := by
  rw [List.pairwise_iff_getElem]
  intro a b ha hb hab
  simpa using hab
theorem done_next {l : List Trade} {j i : Nat} {t : Trade} {d : Trade × Nat} (h : (doneT l)[j]? = some (t, i)) (h2 : (doneT l)[j + 1]? = some d) : (i : Int) + 1 ≤ (d.2 : Int) := by
  have hp : (doneT l).Pairwise fun x y => x.2 < y.2 := (zip_pair l).filter _
  obtain ⟨ha, he⟩ := List.getElem?_eq_some_iff.1 h
  obtain ⟨hb, he2⟩ := List.getElem?_eq_some_iff.1 h2
  have := List.pairwise_iff_getElem.1 hp j (j + 1) ha hb (by omega)
  rw [he, he2] at this
  simp only at this
  omega
theorem cnt_yes {l : List Trade} {k : Nat} {x : Trade} (hx : l[k]? = some x) (h : x.st = 1) : cnt (l.take (k + 1)) = cnt (l.take k) + 1 := by
  unfold cnt; rw [take_at hx, List.filter_append, List.length_append]; simp [h]
theorem cnt_no {l : List Trade} {k : Nat} {x : Trade} (hx : l[k]? = some x) (h : ¬ x.st = 1) : cnt (l.take (k + 1)) = cnt (l.take k) := by
  unfold cnt; rw [take_at hx, List.filter_append, List.length_append]; simp [h]
theorem done_cnt (l : List Trade) (k : Nat) (hk : l.length ≤ k) : (doneT l).length = cnt (l.take k) := by
  rw [List.take_of_length_le hk]
  unfold doneT cnt
  have h : ∀ n, ((l.zipIdx n).filter fun x => decide (x.1.st = 1)).length = (l.filter fun t => decide (t.st = 1)).length := by
    clear hk
    induction l with
    | nil => intro n; rfl
    | cons x l ih =>
      intro n
      rw [List.zipIdx_cons, List.filter_cons, List.filter_cons]
      by_cases h : x.st = 1
      · simp [h, ih]
      · simp [h, ih]
  exact h 0
set_option maxHeartbeats 1000000 in
set_option maxRecDepth 20000 in
theorem legs_law (A : Option Addr) (c : Nat) (l : List Trade) (w : World) (hs : SlB 0 w.heap.size w A c 8 Trade.cells l) :
    Calls Try.prog 3 #[Value.agg #[Value.slice A l.length c]] w fun e w' => e = .returned (.bool (true)) ∧ Below w.heap.size w w' := by
  have hcm : l.length ≤ 9223372036854775807 := by have := hs.1; have := hs.2.1; simp only [maxLen] at this; omega
  have hl400 := legsC_len l
  have M0 := Mem.start w []
  have M1 := M0.see (Ro.sl 0 w.heap.size A c 8 Trade.cells l) (hs) (Nat.le_refl _)
  refine enter (args := [Value.agg #[Value.slice A l.length c]]) Try.func3 rfl (n := 194) rfl rfl fun T2 hT3 => ?_
  refine c_seq fun K4 hK5 => ?_
  refine c_reg ?_
  refine snew (cs := #[Value.slice A l.length c]) M1 rfl (x_box (v := Value.agg #[Value.slice A l.length c]) (ev_tmp rfl rfl)) fun b6 w7 M8 => ?_
  refine st rfl (x_assign (v := Value.bool false) rfl) ?_
  refine s_nil ?_
  refine hK5 _ _ ?_
  refine c_seq fun K9 hK10 => ?_
  refine c_reg ?_
  refine sC rfl (x_callL (xs := []) (vs := []) (cap := []) ent_11 rfl trivial) (alive_c _) ?_
  rintro _ w11 ⟨rfl, hb13⟩
  refine ⟨_, rfl, ?_⟩
  have M12 := M8.call hb13
  refine st rfl (x_assign (v := Value.bool true) (ev_tmp rfl rfl)) ?_
  refine s_nil ?_
  refine hK10 _ _ ?_
  refine c_seq fun K14 hK15 => ?_
  refine c_seq fun K16 hK17 => ?_
  refine c_reg ?_
  refine st rfl (x_fieldv (b := b6) (o := 0) (q := 0) fa_24_0 (ev_tmp rfl rfl) rfl) ?_
  refine st rfl (x_load1 (v := Value.slice A l.length c) Try.underlying22 rfl (ev_tmp rfl rfl) (M12.cell (i := 0) (o := 0) rfl rfl)) ?_
  refine st rfl (x_lensl (n := l.length) Try.underlying22 (ev_tmp rfl rfl)) ?_
  refine st rfl (x_gtr (p := (l.length : Int)) (q := 220) (ev_tmp rfl rfl) rfl) ?_
  refine st rfl (x_move (v := Value.bool (decide ((220 : Int) < (l.length : Int)))) (ev_tmp rfl rfl)) ?_
  refine s_meet3 fun K18 hK19 => ?_
  have J20 : ∀ jk, K18 (fr 194 ([(22, Value.bool ((decide ((220 : Int) < (l.length : Int))) || false)), (1, Value.pointer (some ⟨b6, 0, none⟩)), (2, Value.bool false), (3, Value.bool true), (19, Value.bool (decide ((220 : Int) < (l.length : Int))))] ++ jk)) w11 := by
    intro jk
    refine hK19 _ _ ?_
    clear hK19
    refine s_nil ?_
    refine hK17 _ _ ?_
    refine c_cond (b := (decide ((220 : Int) < (l.length : Int))) || false) (ev_tmp rfl rfl) (fun h23 => ?_) (fun h23 => ?_)
    · have h24 : ((decide ((220 : Int) < (l.length : Int))) || false) = true := h23
      refine c_seq fun K25 hK26 => ?_
      refine c_reg ?_
      refine st rfl (x_move (v := Value.bool true) (ev_tmp rfl rfl)) ?_
      refine st rfl (x_assign (v := Value.bool true) (ev_tmp rfl rfl)) ?_
      refine s_nil ?_
      refine hK26 _ _ ?_
      refine c_ret ?_
      refine hT3 _ _ ?_
      refine r1 rfl (ev_tmp (v := Value.bool true) rfl rfl) ?_
      exact ⟨rfl, M12.below⟩
    · have h27 : ¬ ((220 : Int) < (l.length : Int)) := of_decide_eq_false (or_l h23)
      refine c_skip ?_
      refine hK15 _ _ ?_
      refine c_seq fun K28 hK29 => ?_
      refine c_reg ?_
      refine st rfl (x_loadw (cs := [Value.slice A l.length c]) Try.underlying24 rfl sz_24 (ev_tmp rfl rfl) (M12.range (i := 0) rfl ⟨rfl, trivial⟩)) ?_
      refine sC rfl (x_callL (xs := [.tmp 25]) (vs := [Value.agg #[Value.slice A l.length c]]) (cap := []) ent_12 rfl ⟨(ev_tmp rfl rfl), trivial⟩) (legs_c _ _ l _ (M12.slw (i := 0) rfl)) ?_
      rintro _ w32 ⟨A30, c31, rfl, hb33, hs34⟩
      refine ⟨_, rfl, ?_⟩
      have M35 := M12.gotSl hb33 hs34
      refine st rfl (x_move (v := Value.tuple #[Value.slice A30 ((legsC l).length) c31, Value.int .i64 (chk l)]) (ev_tmp rfl rfl)) ?_
      refine st rfl (x_extract (v := Value.slice A30 ((legsC l).length) c31) (ev_tmp rfl rfl) rfl) ?_
      refine st rfl (x_extract (v := Value.int .i64 (chk l)) (ev_tmp rfl rfl) rfl) ?_
      refine st rfl (x_assign (v := Value.slice A30 ((legsC l).length) c31) (ev_tmp rfl rfl)) ?_
      refine st rfl (x_assign (v := Value.int .i64 (chk l)) (ev_tmp rfl rfl)) ?_
      refine s_nil ?_
      refine hK29 _ _ ?_
      refine c_seq fun K37 hK38 => ?_
      refine c_seq fun K39 hK40 => ?_
      refine c_reg ?_
      refine st rfl (x_move (v := Value.int .i64 (chk l)) (ev_tmp rfl rfl)) ?_
      refine st rfl (x_neq (p := (chk l)) (q := 0) (ev_tmp rfl rfl) rfl) ?_
      refine s_nil ?_
      refine hK40 _ _ ?_
      refine c_cond (b := !(decide (chk l = 0))) (ev_tmp rfl rfl) (fun h41 => ?_) (fun h41 => ?_)
      · have h42 : ¬ (chk l = 0) := of_decide_eq_false (not_t h41)
        have hne : ¬ chk l = 0 := of_decide_eq_false (not_t h41)
        refine c_seq fun K43 hK44 => ?_
        refine c_reg ?_
        refine st rfl (x_move (v := Value.bool true) (ev_tmp rfl rfl)) ?_
        refine st rfl (x_move (v := Value.bool true) (ev_tmp rfl rfl)) ?_
        refine gt rfl rfl rfl rfl (x_move (v := Value.slice A30 ((legsC l).length) c31) (ev_tmp rfl rfl)) ?_
        refine gt rfl rfl rfl rfl (x_lensl (n := ((legsC l).length)) Try.underlying26 (ev_tmp rfl rfl)) ?_
        refine gt rfl rfl rfl rfl (x_eql (p := ((legsC l).length : Int)) (q := 0) (ev_tmp rfl rfl) rfl) ?_
        refine st rfl (x_pick_t (v := Value.bool (decide (((legsC l).length : Int) = 0))) (ev_tmp rfl rfl) (ev_tmp rfl rfl)) ?_
        refine st rfl (x_move (v := Value.bool (decide (((legsC l).length : Int) = 0))) (ev_tmp rfl rfl)) ?_
        have hg52 : (decide (((legsC l).length : Int) = 0)) = true := (decide_eq_true (by rw [legsC_no hne]; rfl))
        refine gt rfl rfl rfl (congrArg Value.bool hg52) (x_loadw (cs := [Value.slice A l.length c]) Try.underlying24 rfl sz_24 (ev_tmp rfl rfl) (M35.range (i := 0) rfl ⟨rfl, trivial⟩)) ?_
        refine gC rfl rfl rfl (congrArg Value.bool hg52) (x_callL (xs := [.tmp 38]) (vs := [Value.agg #[Value.slice A l.length c]]) (cap := []) ent_13 rfl ⟨(ev_tmp rfl rfl), trivial⟩) (check_c _ _ l _ (M35.slw (i := 1) rfl)) ?_
        rintro _ w53 ⟨rfl, hb55⟩
        refine ⟨_, rfl, ?_⟩
        have M54 := M35.call hb55
        refine gt rfl rfl rfl (congrArg Value.bool hg52) (x_eql (p := (chk l)) (q := 8) (ev_tmp rfl rfl) rfl) ?_
        refine st rfl (x_pick_t (v := Value.bool (decide (chk l = 8))) (ev_tmp rfl (congrArg Value.bool hg52)) (ev_tmp rfl rfl)) ?_
        refine st rfl (x_assign (v := Value.bool (decide (chk l = 8))) (ev_tmp rfl rfl)) ?_
        refine s_nil ?_
        refine hK44 _ _ ?_
        refine c_ret ?_
        refine hT3 _ _ ?_
        refine r1 rfl (ev_tmp (v := Value.bool (decide (chk l = 8))) rfl rfl) ?_
        exact ⟨ret_bool (decide_eq_true (chk_8 hne)), M54.below⟩
      · have h56 : chk l = 0 := of_decide_eq_true (not_f h41)
        have h0 : chk l = 0 := of_decide_eq_true (not_f h41)
        have hl200 := chk_len h0
        have hlen := legsC_done h0
        refine c_skip ?_
        refine hK38 _ _ ?_
        refine c_seq fun K57 hK58 => ?_
        refine c_seq fun K59 hK60 => ?_
        refine c_reg ?_
        refine st rfl (x_move (v := Value.slice A30 ((legsC l).length) c31) (ev_tmp rfl rfl)) ?_
        refine st rfl (x_lensl (n := ((legsC l).length)) Try.underlying26 (ev_tmp rfl rfl)) ?_
        have hw61 : Int.tmod ((legsC l).length : Int) 2 = 0 := by rw [hlen, Int.tmod_eq_emod_of_nonneg (by omega)]; omega
        refine st rfl (x_rem_eq (p := ((legsC l).length : Int)) (q := 2) (ev_tmp rfl rfl) rfl (by omega) hw61) ?_
        refine st rfl (x_neq (p := 0) (q := 0) (ev_tmp rfl rfl) rfl) ?_
        refine s_nil ?_
        refine hK60 _ _ ?_
        refine c_cond_f (ev_tmp rfl rfl) ?_
        refine c_skip ?_
        refine hK58 _ _ ?_
        refine c_seq fun K63 hK64 => ?_
        refine c_reg ?_
        refine st rfl (x_assign (v := Value.int .i64 0) rfl) ?_
        refine s_nil ?_
        refine hK64 _ _ ?_
        refine c_seq fun K65 hK66 => ?_
        refine c_seq fun K67 hK68 => ?_
        refine c_reg ?_
        refine st rfl (x_assign (v := Value.int .i64 0) rfl) ?_
        refine s_nil ?_
        refine hK68 _ _ ?_
        refine c_block ?_
        refine c_loopH (live := [(1, Value.pointer (some ⟨b6, 0, none⟩)), (3, Value.bool true), (4, Value.slice A30 ((legsC l).length) c31), (6, Value.int .i64 0), (7, Value.int .i64 ((2 * 0 : Nat) : Int))]) ⟨rfl, rfl, rfl, rfl, (congrArg (Value.int .i64) (by omega)), trivial⟩ (fun mm ll w1 => ∃ (j : Nat) (last : Int) (jk : List (Nat × Value)), mm = (legsC l).length - 2 * j ∧ ll = [(1, Value.pointer (some ⟨b6, 0, none⟩)), (3, Value.bool true), (4, Value.slice A30 ((legsC l).length) c31), (6, Value.int .i64 last), (7, Value.int .i64 ((2 * j : Nat) : Int))] ++ jk ∧ Mem w [] w1 [Own.cells b6 24 #[Value.slice A l.length c]] [Ro.sl w11.heap.size w32.heap.size A30 c31 6 Leg.cells (legsC l), Ro.sl 0 w.heap.size A c 8 Trade.cells l] ∧ (j ≤ (doneT l).length) ∧ (0 ≤ last) ∧ (last ≤ 200) ∧ (∀ d, (doneT l)[j]? = some d → last ≤ (d.2 : Int))) ⟨0, 0, _, rfl, rfl, M35, (by omega), (by omega), (by omega), (fun d _ => by omega)⟩ fun mm ll w1 hI69 => ?_
        obtain ⟨j, last, jk, rfl, rfl, M71, hj, hla, hlb, hlast⟩ := hI69
        obtain ⟨w70, rfl⟩ : ∃ x, x = w1 := ⟨_, rfl⟩
        refine c_seq fun K72 hK73 => ?_
        refine c_seq fun K74 hK75 => ?_
        refine c_reg ?_
        refine st rfl (x_move (v := Value.int .i64 ((2 * j : Nat) : Int)) (ev_tmp rfl rfl)) ?_
        refine st rfl (x_move (v := Value.slice A30 ((legsC l).length) c31) (ev_tmp rfl rfl)) ?_
        refine st rfl (x_lensl (n := ((legsC l).length)) Try.underlying26 (ev_tmp rfl rfl)) ?_
        refine st rfl (x_lss (p := ((2 * j : Nat) : Int)) (q := ((legsC l).length : Int)) (ev_tmp rfl rfl) (ev_tmp rfl rfl)) ?_
        refine s_nil ?_
        refine hK75 _ _ ?_
        refine c_cond (b := decide (((2 * j : Nat) : Int) < ((legsC l).length : Int))) (ev_tmp rfl rfl) (fun h76 => ?_) (fun h76 => ?_)
        · have h77 : ((2 * j : Nat) : Int) < ((legsC l).length : Int) := of_decide_eq_true h76
          obtain ⟨t, i, hd⟩ := done_ex (l := l) (j := j) (by omega)
          obtain ⟨ht, hst⟩ := done_get hd
          obtain ⟨hX, hY⟩ := legsC_get h0 hd
          obtain ⟨hbo, hso⟩ := done_both h0 ht hst
          have hil : i < l.length := (List.getElem?_eq_some_iff.1 ht).1
          have hli := hlast _ hd
          simp only at hli
          refine c_skip ?_
          refine hK73 _ _ ?_
          refine c_seq fun K78 hK79 => ?_
          refine c_block ?_
          refine c_seq fun K80 hK81 => ?_
          have J115 : ∀ (b95 : Nat) (b98 : Nat) jk w1, Mem w [] w1 [Own.cells b98 32 #[Value.int .i64 ((i : Int) + 1), Value.string (⟨#[104, 111, 117, 115, 101]⟩ : ByteArray), Value.string t.s, Value.string t.p, Value.int .i64 t.q, Value.int .i64 t.r], Own.cells b95 32 #[Value.int .i64 ((i : Int) + 1), Value.string t.b, Value.string (⟨#[104, 111, 117, 115, 101]⟩ : ByteArray), Value.string t.p, Value.int .i64 t.q, Value.int .i64 t.r], Own.cells b6 24 #[Value.slice A l.length c]] [Ro.sl w11.heap.size w32.heap.size A30 c31 6 Leg.cells (legsC l), Ro.sl 0 w.heap.size A c 8 Trade.cells l] → K80 (fr 194 ([(1, Value.pointer (some ⟨b6, 0, none⟩)), (3, Value.bool true), (4, Value.slice A30 ((legsC l).length) c31), (6, Value.int .i64 last), (7, Value.int .i64 ((2 * j : Nat) : Int)), (8, Value.pointer (some ⟨b95, 0, none⟩)), (9, Value.pointer (some ⟨b98, 0, none⟩))] ++ jk)) w1 := by
            intro b95 b98 jk w116 M117
            refine hK81 _ _ ?_
            refine c_seq fun K118 hK119 => ?_
            refine c_seq fun K120 hK121 => ?_
            refine c_reg ?_
            refine st rfl (x_fieldv (b := b95) (o := 0) (q := 0) fa_32_0 (ev_tmp rfl rfl) rfl) ?_
            refine st rfl (x_load1 (v := Value.int .i64 ((i : Int) + 1)) Try.underlying3 rfl (ev_tmp rfl rfl) (M117.cell (i := 1) (o := 0) rfl rfl)) ?_
            refine st rfl (x_move (v := Value.int .i64 last) (ev_tmp rfl rfl)) ?_
            refine st rfl (x_leq (p := ((i : Int) + 1)) (q := last) (ev_tmp rfl rfl) (ev_tmp rfl rfl)) ?_
            refine st rfl (x_move (v := Value.bool (decide ((i : Int) + 1 ≤ last))) (ev_tmp rfl rfl)) ?_
            have hg125 : (decide ((i : Int) + 1 ≤ last)) = false := (decide_eq_false (by omega))
            refine gt rfl rfl rfl (congrArg Value.bool hg125) (x_fieldv (b := b95) (o := 0) (q := 0) fa_32_0 (ev_tmp rfl rfl) rfl) ?_
            refine gt rfl rfl rfl (congrArg Value.bool hg125) (x_load1 (v := Value.int .i64 ((i : Int) + 1)) Try.underlying3 rfl (ev_tmp rfl rfl) (M117.cell (i := 1) (o := 0) rfl rfl)) ?_
            refine gt rfl rfl rfl (congrArg Value.bool hg125) (x_fieldv (b := b6) (o := 0) (q := 0) fa_24_0 (ev_tmp rfl rfl) rfl) ?_
            refine gt rfl rfl rfl (congrArg Value.bool hg125) (x_load1 (v := Value.slice A l.length c) Try.underlying22 rfl (ev_tmp rfl rfl) (M117.cell (i := 2) (o := 0) rfl rfl)) ?_
            refine gt rfl rfl rfl (congrArg Value.bool hg125) (x_lensl (n := l.length) Try.underlying22 (ev_tmp rfl rfl)) ?_
            refine gt rfl rfl rfl (congrArg Value.bool hg125) (x_gtr (p := ((i : Int) + 1)) (q := (l.length : Int)) (ev_tmp rfl rfl) (ev_tmp rfl rfl)) ?_
            refine st rfl (x_pick_f (v := Value.bool (decide ((l.length : Int) < (i : Int) + 1))) (ev_tmp rfl (congrArg Value.bool hg125)) (ev_tmp rfl rfl)) ?_
            refine st rfl (x_move (v := Value.bool (decide ((l.length : Int) < (i : Int) + 1))) (ev_tmp rfl rfl)) ?_
            have hg129 : (decide ((l.length : Int) < (i : Int) + 1)) = false := (decide_eq_false (by omega))
            refine gt rfl rfl rfl (congrArg Value.bool hg129) (x_fieldv (b := b98) (o := 0) (q := 0) fa_32_0 (ev_tmp rfl rfl) rfl) ?_
            refine gt rfl rfl rfl (congrArg Value.bool hg129) (x_load1 (v := Value.int .i64 ((i : Int) + 1)) Try.underlying3 rfl (ev_tmp rfl rfl) (M117.cell (i := 0) (o := 0) rfl rfl)) ?_
            refine gt rfl rfl rfl (congrArg Value.bool hg129) (x_fieldv (b := b95) (o := 0) (q := 0) fa_32_0 (ev_tmp rfl rfl) rfl) ?_
            refine gt rfl rfl rfl (congrArg Value.bool hg129) (x_load1 (v := Value.int .i64 ((i : Int) + 1)) Try.underlying3 rfl (ev_tmp rfl rfl) (M117.cell (i := 1) (o := 0) rfl rfl)) ?_
            refine gt rfl rfl rfl (congrArg Value.bool hg129) (x_neq (p := ((i : Int) + 1)) (q := ((i : Int) + 1)) (ev_tmp rfl rfl) (ev_tmp rfl rfl)) ?_
            refine st rfl (x_pick_f (v := Value.bool (!(decide ((i : Int) + 1 = (i : Int) + 1)))) (ev_tmp rfl (congrArg Value.bool hg129)) (ev_tmp rfl rfl)) ?_
            refine s_nil ?_
            refine hK121 _ _ ?_
            have h130 : (!(decide ((i : Int) + 1 = (i : Int) + 1))) = false := same_f _
            refine c_cond_f (ev_tmp rfl (congrArg Value.bool h130)) ?_
            refine c_skip ?_
            refine hK119 _ _ ?_
            refine c_seq fun K131 hK132 => ?_
            refine c_reg ?_
            refine st rfl (x_fieldv (b := b95) (o := 0) (q := 0) fa_32_0 (ev_tmp rfl rfl) rfl) ?_
            refine st rfl (x_load1 (v := Value.int .i64 ((i : Int) + 1)) Try.underlying3 rfl (ev_tmp rfl rfl) (M117.cell (i := 1) (o := 0) rfl rfl)) ?_
            refine st rfl (x_assign (v := Value.int .i64 ((i : Int) + 1)) (ev_tmp rfl rfl)) ?_
            refine s_nil ?_
            refine hK132 _ _ ?_
            refine c_seq fun K133 hK134 => ?_
            refine c_reg ?_
            refine st rfl (x_fieldv (b := b6) (o := 0) (q := 0) fa_24_0 (ev_tmp rfl rfl) rfl) ?_
            refine st rfl (x_load1 (v := Value.slice A l.length c) Try.underlying22 rfl (ev_tmp rfl rfl) (M117.cell (i := 2) (o := 0) rfl rfl)) ?_
            refine st rfl (x_fieldv (b := b95) (o := 0) (q := 0) fa_32_0 (ev_tmp rfl rfl) rfl) ?_
            refine st rfl (x_load1 (v := Value.int .i64 ((i : Int) + 1)) Try.underlying3 rfl (ev_tmp rfl rfl) (M117.cell (i := 1) (o := 0) rfl rfl)) ?_
            have hw135 : IntKind.i64.wrap (((i : Int) + 1) - 1) = ((i : Int) + 1) - 1 := w64 (by rfl) (by omega) (by omega)
            refine st rfl (x_sub_eq (p := ((i : Int) + 1)) (q := 1) (ev_tmp rfl rfl) rfl hw135) ?_
            obtain ⟨g136, o137, hA138⟩ := M117.roat (i := 1) rfl ht
            refine st rfl (x_elemA (b := g136) (o := o137) (k := i) ea_22 (ev_tmp rfl rfl) hA138 (ev_tmp rfl rfl) (by omega) (by omega)) ?_
            refine st rfl (x_loadw (cs := [Value.string t.b, Value.string t.s, Value.string t.p, Value.int .i64 t.q, Value.int .i64 t.r, Value.bool t.bo, Value.bool t.so, Value.int .u8 t.st]) Try.underlying34 rfl sz_34 (ev_tmp rfl rfl) (M117.rorange (i := 1) rfl hA138 ht (f := 0) ⟨rfl, rfl, rfl, rfl, rfl, rfl, rfl, rfl, trivial⟩)) ?_
            refine snew (cs := #[Value.string ByteArray.empty, Value.string ByteArray.empty, Value.string ByteArray.empty, Value.int .i64 0, Value.int .i64 0, Value.bool false, Value.bool false, Value.int .u8 0]) M117 rfl (x_allocz z_34) fun b141 w142 M143 => ?_
            refine sset (i := 0) (L' := [Own.cells b141 34 #[Value.string t.b, Value.string t.s, Value.string t.p, Value.int .i64 t.q, Value.int .i64 t.r, Value.bool t.bo, Value.bool t.so, Value.int .u8 t.st], Own.cells b98 32 #[Value.int .i64 ((i : Int) + 1), Value.string (⟨#[104, 111, 117, 115, 101]⟩ : ByteArray), Value.string t.s, Value.string t.p, Value.int .i64 t.q, Value.int .i64 t.r], Own.cells b95 32 #[Value.int .i64 ((i : Int) + 1), Value.string t.b, Value.string (⟨#[104, 111, 117, 115, 101]⟩ : ByteArray), Value.string t.p, Value.int .i64 t.q, Value.int .i64 t.r], Own.cells b6 24 #[Value.slice A l.length c]]) M143 rfl rfl (x_storew (cs := [Value.string t.b, Value.string t.s, Value.string t.p, Value.int .i64 t.q, Value.int .i64 t.r, Value.bool t.bo, Value.bool t.so, Value.int .u8 t.st]) sz_34 (ev_tmp rfl rfl) (ev_tmp rfl rfl) (M143.cells_at (i := 0) rfl) rfl ⟨rfl, rfl, rfl, rfl, rfl, rfl, rfl, rfl, trivial⟩) fun w144 M145 => ?_
            refine s_nil ?_
            refine hK134 _ _ ?_
            refine c_seq fun K146 hK147 => ?_
            refine c_reg ?_
            refine st rfl (x_fieldv (b := b95) (o := 0) (q := 3) fa_32_3 (ev_tmp rfl rfl) rfl) ?_
            refine st rfl (x_load1 (v := Value.string t.p) Try.underlying9 rfl (ev_tmp rfl rfl) (M145.cell (i := 2) (o := 3) rfl rfl)) ?_
            refine st rfl (x_fieldv (b := b141) (o := 0) (q := 2) fa_34_2 (ev_tmp rfl rfl) rfl) ?_
            refine st rfl (x_load1 (v := Value.string t.p) Try.underlying9 rfl (ev_tmp rfl rfl) (M145.cell (i := 0) (o := 2) rfl rfl)) ?_
            refine st rfl (x_eqs (p := t.p) (q := t.p) (ev_tmp rfl rfl) (ev_tmp rfl rfl)) ?_
            refine st rfl (x_move (v := Value.bool (decide (t.p.data.toList = t.p.data.toList))) (ev_tmp rfl rfl)) ?_
            have hg151 : (decide (t.p.data.toList = t.p.data.toList)) = true := same_t _
            refine gt rfl rfl rfl (congrArg Value.bool hg151) (x_fieldv (b := b95) (o := 0) (q := 4) fa_32_4 (ev_tmp rfl rfl) rfl) ?_
            refine gt rfl rfl rfl (congrArg Value.bool hg151) (x_load1 (v := Value.int .i64 t.q) Try.underlying3 rfl (ev_tmp rfl rfl) (M145.cell (i := 2) (o := 4) rfl rfl)) ?_
            refine gt rfl rfl rfl (congrArg Value.bool hg151) (x_fieldv (b := b141) (o := 0) (q := 3) fa_34_3 (ev_tmp rfl rfl) rfl) ?_
            refine gt rfl rfl rfl (congrArg Value.bool hg151) (x_load1 (v := Value.int .i64 t.q) Try.underlying3 rfl (ev_tmp rfl rfl) (M145.cell (i := 0) (o := 3) rfl rfl)) ?_
            refine gt rfl rfl rfl (congrArg Value.bool hg151) (x_eql (p := t.q) (q := t.q) (ev_tmp rfl rfl) (ev_tmp rfl rfl)) ?_
            refine st rfl (x_pick_t (v := Value.bool (decide (t.q = t.q))) (ev_tmp rfl (congrArg Value.bool hg151)) (ev_tmp rfl rfl)) ?_
            refine st rfl (x_move (v := Value.bool (decide (t.q = t.q))) (ev_tmp rfl rfl)) ?_
            have hg155 : (decide (t.q = t.q)) = true := same_t _
            refine gt rfl rfl rfl (congrArg Value.bool hg155) (x_fieldv (b := b95) (o := 0) (q := 5) fa_32_5 (ev_tmp rfl rfl) rfl) ?_
            refine gt rfl rfl rfl (congrArg Value.bool hg155) (x_load1 (v := Value.int .i64 t.r) Try.underlying3 rfl (ev_tmp rfl rfl) (M145.cell (i := 2) (o := 5) rfl rfl)) ?_
            refine gt rfl rfl rfl (congrArg Value.bool hg155) (x_fieldv (b := b141) (o := 0) (q := 4) fa_34_4 (ev_tmp rfl rfl) rfl) ?_
            refine gt rfl rfl rfl (congrArg Value.bool hg155) (x_load1 (v := Value.int .i64 t.r) Try.underlying3 rfl (ev_tmp rfl rfl) (M145.cell (i := 0) (o := 4) rfl rfl)) ?_
            refine gt rfl rfl rfl (congrArg Value.bool hg155) (x_eql (p := t.r) (q := t.r) (ev_tmp rfl rfl) (ev_tmp rfl rfl)) ?_
            refine st rfl (x_pick_t (v := Value.bool (decide (t.r = t.r))) (ev_tmp rfl (congrArg Value.bool hg155)) (ev_tmp rfl rfl)) ?_
            refine st rfl (x_move (v := Value.bool (decide (t.r = t.r))) (ev_tmp rfl rfl)) ?_
            have hg159 : (decide (t.r = t.r)) = true := same_t _
            refine gt rfl rfl rfl (congrArg Value.bool hg159) (x_fieldv (b := b98) (o := 0) (q := 3) fa_32_3 (ev_tmp rfl rfl) rfl) ?_
            refine gt rfl rfl rfl (congrArg Value.bool hg159) (x_load1 (v := Value.string t.p) Try.underlying9 rfl (ev_tmp rfl rfl) (M145.cell (i := 1) (o := 3) rfl rfl)) ?_
            refine gt rfl rfl rfl (congrArg Value.bool hg159) (x_fieldv (b := b141) (o := 0) (q := 2) fa_34_2 (ev_tmp rfl rfl) rfl) ?_
            refine gt rfl rfl rfl (congrArg Value.bool hg159) (x_load1 (v := Value.string t.p) Try.underlying9 rfl (ev_tmp rfl rfl) (M145.cell (i := 0) (o := 2) rfl rfl)) ?_
            refine gt rfl rfl rfl (congrArg Value.bool hg159) (x_eqs (p := t.p) (q := t.p) (ev_tmp rfl rfl) (ev_tmp rfl rfl)) ?_
            refine st rfl (x_pick_t (v := Value.bool (decide (t.p.data.toList = t.p.data.toList))) (ev_tmp rfl (congrArg Value.bool hg159)) (ev_tmp rfl rfl)) ?_
            refine st rfl (x_move (v := Value.bool (decide (t.p.data.toList = t.p.data.toList))) (ev_tmp rfl rfl)) ?_
            have hg163 : (decide (t.p.data.toList = t.p.data.toList)) = true := same_t _
            refine gt rfl rfl rfl (congrArg Value.bool hg163) (x_fieldv (b := b98) (o := 0) (q := 4) fa_32_4 (ev_tmp rfl rfl) rfl) ?_
            refine gt rfl rfl rfl (congrArg Value.bool hg163) (x_load1 (v := Value.int .i64 t.q) Try.underlying3 rfl (ev_tmp rfl rfl) (M145.cell (i := 1) (o := 4) rfl rfl)) ?_
            refine gt rfl rfl rfl (congrArg Value.bool hg163) (x_fieldv (b := b141) (o := 0) (q := 3) fa_34_3 (ev_tmp rfl rfl) rfl) ?_
            refine gt rfl rfl rfl (congrArg Value.bool hg163) (x_load1 (v := Value.int .i64 t.q) Try.underlying3 rfl (ev_tmp rfl rfl) (M145.cell (i := 0) (o := 3) rfl rfl)) ?_
            refine gt rfl rfl rfl (congrArg Value.bool hg163) (x_eql (p := t.q) (q := t.q) (ev_tmp rfl rfl) (ev_tmp rfl rfl)) ?_
            refine st rfl (x_pick_t (v := Value.bool (decide (t.q = t.q))) (ev_tmp rfl (congrArg Value.bool hg163)) (ev_tmp rfl rfl)) ?_
            refine st rfl (x_move (v := Value.bool (decide (t.q = t.q))) (ev_tmp rfl rfl)) ?_
            have hg167 : (decide (t.q = t.q)) = true := same_t _
            refine gt rfl rfl rfl (congrArg Value.bool hg167) (x_fieldv (b := b98) (o := 0) (q := 5) fa_32_5 (ev_tmp rfl rfl) rfl) ?_
            refine gt rfl rfl rfl (congrArg Value.bool hg167) (x_load1 (v := Value.int .i64 t.r) Try.underlying3 rfl (ev_tmp rfl rfl) (M145.cell (i := 1) (o := 5) rfl rfl)) ?_
            refine gt rfl rfl rfl (congrArg Value.bool hg167) (x_fieldv (b := b141) (o := 0) (q := 4) fa_34_4 (ev_tmp rfl rfl) rfl) ?_
            refine gt rfl rfl rfl (congrArg Value.bool hg167) (x_load1 (v := Value.int .i64 t.r) Try.underlying3 rfl (ev_tmp rfl rfl) (M145.cell (i := 0) (o := 4) rfl rfl)) ?_
            refine gt rfl rfl rfl (congrArg Value.bool hg167) (x_eql (p := t.r) (q := t.r) (ev_tmp rfl rfl) (ev_tmp rfl rfl)) ?_
            refine st rfl (x_pick_t (v := Value.bool (decide (t.r = t.r))) (ev_tmp rfl (congrArg Value.bool hg167)) (ev_tmp rfl rfl)) ?_
            refine st rfl (x_assign (v := Value.bool (decide (t.r = t.r))) (ev_tmp rfl rfl)) ?_
            refine s_nil ?_
            refine hK147 _ _ ?_
            refine c_seq fun K168 hK169 => ?_
            refine c_reg ?_
            refine st rfl (x_move (v := Value.bool (decide (t.r = t.r))) (ev_tmp rfl rfl)) ?_
            refine st rfl (x_not (b := (decide (t.r = t.r))) (ev_tmp rfl rfl)) ?_
            refine st rfl (x_move (v := Value.bool (!(decide (t.r = t.r)))) (ev_tmp rfl rfl)) ?_
            have hg173 : (!(decide (t.r = t.r))) = false := same_f _
            refine gt rfl rfl rfl (congrArg Value.bool hg173) (x_fieldv (b := b95) (o := 0) (q := 1) fa_32_1 (ev_tmp rfl rfl) rfl) ?_
            refine gt rfl rfl rfl (congrArg Value.bool hg173) (x_load1 (v := Value.string t.b) Try.underlying9 rfl (ev_tmp rfl rfl) (M145.cell (i := 2) (o := 1) rfl rfl)) ?_
            refine gt rfl rfl rfl (congrArg Value.bool hg173) (x_fieldv (b := b141) (o := 0) (q := 0) fa_34_0 (ev_tmp rfl rfl) rfl) ?_
            refine gt rfl rfl rfl (congrArg Value.bool hg173) (x_load1 (v := Value.string t.b) Try.underlying9 rfl (ev_tmp rfl rfl) (M145.cell (i := 0) (o := 0) rfl rfl)) ?_
            refine gt rfl rfl rfl (congrArg Value.bool hg173) (x_nes (p := t.b) (q := t.b) (ev_tmp rfl rfl) (ev_tmp rfl rfl)) ?_
            refine st rfl (x_pick_f (v := Value.bool (!(decide (t.b.data.toList = t.b.data.toList)))) (ev_tmp rfl (congrArg Value.bool hg173)) (ev_tmp rfl rfl)) ?_
            refine st rfl (x_move (v := Value.bool (!(decide (t.b.data.toList = t.b.data.toList)))) (ev_tmp rfl rfl)) ?_
            have hg177 : (!(decide (t.b.data.toList = t.b.data.toList))) = false := same_f _
            refine gt rfl rfl rfl (congrArg Value.bool hg177) (x_fieldv (b := b95) (o := 0) (q := 2) fa_32_2 (ev_tmp rfl rfl) rfl) ?_
            refine gt rfl rfl rfl (congrArg Value.bool hg177) (x_load1 (v := Value.string (⟨#[104, 111, 117, 115, 101]⟩ : ByteArray)) Try.underlying9 rfl (ev_tmp rfl rfl) (M145.cell (i := 2) (o := 2) rfl rfl)) ?_
            refine gt rfl rfl rfl (congrArg Value.bool hg177) (x_nes (p := (⟨#[104, 111, 117, 115, 101]⟩ : ByteArray)) (q := (⟨#[104, 111, 117, 115, 101]⟩ : ByteArray)) (ev_tmp rfl rfl) rfl) ?_
            refine st rfl (x_pick_f (v := Value.bool (!(decide ((⟨#[104, 111, 117, 115, 101]⟩ : ByteArray).data.toList = (⟨#[104, 111, 117, 115, 101]⟩ : ByteArray).data.toList)))) (ev_tmp rfl (congrArg Value.bool hg177)) (ev_tmp rfl rfl)) ?_
            refine st rfl (x_move (v := Value.bool (!(decide ((⟨#[104, 111, 117, 115, 101]⟩ : ByteArray).data.toList = (⟨#[104, 111, 117, 115, 101]⟩ : ByteArray).data.toList)))) (ev_tmp rfl rfl)) ?_
            have hg181 : (!(decide ((⟨#[104, 111, 117, 115, 101]⟩ : ByteArray).data.toList = (⟨#[104, 111, 117, 115, 101]⟩ : ByteArray).data.toList))) = false := same_f _
            refine gt rfl rfl rfl (congrArg Value.bool hg181) (x_fieldv (b := b98) (o := 0) (q := 1) fa_32_1 (ev_tmp rfl rfl) rfl) ?_
            refine gt rfl rfl rfl (congrArg Value.bool hg181) (x_load1 (v := Value.string (⟨#[104, 111, 117, 115, 101]⟩ : ByteArray)) Try.underlying9 rfl (ev_tmp rfl rfl) (M145.cell (i := 1) (o := 1) rfl rfl)) ?_
            refine gt rfl rfl rfl (congrArg Value.bool hg181) (x_nes (p := (⟨#[104, 111, 117, 115, 101]⟩ : ByteArray)) (q := (⟨#[104, 111, 117, 115, 101]⟩ : ByteArray)) (ev_tmp rfl rfl) rfl) ?_
            refine st rfl (x_pick_f (v := Value.bool (!(decide ((⟨#[104, 111, 117, 115, 101]⟩ : ByteArray).data.toList = (⟨#[104, 111, 117, 115, 101]⟩ : ByteArray).data.toList)))) (ev_tmp rfl (congrArg Value.bool hg181)) (ev_tmp rfl rfl)) ?_
            refine st rfl (x_move (v := Value.bool (!(decide ((⟨#[104, 111, 117, 115, 101]⟩ : ByteArray).data.toList = (⟨#[104, 111, 117, 115, 101]⟩ : ByteArray).data.toList)))) (ev_tmp rfl rfl)) ?_
            have hg185 : (!(decide ((⟨#[104, 111, 117, 115, 101]⟩ : ByteArray).data.toList = (⟨#[104, 111, 117, 115, 101]⟩ : ByteArray).data.toList))) = false := same_f _
            refine gt rfl rfl rfl (congrArg Value.bool hg185) (x_fieldv (b := b98) (o := 0) (q := 2) fa_32_2 (ev_tmp rfl rfl) rfl) ?_
            refine gt rfl rfl rfl (congrArg Value.bool hg185) (x_load1 (v := Value.string t.s) Try.underlying9 rfl (ev_tmp rfl rfl) (M145.cell (i := 1) (o := 2) rfl rfl)) ?_
            refine gt rfl rfl rfl (congrArg Value.bool hg185) (x_fieldv (b := b141) (o := 0) (q := 1) fa_34_1 (ev_tmp rfl rfl) rfl) ?_
            refine gt rfl rfl rfl (congrArg Value.bool hg185) (x_load1 (v := Value.string t.s) Try.underlying9 rfl (ev_tmp rfl rfl) (M145.cell (i := 0) (o := 1) rfl rfl)) ?_
            refine gt rfl rfl rfl (congrArg Value.bool hg185) (x_nes (p := t.s) (q := t.s) (ev_tmp rfl rfl) (ev_tmp rfl rfl)) ?_
            refine st rfl (x_pick_f (v := Value.bool (!(decide (t.s.data.toList = t.s.data.toList)))) (ev_tmp rfl (congrArg Value.bool hg185)) (ev_tmp rfl rfl)) ?_
            refine st rfl (x_move (v := Value.bool (!(decide (t.s.data.toList = t.s.data.toList)))) (ev_tmp rfl rfl)) ?_
            have hg189 : (!(decide (t.s.data.toList = t.s.data.toList))) = false := same_f _
            refine gt rfl rfl rfl (congrArg Value.bool hg189) (x_fieldv (b := b141) (o := 0) (q := 5) fa_34_5 (ev_tmp rfl rfl) rfl) ?_
            refine gt rfl rfl rfl (congrArg Value.bool hg189) (x_load1 (v := Value.bool t.bo) Try.underlying4 rfl (ev_tmp rfl rfl) (M145.cell (i := 0) (o := 5) rfl rfl)) ?_
            refine gt rfl rfl rfl (congrArg Value.bool hg189) (x_not (b := t.bo) (ev_tmp rfl rfl)) ?_
            refine st rfl (x_pick_f (v := Value.bool (!t.bo)) (ev_tmp rfl (congrArg Value.bool hg189)) (ev_tmp rfl rfl)) ?_
            refine st rfl (x_move (v := Value.bool (!t.bo)) (ev_tmp rfl rfl)) ?_
            have hg193 : (!t.bo) = false := (by rw [hbo]; rfl)
            refine gt rfl rfl rfl (congrArg Value.bool hg193) (x_fieldv (b := b141) (o := 0) (q := 6) fa_34_6 (ev_tmp rfl rfl) rfl) ?_
            refine gt rfl rfl rfl (congrArg Value.bool hg193) (x_load1 (v := Value.bool t.so) Try.underlying4 rfl (ev_tmp rfl rfl) (M145.cell (i := 0) (o := 6) rfl rfl)) ?_
            refine gt rfl rfl rfl (congrArg Value.bool hg193) (x_not (b := t.so) (ev_tmp rfl rfl)) ?_
            refine st rfl (x_pick_f (v := Value.bool (!t.so)) (ev_tmp rfl (congrArg Value.bool hg193)) (ev_tmp rfl rfl)) ?_
            refine st rfl (x_move (v := Value.bool (!t.so)) (ev_tmp rfl rfl)) ?_
            have hg197 : (!t.so) = false := (by rw [hso]; rfl)
            refine gt rfl rfl rfl (congrArg Value.bool hg197) (x_fieldv (b := b141) (o := 0) (q := 7) fa_34_7 (ev_tmp rfl rfl) rfl) ?_
            refine gt rfl rfl rfl (congrArg Value.bool hg197) (x_load1 (v := Value.int .u8 t.st) Try.underlying5 rfl (ev_tmp rfl rfl) (M145.cell (i := 0) (o := 7) rfl rfl)) ?_
            refine gt rfl rfl rfl (congrArg Value.bool hg197) (x_neq (p := t.st) (q := 1) (ev_tmp rfl rfl) rfl) ?_
            refine st rfl (x_pick_f (v := Value.bool (!(decide (t.st = 1)))) (ev_tmp rfl (congrArg Value.bool hg197)) (ev_tmp rfl rfl)) ?_
            refine s_nil ?_
            refine hK169 _ _ ?_
            have h198 : (!(decide (t.st = 1))) = false := (by rw [(decide_eq_true hst)]; rfl)
            refine c_cond_f (ev_tmp rfl (congrArg Value.bool h198)) ?_
            refine c_skip ?_
            refine hK79 _ _ ?_
            refine c_reg ?_
            refine st rfl (x_move (v := Value.int .i64 ((2 * j : Nat) : Int)) (ev_tmp rfl rfl)) ?_
            have hw199 : IntKind.i64.wrap (((2 * j : Nat) : Int) + 2) = ((2 * j : Nat) : Int) + 2 := w64 (by rfl) (by omega) (by omega)
            refine st rfl (x_add_eq (p := ((2 * j : Nat) : Int)) (q := 2) (ev_tmp rfl rfl) rfl hw199) ?_
            refine st rfl (x_assign (v := Value.int .i64 (((2 * j : Nat) : Int) + 2)) (ev_tmp rfl rfl)) ?_
            refine s_nil ?_
            exact ⟨_, _, (by omega : (legsC l).length - 2 * (j + 1) < (legsC l).length - 2 * j), fr_held (live := [(1, Value.pointer (some ⟨b6, 0, none⟩)), (3, Value.bool true), (4, Value.slice A30 ((legsC l).length) c31), (6, Value.int .i64 ((i : Int) + 1)), (7, Value.int .i64 ((2 * (j + 1) : Nat) : Int))]) ⟨rfl, rfl, rfl, rfl, (congrArg (Value.int .i64) (by omega)), trivial⟩, (j + 1), ((i : Int) + 1), _, rfl, rfl, (M145.dropL 3), (by omega), (by omega), (by omega), (fun d hd2 => done_next hd hd2)⟩
          have M82 := M71.drew
          refine c_drawn (fun w1 => Mem w [] w1 [Own.cells b6 24 #[Value.slice A l.length c]] [Ro.sl w11.heap.size w32.heap.size A30 c31 6 Leg.cells (legsC l), Ro.sl 0 w.heap.size A c 8 Trade.cells l]) mixed ?_
          generalize w70.drew = w83 at M82 ⊢
          refine dT (i := 0) (v := Value.slice A30 ((legsC l).length) c31) rfl (by kernel_rfl) (by kernel_rfl) rfl M82 (fun _ hS => x_move (v := Value.slice A30 ((legsC l).length) c31) (ev_tmp rfl rfl)) ?_
          refine dT (i := 1) (v := Value.int .i64 ((2 * j : Nat) : Int)) rfl (by kernel_rfl) (by kernel_rfl) rfl M82 (fun _ hS => x_move (v := Value.int .i64 ((2 * j : Nat) : Int)) (ev_tmp rfl rfl)) ?_
          obtain ⟨g84, o85, hA86⟩ := M82.roat (i := 0) rfl hX
          refine dT (i := 2) (v := Value.pointer (some ⟨g84, o85 + (2 * j) * 6, none⟩)) rfl (by kernel_rfl) (by kernel_rfl) rfl M82 (fun _ hS => x_elemA (b := g84) (o := o85) (k := (2 * j)) ea_26 (ev_tmp rfl rfl) hA86 (ev_tmp rfl rfl) rfl (by omega)) ?_
          refine dT (i := 3) (v := Value.agg #[Value.int .i64 ((i : Int) + 1), Value.string t.b, Value.string (⟨#[104, 111, 117, 115, 101]⟩ : ByteArray), Value.string t.p, Value.int .i64 t.q, Value.int .i64 t.r]) rfl (by kernel_rfl) (by kernel_rfl) rfl M82 (fun _ hS => x_loadw (cs := [Value.int .i64 ((i : Int) + 1), Value.string t.b, Value.string (⟨#[104, 111, 117, 115, 101]⟩ : ByteArray), Value.string t.p, Value.int .i64 t.q, Value.int .i64 t.r]) Try.underlying32 rfl sz_32 (ev_tmp rfl rfl) (hS.rorange (i := 0) rfl hA86 hX (f := 0) ⟨rfl, rfl, rfl, rfl, rfl, rfl, trivial⟩)) ?_
          refine dT (i := 4) (v := Value.slice A30 ((legsC l).length) c31) rfl (by kernel_rfl) (by kernel_rfl) rfl M82 (fun _ hS => x_move (v := Value.slice A30 ((legsC l).length) c31) (ev_tmp rfl rfl)) ?_
          refine dT (i := 5) (v := Value.int .i64 ((2 * j : Nat) : Int)) rfl (by kernel_rfl) (by kernel_rfl) rfl M82 (fun _ hS => x_move (v := Value.int .i64 ((2 * j : Nat) : Int)) (ev_tmp rfl rfl)) ?_
          have hw89 : IntKind.i64.wrap (((2 * j : Nat) : Int) + 1) = ((2 * j : Nat) : Int) + 1 := w64 (by rfl) (by omega) (by omega)
          refine dT (i := 6) (v := Value.int .i64 (((2 * j : Nat) : Int) + 1)) rfl (by kernel_rfl) (by kernel_rfl) rfl M82 (fun _ hS => x_add_eq (p := ((2 * j : Nat) : Int)) (q := 1) (ev_tmp rfl rfl) rfl hw89) ?_
          obtain ⟨g90, o91, hA92⟩ := M82.roat (i := 0) rfl hY
          refine dT (i := 7) (v := Value.pointer (some ⟨g90, o91 + (2 * j + 1) * 6, none⟩)) rfl (by kernel_rfl) (by kernel_rfl) rfl M82 (fun _ hS => x_elemA (b := g90) (o := o91) (k := (2 * j + 1)) ea_26 (ev_tmp rfl rfl) hA92 (ev_tmp rfl rfl) (by omega) (by omega)) ?_
          refine dT (i := 8) (v := Value.agg #[Value.int .i64 ((i : Int) + 1), Value.string (⟨#[104, 111, 117, 115, 101]⟩ : ByteArray), Value.string t.s, Value.string t.p, Value.int .i64 t.q, Value.int .i64 t.r]) rfl (by kernel_rfl) (by kernel_rfl) rfl M82 (fun _ hS => x_loadw (cs := [Value.int .i64 ((i : Int) + 1), Value.string (⟨#[104, 111, 117, 115, 101]⟩ : ByteArray), Value.string t.s, Value.string t.p, Value.int .i64 t.q, Value.int .i64 t.r]) Try.underlying32 rfl sz_32 (ev_tmp rfl rfl) (hS.rorange (i := 0) rfl hA92 hY (f := 0) ⟨rfl, rfl, rfl, rfl, rfl, rfl, trivial⟩)) ?_
          refine dA (rs := [9, 10]) (by kernel_rfl) rfl ?_
          refine dC ?_ ?_
          · refine dnew (i := 9) (cs := #[Value.int .i64 0, Value.string ByteArray.empty, Value.string ByteArray.empty, Value.string ByteArray.empty, Value.int .i64 0, Value.int .i64 0]) M82 rfl rfl (x_allocz z_32) fun b95 w96 M97 => ?_
            refine ⟨(M97.dropL 1), ?_⟩
            refine dA (rs := [10]) (by kernel_rfl) rfl ?_
            refine dC ?_ ?_
            · refine dnew (i := 10) (cs := #[Value.int .i64 0, Value.string ByteArray.empty, Value.string ByteArray.empty, Value.string ByteArray.empty, Value.int .i64 0, Value.int .i64 0]) M97 rfl rfl (x_allocz z_32) fun b98 w99 M100 => ?_
              refine ⟨(M100.dropL 2), ?_⟩
              refine dA (rs := [11]) (by kernel_rfl) rfl ?_
              refine dC ?_ ?_
              · refine dset (i := 11) (k := 1) (L' := [Own.cells b98 32 #[Value.int .i64 0, Value.string ByteArray.empty, Value.string ByteArray.empty, Value.string ByteArray.empty, Value.int .i64 0, Value.int .i64 0], Own.cells b95 32 #[Value.int .i64 ((i : Int) + 1), Value.string t.b, Value.string (⟨#[104, 111, 117, 115, 101]⟩ : ByteArray), Value.string t.p, Value.int .i64 t.q, Value.int .i64 t.r], Own.cells b6 24 #[Value.slice A l.length c]]) M100 rfl rfl rfl (x_storew (cs := [Value.int .i64 ((i : Int) + 1), Value.string t.b, Value.string (⟨#[104, 111, 117, 115, 101]⟩ : ByteArray), Value.string t.p, Value.int .i64 t.q, Value.int .i64 t.r]) sz_32 (ev_tmp rfl rfl) (ev_tmp rfl rfl) (M100.cells_at (i := 1) rfl) rfl ⟨rfl, rfl, rfl, rfl, rfl, rfl, trivial⟩) fun w101 M102 => ?_
                refine ⟨(M102.dropL 2), ?_⟩
                refine dA (rs := [12]) (by kernel_rfl) rfl ?_
                refine dC ?_ ?_
                · refine dset (i := 12) (k := 0) (L' := [Own.cells b98 32 #[Value.int .i64 ((i : Int) + 1), Value.string (⟨#[104, 111, 117, 115, 101]⟩ : ByteArray), Value.string t.s, Value.string t.p, Value.int .i64 t.q, Value.int .i64 t.r], Own.cells b95 32 #[Value.int .i64 ((i : Int) + 1), Value.string t.b, Value.string (⟨#[104, 111, 117, 115, 101]⟩ : ByteArray), Value.string t.p, Value.int .i64 t.q, Value.int .i64 t.r], Own.cells b6 24 #[Value.slice A l.length c]]) M102 rfl rfl rfl (x_storew (cs := [Value.int .i64 ((i : Int) + 1), Value.string (⟨#[104, 111, 117, 115, 101]⟩ : ByteArray), Value.string t.s, Value.string t.p, Value.int .i64 t.q, Value.int .i64 t.r]) sz_32 (ev_tmp rfl rfl) (ev_tmp rfl rfl) (M102.cells_at (i := 0) rfl) rfl ⟨rfl, rfl, rfl, rfl, rfl, rfl, trivial⟩) fun w103 M104 => ?_
                  refine ⟨(M104.dropL 2), ?_⟩
                  refine dE (by kernel_rfl) ?_
                  exact j_to (fun jk => J115 b95 b98 jk _ M104) ⟨rfl, rfl, rfl, rfl, rfl, rfl, rfl, trivial⟩
                exact dN
              exact dN
            exact dN
          refine dC ?_ ?_
          · refine dnew (i := 10) (cs := #[Value.int .i64 0, Value.string ByteArray.empty, Value.string ByteArray.empty, Value.string ByteArray.empty, Value.int .i64 0, Value.int .i64 0]) M82 rfl rfl (x_allocz z_32) fun b105 w106 M107 => ?_
            refine ⟨(M107.dropL 1), ?_⟩
            refine dA (rs := [9]) (by kernel_rfl) rfl ?_
            refine dC ?_ ?_
            · refine dnew (i := 9) (cs := #[Value.int .i64 0, Value.string ByteArray.empty, Value.string ByteArray.empty, Value.string ByteArray.empty, Value.int .i64 0, Value.int .i64 0]) M107 rfl rfl (x_allocz z_32) fun b108 w109 M110 => ?_
              refine ⟨(M110.dropL 2), ?_⟩
              refine dA (rs := [11]) (by kernel_rfl) rfl ?_
              refine dC ?_ ?_
              · refine dset (i := 11) (k := 0) (L' := [Own.cells b108 32 #[Value.int .i64 ((i : Int) + 1), Value.string t.b, Value.string (⟨#[104, 111, 117, 115, 101]⟩ : ByteArray), Value.string t.p, Value.int .i64 t.q, Value.int .i64 t.r], Own.cells b105 32 #[Value.int .i64 0, Value.string ByteArray.empty, Value.string ByteArray.empty, Value.string ByteArray.empty, Value.int .i64 0, Value.int .i64 0], Own.cells b6 24 #[Value.slice A l.length c]]) M110 rfl rfl rfl (x_storew (cs := [Value.int .i64 ((i : Int) + 1), Value.string t.b, Value.string (⟨#[104, 111, 117, 115, 101]⟩ : ByteArray), Value.string t.p, Value.int .i64 t.q, Value.int .i64 t.r]) sz_32 (ev_tmp rfl rfl) (ev_tmp rfl rfl) (M110.cells_at (i := 0) rfl) rfl ⟨rfl, rfl, rfl, rfl, rfl, rfl, trivial⟩) fun w111 M112 => ?_
                refine ⟨(M112.dropL 2), ?_⟩
                refine dA (rs := [12]) (by kernel_rfl) rfl ?_
                refine dC ?_ ?_
                · refine dset (i := 12) (k := 1) (L' := [Own.cells b108 32 #[Value.int .i64 ((i : Int) + 1), Value.string t.b, Value.string (⟨#[104, 111, 117, 115, 101]⟩ : ByteArray), Value.string t.p, Value.int .i64 t.q, Value.int .i64 t.r], Own.cells b105 32 #[Value.int .i64 ((i : Int) + 1), Value.string (⟨#[104, 111, 117, 115, 101]⟩ : ByteArray), Value.string t.s, Value.string t.p, Value.int .i64 t.q, Value.int .i64 t.r], Own.cells b6 24 #[Value.slice A l.length c]]) M112 rfl rfl rfl (x_storew (cs := [Value.int .i64 ((i : Int) + 1), Value.string (⟨#[104, 111, 117, 115, 101]⟩ : ByteArray), Value.string t.s, Value.string t.p, Value.int .i64 t.q, Value.int .i64 t.r]) sz_32 (ev_tmp rfl rfl) (ev_tmp rfl rfl) (M112.cells_at (i := 1) rfl) rfl ⟨rfl, rfl, rfl, rfl, rfl, rfl, trivial⟩) fun w113 M114 => ?_
                  refine ⟨(M114.dropL 2), ?_⟩
                  refine dE (by kernel_rfl) ?_
                  exact j_to (fun jk => J115 b108 b105 jk _ (M114.perm (L' := [Own.cells b105 32 #[Value.int .i64 ((i : Int) + 1), Value.string (⟨#[104, 111, 117, 115, 101]⟩ : ByteArray), Value.string t.s, Value.string t.p, Value.int .i64 t.q, Value.int .i64 t.r], Own.cells b108 32 #[Value.int .i64 ((i : Int) + 1), Value.string t.b, Value.string (⟨#[104, 111, 117, 115, 101]⟩ : ByteArray), Value.string t.p, Value.int .i64 t.q, Value.int .i64 t.r], Own.cells b6 24 #[Value.slice A l.length c]]) (List.Perm.trans (List.Perm.swap _ _ _) (List.Perm.refl _)))) ⟨rfl, rfl, rfl, rfl, rfl, rfl, rfl, trivial⟩
                exact dN
              exact dN
            exact dN
          exact dN
        · have h200 : ¬ (((2 * j : Nat) : Int) < ((legsC l).length : Int)) := of_decide_eq_false h76
          refine c_exit ?_
          refine xb_here ?_
          refine hK66 _ _ ?_
          refine c_seq fun K201 hK202 => ?_
          refine c_reg ?_
          refine st rfl (x_assign (v := Value.int .i64 0) rfl) ?_
          refine s_nil ?_
          refine hK202 _ _ ?_
          refine c_seq fun K203 hK204 => ?_
          refine c_seq fun K205 hK206 => ?_
          refine c_reg ?_
          refine st rfl (x_assign (v := Value.int .i64 0) rfl) ?_
          refine s_nil ?_
          refine hK206 _ _ ?_
          refine c_block ?_
          refine c_loopH (live := [(1, Value.pointer (some ⟨b6, 0, none⟩)), (3, Value.bool true), (4, Value.slice A30 ((legsC l).length) c31), (12, Value.int .i64 ((cnt (l.take 0) : Nat) : Int)), (13, Value.int .i64 0)]) ⟨rfl, rfl, rfl, rfl, rfl, trivial⟩ (fun mm ll w1 => ∃ (k : Nat) (jk : List (Nat × Value)), mm = l.length - k ∧ ll = [(1, Value.pointer (some ⟨b6, 0, none⟩)), (3, Value.bool true), (4, Value.slice A30 ((legsC l).length) c31), (12, Value.int .i64 ((cnt (l.take k) : Nat) : Int)), (13, Value.int .i64 (k : Int))] ++ jk ∧ Mem w [] w1 [Own.cells b6 24 #[Value.slice A l.length c]] [Ro.sl w11.heap.size w32.heap.size A30 c31 6 Leg.cells (legsC l), Ro.sl 0 w.heap.size A c 8 Trade.cells l] ∧ (k ≤ l.length) ∧ (cnt (l.take k) ≤ k)) ⟨0, _, rfl, rfl, M71, (by omega), (by simp [cnt])⟩ fun mm ll w1 hI207 => ?_
          obtain ⟨k, jk, rfl, rfl, M209, hk, hck⟩ := hI207
          obtain ⟨w208, rfl⟩ : ∃ x, x = w1 := ⟨_, rfl⟩
          refine c_seq fun K210 hK211 => ?_
          refine c_seq fun K212 hK213 => ?_
          refine c_reg ?_
          refine st rfl (x_move (v := Value.int .i64 (k : Int)) (ev_tmp rfl rfl)) ?_
          refine st rfl (x_fieldv (b := b6) (o := 0) (q := 0) fa_24_0 (ev_tmp rfl rfl) rfl) ?_
          refine st rfl (x_load1 (v := Value.slice A l.length c) Try.underlying22 rfl (ev_tmp rfl rfl) (M209.cell (i := 0) (o := 0) rfl rfl)) ?_
          refine st rfl (x_lensl (n := l.length) Try.underlying22 (ev_tmp rfl rfl)) ?_
          refine st rfl (x_lss (p := (k : Int)) (q := (l.length : Int)) (ev_tmp rfl rfl) (ev_tmp rfl rfl)) ?_
          refine s_nil ?_
          refine hK213 _ _ ?_
          refine c_cond (b := decide ((k : Int) < (l.length : Int))) (ev_tmp rfl rfl) (fun h214 => ?_) (fun h214 => ?_)
          · have h215 : (k : Int) < (l.length : Int) := of_decide_eq_true h214
            obtain ⟨x, hx⟩ : ∃ x, l[k]? = some x := ⟨_, List.getElem?_eq_getElem (by omega)⟩
            refine c_skip ?_
            refine hK211 _ _ ?_
            refine c_seq fun K216 hK217 => ?_
            refine c_block ?_
            refine c_seq fun K218 hK219 => ?_
            refine c_reg ?_
            refine st rfl (x_fieldv (b := b6) (o := 0) (q := 0) fa_24_0 (ev_tmp rfl rfl) rfl) ?_
            refine st rfl (x_load1 (v := Value.slice A l.length c) Try.underlying22 rfl (ev_tmp rfl rfl) (M209.cell (i := 0) (o := 0) rfl rfl)) ?_
            refine st rfl (x_move (v := Value.int .i64 (k : Int)) (ev_tmp rfl rfl)) ?_
            obtain ⟨g220, o221, hA222⟩ := M209.roat (i := 1) rfl hx
            refine st rfl (x_elemA (b := g220) (o := o221) (k := k) ea_22 (ev_tmp rfl rfl) hA222 (ev_tmp rfl rfl) rfl (by omega)) ?_
            refine st rfl (x_fieldv (b := g220) (o := (o221 + k * 8)) (q := (o221 + k * 8 + 7)) fa_34_7 (ev_tmp rfl rfl) rfl) ?_
            refine st rfl (x_load1 (v := Value.int .u8 x.st) Try.underlying5 rfl (ev_tmp rfl rfl) (M209.rocell (i := 1) rfl hA222 hx (j := 7) rfl)) ?_
            refine st rfl (x_eql (p := x.st) (q := 1) (ev_tmp rfl rfl) rfl) ?_
            refine s_nil ?_
            refine hK219 _ _ ?_
            refine c_cond (b := decide (x.st = 1)) (ev_tmp rfl rfl) (fun h225 => ?_) (fun h225 => ?_)
            · have h226 : x.st = 1 := of_decide_eq_true h225
              refine c_reg ?_
              refine st rfl (x_move (v := Value.int .i64 ((cnt (l.take k) : Nat) : Int)) (ev_tmp rfl rfl)) ?_
              have hw227 : IntKind.i64.wrap (((cnt (l.take k) : Nat) : Int) + 1) = ((cnt (l.take k) : Nat) : Int) + 1 := w64 (by rfl) (by omega) (by omega)
              refine st rfl (x_add_eq (p := ((cnt (l.take k) : Nat) : Int)) (q := 1) (ev_tmp rfl rfl) rfl hw227) ?_
              refine st rfl (x_assign (v := Value.int .i64 (((cnt (l.take k) : Nat) : Int) + 1)) (ev_tmp rfl rfl)) ?_
              refine s_nil ?_
              refine hK217 _ _ ?_
              refine c_reg ?_
              refine st rfl (x_move (v := Value.int .i64 (k : Int)) (ev_tmp rfl rfl)) ?_
              have hw228 : IntKind.i64.wrap ((k : Int) + 1) = (k : Int) + 1 := w64 (by rfl) (by omega) (by omega)
              refine st rfl (x_add_eq (p := (k : Int)) (q := 1) (ev_tmp rfl rfl) rfl hw228) ?_
              refine st rfl (x_assign (v := Value.int .i64 ((k : Int) + 1)) (ev_tmp rfl rfl)) ?_
              refine s_nil ?_
              have hcs : cnt (l.take (k + 1)) = cnt (l.take k) + 1 := cnt_yes hx (of_decide_eq_true h225)
              exact ⟨_, _, (by omega : l.length - (k + 1) < l.length - k), fr_held (live := [(1, Value.pointer (some ⟨b6, 0, none⟩)), (3, Value.bool true), (4, Value.slice A30 ((legsC l).length) c31), (12, Value.int .i64 ((cnt (l.take (k + 1)) : Nat) : Int)), (13, Value.int .i64 (((k + 1) : Nat) : Int))]) ⟨rfl, rfl, rfl, (congrArg (Value.int .i64) (by omega)), (congrArg (Value.int .i64) (by omega)), trivial⟩, (k + 1), _, rfl, rfl, M209, (by omega), (by omega)⟩
            · have h229 : ¬ (x.st = 1) := of_decide_eq_false h225
              refine c_skip ?_
              refine hK217 _ _ ?_
              refine c_reg ?_
              refine st rfl (x_move (v := Value.int .i64 (k : Int)) (ev_tmp rfl rfl)) ?_
              have hw230 : IntKind.i64.wrap ((k : Int) + 1) = (k : Int) + 1 := w64 (by rfl) (by omega) (by omega)
              refine st rfl (x_add_eq (p := (k : Int)) (q := 1) (ev_tmp rfl rfl) rfl hw230) ?_
              refine st rfl (x_assign (v := Value.int .i64 ((k : Int) + 1)) (ev_tmp rfl rfl)) ?_
              refine s_nil ?_
              have hcs : cnt (l.take (k + 1)) = cnt (l.take k) := cnt_no hx (of_decide_eq_false h225)
              exact ⟨_, _, (by omega : l.length - (k + 1) < l.length - k), fr_held (live := [(1, Value.pointer (some ⟨b6, 0, none⟩)), (3, Value.bool true), (4, Value.slice A30 ((legsC l).length) c31), (12, Value.int .i64 ((cnt (l.take (k + 1)) : Nat) : Int)), (13, Value.int .i64 (((k + 1) : Nat) : Int))]) ⟨rfl, rfl, rfl, (congrArg (Value.int .i64) (by omega)), (congrArg (Value.int .i64) (by omega)), trivial⟩, (k + 1), _, rfl, rfl, M209, (by omega), (by omega)⟩
          · have h231 : ¬ ((k : Int) < (l.length : Int)) := of_decide_eq_false h214
            refine c_exit ?_
            refine xb_here ?_
            refine hK204 _ _ ?_
            refine c_seq fun K232 hK233 => ?_
            refine c_reg ?_
            refine st rfl (x_move (v := Value.bool true) (ev_tmp rfl rfl)) ?_
            refine st rfl (x_move (v := Value.bool true) (ev_tmp rfl rfl)) ?_
            refine gt rfl rfl rfl rfl (x_move (v := Value.slice A30 ((legsC l).length) c31) (ev_tmp rfl rfl)) ?_
            refine gt rfl rfl rfl rfl (x_lensl (n := ((legsC l).length)) Try.underlying26 (ev_tmp rfl rfl)) ?_
            refine gt rfl rfl rfl rfl (x_move (v := Value.int .i64 ((cnt (l.take k) : Nat) : Int)) (ev_tmp rfl rfl)) ?_
            have hw238 : IntKind.i64.wrap (2 * ((cnt (l.take k) : Nat) : Int)) = 2 * ((cnt (l.take k) : Nat) : Int) := w64 (by rfl) (by omega) (by omega)
            refine gt rfl rfl rfl rfl (x_mul_eq (p := 2) (q := ((cnt (l.take k) : Nat) : Int)) rfl (ev_tmp rfl rfl) hw238) ?_
            refine gt rfl rfl rfl rfl (x_eql (p := ((legsC l).length : Int)) (q := (2 * ((cnt (l.take k) : Nat) : Int))) (ev_tmp rfl rfl) (ev_tmp rfl rfl)) ?_
            refine st rfl (x_pick_t (v := Value.bool (decide (((legsC l).length : Int) = 2 * ((cnt (l.take k) : Nat) : Int)))) (ev_tmp rfl rfl) (ev_tmp rfl rfl)) ?_
            refine st rfl (x_assign (v := Value.bool (decide (((legsC l).length : Int) = 2 * ((cnt (l.take k) : Nat) : Int)))) (ev_tmp rfl rfl)) ?_
            refine s_nil ?_
            refine hK233 _ _ ?_
            refine c_ret ?_
            refine hT3 _ _ ?_
            refine r1 rfl (ev_tmp (v := Value.bool (decide (((legsC l).length : Int) = 2 * ((cnt (l.take k) : Nat) : Int)))) rfl rfl) ?_
            have hcnt := done_cnt l k (by omega)
            exact ⟨ret_bool (decide_eq_true (by omega)), M209.below⟩
  clear hK19
  rcases bcase (decide ((220 : Int) < (l.length : Int))) with hg21 | hg21
  · have h22 : ¬ ((220 : Int) < (l.length : Int)) := of_decide_eq_false hg21
    refine gt rfl rfl rfl (congrArg Value.bool hg21) (x_move (v := Value.bool true) (ev_tmp rfl rfl)) ?_
    refine gt rfl rfl rfl (congrArg Value.bool hg21) (x_not (b := true) (ev_tmp rfl rfl)) ?_
    refine st rfl (x_pick_f (v := Value.bool false) (ev_tmp rfl (congrArg Value.bool hg21)) (ev_tmp rfl rfl)) ?_
    refine s_nil ?_
    exact j_to J20 ⟨(congrArg Value.bool (or_f hg21)), rfl, rfl, rfl, rfl, trivial⟩
  · refine gf (b' := true) rfl rfl rfl (congrArg Value.bool hg21) rfl ?_
    refine gf (b' := true) rfl rfl rfl (congrArg Value.bool hg21) rfl ?_
    refine st rfl (x_pick_t (v := Value.bool true) (ev_tmp rfl (congrArg Value.bool hg21)) rfl) ?_
    refine s_nil ?_
    exact j_to J20 ⟨(congrArg Value.bool (or_t hg21)), rfl, rfl, rfl, rfl, trivial⟩

end Go.Proofs.Ytkimdlpfbojkgaa
