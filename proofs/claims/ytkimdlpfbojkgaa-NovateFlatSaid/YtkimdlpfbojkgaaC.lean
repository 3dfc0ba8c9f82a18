/- Contracts: checks of a book. -/
import Derived.Test.YtkimdlpfbojkgaaB
namespace Go.Proofs.Ytkimdlpfbojkgaa
open Go.RowKit
theorem all_at {α : Type} {p : α → Bool} {l : List α} {k : Nat} {x : α} (hx : l[k]? = some x) (hp : p x = false) : l.all p = false := by
  rw [List.all_eq_false]
  exact ⟨x, List.mem_of_getElem? hx, by rw [hp]; simp⟩
theorem take_at {α : Type} {l : List α} {k : Nat} {x : α} (hx : l[k]? = some x) : l.take (k + 1) = l.take k ++ [x] := by
  obtain ⟨hk, he⟩ := List.getElem?_eq_some_iff.1 hx
  rw [List.take_succ_eq_append_getElem hk, he]
theorem take_ok {α : Type} {p : α → Bool} {l : List α} (k : Nat) {x : α} (hx : l[k]? = some x) (ha : (l.take k).all p = true) (hp : p x = true) : (l.take (k + 1)).all p = true := by
  rw [take_at hx, List.all_append, ha, List.all_cons, hp]; rfl
theorem idx_bad {l : List Trade} (k : Nat) {x : Trade} (hx : l[k]? = some x) (hp : rightB x = false) : decide (0 ≤ (k : Int)) = !l.all rightB := by
  rw [all_at hx hp]; simp
theorem idx_good (l : List Trade) (k : Nat) (hk : l.length ≤ k) (ha : (l.take k).all rightB = true) : decide (0 ≤ (-1 : Int)) = !l.all rightB := by
  rw [List.take_of_length_le hk] at ha
  rw [ha]; rfl
theorem chk_bad (l : List Trade) (h : (decide ((200 : Int) < (l.length : Int)) || !l.all rightB) = true) : 8 = chk l := by
  have : checkB l = false := by
    unfold checkB
    rw [Bool.or_eq_true] at h
    rcases h with h | h
    · have := of_decide_eq_true h
      have : decide (l.length ≤ 200) = false := decide_eq_false (by omega)
      rw [this]; rfl
    · rw [not_t h]; simp
  unfold chk; rw [this]; rfl
theorem chk_good (l : List Trade) (h : (decide ((200 : Int) < (l.length : Int)) || !l.all rightB) = false) : 0 = chk l := by
  have : checkB l = true := by
    unfold checkB
    have h1 := of_decide_eq_false (or_l h)
    have : decide (l.length ≤ 200) = true := decide_eq_true (by omega)
    rw [this, not_f (or_r h)]; rfl
  unfold chk; rw [this]; rfl
theorem chk_long (l : List Trade) (h : (200 : Int) < (l.length : Int)) : 8 = chk l := chk_bad l (by rw [decide_eq_true h]; rfl)
theorem chk_at (l : List Trade) (k : Nat) {x : Trade} (hx : l[k]? = some x) (hp : rightB x = false) : 8 = chk l := chk_bad l (by rw [all_at hx hp]; simp)
theorem chk_all (l : List Trade) (k : Nat) (hk : l.length ≤ k) (h2 : l.length ≤ 200) (ha : (l.take k).all rightB = true) : 0 = chk l := by
  rw [List.take_of_length_le hk] at ha
  exact chk_good l (by rw [ha]; simp; omega)
set_option maxHeartbeats 1000000 in
set_option maxRecDepth 20000 in
theorem index_c (A : Option Addr) (c : Nat) (l : List Trade) (w : World) (hs : SlB 0 w.heap.size w A c 8 Trade.cells l) :
    Calls Try.prog 48 #[Value.slice A l.length c, Value.func (.func 32) #[] #[]] w fun e w' => ∃ r : Int, e = .returned (.int .i64 r) ∧ decide (0 ≤ r) = (!l.all rightB) ∧ Below w.heap.size w w' := by
  have hcm : l.length ≤ 9223372036854775807 := by have := hs.1; have := hs.2.1; simp only [maxLen] at this; omega
  have M0 := Mem.start w []
  have M1 := M0.see (Ro.sl 0 w.heap.size A c 8 Trade.cells l) (hs) (Nat.le_refl _)
  refine enter (args := [Value.slice A l.length c, Value.func (.func 32) #[] #[]]) Try.func48 rfl (n := 19) rfl rfl fun T2 hT3 => ?_
  refine c_seq fun K4 hK5 => ?_
  refine c_reg ?_
  refine st rfl (x_assign (v := Value.int .i64 0) rfl) ?_
  refine s_nil ?_
  refine hK5 _ _ ?_
  refine c_seq fun K6 hK7 => ?_
  refine c_seq fun K8 hK9 => ?_
  refine c_reg ?_
  refine st rfl (x_move (v := Value.slice A l.length c) (ev_tmp rfl rfl)) ?_
  refine st rfl (x_lensl (n := l.length) Try.underlying22 (ev_tmp rfl rfl)) ?_
  refine st rfl (x_move (v := Value.int .i64 0) rfl) ?_
  refine s_nil ?_
  refine hK9 _ _ ?_
  refine c_block ?_
  refine c_loopH (live := [(0, Value.slice A l.length c), (1, Value.func (.func 32) #[] #[]), (7, Value.int .i64 (l.length : Int)), (8, Value.int .i64 0)]) ⟨rfl, rfl, rfl, rfl, trivial⟩ (fun mm ll w1 => ∃ (k : Nat) (jk : List (Nat × Value)), mm = l.length - k ∧ ll = [(0, Value.slice A l.length c), (1, Value.func (.func 32) #[] #[]), (7, Value.int .i64 (l.length : Int)), (8, Value.int .i64 (k : Int))] ++ jk ∧ Mem w [] w1 [] [Ro.sl 0 w.heap.size A c 8 Trade.cells l] ∧ (k ≤ l.length) ∧ ((l.take k).all rightB = true)) ⟨0, _, rfl, rfl, M1, (by omega), (by simp)⟩ fun mm ll w1 hI10 => ?_
  obtain ⟨k, jk, rfl, rfl, M12, hk, hall⟩ := hI10
  obtain ⟨w11, rfl⟩ : ∃ x, x = w1 := ⟨_, rfl⟩
  refine c_seq fun K13 hK14 => ?_
  refine c_reg ?_
  refine st rfl (x_lss (p := (k : Int)) (q := (l.length : Int)) (ev_tmp rfl rfl) (ev_tmp rfl rfl)) ?_
  refine s_nil ?_
  refine hK14 _ _ ?_
  refine c_seq fun K15 hK16 => ?_
  refine c_cond (b := decide ((k : Int) < (l.length : Int))) (ev_tmp rfl rfl) (fun h17 => ?_) (fun h17 => ?_)
  · have h18 : (k : Int) < (l.length : Int) := of_decide_eq_true h17
    refine c_skip ?_
    refine hK16 _ _ ?_
    refine c_seq fun K19 hK20 => ?_
    refine c_block ?_
    refine c_seq fun K21 hK22 => ?_
    refine c_reg ?_
    refine st rfl (x_move (v := Value.int .i64 (k : Int)) (ev_tmp rfl rfl)) ?_
    refine st rfl (x_assign (v := Value.int .i64 (k : Int)) (ev_tmp rfl rfl)) ?_
    refine s_nil ?_
    refine hK22 _ _ ?_
    refine c_seq fun K23 hK24 => ?_
    refine c_reg ?_
    refine st rfl (x_move (v := Value.func (.func 32) #[] #[]) (ev_tmp rfl rfl)) ?_
    refine st rfl (x_move (v := Value.slice A l.length c) (ev_tmp rfl rfl)) ?_
    refine st rfl (x_move (v := Value.int .i64 (k : Int)) (ev_tmp rfl rfl)) ?_
    obtain ⟨x29, hx28⟩ : ∃ x, l[k]? = some x := ⟨_, List.getElem?_eq_getElem (by omega)⟩
    obtain ⟨g25, o26, hA27⟩ := M12.roat (i := 0) rfl hx28
    refine st rfl (x_elemA (b := g25) (o := o26) (k := k) ea_22 (ev_tmp rfl rfl) hA27 (ev_tmp rfl rfl) rfl (by omega)) ?_
    refine st rfl (x_loadw (cs := [Value.string x29.b, Value.string x29.s, Value.string x29.p, Value.int .i64 x29.q, Value.int .i64 x29.r, Value.bool x29.bo, Value.bool x29.so, Value.int .u8 x29.st]) Try.underlying34 rfl sz_34 (ev_tmp rfl rfl) (M12.rorange (i := 0) rfl hA27 hx28 (f := 0) ⟨rfl, rfl, rfl, rfl, rfl, rfl, rfl, rfl, trivial⟩)) ?_
    refine sC rfl (x_callL (xs := [.tmp 15]) (vs := [Value.agg #[Value.string x29.b, Value.string x29.s, Value.string x29.p, Value.int .i64 x29.q, Value.int .i64 x29.r, Value.bool x29.bo, Value.bool x29.so, Value.int .u8 x29.st]]) (cap := []) ent_32 (ev_tmp rfl rfl) ⟨(ev_tmp rfl rfl), trivial⟩) (bad_c x29 _) ?_
    rintro _ w30 ⟨rfl, hb32⟩
    refine ⟨_, rfl, ?_⟩
    have M31 := M12.call hb32
    refine s_nil ?_
    refine hK24 _ _ ?_
    refine c_cond (b := !(rightB x29)) (ev_tmp rfl rfl) (fun h33 => ?_) (fun h33 => ?_)
    · have h34 : rightB x29 = false := not_t h33
      refine c_seq fun K35 hK36 => ?_
      refine c_reg ?_
      refine st rfl (x_move (v := Value.int .i64 (k : Int)) (ev_tmp rfl rfl)) ?_
      refine st rfl (x_assign (v := Value.int .i64 (k : Int)) (ev_tmp rfl rfl)) ?_
      refine s_nil ?_
      refine hK36 _ _ ?_
      refine c_ret ?_
      refine hT3 _ _ ?_
      refine r1 rfl (ev_tmp (v := Value.int .i64 (k : Int)) rfl rfl) ?_
      exact ⟨_, rfl, idx_bad k hx28 (not_t h33), M31.below⟩
    · have h37 : rightB x29 = true := not_f h33
      refine c_skip ?_
      refine hK20 _ _ ?_
      refine c_reg ?_
      have hw38 : IntKind.i64.wrap ((k : Int) + 1) = (k : Int) + 1 := w64 (by rfl) (by omega) (by omega)
      refine st rfl (x_add_eq (p := (k : Int)) (q := 1) (ev_tmp rfl rfl) rfl hw38) ?_
      refine st rfl (x_move (v := Value.int .i64 ((k : Int) + 1)) (ev_tmp rfl rfl)) ?_
      refine s_nil ?_
      exact ⟨_, _, (by omega : l.length - (k + 1) < l.length - k), fr_held (live := [(0, Value.slice A l.length c), (1, Value.func (.func 32) #[] #[]), (7, Value.int .i64 (l.length : Int)), (8, Value.int .i64 (((k + 1) : Nat) : Int))]) ⟨rfl, rfl, rfl, (congrArg (Value.int .i64) (by omega)), trivial⟩, (k + 1), _, rfl, rfl, M31, (by omega), (take_ok k hx28 hall (not_f h33))⟩
  · have h39 : ¬ ((k : Int) < (l.length : Int)) := of_decide_eq_false h17
    refine c_exit ?_
    refine xb_here ?_
    refine hK7 _ _ ?_
    refine c_seq fun K40 hK41 => ?_
    refine c_reg ?_
    refine st rfl (x_assign (v := Value.int .i64 (-1)) rfl) ?_
    refine s_nil ?_
    refine hK41 _ _ ?_
    refine c_ret ?_
    refine hT3 _ _ ?_
    refine r1 rfl (ev_tmp (v := Value.int .i64 (-1)) rfl rfl) ?_
    exact ⟨_, rfl, idx_good l k (by omega) hall, M12.below⟩

set_option maxHeartbeats 1000000 in
set_option maxRecDepth 20000 in
theorem contains_c (A : Option Addr) (c : Nat) (l : List Trade) (w : World) (hs : SlB 0 w.heap.size w A c 8 Trade.cells l) :
    Calls Try.prog 34 #[Value.slice A l.length c, Value.func (.func 32) #[] #[]] w fun e w' => e = .returned (.bool (!l.all rightB)) ∧ Below w.heap.size w w' := by
  have M0 := Mem.start w []
  have M1 := M0.see (Ro.sl 0 w.heap.size A c 8 Trade.cells l) (hs) (Nat.le_refl _)
  refine enter (args := [Value.slice A l.length c, Value.func (.func 32) #[] #[]]) Try.func34 rfl (n := 9) rfl rfl fun T2 hT3 => ?_
  refine c_seq fun K4 hK5 => ?_
  refine c_reg ?_
  refine st rfl (x_assign (v := Value.bool false) rfl) ?_
  refine s_nil ?_
  refine hK5 _ _ ?_
  refine c_seq fun K6 hK7 => ?_
  refine c_reg ?_
  refine st rfl (x_move (v := Value.slice A l.length c) (ev_tmp rfl rfl)) ?_
  refine st rfl (x_move (v := Value.func (.func 32) #[] #[]) (ev_tmp rfl rfl)) ?_
  refine sC rfl (x_callL (xs := [.tmp 5, .tmp 6]) (vs := [Value.slice A l.length c, Value.func (.func 32) #[] #[]]) (cap := []) ent_48 rfl ⟨(ev_tmp rfl rfl), (ev_tmp rfl rfl), trivial⟩) (index_c _ _ l _ (M1.slw (i := 0) rfl)) ?_
  rintro _ w9 ⟨r8, rfl, hr10, hb11⟩
  refine ⟨_, rfl, ?_⟩
  have M12 := M1.call hb11
  refine st rfl (x_geq (p := r8) (q := 0) (ev_tmp rfl rfl) rfl) ?_
  refine st rfl (x_assign (v := Value.bool (decide ((0 : Int) ≤ r8))) (ev_tmp rfl rfl)) ?_
  refine s_nil ?_
  refine hK7 _ _ ?_
  refine c_ret ?_
  refine hT3 _ _ ?_
  refine r1 rfl (ev_tmp (v := Value.bool (decide ((0 : Int) ≤ r8))) rfl rfl) ?_
  exact ⟨ret_bool hr10, M12.below⟩

set_option maxHeartbeats 1000000 in
set_option maxRecDepth 20000 in
theorem check_c (A : Option Addr) (c : Nat) (l : List Trade) (w : World) (hs : SlB 0 w.heap.size w A c 8 Trade.cells l) :
    Calls Try.prog 13 #[Value.agg #[Value.slice A l.length c]] w fun e w' => e = .returned (.int .i64 (chk l)) ∧ Below w.heap.size w w' := by
  have M0 := Mem.start w []
  have M1 := M0.see (Ro.sl 0 w.heap.size A c 8 Trade.cells l) (hs) (Nat.le_refl _)
  refine enter (args := [Value.agg #[Value.slice A l.length c]]) Try.func13 rfl (n := 14) rfl rfl fun T2 hT3 => ?_
  refine c_seq fun K4 hK5 => ?_
  refine c_reg ?_
  refine snew (cs := #[Value.slice A l.length c]) M1 rfl (x_box (v := Value.agg #[Value.slice A l.length c]) (ev_tmp rfl rfl)) fun b6 w7 M8 => ?_
  refine st rfl (x_assign (v := Value.int .i64 0) rfl) ?_
  refine s_nil ?_
  refine hK5 _ _ ?_
  refine c_seq fun K9 hK10 => ?_
  refine c_reg ?_
  refine st rfl (x_assign (v := Value.func (.func 32) #[] #[]) rfl) ?_
  refine s_nil ?_
  refine hK10 _ _ ?_
  refine c_seq fun K11 hK12 => ?_
  refine c_seq fun K13 hK14 => ?_
  refine c_reg ?_
  refine st rfl (x_fieldv (b := b6) (o := 0) (q := 0) fa_24_0 (ev_tmp rfl rfl) rfl) ?_
  refine st rfl (x_load1 (v := Value.slice A l.length c) Try.underlying22 rfl (ev_tmp rfl rfl) (M8.cell (i := 0) (o := 0) rfl rfl)) ?_
  refine st rfl (x_lensl (n := l.length) Try.underlying22 (ev_tmp rfl rfl)) ?_
  refine st rfl (x_gtr (p := (l.length : Int)) (q := 200) (ev_tmp rfl rfl) rfl) ?_
  refine st rfl (x_move (v := Value.bool (decide ((200 : Int) < (l.length : Int)))) (ev_tmp rfl rfl)) ?_
  refine s_meet5 fun K15 hK16 => ?_
  have J17 : ∀ jk w1, Mem w [] w1 [Own.cells b6 24 #[Value.slice A l.length c]] [Ro.sl 0 w.heap.size A c 8 Trade.cells l] → K15 (fr 14 ([(13, Value.bool ((decide ((200 : Int) < (l.length : Int))) || (!(l.all rightB)))), (2, Value.int .i64 0), (8, Value.bool (decide ((200 : Int) < (l.length : Int))))] ++ jk)) w1 := by
    intro jk w23 M24
    refine hK16 _ _ ?_
    clear hK16
    refine s_nil ?_
    refine hK14 _ _ ?_
    refine c_cond (b := (decide ((200 : Int) < (l.length : Int))) || (!(l.all rightB))) (ev_tmp rfl rfl) (fun h25 => ?_) (fun h25 => ?_)
    · have h26 : ((decide ((200 : Int) < (l.length : Int))) || (!(l.all rightB))) = true := h25
      refine c_seq fun K27 hK28 => ?_
      refine c_reg ?_
      refine st rfl (x_assign (v := Value.int .i64 8) rfl) ?_
      refine s_nil ?_
      refine hK28 _ _ ?_
      refine c_ret ?_
      refine hT3 _ _ ?_
      refine r1 rfl (ev_tmp (v := Value.int .i64 8) rfl rfl) ?_
      exact ⟨ret_int (chk_bad l h25), M24.below⟩
    · have h29 : ¬ ((200 : Int) < (l.length : Int)) := of_decide_eq_false (or_l h25)
      have h30 : l.all rightB = true := not_f (or_r h25)
      refine c_skip ?_
      refine hK12 _ _ ?_
      refine c_seq fun K31 hK32 => ?_
      refine c_reg ?_
      refine st rfl (x_assign (v := Value.int .i64 0) rfl) ?_
      refine s_nil ?_
      refine hK32 _ _ ?_
      refine c_ret ?_
      refine hT3 _ _ ?_
      refine r1 rfl (ev_tmp (v := Value.int .i64 0) rfl rfl) ?_
      exact ⟨ret_int (chk_good l h25), M24.below⟩
  clear hK16
  rcases bcase (decide ((200 : Int) < (l.length : Int))) with hg18 | hg18
  · have h19 : ¬ ((200 : Int) < (l.length : Int)) := of_decide_eq_false hg18
    refine gt rfl rfl rfl (congrArg Value.bool hg18) (x_fieldv (b := b6) (o := 0) (q := 0) fa_24_0 (ev_tmp rfl rfl) rfl) ?_
    refine gt rfl rfl rfl (congrArg Value.bool hg18) (x_load1 (v := Value.slice A l.length c) Try.underlying22 rfl (ev_tmp rfl rfl) (M8.cell (i := 0) (o := 0) rfl rfl)) ?_
    refine gt rfl rfl rfl (congrArg Value.bool hg18) (x_move (v := Value.func (.func 32) #[] #[]) (ev_tmp rfl rfl)) ?_
    refine gC rfl rfl rfl (congrArg Value.bool hg18) (x_callL (xs := [.tmp 10, .tmp 11]) (vs := [Value.slice A l.length c, Value.func (.func 32) #[] #[]]) (cap := []) ent_34 rfl ⟨(ev_tmp rfl rfl), (ev_tmp rfl rfl), trivial⟩) (contains_c _ _ l _ (M8.slw (i := 0) rfl)) ?_
    rintro _ w20 ⟨rfl, hb22⟩
    refine ⟨_, rfl, ?_⟩
    have M21 := M8.call hb22
    refine st rfl (x_pick_f (v := Value.bool (!(l.all rightB))) (ev_tmp rfl (congrArg Value.bool hg18)) (ev_tmp rfl rfl)) ?_
    refine s_nil ?_
    exact j_to (fun jk => J17 jk _ M21) ⟨(congrArg Value.bool (or_f hg18)), rfl, rfl, trivial⟩
  · refine gf (b' := true) rfl rfl rfl (congrArg Value.bool hg18) rfl ?_
    refine gf (b' := true) rfl rfl rfl (congrArg Value.bool hg18) rfl ?_
    refine gf (b' := true) rfl rfl rfl (congrArg Value.bool hg18) rfl ?_
    refine gf (b' := true) rfl rfl rfl (congrArg Value.bool hg18) rfl ?_
    refine st rfl (x_pick_t (v := Value.bool true) (ev_tmp rfl (congrArg Value.bool hg18)) rfl) ?_
    refine s_nil ?_
    exact j_to (fun jk => J17 jk _ M8) ⟨(congrArg Value.bool (or_t hg18)), rfl, rfl, trivial⟩

set_option maxHeartbeats 1000000 in
set_option maxRecDepth 20000 in
theorem check_r (A : Option Addr) (c : Nat) (l : List Trade) (w : World) (hs : SlB 0 w.heap.size w A c 8 Trade.cells l) :
    Calls Try.prog 30 #[Value.agg #[Value.slice A l.length c]] w fun e w' => e = .returned (.int .i64 (chk l)) ∧ Below w.heap.size w w' := by
  have M0 := Mem.start w []
  have M1 := M0.see (Ro.sl 0 w.heap.size A c 8 Trade.cells l) (hs) (Nat.le_refl _)
  refine enter (args := [Value.agg #[Value.slice A l.length c]]) Try.func30 rfl (n := 22) rfl rfl fun T2 hT3 => ?_
  refine c_seq fun K4 hK5 => ?_
  refine c_reg ?_
  refine snew (cs := #[Value.slice A l.length c]) M1 rfl (x_box (v := Value.agg #[Value.slice A l.length c]) (ev_tmp rfl rfl)) fun b6 w7 M8 => ?_
  refine st rfl (x_assign (v := Value.int .i64 0) rfl) ?_
  refine s_nil ?_
  refine hK5 _ _ ?_
  refine c_seq fun K9 hK10 => ?_
  refine c_seq fun K11 hK12 => ?_
  refine c_reg ?_
  refine st rfl (x_fieldv (b := b6) (o := 0) (q := 0) fa_24_0 (ev_tmp rfl rfl) rfl) ?_
  refine st rfl (x_load1 (v := Value.slice A l.length c) Try.underlying22 rfl (ev_tmp rfl rfl) (M8.cell (i := 0) (o := 0) rfl rfl)) ?_
  refine st rfl (x_lensl (n := l.length) Try.underlying22 (ev_tmp rfl rfl)) ?_
  refine st rfl (x_gtr (p := (l.length : Int)) (q := 200) (ev_tmp rfl rfl) rfl) ?_
  refine s_nil ?_
  refine hK12 _ _ ?_
  refine c_cond (b := decide ((200 : Int) < (l.length : Int))) (ev_tmp rfl rfl) (fun h13 => ?_) (fun h13 => ?_)
  · have h14 : (200 : Int) < (l.length : Int) := of_decide_eq_true h13
    refine c_seq fun K15 hK16 => ?_
    refine c_reg ?_
    refine st rfl (x_assign (v := Value.int .i64 8) rfl) ?_
    refine s_nil ?_
    refine hK16 _ _ ?_
    refine c_ret ?_
    refine hT3 _ _ ?_
    refine r1 rfl (ev_tmp (v := Value.int .i64 8) rfl rfl) ?_
    exact ⟨ret_int (chk_long l (of_decide_eq_true h13)), M8.below⟩
  · have h17 : ¬ ((200 : Int) < (l.length : Int)) := of_decide_eq_false h13
    refine c_skip ?_
    refine hK10 _ _ ?_
    refine c_seq fun K18 hK19 => ?_
    refine c_seq fun K20 hK21 => ?_
    refine c_reg ?_
    refine st rfl (x_assign (v := Value.int .i64 0) rfl) ?_
    refine s_nil ?_
    refine hK21 _ _ ?_
    refine c_block ?_
    refine c_loopH (live := [(1, Value.pointer (some ⟨b6, 0, none⟩)), (3, Value.int .i64 0)]) ⟨rfl, rfl, trivial⟩ (fun mm ll w1 => ∃ (k : Nat) (jk : List (Nat × Value)), mm = l.length - k ∧ ll = [(1, Value.pointer (some ⟨b6, 0, none⟩)), (3, Value.int .i64 (k : Int))] ++ jk ∧ Mem w [] w1 [Own.cells b6 24 #[Value.slice A l.length c]] [Ro.sl 0 w.heap.size A c 8 Trade.cells l] ∧ (k ≤ l.length) ∧ ((l.take k).all rightB = true)) ⟨0, _, rfl, rfl, M8, (by omega), (by simp)⟩ fun mm ll w1 hI22 => ?_
    obtain ⟨k, jk, rfl, rfl, M24, hk, hall⟩ := hI22
    obtain ⟨w23, rfl⟩ : ∃ x, x = w1 := ⟨_, rfl⟩
    refine c_seq fun K25 hK26 => ?_
    refine c_seq fun K27 hK28 => ?_
    refine c_reg ?_
    refine st rfl (x_move (v := Value.int .i64 (k : Int)) (ev_tmp rfl rfl)) ?_
    refine st rfl (x_fieldv (b := b6) (o := 0) (q := 0) fa_24_0 (ev_tmp rfl rfl) rfl) ?_
    refine st rfl (x_load1 (v := Value.slice A l.length c) Try.underlying22 rfl (ev_tmp rfl rfl) (M24.cell (i := 0) (o := 0) rfl rfl)) ?_
    refine st rfl (x_lensl (n := l.length) Try.underlying22 (ev_tmp rfl rfl)) ?_
    refine st rfl (x_lss (p := (k : Int)) (q := (l.length : Int)) (ev_tmp rfl rfl) (ev_tmp rfl rfl)) ?_
    refine s_nil ?_
    refine hK28 _ _ ?_
    refine c_cond (b := decide ((k : Int) < (l.length : Int))) (ev_tmp rfl rfl) (fun h29 => ?_) (fun h29 => ?_)
    · have h30 : (k : Int) < (l.length : Int) := of_decide_eq_true h29
      refine c_skip ?_
      refine hK26 _ _ ?_
      refine c_seq fun K31 hK32 => ?_
      refine c_block ?_
      refine c_seq fun K33 hK34 => ?_
      refine c_reg ?_
      refine st rfl (x_fieldv (b := b6) (o := 0) (q := 0) fa_24_0 (ev_tmp rfl rfl) rfl) ?_
      refine st rfl (x_load1 (v := Value.slice A l.length c) Try.underlying22 rfl (ev_tmp rfl rfl) (M24.cell (i := 0) (o := 0) rfl rfl)) ?_
      refine st rfl (x_move (v := Value.int .i64 (k : Int)) (ev_tmp rfl rfl)) ?_
      obtain ⟨x39, hx38⟩ : ∃ x, l[k]? = some x := ⟨_, List.getElem?_eq_getElem (by omega)⟩
      obtain ⟨g35, o36, hA37⟩ := M24.roat (i := 0) rfl hx38
      refine st rfl (x_elemA (b := g35) (o := o36) (k := k) ea_22 (ev_tmp rfl rfl) hA37 (ev_tmp rfl rfl) rfl (by omega)) ?_
      refine st rfl (x_loadw (cs := [Value.string x39.b, Value.string x39.s, Value.string x39.p, Value.int .i64 x39.q, Value.int .i64 x39.r, Value.bool x39.bo, Value.bool x39.so, Value.int .u8 x39.st]) Try.underlying34 rfl sz_34 (ev_tmp rfl rfl) (M24.rorange (i := 0) rfl hA37 hx38 (f := 0) ⟨rfl, rfl, rfl, rfl, rfl, rfl, rfl, rfl, trivial⟩)) ?_
      refine sC rfl (x_callL (xs := [.tmp 19]) (vs := [Value.agg #[Value.string x39.b, Value.string x39.s, Value.string x39.p, Value.int .i64 x39.q, Value.int .i64 x39.r, Value.bool x39.bo, Value.bool x39.so, Value.int .u8 x39.st]]) (cap := []) ent_47 rfl ⟨(ev_tmp rfl rfl), trivial⟩) (right_r x39 _) ?_
      rintro _ w40 ⟨rfl, hb42⟩
      refine ⟨_, rfl, ?_⟩
      have M41 := M24.call hb42
      refine st rfl (x_not (b := (rightB x39)) (ev_tmp rfl rfl)) ?_
      refine s_nil ?_
      refine hK34 _ _ ?_
      refine c_cond (b := !(rightB x39)) (ev_tmp rfl rfl) (fun h43 => ?_) (fun h43 => ?_)
      · have h44 : rightB x39 = false := not_t h43
        refine c_seq fun K45 hK46 => ?_
        refine c_reg ?_
        refine st rfl (x_assign (v := Value.int .i64 8) rfl) ?_
        refine s_nil ?_
        refine hK46 _ _ ?_
        refine c_ret ?_
        refine hT3 _ _ ?_
        refine r1 rfl (ev_tmp (v := Value.int .i64 8) rfl rfl) ?_
        exact ⟨ret_int (chk_at l k hx38 (not_t h43)), M41.below⟩
      · have h47 : rightB x39 = true := not_f h43
        refine c_skip ?_
        refine hK32 _ _ ?_
        refine c_reg ?_
        refine st rfl (x_move (v := Value.int .i64 (k : Int)) (ev_tmp rfl rfl)) ?_
        have hw48 : IntKind.i64.wrap ((k : Int) + 1) = (k : Int) + 1 := w64 (by rfl) (by omega) (by omega)
        refine st rfl (x_add_eq (p := (k : Int)) (q := 1) (ev_tmp rfl rfl) rfl hw48) ?_
        refine st rfl (x_assign (v := Value.int .i64 ((k : Int) + 1)) (ev_tmp rfl rfl)) ?_
        refine s_nil ?_
        exact ⟨_, _, (by omega : l.length - (k + 1) < l.length - k), fr_held (live := [(1, Value.pointer (some ⟨b6, 0, none⟩)), (3, Value.int .i64 (((k + 1) : Nat) : Int))]) ⟨rfl, (congrArg (Value.int .i64) (by omega)), trivial⟩, (k + 1), _, rfl, rfl, M41, (by omega), (take_ok k hx38 hall (not_f h43))⟩
    · have h49 : ¬ ((k : Int) < (l.length : Int)) := of_decide_eq_false h29
      refine c_exit ?_
      refine xb_here ?_
      refine hK19 _ _ ?_
      refine c_seq fun K50 hK51 => ?_
      refine c_reg ?_
      refine st rfl (x_assign (v := Value.int .i64 0) rfl) ?_
      refine s_nil ?_
      refine hK51 _ _ ?_
      refine c_ret ?_
      refine hT3 _ _ ?_
      refine r1 rfl (ev_tmp (v := Value.int .i64 0) rfl rfl) ?_
      exact ⟨ret_int (chk_all l k (by omega) (by omega) hall), M24.below⟩

end Go.Proofs.Ytkimdlpfbojkgaa
