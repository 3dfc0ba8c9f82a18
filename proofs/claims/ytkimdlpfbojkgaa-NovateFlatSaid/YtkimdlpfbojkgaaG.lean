/- Contracts: the three changes of a trade. -/
import Derived.Test.YtkimdlpfbojkgaaD
namespace Go.Proofs.Ytkimdlpfbojkgaa
open Go.RowKit
def askE (t : Trade) (y : ByteArray) : Int := if t.st = 0 then (if y.data.toList = t.b.data.toList ∨ y.data.toList = t.s.data.toList then 0 else 2) else 20
theorem ask1 {t : Trade} {y : ByteArray} (h : (!decide (t.st = 0)) = true) : 20 = askE t y := by unfold askE; rw [if_neg (of_decide_eq_false (not_t h))]
theorem ask2 {t : Trade} {y : ByteArray} (h : (!decide (t.st = 0)) = false) (h2 : ((!decide (y.data.toList = t.b.data.toList)) && (!decide (y.data.toList = t.s.data.toList))) = true) : 2 = askE t y := by
  unfold askE
  have h3 := of_decide_eq_false (not_t (and_l h2))
  have h4 := of_decide_eq_false (not_t (and_r h2))
  rw [if_pos (of_decide_eq_true (not_f h)), if_neg (by rintro (h | h) <;> contradiction)]
theorem ask3 {t : Trade} {y : ByteArray} (h : (!decide (t.st = 0)) = false) (h2 : ((!decide (y.data.toList = t.b.data.toList)) && (!decide (y.data.toList = t.s.data.toList))) = false) : 0 = askE t y := by
  unfold askE
  rw [Bool.and_eq_false_iff] at h2
  rw [if_pos (of_decide_eq_true (not_f h)), if_pos]
  rcases h2 with h2 | h2
  · exact .inl (of_decide_eq_true (not_f h2))
  · exact .inr (of_decide_eq_true (not_f h2))
/-- What each change makes of a trade, and its error. -/
def undoF (t : Trade) : Trade × Int := if t.st = 1 then ({ t with st := 3 }, 0) else (t, 20)
def refF (y : ByteArray) (t : Trade) : Trade × Int := if askE t y = 0 then ({ t with st := 2 }, 0) else (t, askE t y)
def confF (y : ByteArray) (t : Trade) : Trade × Int :=
  if askE t y = 0 then
    if y.data.toList = t.s.data.toList then (if t.so then (t, 24) else (if t.bo then { t with so := true, st := 1 } else { t with so := true }, 0))
    else (if t.bo then (t, 24) else (if t.so then { t with bo := true, st := 1 } else { t with bo := true }, 0))
  else (t, askE t y)
set_option maxHeartbeats 1000000 in
set_option maxRecDepth 20000 in
theorem asked_c (g o : Nat) (t : Trade) (y : ByteArray) (w : World) (hp : Pt w g o (Trade.cells t)) :
    Calls Try.prog 39 #[Value.pointer (some ⟨g, o, none⟩), Value.string y] w fun e w' => e = .returned (.int .i64 (askE t y)) ∧ Below w.heap.size w w' := by
  have M0 := Mem.start w []
  have M1 := M0.see (Ro.pt g o (Trade.cells t)) (hp) (hp.1)
  refine enter (args := [Value.pointer (some ⟨g, o, none⟩), Value.string y]) Try.func39 rfl (n := 24) rfl rfl fun T2 hT3 => ?_
  refine c_seq fun K4 hK5 => ?_
  refine c_reg ?_
  refine st rfl (x_assign (v := Value.int .i64 0) rfl) ?_
  refine s_nil ?_
  refine hK5 _ _ ?_
  refine c_seq fun K6 hK7 => ?_
  refine c_seq fun K8 hK9 => ?_
  refine c_reg ?_
  refine st rfl (x_move (v := Value.pointer (some ⟨g, o, none⟩)) (ev_tmp rfl rfl)) ?_
  refine st rfl (x_nilCheck (ev_tmp rfl rfl)) ?_
  refine st rfl (x_fieldv (b := g) (o := o) (q := (o + 7)) fa_34_7 (ev_tmp rfl rfl) rfl) ?_
  refine st rfl (x_load1 (v := Value.int .u8 t.st) Try.underlying5 rfl (ev_tmp rfl rfl) (M1.ptcell (i := 0) rfl (j := 7) rfl)) ?_
  refine st rfl (x_neq (p := t.st) (q := 0) (ev_tmp rfl rfl) rfl) ?_
  refine s_nil ?_
  refine hK9 _ _ ?_
  refine c_cond (b := !(decide (t.st = 0))) (ev_tmp rfl rfl) (fun h10 => ?_) (fun h10 => ?_)
  · have h11 : ¬ (t.st = 0) := of_decide_eq_false (not_t h10)
    refine c_seq fun K12 hK13 => ?_
    refine c_reg ?_
    refine st rfl (x_assign (v := Value.int .i64 20) rfl) ?_
    refine s_nil ?_
    refine hK13 _ _ ?_
    refine c_ret ?_
    refine hT3 _ _ ?_
    refine r1 rfl (ev_tmp (v := Value.int .i64 20) rfl rfl) ?_
    exact ⟨ret_int (ask1 h10), M1.below⟩
  · have h14 : t.st = 0 := of_decide_eq_true (not_f h10)
    refine c_skip ?_
    refine hK7 _ _ ?_
    refine c_seq fun K15 hK16 => ?_
    refine c_seq fun K17 hK18 => ?_
    refine c_reg ?_
    refine st rfl (x_move (v := Value.string y) (ev_tmp rfl rfl)) ?_
    refine st rfl (x_move (v := Value.pointer (some ⟨g, o, none⟩)) (ev_tmp rfl rfl)) ?_
    refine st rfl (x_nilCheck (ev_tmp rfl rfl)) ?_
    refine st rfl (x_fieldv (b := g) (o := o) (q := (o + 0)) fa_34_0 (ev_tmp rfl rfl) rfl) ?_
    refine st rfl (x_load1 (v := Value.string t.b) Try.underlying9 rfl (ev_tmp rfl rfl) (M1.ptcell (i := 0) rfl (j := 0) rfl)) ?_
    refine st rfl (x_nes (p := y) (q := t.b) (ev_tmp rfl rfl) (ev_tmp rfl rfl)) ?_
    refine st rfl (x_move (v := Value.bool (!(decide (y.data.toList = t.b.data.toList)))) (ev_tmp rfl rfl)) ?_
    refine s_meet7 fun K19 hK20 => ?_
    have J21 : ∀ jk, K19 (fr 24 ([(23, Value.bool ((!(decide (y.data.toList = t.b.data.toList))) && (!(decide (y.data.toList = t.s.data.toList))))), (4, Value.int .i64 0), (16, Value.bool (!(decide (y.data.toList = t.b.data.toList))))] ++ jk)) w := by
      intro jk
      refine hK20 _ _ ?_
      clear hK20
      refine s_nil ?_
      refine hK18 _ _ ?_
      refine c_cond (b := (!(decide (y.data.toList = t.b.data.toList))) && (!(decide (y.data.toList = t.s.data.toList)))) (ev_tmp rfl rfl) (fun h24 => ?_) (fun h24 => ?_)
      · have h25 : ¬ (y.data.toList = t.b.data.toList) := of_decide_eq_false (not_t (and_l h24))
        have h26 : ¬ (y.data.toList = t.s.data.toList) := of_decide_eq_false (not_t (and_r h24))
        refine c_seq fun K27 hK28 => ?_
        refine c_reg ?_
        refine st rfl (x_assign (v := Value.int .i64 2) rfl) ?_
        refine s_nil ?_
        refine hK28 _ _ ?_
        refine c_ret ?_
        refine hT3 _ _ ?_
        refine r1 rfl (ev_tmp (v := Value.int .i64 2) rfl rfl) ?_
        exact ⟨ret_int (ask2 h10 h24), M1.below⟩
      · have h29 : ((!(decide (y.data.toList = t.b.data.toList))) && (!(decide (y.data.toList = t.s.data.toList)))) = false := h24
        refine c_skip ?_
        refine hK16 _ _ ?_
        refine c_seq fun K30 hK31 => ?_
        refine c_reg ?_
        refine st rfl (x_assign (v := Value.int .i64 0) rfl) ?_
        refine s_nil ?_
        refine hK31 _ _ ?_
        refine c_ret ?_
        refine hT3 _ _ ?_
        refine r1 rfl (ev_tmp (v := Value.int .i64 0) rfl rfl) ?_
        exact ⟨ret_int (ask3 h10 h24), M1.below⟩
    clear hK20
    rcases bcase (!(decide (y.data.toList = t.b.data.toList))) with hg22 | hg22
    · refine gf (b' := false) rfl rfl rfl (congrArg Value.bool hg22) rfl ?_
      refine gf (b' := false) rfl rfl rfl (congrArg Value.bool hg22) rfl ?_
      refine gf (b' := false) rfl rfl rfl (congrArg Value.bool hg22) rfl ?_
      refine gf (b' := false) rfl rfl rfl (congrArg Value.bool hg22) rfl ?_
      refine gf (b' := false) rfl rfl rfl (congrArg Value.bool hg22) rfl ?_
      refine gf (b' := false) rfl rfl rfl (congrArg Value.bool hg22) rfl ?_
      refine st rfl (x_pick_f (v := Value.bool false) (ev_tmp rfl (congrArg Value.bool hg22)) rfl) ?_
      refine s_nil ?_
      exact j_to J21 ⟨(congrArg Value.bool (and_f hg22)), rfl, rfl, trivial⟩
    · have h23 : ¬ (y.data.toList = t.b.data.toList) := of_decide_eq_false (not_t hg22)
      refine gt rfl rfl rfl (congrArg Value.bool hg22) (x_move (v := Value.string y) (ev_tmp rfl rfl)) ?_
      refine gt rfl rfl rfl (congrArg Value.bool hg22) (x_move (v := Value.pointer (some ⟨g, o, none⟩)) (ev_tmp rfl rfl)) ?_
      refine gt rfl rfl rfl (congrArg Value.bool hg22) (x_nilCheck (ev_tmp rfl rfl)) ?_
      refine gt rfl rfl rfl (congrArg Value.bool hg22) (x_fieldv (b := g) (o := o) (q := (o + 1)) fa_34_1 (ev_tmp rfl rfl) rfl) ?_
      refine gt rfl rfl rfl (congrArg Value.bool hg22) (x_load1 (v := Value.string t.s) Try.underlying9 rfl (ev_tmp rfl rfl) (M1.ptcell (i := 0) rfl (j := 1) rfl)) ?_
      refine gt rfl rfl rfl (congrArg Value.bool hg22) (x_nes (p := y) (q := t.s) (ev_tmp rfl rfl) (ev_tmp rfl rfl)) ?_
      refine st rfl (x_pick_t (v := Value.bool (!(decide (y.data.toList = t.s.data.toList)))) (ev_tmp rfl (congrArg Value.bool hg22)) (ev_tmp rfl rfl)) ?_
      refine s_nil ?_
      exact j_to J21 ⟨(congrArg Value.bool (and_t hg22)), rfl, rfl, trivial⟩

set_option maxHeartbeats 1000000 in
set_option maxRecDepth 20000 in
theorem undo1_c (g o : Nat) (pre post : List Value) (t : Trade) (w : World) (hg : w.heap[g]? = some (.cells (pre ++ Trade.cells t ++ post).toArray 34 (0, 0))) (ho : pre.length = o) :
    Calls Try.prog 40 #[Value.pointer (some ⟨g, o, none⟩)] w fun e w' => e = .returned (.int .i64 (undoF t).2) ∧ Kept w w' [g] ∧ w'.heap[g]? = some (.cells (pre ++ Trade.cells (undoF t).1 ++ post).toArray 34 (0, 0)) := by
  have M0 := Mem.start w [g]
  have M1 := M0.hold (Own.seg g 34 o pre #[Value.string t.b, Value.string t.s, Value.string t.p, Value.int .i64 t.q, Value.int .i64 t.r, Value.bool t.bo, Value.bool t.so, Value.int .u8 t.st] post) ⟨hg, ho⟩ (by intro q hq; injection hq with hq; simp [hq]) (by simp) (by simp)
  refine enter (args := [Value.pointer (some ⟨g, o, none⟩)]) Try.func40 rfl (n := 11) rfl rfl fun T2 hT3 => ?_
  refine c_seq fun K4 hK5 => ?_
  refine c_reg ?_
  refine st rfl (x_assign (v := Value.int .i64 0) rfl) ?_
  refine s_nil ?_
  refine hK5 _ _ ?_
  refine c_seq fun K6 hK7 => ?_
  refine c_seq fun K8 hK9 => ?_
  refine c_reg ?_
  refine st rfl (x_move (v := Value.pointer (some ⟨g, o, none⟩)) (ev_tmp rfl rfl)) ?_
  refine st rfl (x_nilCheck (ev_tmp rfl rfl)) ?_
  refine st rfl (x_fieldv (b := g) (o := o) (q := (o + 7)) fa_34_7 (ev_tmp rfl rfl) rfl) ?_
  refine st rfl (x_load1 (v := Value.int .u8 t.st) Try.underlying5 rfl (ev_tmp rfl rfl) (M1.segcell (i := 0) rfl (j := 7) rfl)) ?_
  refine st rfl (x_neq (p := t.st) (q := 1) (ev_tmp rfl rfl) rfl) ?_
  refine s_nil ?_
  refine hK9 _ _ ?_
  refine c_cond (b := !(decide (t.st = 1))) (ev_tmp rfl rfl) (fun h10 => ?_) (fun h10 => ?_)
  · have h11 : ¬ (t.st = 1) := of_decide_eq_false (not_t h10)
    refine c_seq fun K12 hK13 => ?_
    refine c_reg ?_
    refine st rfl (x_assign (v := Value.int .i64 20) rfl) ?_
    refine s_nil ?_
    refine hK13 _ _ ?_
    refine c_ret ?_
    refine hT3 _ _ ?_
    refine r1 rfl (ev_tmp (v := Value.int .i64 20) rfl rfl) ?_
    have hc : undoF t = (t, 20) := by simp_all [undoF]
    rw [hc]
    exact ⟨rfl, M1.kept, (M1.segok (i := 0) rfl).1⟩
  · have h14 : t.st = 1 := of_decide_eq_true (not_f h10)
    refine c_skip ?_
    refine hK7 _ _ ?_
    refine c_seq fun K15 hK16 => ?_
    refine c_reg ?_
    refine st rfl (x_move (v := Value.pointer (some ⟨g, o, none⟩)) (ev_tmp rfl rfl)) ?_
    refine st rfl (x_nilCheck (ev_tmp rfl rfl)) ?_
    refine st rfl (x_fieldv (b := g) (o := o) (q := (o + 7)) fa_34_7 (ev_tmp rfl rfl) rfl) ?_
    refine sseg (k := 0) (j := 7) (v := Value.int .u8 3) M1 rfl rfl (x_store1 (v := Value.int .u8 3) sz_5 rfl rfl (ev_tmp rfl rfl) rfl (M1.segcell (i := 0) rfl (j := 7) rfl) (M1.segfree (i := 0) rfl)) fun w17 M18 => ?_
    refine s_nil ?_
    refine hK16 _ _ ?_
    refine c_seq fun K19 hK20 => ?_
    refine c_reg ?_
    refine st rfl (x_assign (v := Value.int .i64 0) rfl) ?_
    refine s_nil ?_
    refine hK20 _ _ ?_
    refine c_ret ?_
    refine hT3 _ _ ?_
    refine r1 rfl (ev_tmp (v := Value.int .i64 0) rfl rfl) ?_
    have hc : undoF t = ({ t with st := 3 }, 0) := by simp_all [undoF]
    rw [hc]
    exact ⟨rfl, M18.kept, (M18.segok (i := 0) rfl).1⟩

set_option maxHeartbeats 1000000 in
set_option maxRecDepth 20000 in
theorem refuse1_c (g o : Nat) (pre post : List Value) (t : Trade) (b : Nat) (y : ByteArray) (w : World) (hg : w.heap[g]? = some (.cells (pre ++ Trade.cells t ++ post).toArray 34 (0, 0))) (ho : pre.length = o) (hb : Pt w b 0 [Value.string y]) (hne : b ≠ g) :
    Calls Try.prog 45 #[Value.pointer (some ⟨g, o, none⟩), Value.pointer (some ⟨b, 0, none⟩)] w fun e w' => e = .returned (.int .i64 (refF y t).2) ∧ Kept w w' [g] ∧ w'.heap[g]? = some (.cells (pre ++ Trade.cells (refF y t).1 ++ post).toArray 34 (0, 0)) := by
  have M0 := Mem.start w [g]
  have M1 := M0.see (Ro.pt b 0 [Value.string y]) (hb) (hb.1)
  have M2 := M1.hold (Own.seg g 34 o pre #[Value.string t.b, Value.string t.s, Value.string t.p, Value.int .i64 t.q, Value.int .i64 t.r, Value.bool t.bo, Value.bool t.so, Value.int .u8 t.st] post) ⟨hg, ho⟩ (by intro q hq; injection hq with hq; simp [hq]) (by simp) (by intro r hr q hq; injection hq with hq; simp only [List.mem_singleton] at hr; subst hr; subst hq; show _ < b ∨ b + 1 ≤ _; omega)
  refine enter (args := [Value.pointer (some ⟨g, o, none⟩), Value.pointer (some ⟨b, 0, none⟩)]) Try.func45 rfl (n := 14) rfl rfl fun T3 hT4 => ?_
  refine c_seq fun K5 hK6 => ?_
  refine c_reg ?_
  refine st rfl (x_assign (v := Value.int .i64 0) rfl) ?_
  refine s_nil ?_
  refine hK6 _ _ ?_
  refine c_seq fun K7 hK8 => ?_
  refine c_seq fun K9 hK10 => ?_
  refine c_reg ?_
  refine st rfl (x_move (v := Value.pointer (some ⟨g, o, none⟩)) (ev_tmp rfl rfl)) ?_
  refine st rfl (x_load1 (v := Value.string y) Try.underlying9 rfl (ev_tmp rfl rfl) (M2.ptcell (i := 0) rfl (j := 0) rfl)) ?_
  refine sC rfl (x_callL (xs := [.tmp 5, .tmp 6]) (vs := [Value.pointer (some ⟨g, o, none⟩), Value.string y]) (cap := []) ent_39 rfl ⟨(ev_tmp rfl rfl), (ev_tmp rfl rfl), trivial⟩) (asked_c _ _ t y _ (M2.segpt (i := 0) rfl)) ?_
  rintro _ w11 ⟨rfl, hb13⟩
  refine ⟨_, rfl, ?_⟩
  have M12 := M2.call hb13
  refine st rfl (x_assign (v := Value.int .i64 (askE t y)) (ev_tmp rfl rfl)) ?_
  refine s_nil ?_
  refine hK10 _ _ ?_
  refine c_seq fun K14 hK15 => ?_
  refine c_reg ?_
  refine st rfl (x_move (v := Value.int .i64 (askE t y)) (ev_tmp rfl rfl)) ?_
  refine st rfl (x_neq (p := (askE t y)) (q := 0) (ev_tmp rfl rfl) rfl) ?_
  refine s_nil ?_
  refine hK15 _ _ ?_
  refine c_cond (b := !(decide (askE t y = 0))) (ev_tmp rfl rfl) (fun h16 => ?_) (fun h16 => ?_)
  · have h17 : ¬ (askE t y = 0) := of_decide_eq_false (not_t h16)
    refine c_seq fun K18 hK19 => ?_
    refine c_reg ?_
    refine st rfl (x_move (v := Value.int .i64 (askE t y)) (ev_tmp rfl rfl)) ?_
    refine st rfl (x_assign (v := Value.int .i64 (askE t y)) (ev_tmp rfl rfl)) ?_
    refine s_nil ?_
    refine hK19 _ _ ?_
    refine c_ret ?_
    refine hT4 _ _ ?_
    refine r1 rfl (ev_tmp (v := Value.int .i64 (askE t y)) rfl rfl) ?_
    have hc : refF y t = (t, askE t y) := by simp_all [refF]
    rw [hc]
    exact ⟨rfl, M12.kept, (M12.segok (i := 0) rfl).1⟩
  · have h20 : askE t y = 0 := of_decide_eq_true (not_f h16)
    refine c_skip ?_
    refine hK8 _ _ ?_
    refine c_seq fun K21 hK22 => ?_
    refine c_reg ?_
    refine st rfl (x_move (v := Value.pointer (some ⟨g, o, none⟩)) (ev_tmp rfl rfl)) ?_
    refine st rfl (x_nilCheck (ev_tmp rfl rfl)) ?_
    refine st rfl (x_fieldv (b := g) (o := o) (q := (o + 7)) fa_34_7 (ev_tmp rfl rfl) rfl) ?_
    refine sseg (k := 0) (j := 7) (v := Value.int .u8 2) M12 rfl rfl (x_store1 (v := Value.int .u8 2) sz_5 rfl rfl (ev_tmp rfl rfl) rfl (M12.segcell (i := 0) rfl (j := 7) rfl) (M12.segfree (i := 0) rfl)) fun w23 M24 => ?_
    refine s_nil ?_
    refine hK22 _ _ ?_
    refine c_seq fun K25 hK26 => ?_
    refine c_reg ?_
    refine st rfl (x_assign (v := Value.int .i64 0) rfl) ?_
    refine s_nil ?_
    refine hK26 _ _ ?_
    refine c_ret ?_
    refine hT4 _ _ ?_
    refine r1 rfl (ev_tmp (v := Value.int .i64 0) rfl rfl) ?_
    have hc : refF y t = ({ t with st := 2 }, 0) := by simp_all [refF]
    rw [hc]
    exact ⟨rfl, M24.kept, (M24.segok (i := 0) rfl).1⟩

set_option maxHeartbeats 1000000 in
set_option maxRecDepth 20000 in
theorem confirm1_c (g o : Nat) (pre post : List Value) (t : Trade) (b : Nat) (y : ByteArray) (w : World) (hg : w.heap[g]? = some (.cells (pre ++ Trade.cells t ++ post).toArray 34 (0, 0))) (ho : pre.length = o) (hb : Pt w b 0 [Value.string y]) (hne : b ≠ g) :
    Calls Try.prog 38 #[Value.pointer (some ⟨g, o, none⟩), Value.pointer (some ⟨b, 0, none⟩)] w fun e w' => e = .returned (.int .i64 (confF y t).2) ∧ Kept w w' [g] ∧ w'.heap[g]? = some (.cells (pre ++ Trade.cells (confF y t).1 ++ post).toArray 34 (0, 0)) := by
  have M0 := Mem.start w [g]
  have M1 := M0.see (Ro.pt b 0 [Value.string y]) (hb) (hb.1)
  have M2 := M1.hold (Own.seg g 34 o pre #[Value.string t.b, Value.string t.s, Value.string t.p, Value.int .i64 t.q, Value.int .i64 t.r, Value.bool t.bo, Value.bool t.so, Value.int .u8 t.st] post) ⟨hg, ho⟩ (by intro q hq; injection hq with hq; simp [hq]) (by simp) (by intro r hr q hq; injection hq with hq; simp only [List.mem_singleton] at hr; subst hr; subst hq; show _ < b ∨ b + 1 ≤ _; omega)
  refine enter (args := [Value.pointer (some ⟨g, o, none⟩), Value.pointer (some ⟨b, 0, none⟩)]) Try.func38 rfl (n := 42) rfl rfl fun T3 hT4 => ?_
  refine c_seq fun K5 hK6 => ?_
  refine c_reg ?_
  refine st rfl (x_assign (v := Value.int .i64 0) rfl) ?_
  refine s_nil ?_
  refine hK6 _ _ ?_
  refine c_seq fun K7 hK8 => ?_
  refine c_seq fun K9 hK10 => ?_
  refine c_reg ?_
  refine st rfl (x_move (v := Value.pointer (some ⟨g, o, none⟩)) (ev_tmp rfl rfl)) ?_
  refine st rfl (x_load1 (v := Value.string y) Try.underlying9 rfl (ev_tmp rfl rfl) (M2.ptcell (i := 0) rfl (j := 0) rfl)) ?_
  refine sC rfl (x_callL (xs := [.tmp 6, .tmp 7]) (vs := [Value.pointer (some ⟨g, o, none⟩), Value.string y]) (cap := []) ent_39 rfl ⟨(ev_tmp rfl rfl), (ev_tmp rfl rfl), trivial⟩) (asked_c _ _ t y _ (M2.segpt (i := 0) rfl)) ?_
  rintro _ w11 ⟨rfl, hb13⟩
  refine ⟨_, rfl, ?_⟩
  have M12 := M2.call hb13
  refine st rfl (x_assign (v := Value.int .i64 (askE t y)) (ev_tmp rfl rfl)) ?_
  refine s_nil ?_
  refine hK10 _ _ ?_
  refine c_seq fun K14 hK15 => ?_
  refine c_reg ?_
  refine st rfl (x_move (v := Value.int .i64 (askE t y)) (ev_tmp rfl rfl)) ?_
  refine st rfl (x_neq (p := (askE t y)) (q := 0) (ev_tmp rfl rfl) rfl) ?_
  refine s_nil ?_
  refine hK15 _ _ ?_
  refine c_cond (b := !(decide (askE t y = 0))) (ev_tmp rfl rfl) (fun h16 => ?_) (fun h16 => ?_)
  · have h17 : ¬ (askE t y = 0) := of_decide_eq_false (not_t h16)
    refine c_seq fun K18 hK19 => ?_
    refine c_reg ?_
    refine st rfl (x_move (v := Value.int .i64 (askE t y)) (ev_tmp rfl rfl)) ?_
    refine st rfl (x_assign (v := Value.int .i64 (askE t y)) (ev_tmp rfl rfl)) ?_
    refine s_nil ?_
    refine hK19 _ _ ?_
    refine c_ret ?_
    refine hT4 _ _ ?_
    refine r1 rfl (ev_tmp (v := Value.int .i64 (askE t y)) rfl rfl) ?_
    have hc : confF y t = (t, askE t y) := by simp_all [confF]
    rw [hc]
    exact ⟨rfl, M12.kept, (M12.segok (i := 0) rfl).1⟩
  · have h20 : askE t y = 0 := of_decide_eq_true (not_f h16)
    refine c_skip ?_
    refine hK8 _ _ ?_
    refine c_seq fun K21 hK22 => ?_
    refine c_reg ?_
    refine st rfl (x_move (v := Value.pointer (some ⟨g, o, none⟩)) (ev_tmp rfl rfl)) ?_
    refine st rfl (x_nilCheck (ev_tmp rfl rfl)) ?_
    refine st rfl (x_fieldv (b := g) (o := o) (q := (o + 5)) fa_34_5 (ev_tmp rfl rfl) rfl) ?_
    refine st rfl (x_assign (v := Value.pointer (some ⟨g, o + 5, none⟩)) (ev_tmp rfl rfl)) ?_
    refine s_nil ?_
    refine hK22 _ _ ?_
    refine c_seq fun K23 hK24 => ?_
    refine c_seq fun K25 hK26 => ?_
    have M27 := M12.drew
    refine c_drawn (fun w1 => Mem w [g] w1 [Own.seg g 34 o pre #[Value.string t.b, Value.string t.s, Value.string t.p, Value.int .i64 t.q, Value.int .i64 t.r, Value.bool t.bo, Value.bool t.so, Value.int .u8 t.st] post] [Ro.pt b 0 [Value.string y]]) mixed ?_
    generalize w11.drew = w28 at M27 ⊢
    refine dT (i := 0) (v := Value.string y) rfl (by kernel_rfl) (by kernel_rfl) rfl M27 (fun _ hS => x_load1 (v := Value.string y) Try.underlying9 rfl (ev_tmp rfl rfl) (hS.ptcell (i := 0) rfl (j := 0) rfl)) ?_
    refine dT (i := 1) (v := Value.pointer (some ⟨g, o, none⟩)) rfl (by kernel_rfl) (by kernel_rfl) rfl M27 (fun _ hS => x_move (v := Value.pointer (some ⟨g, o, none⟩)) (ev_tmp rfl rfl)) ?_
    refine dT (i := 2) (v := Value.pointer (some ⟨g, o, none⟩)) rfl (by kernel_rfl) (by kernel_rfl) rfl M27 (fun _ hS => x_nilCheck (ev_tmp rfl rfl)) ?_
    refine dT (i := 3) (v := Value.pointer (some ⟨g, o + 1, none⟩)) rfl (by kernel_rfl) (by kernel_rfl) rfl M27 (fun _ hS => x_fieldv (b := g) (o := o) (q := (o + 1)) fa_34_1 (ev_tmp rfl rfl) rfl) ?_
    refine dT (i := 4) (v := Value.string t.s) rfl (by kernel_rfl) (by kernel_rfl) rfl M27 (fun _ hS => x_load1 (v := Value.string t.s) Try.underlying9 rfl (ev_tmp rfl rfl) (hS.segcell (i := 0) rfl (j := 1) rfl)) ?_
    refine dT (i := 5) (v := Value.bool (decide (y.data.toList = t.s.data.toList))) rfl (by kernel_rfl) (by kernel_rfl) rfl M27 (fun _ hS => x_eqs (p := y) (q := t.s) (ev_tmp rfl rfl) (ev_tmp rfl rfl)) ?_
    refine dE (by kernel_rfl) ?_
    refine hK26 _ _ ?_
    refine c_cond (b := decide (y.data.toList = t.s.data.toList)) (ev_tmp rfl rfl) (fun h29 => ?_) (fun h29 => ?_)
    · have h30 : y.data.toList = t.s.data.toList := of_decide_eq_true h29
      refine c_reg ?_
      refine st rfl (x_move (v := Value.pointer (some ⟨g, o, none⟩)) (ev_tmp rfl rfl)) ?_
      refine st rfl (x_nilCheck (ev_tmp rfl rfl)) ?_
      refine st rfl (x_fieldv (b := g) (o := o) (q := (o + 6)) fa_34_6 (ev_tmp rfl rfl) rfl) ?_
      refine st rfl (x_assign (v := Value.pointer (some ⟨g, o + 6, none⟩)) (ev_tmp rfl rfl)) ?_
      refine s_nil ?_
      refine hK24 _ _ ?_
      refine c_seq fun K31 hK32 => ?_
      refine c_seq fun K33 hK34 => ?_
      refine c_reg ?_
      refine st rfl (x_move (v := Value.pointer (some ⟨g, o + 6, none⟩)) (ev_tmp rfl rfl)) ?_
      refine st rfl (x_nilCheck (ev_tmp rfl rfl)) ?_
      refine st rfl (x_load1 (v := Value.bool t.so) Try.underlying4 rfl (ev_tmp rfl rfl) (M27.segcell (i := 0) rfl (j := 6) rfl)) ?_
      refine s_nil ?_
      refine hK34 _ _ ?_
      refine c_cond (b := t.so) (ev_tmp rfl rfl) (fun h35 => ?_) (fun h35 => ?_)
      · have h36 : t.so = true := h35
        refine c_seq fun K37 hK38 => ?_
        refine c_reg ?_
        refine st rfl (x_assign (v := Value.int .i64 24) rfl) ?_
        refine s_nil ?_
        refine hK38 _ _ ?_
        refine c_ret ?_
        refine hT4 _ _ ?_
        refine r1 rfl (ev_tmp (v := Value.int .i64 24) rfl rfl) ?_
        have hc : confF y t = (t, 24) := by simp_all [confF]
        rw [hc]
        exact ⟨rfl, M27.kept, (M27.segok (i := 0) rfl).1⟩
      · have h39 : t.so = false := h35
        refine c_skip ?_
        refine hK32 _ _ ?_
        refine c_seq fun K40 hK41 => ?_
        refine c_reg ?_
        refine st rfl (x_move (v := Value.pointer (some ⟨g, o + 6, none⟩)) (ev_tmp rfl rfl)) ?_
        refine st rfl (x_nilCheck (ev_tmp rfl rfl)) ?_
        refine sseg (k := 0) (j := 6) (v := Value.bool true) M27 rfl rfl (x_store1 (v := Value.bool true) sz_4 rfl rfl (ev_tmp rfl rfl) rfl (M27.segcell (i := 0) rfl (j := 6) rfl) (M27.segfree (i := 0) rfl)) fun w42 M43 => ?_
        refine s_nil ?_
        refine hK41 _ _ ?_
        refine c_seq fun K44 hK45 => ?_
        refine c_seq fun K46 hK47 => ?_
        refine c_reg ?_
        refine st rfl (x_move (v := Value.pointer (some ⟨g, o, none⟩)) (ev_tmp rfl rfl)) ?_
        refine st rfl (x_nilCheck (ev_tmp rfl rfl)) ?_
        refine st rfl (x_fieldv (b := g) (o := o) (q := (o + 5)) fa_34_5 (ev_tmp rfl rfl) rfl) ?_
        refine st rfl (x_load1 (v := Value.bool t.bo) Try.underlying4 rfl (ev_tmp rfl rfl) (M43.segcell (i := 0) rfl (j := 5) rfl)) ?_
        refine st rfl (x_move (v := Value.bool t.bo) (ev_tmp rfl rfl)) ?_
        refine s_meet5 fun K48 hK49 => ?_
        have J50 : ∀ jk, K48 (fr 42 ([(38, Value.bool (t.bo && true)), (0, Value.pointer (some ⟨g, o, none⟩)), (3, Value.int .i64 0), (33, Value.bool t.bo)] ++ jk)) w42 := by
          intro jk
          refine hK49 _ _ ?_
          clear hK49
          refine s_nil ?_
          refine hK47 _ _ ?_
          refine c_cond (b := t.bo && true) (ev_tmp rfl rfl) (fun h53 => ?_) (fun h53 => ?_)
          · have h54 : t.bo = true := and_l h53
            refine c_reg ?_
            refine st rfl (x_move (v := Value.pointer (some ⟨g, o, none⟩)) (ev_tmp rfl rfl)) ?_
            refine st rfl (x_nilCheck (ev_tmp rfl rfl)) ?_
            refine st rfl (x_fieldv (b := g) (o := o) (q := (o + 7)) fa_34_7 (ev_tmp rfl rfl) rfl) ?_
            refine sseg (k := 0) (j := 7) (v := Value.int .u8 1) M43 rfl rfl (x_store1 (v := Value.int .u8 1) sz_5 rfl rfl (ev_tmp rfl rfl) rfl (M43.segcell (i := 0) rfl (j := 7) rfl) (M43.segfree (i := 0) rfl)) fun w55 M56 => ?_
            refine s_nil ?_
            refine hK45 _ _ ?_
            refine c_seq fun K57 hK58 => ?_
            refine c_reg ?_
            refine st rfl (x_assign (v := Value.int .i64 0) rfl) ?_
            refine s_nil ?_
            refine hK58 _ _ ?_
            refine c_ret ?_
            refine hT4 _ _ ?_
            refine r1 rfl (ev_tmp (v := Value.int .i64 0) rfl rfl) ?_
            have hc : confF y t = ({ t with so := true, st := 1 }, 0) := by simp_all [confF]
            rw [hc]
            exact ⟨rfl, M56.kept, (M56.segok (i := 0) rfl).1⟩
          · have h59 : (t.bo && true) = false := h53
            refine c_skip ?_
            refine hK45 _ _ ?_
            refine c_seq fun K60 hK61 => ?_
            refine c_reg ?_
            refine st rfl (x_assign (v := Value.int .i64 0) rfl) ?_
            refine s_nil ?_
            refine hK61 _ _ ?_
            refine c_ret ?_
            refine hT4 _ _ ?_
            refine r1 rfl (ev_tmp (v := Value.int .i64 0) rfl rfl) ?_
            have hc : confF y t = ({ t with so := true }, 0) := by simp_all [confF]
            rw [hc]
            exact ⟨rfl, M43.kept, (M43.segok (i := 0) rfl).1⟩
        clear hK49
        rcases bcase (t.bo) with hg51 | hg51
        · refine gf (b' := false) rfl rfl rfl (congrArg Value.bool hg51) rfl ?_
          refine gf (b' := false) rfl rfl rfl (congrArg Value.bool hg51) rfl ?_
          refine gf (b' := false) rfl rfl rfl (congrArg Value.bool hg51) rfl ?_
          refine gf (b' := false) rfl rfl rfl (congrArg Value.bool hg51) rfl ?_
          refine st rfl (x_pick_f (v := Value.bool false) (ev_tmp rfl (congrArg Value.bool hg51)) rfl) ?_
          refine s_nil ?_
          exact j_to J50 ⟨(congrArg Value.bool (and_f hg51)), rfl, rfl, rfl, trivial⟩
        · have h52 : t.bo = true := hg51
          refine gt rfl rfl rfl (congrArg Value.bool hg51) (x_move (v := Value.pointer (some ⟨g, o, none⟩)) (ev_tmp rfl rfl)) ?_
          refine gt rfl rfl rfl (congrArg Value.bool hg51) (x_nilCheck (ev_tmp rfl rfl)) ?_
          refine gt rfl rfl rfl (congrArg Value.bool hg51) (x_fieldv (b := g) (o := o) (q := (o + 6)) fa_34_6 (ev_tmp rfl rfl) rfl) ?_
          refine gt rfl rfl rfl (congrArg Value.bool hg51) (x_load1 (v := Value.bool true) Try.underlying4 rfl (ev_tmp rfl rfl) (M43.segcell (i := 0) rfl (j := 6) rfl)) ?_
          refine st rfl (x_pick_t (v := Value.bool true) (ev_tmp rfl (congrArg Value.bool hg51)) (ev_tmp rfl rfl)) ?_
          refine s_nil ?_
          exact j_to J50 ⟨(congrArg Value.bool (and_t hg51)), rfl, rfl, rfl, trivial⟩
    · have h62 : ¬ (y.data.toList = t.s.data.toList) := of_decide_eq_false h29
      refine c_skip ?_
      refine hK24 _ _ ?_
      refine c_seq fun K63 hK64 => ?_
      refine c_seq fun K65 hK66 => ?_
      refine c_reg ?_
      refine st rfl (x_move (v := Value.pointer (some ⟨g, o + 5, none⟩)) (ev_tmp rfl rfl)) ?_
      refine st rfl (x_nilCheck (ev_tmp rfl rfl)) ?_
      refine st rfl (x_load1 (v := Value.bool t.bo) Try.underlying4 rfl (ev_tmp rfl rfl) (M27.segcell (i := 0) rfl (j := 5) rfl)) ?_
      refine s_nil ?_
      refine hK66 _ _ ?_
      refine c_cond (b := t.bo) (ev_tmp rfl rfl) (fun h67 => ?_) (fun h67 => ?_)
      · have h68 : t.bo = true := h67
        refine c_seq fun K69 hK70 => ?_
        refine c_reg ?_
        refine st rfl (x_assign (v := Value.int .i64 24) rfl) ?_
        refine s_nil ?_
        refine hK70 _ _ ?_
        refine c_ret ?_
        refine hT4 _ _ ?_
        refine r1 rfl (ev_tmp (v := Value.int .i64 24) rfl rfl) ?_
        have hc : confF y t = (t, 24) := by simp_all [confF]
        rw [hc]
        exact ⟨rfl, M27.kept, (M27.segok (i := 0) rfl).1⟩
      · have h71 : t.bo = false := h67
        refine c_skip ?_
        refine hK64 _ _ ?_
        refine c_seq fun K72 hK73 => ?_
        refine c_reg ?_
        refine st rfl (x_move (v := Value.pointer (some ⟨g, o + 5, none⟩)) (ev_tmp rfl rfl)) ?_
        refine st rfl (x_nilCheck (ev_tmp rfl rfl)) ?_
        refine sseg (k := 0) (j := 5) (v := Value.bool true) M27 rfl rfl (x_store1 (v := Value.bool true) sz_4 rfl rfl (ev_tmp rfl rfl) rfl (M27.segcell (i := 0) rfl (j := 5) rfl) (M27.segfree (i := 0) rfl)) fun w74 M75 => ?_
        refine s_nil ?_
        refine hK73 _ _ ?_
        refine c_seq fun K76 hK77 => ?_
        refine c_seq fun K78 hK79 => ?_
        refine c_reg ?_
        refine st rfl (x_move (v := Value.pointer (some ⟨g, o, none⟩)) (ev_tmp rfl rfl)) ?_
        refine st rfl (x_nilCheck (ev_tmp rfl rfl)) ?_
        refine st rfl (x_fieldv (b := g) (o := o) (q := (o + 5)) fa_34_5 (ev_tmp rfl rfl) rfl) ?_
        refine st rfl (x_load1 (v := Value.bool true) Try.underlying4 rfl (ev_tmp rfl rfl) (M75.segcell (i := 0) rfl (j := 5) rfl)) ?_
        refine st rfl (x_move (v := Value.bool true) (ev_tmp rfl rfl)) ?_
        refine gt rfl rfl rfl rfl (x_move (v := Value.pointer (some ⟨g, o, none⟩)) (ev_tmp rfl rfl)) ?_
        refine gt rfl rfl rfl rfl (x_nilCheck (ev_tmp rfl rfl)) ?_
        refine gt rfl rfl rfl rfl (x_fieldv (b := g) (o := o) (q := (o + 6)) fa_34_6 (ev_tmp rfl rfl) rfl) ?_
        refine gt rfl rfl rfl rfl (x_load1 (v := Value.bool t.so) Try.underlying4 rfl (ev_tmp rfl rfl) (M75.segcell (i := 0) rfl (j := 6) rfl)) ?_
        refine st rfl (x_pick_t (v := Value.bool t.so) (ev_tmp rfl rfl) (ev_tmp rfl rfl)) ?_
        refine s_nil ?_
        refine hK79 _ _ ?_
        refine c_cond (b := t.so) (ev_tmp rfl rfl) (fun h84 => ?_) (fun h84 => ?_)
        · have h85 : t.so = true := h84
          refine c_reg ?_
          refine st rfl (x_move (v := Value.pointer (some ⟨g, o, none⟩)) (ev_tmp rfl rfl)) ?_
          refine st rfl (x_nilCheck (ev_tmp rfl rfl)) ?_
          refine st rfl (x_fieldv (b := g) (o := o) (q := (o + 7)) fa_34_7 (ev_tmp rfl rfl) rfl) ?_
          refine sseg (k := 0) (j := 7) (v := Value.int .u8 1) M75 rfl rfl (x_store1 (v := Value.int .u8 1) sz_5 rfl rfl (ev_tmp rfl rfl) rfl (M75.segcell (i := 0) rfl (j := 7) rfl) (M75.segfree (i := 0) rfl)) fun w86 M87 => ?_
          refine s_nil ?_
          refine hK77 _ _ ?_
          refine c_seq fun K88 hK89 => ?_
          refine c_reg ?_
          refine st rfl (x_assign (v := Value.int .i64 0) rfl) ?_
          refine s_nil ?_
          refine hK89 _ _ ?_
          refine c_ret ?_
          refine hT4 _ _ ?_
          refine r1 rfl (ev_tmp (v := Value.int .i64 0) rfl rfl) ?_
          have hc : confF y t = ({ t with bo := true, st := 1 }, 0) := by simp_all [confF]
          rw [hc]
          exact ⟨rfl, M87.kept, (M87.segok (i := 0) rfl).1⟩
        · have h90 : t.so = false := h84
          refine c_skip ?_
          refine hK77 _ _ ?_
          refine c_seq fun K91 hK92 => ?_
          refine c_reg ?_
          refine st rfl (x_assign (v := Value.int .i64 0) rfl) ?_
          refine s_nil ?_
          refine hK92 _ _ ?_
          refine c_ret ?_
          refine hT4 _ _ ?_
          refine r1 rfl (ev_tmp (v := Value.int .i64 0) rfl rfl) ?_
          have hc : confF y t = ({ t with bo := true }, 0) := by simp_all [confF]
          rw [hc]
          exact ⟨rfl, M75.kept, (M75.segok (i := 0) rfl).1⟩

end Go.Proofs.Ytkimdlpfbojkgaa
