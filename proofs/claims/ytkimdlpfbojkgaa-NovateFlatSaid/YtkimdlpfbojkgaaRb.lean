/- What a step makes of a book, by the reference. -/
import Derived.Test.YtkimdlpfbojkgaaRa
import Derived.Test.YtkimdlpfbojkgaaUb
namespace Go.Proofs.Ytkimdlpfbojkgaa
open Go.RowKit
section
variable (A : Option Addr) (c : Nat) (l : List Trade)
theorem undo_rn (number : Int) (w : World) (hs : SlB 0 w.heap.size w A c 8 Trade.cells l) :
    Calls Try.prog 43 #[.agg #[.slice A l.length c], .int .i64 number] w fun e w' => ∃ A' c' l2 e2, chg undoF l number = (l2, e2) ∧ e = .returned (.tuple #[.agg #[.slice A' l2.length c'], .int .i64 e2]) ∧ Below w.heap.size w w' ∧ SlB w.heap.size w'.heap.size w' A' c' 8 Trade.cells l2 := by
  by_cases ht : thereE l number = 0
  · exact (undo_r1 A c l number w hs ht).mono fun _ _ ⟨A', c', h1, h2, h3⟩ => ⟨A', c', _, _, rfl, h1, h2, h3⟩
  · exact (undo_r0 A c l number w hs ht).mono fun _ _ ⟨A', c', h1, h2, h3⟩ => ⟨A', c', _, _, rfl, h1, h2, h3⟩
theorem refuse_rn (number : Int) (y : ByteArray) (w : World) (hs : SlB 0 w.heap.size w A c 8 Trade.cells l) :
    Calls Try.prog 42 #[.agg #[.slice A l.length c], .int .i64 number, .string y] w fun e w' => ∃ A' c' l2 e2, chg (refF y) l number = (l2, e2) ∧ e = .returned (.tuple #[.agg #[.slice A' l2.length c'], .int .i64 e2]) ∧ Below w.heap.size w w' ∧ SlB w.heap.size w'.heap.size w' A' c' 8 Trade.cells l2 :=
  (refuse_r A c l number y w hs).mono fun _ _ ⟨A', c', h1, h2, h3⟩ => ⟨A', c', _, _, rfl, h1, h2, h3⟩
theorem confirm_rn (number : Int) (y : ByteArray) (w : World) (hs : SlB 0 w.heap.size w A c 8 Trade.cells l) :
    Calls Try.prog 44 #[.agg #[.slice A l.length c], .int .i64 number, .string y] w fun e w' => ∃ A' c' l2 e2, chg (confF y) l number = (l2, e2) ∧ e = .returned (.tuple #[.agg #[.slice A' l2.length c'], .int .i64 e2]) ∧ Below w.heap.size w w' ∧ SlB w.heap.size w'.heap.size w' A' c' 8 Trade.cells l2 :=
  (confirm_r A c l number y w hs).mono fun _ _ ⟨A', c', h1, h2, h3⟩ => ⟨A', c', _, _, rfl, h1, h2, h3⟩
theorem submit_rn (y s p : ByteArray) (q r : Int) (w : World) (hs : SlB 0 w.heap.size w A c 8 Trade.cells l) :
    Calls Try.prog 41 #[.agg #[.slice A l.length c], .string y, .string s, .string p, .int .i64 q, .int .i64 r] w fun e w' => ∃ A' c' l2 n e2, sub l (newT y s p q r) = (l2, n, e2) ∧ e = .returned (.tuple #[.agg #[.slice A' l2.length c'], .int .i64 n, .int .i64 e2]) ∧ Below w.heap.size w w' ∧ SlB w.heap.size w'.heap.size w' A' c' 8 Trade.cells l2 :=
  (submit_r A c l y s p q r w hs).mono fun _ _ ⟨A', c', h1, h2, h3⟩ => ⟨A', c', _, _, _, rfl, h1, h2, h3⟩
end
theorem ent_41 : Enters Try.prog 41 := enters_of Try.func41 (by kernel_rfl) rfl
theorem ent_42 : Enters Try.prog 42 := enters_of Try.func42 (by kernel_rfl) rfl
theorem ent_43 : Enters Try.prog 43 := enters_of Try.func43 (by kernel_rfl) rfl
theorem ent_44 : Enters Try.prog 44 := enters_of Try.func44 (by kernel_rfl) rfl
set_option maxHeartbeats 1000000 in
set_option maxRecDepth 20000 in
theorem asked_law (A : Option Addr) (c : Nat) (l : List Trade) (o : Step) (w : World) (hs : SlB 0 w.heap.size w A c 8 Trade.cells l) :
    Calls Try.prog 21 #[Value.agg #[Value.slice A l.length c], Value.agg #[Value.int .u8 o.kd, Value.int .i64 o.nb, Value.string o.y, Value.string o.b, Value.string o.s, Value.string o.p, Value.int .i64 o.q, Value.int .i64 o.r]] w fun e w' => ∃ A' c' l2 n e2, callP l o = (l2, n, e2) ∧ e = .returned (.tuple #[.agg #[.slice A' l2.length c'], .int .i64 n, .int .i64 e2]) ∧ Below w.heap.size w w' ∧ SlB w.heap.size w'.heap.size w' A' c' 8 Trade.cells l2 := by
  have M0 := Mem.start w []
  have M1 := M0.see (Ro.sl 0 w.heap.size A c 8 Trade.cells l) (hs) (Nat.le_refl _)
  refine enter (args := [Value.agg #[Value.slice A l.length c], Value.agg #[Value.int .u8 o.kd, Value.int .i64 o.nb, Value.string o.y, Value.string o.b, Value.string o.s, Value.string o.p, Value.int .i64 o.q, Value.int .i64 o.r]]) Try.func21 rfl (n := 63) rfl rfl fun T2 hT3 => ?_
  refine c_seq fun K4 hK5 => ?_
  refine c_reg ?_
  refine snew (cs := #[Value.slice A l.length c]) M1 rfl (x_box (v := Value.agg #[Value.slice A l.length c]) (ev_tmp rfl rfl)) fun b6 w7 M8 => ?_
  refine snew (cs := #[Value.int .u8 o.kd, Value.int .i64 o.nb, Value.string o.y, Value.string o.b, Value.string o.s, Value.string o.p, Value.int .i64 o.q, Value.int .i64 o.r]) M8 rfl (x_box (v := Value.agg #[Value.int .u8 o.kd, Value.int .i64 o.nb, Value.string o.y, Value.string o.b, Value.string o.s, Value.string o.p, Value.int .i64 o.q, Value.int .i64 o.r]) (ev_tmp rfl rfl)) fun b9 w10 M11 => ?_
  refine snew (cs := #[Value.slice none 0 0]) M11 rfl (x_allocz z_24) fun b12 w13 M14 => ?_
  refine st rfl (x_assign (v := Value.int .i64 0) rfl) ?_
  refine st rfl (x_assign (v := Value.int .i64 0) rfl) ?_
  refine s_nil ?_
  refine hK5 _ _ ?_
  refine c_seq fun K15 hK16 => ?_
  refine c_reg ?_
  refine st rfl (x_buildL (ps := []) (vs := []) (cs := #[Value.slice none 0 0]) trivial (by kernel_rfl)) ?_
  refine snew (cs := #[Value.slice none 0 0]) M14 rfl (x_allocz z_24) fun b17 w18 M19 => ?_
  refine sset (i := 0) (L' := [Own.cells b17 24 #[Value.slice none 0 0], Own.cells b12 24 #[Value.slice none 0 0], Own.cells b9 40 #[Value.int .u8 o.kd, Value.int .i64 o.nb, Value.string o.y, Value.string o.b, Value.string o.s, Value.string o.p, Value.int .i64 o.q, Value.int .i64 o.r], Own.cells b6 24 #[Value.slice A l.length c]]) M19 rfl rfl (x_storew (cs := [Value.slice none 0 0]) sz_24 (ev_tmp rfl rfl) (ev_tmp rfl rfl) (M19.cells_at (i := 0) rfl) rfl ⟨rfl, trivial⟩) fun w20 M21 => ?_
  refine st rfl (x_assign (v := Value.int .i64 0) rfl) ?_
  refine st rfl (x_assign (v := Value.int .i64 0) rfl) ?_
  refine s_nil ?_
  refine hK16 _ _ ?_
  refine c_seq fun K22 hK23 => ?_
  refine c_seq fun K24 hK25 => ?_
  refine c_reg ?_
  refine st rfl (x_fieldv (b := b9) (o := 0) (q := 0) fa_40_0 (ev_tmp rfl rfl) rfl) ?_
  refine st rfl (x_load1 (v := Value.int .u8 o.kd) Try.underlying5 rfl (ev_tmp rfl rfl) (M21.cell (i := 2) (o := 0) rfl rfl)) ?_
  refine s_nil ?_
  refine hK25 _ _ ?_
  refine c_block ?_
  refine c_seq fun K26 hK27 => ?_
  refine c_reg ?_
  refine st rfl (x_eql (p := o.kd) (q := 0) (ev_tmp rfl rfl) rfl) ?_
  refine st rfl (x_assign (v := Value.bool (decide (o.kd = 0))) (ev_tmp rfl rfl)) ?_
  refine s_nil ?_
  refine hK27 _ _ ?_
  refine c_cond (b := decide (o.kd = 0)) (ev_tmp rfl rfl) (fun h28 => ?_) (fun h28 => ?_)
  · have h29 : o.kd = 0 := of_decide_eq_true h28
    refine c_reg ?_
    refine st rfl (x_loadw (cs := [Value.slice A l.length c]) Try.underlying24 rfl sz_24 (ev_tmp rfl rfl) (M21.range (i := 3) rfl ⟨rfl, trivial⟩)) ?_
    refine st rfl (x_fieldv (b := b9) (o := 0) (q := 3) fa_40_3 (ev_tmp rfl rfl) rfl) ?_
    refine st rfl (x_load1 (v := Value.string o.b) Try.underlying9 rfl (ev_tmp rfl rfl) (M21.cell (i := 2) (o := 3) rfl rfl)) ?_
    refine st rfl (x_fieldv (b := b9) (o := 0) (q := 4) fa_40_4 (ev_tmp rfl rfl) rfl) ?_
    refine st rfl (x_load1 (v := Value.string o.s) Try.underlying9 rfl (ev_tmp rfl rfl) (M21.cell (i := 2) (o := 4) rfl rfl)) ?_
    refine st rfl (x_fieldv (b := b9) (o := 0) (q := 5) fa_40_5 (ev_tmp rfl rfl) rfl) ?_
    refine st rfl (x_load1 (v := Value.string o.p) Try.underlying9 rfl (ev_tmp rfl rfl) (M21.cell (i := 2) (o := 5) rfl rfl)) ?_
    refine st rfl (x_fieldv (b := b9) (o := 0) (q := 6) fa_40_6 (ev_tmp rfl rfl) rfl) ?_
    refine st rfl (x_load1 (v := Value.int .i64 o.q) Try.underlying3 rfl (ev_tmp rfl rfl) (M21.cell (i := 2) (o := 6) rfl rfl)) ?_
    refine st rfl (x_fieldv (b := b9) (o := 0) (q := 7) fa_40_7 (ev_tmp rfl rfl) rfl) ?_
    refine st rfl (x_load1 (v := Value.int .i64 o.r) Try.underlying3 rfl (ev_tmp rfl rfl) (M21.cell (i := 2) (o := 7) rfl rfl)) ?_
    refine sC rfl (x_callL (xs := [.tmp 25, .tmp 27, .tmp 29, .tmp 31, .tmp 33, .tmp 35]) (vs := [Value.agg #[Value.slice A l.length c], Value.string o.b, Value.string o.s, Value.string o.p, Value.int .i64 o.q, Value.int .i64 o.r]) (cap := []) ent_41 rfl ⟨(ev_tmp rfl rfl), (ev_tmp rfl rfl), (ev_tmp rfl rfl), (ev_tmp rfl rfl), (ev_tmp rfl rfl), (ev_tmp rfl rfl), trivial⟩) (submit_rn _ _ l o.b o.s o.p o.q o.r _ (M21.slw (i := 0) rfl)) ?_
    rintro _ w32 ⟨A30, c31, l36, e38, e39, he37, rfl, hb33, hs34⟩
    refine ⟨_, rfl, ?_⟩
    have M35 := M21.gotSl hb33 hs34
    refine st rfl (x_move (v := Value.tuple #[Value.agg #[Value.slice A30 l36.length c31], Value.int .i64 e38, Value.int .i64 e39]) (ev_tmp rfl rfl)) ?_
    refine st rfl (x_extract (v := Value.agg #[Value.slice A30 l36.length c31]) (ev_tmp rfl rfl) rfl) ?_
    refine st rfl (x_extract (v := Value.int .i64 e38) (ev_tmp rfl rfl) rfl) ?_
    refine st rfl (x_extract (v := Value.int .i64 e39) (ev_tmp rfl rfl) rfl) ?_
    refine sset (i := 0) (L' := [Own.cells b17 24 #[Value.slice A30 l36.length c31], Own.cells b12 24 #[Value.slice none 0 0], Own.cells b9 40 #[Value.int .u8 o.kd, Value.int .i64 o.nb, Value.string o.y, Value.string o.b, Value.string o.s, Value.string o.p, Value.int .i64 o.q, Value.int .i64 o.r], Own.cells b6 24 #[Value.slice A l.length c]]) M35 rfl rfl (x_storew (cs := [Value.slice A30 l36.length c31]) sz_24 (ev_tmp rfl rfl) (ev_tmp rfl rfl) (M35.cells_at (i := 0) rfl) rfl ⟨rfl, trivial⟩) fun w41 M42 => ?_
    refine st rfl (x_assign (v := Value.int .i64 e38) (ev_tmp rfl rfl)) ?_
    refine st rfl (x_assign (v := Value.int .i64 e39) (ev_tmp rfl rfl)) ?_
    refine s_nil ?_
    refine hK23 _ _ ?_
    refine c_seq fun K43 hK44 => ?_
    refine c_reg ?_
    refine st rfl (x_loadw (cs := [Value.slice A30 l36.length c31]) Try.underlying24 rfl sz_24 (ev_tmp rfl rfl) (M42.range (i := 0) rfl ⟨rfl, trivial⟩)) ?_
    refine st rfl (x_move (v := Value.int .i64 e38) (ev_tmp rfl rfl)) ?_
    refine st rfl (x_move (v := Value.int .i64 e39) (ev_tmp rfl rfl)) ?_
    refine sset (i := 1) (L' := [Own.cells b17 24 #[Value.slice A30 l36.length c31], Own.cells b12 24 #[Value.slice A30 l36.length c31], Own.cells b9 40 #[Value.int .u8 o.kd, Value.int .i64 o.nb, Value.string o.y, Value.string o.b, Value.string o.s, Value.string o.p, Value.int .i64 o.q, Value.int .i64 o.r], Own.cells b6 24 #[Value.slice A l.length c]]) M42 rfl rfl (x_storew (cs := [Value.slice A30 l36.length c31]) sz_24 (ev_tmp rfl rfl) (ev_tmp rfl rfl) (M42.cells_at (i := 1) rfl) rfl ⟨rfl, trivial⟩) fun w45 M46 => ?_
    refine st rfl (x_assign (v := Value.int .i64 e38) (ev_tmp rfl rfl)) ?_
    refine st rfl (x_assign (v := Value.int .i64 e39) (ev_tmp rfl rfl)) ?_
    refine s_nil ?_
    refine hK44 _ _ ?_
    refine c_ret ?_
    refine hT3 _ _ ?_
    refine rm3 rfl (rL (cs := [Value.slice A30 l36.length c31]) (ev_tmp rfl rfl) Try.underlying24 rfl sz_24 (M46.range (i := 1) rfl ⟨rfl, trivial⟩)) (rT (ev_tmp (v := Value.int .i64 e38) rfl rfl)) (rT (ev_tmp (v := Value.int .i64 e39) rfl rfl)) ?_
    exact ⟨_, _, _, _, _, call0 (of_decide_eq_true h28) he37, rfl, M46.below, M46.slout (i := 0) rfl M21.size⟩
  · have h47 : ¬ (o.kd = 0) := of_decide_eq_false h28
    refine c_seq fun K48 hK49 => ?_
    refine c_reg ?_
    refine st rfl (x_eql (p := o.kd) (q := 1) (ev_tmp rfl rfl) rfl) ?_
    refine st rfl (x_assign (v := Value.bool (decide (o.kd = 1))) (ev_tmp rfl rfl)) ?_
    refine s_nil ?_
    refine hK49 _ _ ?_
    refine c_cond (b := decide (o.kd = 1)) (ev_tmp rfl rfl) (fun h50 => ?_) (fun h50 => ?_)
    · have h51 : o.kd = 1 := of_decide_eq_true h50
      refine c_reg ?_
      refine st rfl (x_loadw (cs := [Value.slice A l.length c]) Try.underlying24 rfl sz_24 (ev_tmp rfl rfl) (M21.range (i := 3) rfl ⟨rfl, trivial⟩)) ?_
      refine st rfl (x_fieldv (b := b9) (o := 0) (q := 1) fa_40_1 (ev_tmp rfl rfl) rfl) ?_
      refine st rfl (x_load1 (v := Value.int .i64 o.nb) Try.underlying3 rfl (ev_tmp rfl rfl) (M21.cell (i := 2) (o := 1) rfl rfl)) ?_
      refine st rfl (x_fieldv (b := b9) (o := 0) (q := 2) fa_40_2 (ev_tmp rfl rfl) rfl) ?_
      refine st rfl (x_load1 (v := Value.string o.y) Try.underlying9 rfl (ev_tmp rfl rfl) (M21.cell (i := 2) (o := 2) rfl rfl)) ?_
      refine sC rfl (x_callL (xs := [.tmp 43, .tmp 45, .tmp 47]) (vs := [Value.agg #[Value.slice A l.length c], Value.int .i64 o.nb, Value.string o.y]) (cap := []) ent_42 rfl ⟨(ev_tmp rfl rfl), (ev_tmp rfl rfl), (ev_tmp rfl rfl), trivial⟩) (refuse_rn _ _ l o.nb o.y _ (M21.slw (i := 0) rfl)) ?_
      rintro _ w54 ⟨A52, c53, l58, e60, he59, rfl, hb55, hs56⟩
      refine ⟨_, rfl, ?_⟩
      have M57 := M21.gotSl hb55 hs56
      refine st rfl (x_move (v := Value.tuple #[Value.agg #[Value.slice A52 l58.length c53], Value.int .i64 e60]) (ev_tmp rfl rfl)) ?_
      refine st rfl (x_extract (v := Value.agg #[Value.slice A52 l58.length c53]) (ev_tmp rfl rfl) rfl) ?_
      refine st rfl (x_extract (v := Value.int .i64 e60) (ev_tmp rfl rfl) rfl) ?_
      refine sset (i := 0) (L' := [Own.cells b17 24 #[Value.slice A52 l58.length c53], Own.cells b12 24 #[Value.slice none 0 0], Own.cells b9 40 #[Value.int .u8 o.kd, Value.int .i64 o.nb, Value.string o.y, Value.string o.b, Value.string o.s, Value.string o.p, Value.int .i64 o.q, Value.int .i64 o.r], Own.cells b6 24 #[Value.slice A l.length c]]) M57 rfl rfl (x_storew (cs := [Value.slice A52 l58.length c53]) sz_24 (ev_tmp rfl rfl) (ev_tmp rfl rfl) (M57.cells_at (i := 0) rfl) rfl ⟨rfl, trivial⟩) fun w62 M63 => ?_
      refine st rfl (x_assign (v := Value.int .i64 e60) (ev_tmp rfl rfl)) ?_
      refine s_nil ?_
      refine hK23 _ _ ?_
      refine c_seq fun K64 hK65 => ?_
      refine c_reg ?_
      refine st rfl (x_loadw (cs := [Value.slice A52 l58.length c53]) Try.underlying24 rfl sz_24 (ev_tmp rfl rfl) (M63.range (i := 0) rfl ⟨rfl, trivial⟩)) ?_
      refine st rfl (x_move (v := Value.int .i64 0) (ev_tmp rfl rfl)) ?_
      refine st rfl (x_move (v := Value.int .i64 e60) (ev_tmp rfl rfl)) ?_
      refine sset (i := 1) (L' := [Own.cells b17 24 #[Value.slice A52 l58.length c53], Own.cells b12 24 #[Value.slice A52 l58.length c53], Own.cells b9 40 #[Value.int .u8 o.kd, Value.int .i64 o.nb, Value.string o.y, Value.string o.b, Value.string o.s, Value.string o.p, Value.int .i64 o.q, Value.int .i64 o.r], Own.cells b6 24 #[Value.slice A l.length c]]) M63 rfl rfl (x_storew (cs := [Value.slice A52 l58.length c53]) sz_24 (ev_tmp rfl rfl) (ev_tmp rfl rfl) (M63.cells_at (i := 1) rfl) rfl ⟨rfl, trivial⟩) fun w66 M67 => ?_
      refine st rfl (x_assign (v := Value.int .i64 0) (ev_tmp rfl rfl)) ?_
      refine st rfl (x_assign (v := Value.int .i64 e60) (ev_tmp rfl rfl)) ?_
      refine s_nil ?_
      refine hK65 _ _ ?_
      refine c_ret ?_
      refine hT3 _ _ ?_
      refine rm3 rfl (rL (cs := [Value.slice A52 l58.length c53]) (ev_tmp rfl rfl) Try.underlying24 rfl sz_24 (M67.range (i := 1) rfl ⟨rfl, trivial⟩)) (rT (ev_tmp (v := Value.int .i64 0) rfl rfl)) (rT (ev_tmp (v := Value.int .i64 e60) rfl rfl)) ?_
      exact ⟨_, _, _, _, _, call1 (of_decide_eq_true h50) he59, rfl, M67.below, M67.slout (i := 0) rfl M21.size⟩
    · have h68 : ¬ (o.kd = 1) := of_decide_eq_false h50
      refine c_seq fun K69 hK70 => ?_
      refine c_reg ?_
      refine st rfl (x_eql (p := o.kd) (q := 2) (ev_tmp rfl rfl) rfl) ?_
      refine st rfl (x_assign (v := Value.bool (decide (o.kd = 2))) (ev_tmp rfl rfl)) ?_
      refine s_nil ?_
      refine hK70 _ _ ?_
      refine c_cond (b := decide (o.kd = 2)) (ev_tmp rfl rfl) (fun h71 => ?_) (fun h71 => ?_)
      · have h72 : o.kd = 2 := of_decide_eq_true h71
        refine c_reg ?_
        refine st rfl (x_loadw (cs := [Value.slice A l.length c]) Try.underlying24 rfl sz_24 (ev_tmp rfl rfl) (M21.range (i := 3) rfl ⟨rfl, trivial⟩)) ?_
        refine st rfl (x_fieldv (b := b9) (o := 0) (q := 1) fa_40_1 (ev_tmp rfl rfl) rfl) ?_
        refine st rfl (x_load1 (v := Value.int .i64 o.nb) Try.underlying3 rfl (ev_tmp rfl rfl) (M21.cell (i := 2) (o := 1) rfl rfl)) ?_
        refine sC rfl (x_callL (xs := [.tmp 54, .tmp 56]) (vs := [Value.agg #[Value.slice A l.length c], Value.int .i64 o.nb]) (cap := []) ent_43 rfl ⟨(ev_tmp rfl rfl), (ev_tmp rfl rfl), trivial⟩) (undo_rn _ _ l o.nb  _ (M21.slw (i := 0) rfl)) ?_
        rintro _ w75 ⟨A73, c74, l79, e81, he80, rfl, hb76, hs77⟩
        refine ⟨_, rfl, ?_⟩
        have M78 := M21.gotSl hb76 hs77
        refine st rfl (x_move (v := Value.tuple #[Value.agg #[Value.slice A73 l79.length c74], Value.int .i64 e81]) (ev_tmp rfl rfl)) ?_
        refine st rfl (x_extract (v := Value.agg #[Value.slice A73 l79.length c74]) (ev_tmp rfl rfl) rfl) ?_
        refine st rfl (x_extract (v := Value.int .i64 e81) (ev_tmp rfl rfl) rfl) ?_
        refine sset (i := 0) (L' := [Own.cells b17 24 #[Value.slice A73 l79.length c74], Own.cells b12 24 #[Value.slice none 0 0], Own.cells b9 40 #[Value.int .u8 o.kd, Value.int .i64 o.nb, Value.string o.y, Value.string o.b, Value.string o.s, Value.string o.p, Value.int .i64 o.q, Value.int .i64 o.r], Own.cells b6 24 #[Value.slice A l.length c]]) M78 rfl rfl (x_storew (cs := [Value.slice A73 l79.length c74]) sz_24 (ev_tmp rfl rfl) (ev_tmp rfl rfl) (M78.cells_at (i := 0) rfl) rfl ⟨rfl, trivial⟩) fun w83 M84 => ?_
        refine st rfl (x_assign (v := Value.int .i64 e81) (ev_tmp rfl rfl)) ?_
        refine s_nil ?_
        refine hK23 _ _ ?_
        refine c_seq fun K85 hK86 => ?_
        refine c_reg ?_
        refine st rfl (x_loadw (cs := [Value.slice A73 l79.length c74]) Try.underlying24 rfl sz_24 (ev_tmp rfl rfl) (M84.range (i := 0) rfl ⟨rfl, trivial⟩)) ?_
        refine st rfl (x_move (v := Value.int .i64 0) (ev_tmp rfl rfl)) ?_
        refine st rfl (x_move (v := Value.int .i64 e81) (ev_tmp rfl rfl)) ?_
        refine sset (i := 1) (L' := [Own.cells b17 24 #[Value.slice A73 l79.length c74], Own.cells b12 24 #[Value.slice A73 l79.length c74], Own.cells b9 40 #[Value.int .u8 o.kd, Value.int .i64 o.nb, Value.string o.y, Value.string o.b, Value.string o.s, Value.string o.p, Value.int .i64 o.q, Value.int .i64 o.r], Own.cells b6 24 #[Value.slice A l.length c]]) M84 rfl rfl (x_storew (cs := [Value.slice A73 l79.length c74]) sz_24 (ev_tmp rfl rfl) (ev_tmp rfl rfl) (M84.cells_at (i := 1) rfl) rfl ⟨rfl, trivial⟩) fun w87 M88 => ?_
        refine st rfl (x_assign (v := Value.int .i64 0) (ev_tmp rfl rfl)) ?_
        refine st rfl (x_assign (v := Value.int .i64 e81) (ev_tmp rfl rfl)) ?_
        refine s_nil ?_
        refine hK86 _ _ ?_
        refine c_ret ?_
        refine hT3 _ _ ?_
        refine rm3 rfl (rL (cs := [Value.slice A73 l79.length c74]) (ev_tmp rfl rfl) Try.underlying24 rfl sz_24 (M88.range (i := 1) rfl ⟨rfl, trivial⟩)) (rT (ev_tmp (v := Value.int .i64 0) rfl rfl)) (rT (ev_tmp (v := Value.int .i64 e81) rfl rfl)) ?_
        exact ⟨_, _, _, _, _, call2 (of_decide_eq_true h71) he80, rfl, M88.below, M88.slout (i := 0) rfl M21.size⟩
      · have h89 : ¬ (o.kd = 2) := of_decide_eq_false h71
        refine c_reg ?_
        refine st rfl (x_loadw (cs := [Value.slice A l.length c]) Try.underlying24 rfl sz_24 (ev_tmp rfl rfl) (M21.range (i := 3) rfl ⟨rfl, trivial⟩)) ?_
        refine st rfl (x_fieldv (b := b9) (o := 0) (q := 1) fa_40_1 (ev_tmp rfl rfl) rfl) ?_
        refine st rfl (x_load1 (v := Value.int .i64 o.nb) Try.underlying3 rfl (ev_tmp rfl rfl) (M21.cell (i := 2) (o := 1) rfl rfl)) ?_
        refine st rfl (x_fieldv (b := b9) (o := 0) (q := 2) fa_40_2 (ev_tmp rfl rfl) rfl) ?_
        refine st rfl (x_load1 (v := Value.string o.y) Try.underlying9 rfl (ev_tmp rfl rfl) (M21.cell (i := 2) (o := 2) rfl rfl)) ?_
        refine sC rfl (x_callL (xs := [.tmp 14, .tmp 16, .tmp 18]) (vs := [Value.agg #[Value.slice A l.length c], Value.int .i64 o.nb, Value.string o.y]) (cap := []) ent_44 rfl ⟨(ev_tmp rfl rfl), (ev_tmp rfl rfl), (ev_tmp rfl rfl), trivial⟩) (confirm_rn _ _ l o.nb o.y _ (M21.slw (i := 0) rfl)) ?_
        rintro _ w92 ⟨A90, c91, l96, e98, he97, rfl, hb93, hs94⟩
        refine ⟨_, rfl, ?_⟩
        have M95 := M21.gotSl hb93 hs94
        refine st rfl (x_move (v := Value.tuple #[Value.agg #[Value.slice A90 l96.length c91], Value.int .i64 e98]) (ev_tmp rfl rfl)) ?_
        refine st rfl (x_extract (v := Value.agg #[Value.slice A90 l96.length c91]) (ev_tmp rfl rfl) rfl) ?_
        refine st rfl (x_extract (v := Value.int .i64 e98) (ev_tmp rfl rfl) rfl) ?_
        refine sset (i := 0) (L' := [Own.cells b17 24 #[Value.slice A90 l96.length c91], Own.cells b12 24 #[Value.slice none 0 0], Own.cells b9 40 #[Value.int .u8 o.kd, Value.int .i64 o.nb, Value.string o.y, Value.string o.b, Value.string o.s, Value.string o.p, Value.int .i64 o.q, Value.int .i64 o.r], Own.cells b6 24 #[Value.slice A l.length c]]) M95 rfl rfl (x_storew (cs := [Value.slice A90 l96.length c91]) sz_24 (ev_tmp rfl rfl) (ev_tmp rfl rfl) (M95.cells_at (i := 0) rfl) rfl ⟨rfl, trivial⟩) fun w100 M101 => ?_
        refine st rfl (x_assign (v := Value.int .i64 e98) (ev_tmp rfl rfl)) ?_
        refine s_nil ?_
        refine hK23 _ _ ?_
        refine c_seq fun K102 hK103 => ?_
        refine c_reg ?_
        refine st rfl (x_loadw (cs := [Value.slice A90 l96.length c91]) Try.underlying24 rfl sz_24 (ev_tmp rfl rfl) (M101.range (i := 0) rfl ⟨rfl, trivial⟩)) ?_
        refine st rfl (x_move (v := Value.int .i64 0) (ev_tmp rfl rfl)) ?_
        refine st rfl (x_move (v := Value.int .i64 e98) (ev_tmp rfl rfl)) ?_
        refine sset (i := 1) (L' := [Own.cells b17 24 #[Value.slice A90 l96.length c91], Own.cells b12 24 #[Value.slice A90 l96.length c91], Own.cells b9 40 #[Value.int .u8 o.kd, Value.int .i64 o.nb, Value.string o.y, Value.string o.b, Value.string o.s, Value.string o.p, Value.int .i64 o.q, Value.int .i64 o.r], Own.cells b6 24 #[Value.slice A l.length c]]) M101 rfl rfl (x_storew (cs := [Value.slice A90 l96.length c91]) sz_24 (ev_tmp rfl rfl) (ev_tmp rfl rfl) (M101.cells_at (i := 1) rfl) rfl ⟨rfl, trivial⟩) fun w104 M105 => ?_
        refine st rfl (x_assign (v := Value.int .i64 0) (ev_tmp rfl rfl)) ?_
        refine st rfl (x_assign (v := Value.int .i64 e98) (ev_tmp rfl rfl)) ?_
        refine s_nil ?_
        refine hK103 _ _ ?_
        refine c_ret ?_
        refine hT3 _ _ ?_
        refine rm3 rfl (rL (cs := [Value.slice A90 l96.length c91]) (ev_tmp rfl rfl) Try.underlying24 rfl sz_24 (M105.range (i := 1) rfl ⟨rfl, trivial⟩)) (rT (ev_tmp (v := Value.int .i64 0) rfl rfl)) (rT (ev_tmp (v := Value.int .i64 e98) rfl rfl)) ?_
        exact ⟨_, _, _, _, _, call3 (of_decide_eq_false h28) (of_decide_eq_false h50) (of_decide_eq_false h71) he97, rfl, M105.below, M105.slout (i := 0) rfl M21.size⟩

end Go.Proofs.Ytkimdlpfbojkgaa
