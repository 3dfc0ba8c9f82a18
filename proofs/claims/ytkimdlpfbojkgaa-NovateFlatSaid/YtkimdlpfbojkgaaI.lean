/- The law NovateOnce, walked. -/
import Derived.Test.YtkimdlpfbojkgaaWp
namespace Go.Proofs.Ytkimdlpfbojkgaa
open Go.RowKit
theorem sz_40 : (Try.prog.info? 40).map (·.size) = some 8 := by kernel_rfl
theorem ent_20 : Enters Try.prog 20 := enters_of Try.func20 (by kernel_rfl) rfl
set_option maxHeartbeats 1000000 in
set_option maxRecDepth 20000 in
theorem once_law (A : Option Addr) (c : Nat) (l : List Trade) (o : Step) (w : World) (hs : SlB 0 w.heap.size w A c 8 Trade.cells l) :
    Calls Try.prog 8 #[Value.agg #[Value.slice A l.length c], Value.agg #[Value.int .u8 o.kd, Value.int .i64 o.nb, Value.string o.y, Value.string o.b, Value.string o.s, Value.string o.p, Value.int .i64 o.q, Value.int .i64 o.r]] w fun e w' => e = .returned (.bool (true)) ∧ Below w.heap.size w w' := by
  have hcm : l.length ≤ 9223372036854775807 := by have := hs.1; have := hs.2.1; simp only [maxLen] at this; omega
  have hl400 := legsC_len l
  have M0 := Mem.start w []
  have M1 := M0.see (Ro.sl 0 w.heap.size A c 8 Trade.cells l) (hs) (Nat.le_refl _)
  refine enter (args := [Value.agg #[Value.slice A l.length c], Value.agg #[Value.int .u8 o.kd, Value.int .i64 o.nb, Value.string o.y, Value.string o.b, Value.string o.s, Value.string o.p, Value.int .i64 o.q, Value.int .i64 o.r]]) Try.func8 rfl (n := 143) rfl rfl fun T2 hT3 => ?_
  refine c_seq fun K4 hK5 => ?_
  refine c_reg ?_
  refine snew (cs := #[Value.slice A l.length c]) M1 rfl (x_box (v := Value.agg #[Value.slice A l.length c]) (ev_tmp rfl rfl)) fun b6 w7 M8 => ?_
  refine snew (cs := #[Value.int .u8 o.kd, Value.int .i64 o.nb, Value.string o.y, Value.string o.b, Value.string o.s, Value.string o.p, Value.int .i64 o.q, Value.int .i64 o.r]) M8 rfl (x_box (v := Value.agg #[Value.int .u8 o.kd, Value.int .i64 o.nb, Value.string o.y, Value.string o.b, Value.string o.s, Value.string o.p, Value.int .i64 o.q, Value.int .i64 o.r]) (ev_tmp rfl rfl)) fun b9 w10 M11 => ?_
  refine st rfl (x_assign (v := Value.bool false) rfl) ?_
  refine s_nil ?_
  refine hK5 _ _ ?_
  refine c_seq fun K12 hK13 => ?_
  refine c_reg ?_
  refine sC rfl (x_callL (xs := []) (vs := []) (cap := []) ent_11 rfl trivial) (alive_c _) ?_
  rintro _ w14 ⟨rfl, hb16⟩
  refine ⟨_, rfl, ?_⟩
  have M15 := M11.call hb16
  refine st rfl (x_assign (v := Value.bool true) (ev_tmp rfl rfl)) ?_
  refine s_nil ?_
  refine hK13 _ _ ?_
  refine c_seq fun K17 hK18 => ?_
  refine c_seq fun K19 hK20 => ?_
  refine c_reg ?_
  refine st rfl (x_fieldv (b := b6) (o := 0) (q := 0) fa_24_0 (ev_tmp rfl rfl) rfl) ?_
  refine st rfl (x_load1 (v := Value.slice A l.length c) Try.underlying22 rfl (ev_tmp rfl rfl) (M15.cell (i := 1) (o := 0) rfl rfl)) ?_
  refine st rfl (x_lensl (n := l.length) Try.underlying22 (ev_tmp rfl rfl)) ?_
  refine st rfl (x_gtr (p := (l.length : Int)) (q := 220) (ev_tmp rfl rfl) rfl) ?_
  refine st rfl (x_move (v := Value.bool (decide ((220 : Int) < (l.length : Int)))) (ev_tmp rfl rfl)) ?_
  refine s_meet3 fun K21 hK22 => ?_
  have J23 : ∀ jk, K21 (fr 143 ([(22, Value.bool ((decide ((220 : Int) < (l.length : Int))) || false)), (2, Value.pointer (some ⟨b6, 0, none⟩)), (3, Value.pointer (some ⟨b9, 0, none⟩)), (4, Value.bool false), (5, Value.bool true), (19, Value.bool (decide ((220 : Int) < (l.length : Int))))] ++ jk)) w14 := by
    intro jk
    refine hK22 _ _ ?_
    clear hK22
    refine s_nil ?_
    refine hK20 _ _ ?_
    refine c_cond (b := (decide ((220 : Int) < (l.length : Int))) || false) (ev_tmp rfl rfl) (fun h26 => ?_) (fun h26 => ?_)
    · have h27 : ((decide ((220 : Int) < (l.length : Int))) || false) = true := h26
      refine c_seq fun K28 hK29 => ?_
      refine c_reg ?_
      refine st rfl (x_move (v := Value.bool true) (ev_tmp rfl rfl)) ?_
      refine st rfl (x_assign (v := Value.bool true) (ev_tmp rfl rfl)) ?_
      refine s_nil ?_
      refine hK29 _ _ ?_
      refine c_ret ?_
      refine hT3 _ _ ?_
      refine r1 rfl (ev_tmp (v := Value.bool true) rfl rfl) ?_
      exact ⟨rfl, M15.below⟩
    · have h30 : ¬ ((220 : Int) < (l.length : Int)) := of_decide_eq_false (or_l h26)
      have hlen : l.length ≤ 220 := by omega
      refine c_skip ?_
      refine hK18 _ _ ?_
      refine c_seq fun K31 hK32 => ?_
      have M33 := M15.drew
      refine c_drawn (fun w1 => Mem w [] w1 [Own.cells b9 40 #[Value.int .u8 o.kd, Value.int .i64 o.nb, Value.string o.y, Value.string o.b, Value.string o.s, Value.string o.p, Value.int .i64 o.q, Value.int .i64 o.r], Own.cells b6 24 #[Value.slice A l.length c]] [Ro.sl 0 w.heap.size A c 8 Trade.cells l]) mixed ?_
      generalize w14.drew = w34 at M33 ⊢
      refine dT (i := 0) (v := Value.agg #[Value.slice A l.length c]) rfl (by kernel_rfl) (by kernel_rfl) rfl M33 (fun _ hS => x_loadw (cs := [Value.slice A l.length c]) Try.underlying24 rfl sz_24 (ev_tmp rfl rfl) (hS.range (i := 1) rfl ⟨rfl, trivial⟩)) ?_
      refine dT (i := 2) (v := Value.agg #[Value.int .u8 o.kd, Value.int .i64 o.nb, Value.string o.y, Value.string o.b, Value.string o.s, Value.string o.p, Value.int .i64 o.q, Value.int .i64 o.r]) rfl (by kernel_rfl) (by kernel_rfl) rfl M33 (fun _ hS => x_loadw (cs := [Value.int .u8 o.kd, Value.int .i64 o.nb, Value.string o.y, Value.string o.b, Value.string o.s, Value.string o.p, Value.int .i64 o.q, Value.int .i64 o.r]) Try.underlying40 rfl sz_40 (ev_tmp rfl rfl) (hS.range (i := 0) rfl ⟨rfl, rfl, rfl, rfl, rfl, rfl, rfl, rfl, trivial⟩)) ?_
      refine dA (rs := [1, 8]) (by kernel_rfl) rfl ?_
      refine dC ?_ ?_
      · refine dsC (i := 1) rfl rfl (x_callL (xs := [.tmp 25]) (vs := [Value.agg #[Value.slice A l.length c]]) (cap := []) ent_16 rfl ⟨(ev_tmp rfl rfl), trivial⟩) (twin_r _ _ l _ (M33.slw (i := 0) rfl) (by omega)) ?_
        rintro _ w37 ⟨A35, c36, rfl, hb38, hr39⟩
        refine ⟨_, rfl, ?_⟩
        have M40 := M33.gotRow hb38 hr39
        refine ⟨(M40.dropL 1), ?_⟩
        refine dA (rs := [3, 8]) (by kernel_rfl) rfl ?_
        refine dC ?_ ?_
        · refine dsC (i := 3) rfl rfl (x_callL (xs := [.tmp 26, .tmp 27]) (vs := [Value.agg #[Value.slice A35 l.length c36], Value.agg #[Value.int .u8 o.kd, Value.int .i64 o.nb, Value.string o.y, Value.string o.b, Value.string o.s, Value.string o.p, Value.int .i64 o.q, Value.int .i64 o.r]]) (cap := []) ent_20 rfl ⟨(ev_tmp rfl rfl), (ev_tmp rfl rfl), trivial⟩) (call_c _ _ l o _ (M40.rowsl (i := 0) rfl rfl Trade.len)) ?_
          rintro _ w44 ⟨A42, c43, l48, e50, e51, he49, rfl, hb45, hs46⟩
          refine ⟨_, rfl, ?_⟩
          have M47 := M40.gotSl hb45 hs46
          refine ⟨((M47.dropL 1).dropR 1), ?_⟩
          refine dT (i := 4) (v := Value.tuple #[Value.agg #[Value.slice A42 l48.length c43], Value.int .i64 e50, Value.int .i64 e51]) rfl (by kernel_rfl) (by kernel_rfl) rfl ((M47.dropL 1).dropR 1) (fun _ hS => x_move (v := Value.tuple #[Value.agg #[Value.slice A42 l48.length c43], Value.int .i64 e50, Value.int .i64 e51]) (ev_tmp rfl rfl)) ?_
          refine dT (i := 5) (v := Value.agg #[Value.slice A42 l48.length c43]) rfl (by kernel_rfl) (by kernel_rfl) rfl ((M47.dropL 1).dropR 1) (fun _ hS => x_extract (v := Value.agg #[Value.slice A42 l48.length c43]) (ev_tmp rfl rfl) rfl) ?_
          refine dT (i := 6) (v := Value.int .i64 e50) rfl (by kernel_rfl) (by kernel_rfl) rfl ((M47.dropL 1).dropR 1) (fun _ hS => x_extract (v := Value.int .i64 e50) (ev_tmp rfl rfl) rfl) ?_
          refine dT (i := 7) (v := Value.int .i64 e51) rfl (by kernel_rfl) (by kernel_rfl) rfl ((M47.dropL 1).dropR 1) (fun _ hS => x_extract (v := Value.int .i64 e51) (ev_tmp rfl rfl) rfl) ?_
          refine dA (rs := [8]) (by kernel_rfl) rfl ?_
          refine dC ?_ ?_
          · refine dnew (i := 8) (cs := #[Value.slice none 0 0]) M47 rfl rfl (x_allocz z_24) fun b53 w54 M55 => ?_
            refine ⟨((M55.dropL 2).dropR 1), ?_⟩
            refine dA (rs := [9]) (by kernel_rfl) rfl ?_
            refine dC ?_ ?_
            · refine dset (i := 9) (k := 0) (L' := [Own.cells b53 24 #[Value.slice A42 l48.length c43], Own.row 34 8 (Value.slice A35 l.length c36) l.length (l.flatMap Trade.cells), Own.cells b9 40 #[Value.int .u8 o.kd, Value.int .i64 o.nb, Value.string o.y, Value.string o.b, Value.string o.s, Value.string o.p, Value.int .i64 o.q, Value.int .i64 o.r], Own.cells b6 24 #[Value.slice A l.length c]]) M55 rfl rfl rfl (x_storew (cs := [Value.slice A42 l48.length c43]) sz_24 (ev_tmp rfl rfl) (ev_tmp rfl rfl) (M55.cells_at (i := 0) rfl) rfl ⟨rfl, trivial⟩) fun w56 M57 => ?_
              refine ⟨((M57.dropL 2).dropR 1), ?_⟩
              refine dT (i := 10) (v := Value.int .i64 e50) rfl (by kernel_rfl) (by kernel_rfl) rfl ((M57.dropL 2).dropR 1) (fun _ hS => x_assign (v := Value.int .i64 e50) (ev_tmp rfl rfl)) ?_
              refine dT (i := 11) (v := Value.int .i64 e51) rfl (by kernel_rfl) (by kernel_rfl) rfl ((M57.dropL 2).dropR 1) (fun _ hS => x_assign (v := Value.int .i64 e51) (ev_tmp rfl rfl)) ?_
              refine dE (by kernel_rfl) ?_
              refine hK32 _ _ ?_
              refine c_seq fun K58 hK59 => ?_
              refine c_seq fun K60 hK61 => ?_
              refine c_reg ?_
              refine st rfl (x_move (v := Value.int .i64 e51) (ev_tmp rfl rfl)) ?_
              refine st rfl (x_neq (p := e51) (q := 0) (ev_tmp rfl rfl) rfl) ?_
              refine s_nil ?_
              refine hK61 _ _ ?_
              refine c_cond (b := !(decide (e51 = 0))) (ev_tmp rfl rfl) (fun h62 => ?_) (fun h62 => ?_)
              · have h63 : ¬ (e51 = 0) := of_decide_eq_false (not_t h62)
                refine c_seq fun K64 hK65 => ?_
                refine c_reg ?_
                refine st rfl (x_move (v := Value.bool true) (ev_tmp rfl rfl)) ?_
                refine st rfl (x_assign (v := Value.bool true) (ev_tmp rfl rfl)) ?_
                refine s_nil ?_
                refine hK65 _ _ ?_
                refine c_ret ?_
                refine hT3 _ _ ?_
                refine r1 rfl (ev_tmp (v := Value.bool true) rfl rfl) ?_
                exact ⟨rfl, M57.below⟩
              · have h66 : e51 = 0 := of_decide_eq_true (not_f h62)
                have hz : e51 = 0 := of_decide_eq_true (not_f h62)
                obtain ⟨c0, c2, f01, f2, f3⟩ := once_plain (l := l) (l2 := l48) (o := o) (n := e50) (by rw [← hz]; exact he49)
                have g0 : legsC l = legs l := legsC_of c0
                have g2 : legsC l48 = legs l48 := legsC_of c2
                have hq400 := legsC_len l48
                refine c_skip ?_
                refine hK59 _ _ ?_
                refine c_seq fun K67 hK68 => ?_
                refine c_reg ?_
                refine st rfl (x_loadw (cs := [Value.slice A l.length c]) Try.underlying24 rfl sz_24 (ev_tmp rfl rfl) (M57.range (i := 3) rfl ⟨rfl, trivial⟩)) ?_
                refine sC rfl (x_callL (xs := [.tmp 36]) (vs := [Value.agg #[Value.slice A l.length c]]) (cap := []) ent_12 rfl ⟨(ev_tmp rfl rfl), trivial⟩) (legs_c _ _ l _ (M57.slw (i := 1) rfl)) ?_
                rintro _ w71 ⟨A69, c70, rfl, hb72, hs73⟩
                refine ⟨_, rfl, ?_⟩
                have M74 := M57.gotSl hb72 hs73
                refine st rfl (x_move (v := Value.tuple #[Value.slice A69 ((legsC l).length) c70, Value.int .i64 (chk l)]) (ev_tmp rfl rfl)) ?_
                refine st rfl (x_extract (v := Value.slice A69 ((legsC l).length) c70) (ev_tmp rfl rfl) rfl) ?_
                refine st rfl (x_extract (v := Value.int .i64 (chk l)) (ev_tmp rfl rfl) rfl) ?_
                refine st rfl (x_assign (v := Value.slice A69 ((legsC l).length) c70) (ev_tmp rfl rfl)) ?_
                refine st rfl (x_assign (v := Value.int .i64 (chk l)) (ev_tmp rfl rfl)) ?_
                refine s_nil ?_
                refine hK68 _ _ ?_
                refine c_seq fun K76 hK77 => ?_
                refine c_reg ?_
                refine st rfl (x_loadw (cs := [Value.slice A42 l48.length c43]) Try.underlying24 rfl sz_24 (ev_tmp rfl rfl) (M74.range (i := 0) rfl ⟨rfl, trivial⟩)) ?_
                refine sC rfl (x_callL (xs := [.tmp 41]) (vs := [Value.agg #[Value.slice A42 l48.length c43]]) (cap := []) ent_12 rfl ⟨(ev_tmp rfl rfl), trivial⟩) (legs_c _ _ l48 _ (M74.slw (i := 1) rfl)) ?_
                rintro _ w80 ⟨A78, c79, rfl, hb81, hs82⟩
                refine ⟨_, rfl, ?_⟩
                have M83 := M74.gotSl hb81 hs82
                refine st rfl (x_move (v := Value.tuple #[Value.slice A78 ((legsC l48).length) c79, Value.int .i64 (chk l48)]) (ev_tmp rfl rfl)) ?_
                refine st rfl (x_extract (v := Value.slice A78 ((legsC l48).length) c79) (ev_tmp rfl rfl) rfl) ?_
                refine st rfl (x_extract (v := Value.int .i64 (chk l48)) (ev_tmp rfl rfl) rfl) ?_
                refine st rfl (x_assign (v := Value.slice A78 ((legsC l48).length) c79) (ev_tmp rfl rfl)) ?_
                refine st rfl (x_assign (v := Value.int .i64 (chk l48)) (ev_tmp rfl rfl)) ?_
                refine s_nil ?_
                refine hK77 _ _ ?_
                refine c_seq fun K85 hK86 => ?_
                refine c_seq fun K87 hK88 => ?_
                refine c_reg ?_
                refine st rfl (x_move (v := Value.int .i64 (chk l)) (ev_tmp rfl rfl)) ?_
                refine st rfl (x_neq (p := (chk l)) (q := 0) (ev_tmp rfl rfl) rfl) ?_
                refine st rfl (x_move (v := Value.bool (!(decide (chk l = 0)))) (ev_tmp rfl rfl)) ?_
                have hg92 : (!(decide (chk l = 0))) = false := (by rw [(decide_eq_true c0)]; rfl)
                refine gt rfl rfl rfl (congrArg Value.bool hg92) (x_move (v := Value.int .i64 (chk l48)) (ev_tmp rfl rfl)) ?_
                refine gt rfl rfl rfl (congrArg Value.bool hg92) (x_neq (p := (chk l48)) (q := 0) (ev_tmp rfl rfl) rfl) ?_
                refine st rfl (x_pick_f (v := Value.bool (!(decide (chk l48 = 0)))) (ev_tmp rfl (congrArg Value.bool hg92)) (ev_tmp rfl rfl)) ?_
                refine s_nil ?_
                refine hK88 _ _ ?_
                have h93 : (!(decide (chk l48 = 0))) = false := (by rw [(decide_eq_true c2)]; rfl)
                refine c_cond_f (ev_tmp rfl (congrArg Value.bool h93)) ?_
                refine c_skip ?_
                refine hK86 _ _ ?_
                refine c_seq fun K94 hK95 => ?_
                refine c_seq fun K96 hK97 => ?_
                refine c_reg ?_
                refine st rfl (x_fieldv (b := b9) (o := 0) (q := 0) fa_40_0 (ev_tmp rfl rfl) rfl) ?_
                refine st rfl (x_load1 (v := Value.int .u8 o.kd) Try.underlying5 rfl (ev_tmp rfl rfl) (M83.cell (i := 2) (o := 0) rfl rfl)) ?_
                refine s_nil ?_
                refine hK97 _ _ ?_
                refine c_block ?_
                refine c_seq fun K98 hK99 => ?_
                refine c_seq fun K100 hK101 => ?_
                refine c_reg ?_
                refine st rfl (x_eql (p := o.kd) (q := 0) (ev_tmp rfl rfl) rfl) ?_
                refine st rfl (x_assign (v := Value.bool (decide (o.kd = 0))) (ev_tmp rfl rfl)) ?_
                refine s_nil ?_
                refine hK101 _ _ ?_
                refine c_cond (b := decide (o.kd = 0)) (ev_tmp rfl rfl) (fun h102 => ?_) (fun h102 => ?_)
                · have h103 : o.kd = 0 := of_decide_eq_true h102
                  refine c_skip ?_
                  refine hK99 _ _ ?_
                  have h104 : (decide (o.kd = 0)) = true := h102
                  refine c_cond_t (ev_tmp rfl (congrArg Value.bool h104)) ?_
                  refine c_seq fun K105 hK106 => ?_
                  refine c_reg ?_
                  refine st rfl (x_move (v := Value.bool true) (ev_tmp rfl rfl)) ?_
                  refine st rfl (x_move (v := Value.bool true) (ev_tmp rfl rfl)) ?_
                  refine gt rfl rfl rfl rfl (x_move (v := Value.slice A69 ((legsC l).length) c70) (ev_tmp rfl rfl)) ?_
                  refine gt rfl rfl rfl rfl (x_move (v := Value.slice A78 ((legsC l48).length) c79) (ev_tmp rfl rfl)) ?_
                  refine gC rfl rfl rfl rfl (x_callL (xs := [.tmp 58, .tmp 59]) (vs := [Value.slice A69 ((legsC l).length) c70, Value.slice A78 ((legsC l48).length) c79]) (cap := []) ent_24 rfl ⟨(ev_tmp rfl rfl), (ev_tmp rfl rfl), trivial⟩) (sameLegs_r _ _ (legsC l) _ _ (legsC l48) _ (M83.slw (i := 1) rfl) (M83.slw (i := 0) rfl)) ?_
                  rintro _ w111 ⟨rfl, hb113⟩
                  refine ⟨_, rfl, ?_⟩
                  have M112 := M83.call hb113
                  refine st rfl (x_pick_t (v := Value.bool (sameB legEq (legsC l) (legsC l48))) (ev_tmp rfl rfl) (ev_tmp rfl rfl)) ?_
                  refine st rfl (x_assign (v := Value.bool (sameB legEq (legsC l) (legsC l48))) (ev_tmp rfl rfl)) ?_
                  refine s_nil ?_
                  refine hK106 _ _ ?_
                  refine c_ret ?_
                  refine hT3 _ _ ?_
                  refine r1 rfl (ev_tmp (v := Value.bool (sameB legEq (legsC l) (legsC l48))) rfl rfl) ?_
                  exact ⟨ret_bool ((sameB_iff fun _ _ => legEq_iff).2 (by rw [g0, g2, f01 (.inl (of_decide_eq_true h102))])), M112.below⟩
                · have h114 : ¬ (o.kd = 0) := of_decide_eq_false h102
                  refine c_reg ?_
                  refine st rfl (x_eql (p := o.kd) (q := 1) (ev_tmp rfl rfl) rfl) ?_
                  refine st rfl (x_assign (v := Value.bool (decide (o.kd = 1))) (ev_tmp rfl rfl)) ?_
                  refine s_nil ?_
                  refine hK99 _ _ ?_
                  refine c_cond (b := decide (o.kd = 1)) (ev_tmp rfl rfl) (fun h115 => ?_) (fun h115 => ?_)
                  · have h116 : o.kd = 1 := of_decide_eq_true h115
                    refine c_seq fun K117 hK118 => ?_
                    refine c_reg ?_
                    refine st rfl (x_move (v := Value.bool true) (ev_tmp rfl rfl)) ?_
                    refine st rfl (x_move (v := Value.bool true) (ev_tmp rfl rfl)) ?_
                    refine gt rfl rfl rfl rfl (x_move (v := Value.slice A69 ((legsC l).length) c70) (ev_tmp rfl rfl)) ?_
                    refine gt rfl rfl rfl rfl (x_move (v := Value.slice A78 ((legsC l48).length) c79) (ev_tmp rfl rfl)) ?_
                    refine gC rfl rfl rfl rfl (x_callL (xs := [.tmp 58, .tmp 59]) (vs := [Value.slice A69 ((legsC l).length) c70, Value.slice A78 ((legsC l48).length) c79]) (cap := []) ent_24 rfl ⟨(ev_tmp rfl rfl), (ev_tmp rfl rfl), trivial⟩) (sameLegs_r _ _ (legsC l) _ _ (legsC l48) _ (M83.slw (i := 1) rfl) (M83.slw (i := 0) rfl)) ?_
                    rintro _ w123 ⟨rfl, hb125⟩
                    refine ⟨_, rfl, ?_⟩
                    have M124 := M83.call hb125
                    refine st rfl (x_pick_t (v := Value.bool (sameB legEq (legsC l) (legsC l48))) (ev_tmp rfl rfl) (ev_tmp rfl rfl)) ?_
                    refine st rfl (x_assign (v := Value.bool (sameB legEq (legsC l) (legsC l48))) (ev_tmp rfl rfl)) ?_
                    refine s_nil ?_
                    refine hK118 _ _ ?_
                    refine c_ret ?_
                    refine hT3 _ _ ?_
                    refine r1 rfl (ev_tmp (v := Value.bool (sameB legEq (legsC l) (legsC l48))) rfl rfl) ?_
                    exact ⟨ret_bool ((sameB_iff fun _ _ => legEq_iff).2 (by rw [g0, g2, f01 (.inr (of_decide_eq_true h115))])), M124.below⟩
                  · have h126 : ¬ (o.kd = 1) := of_decide_eq_false h115
                    refine c_seq fun K127 hK128 => ?_
                    refine c_reg ?_
                    refine st rfl (x_eql (p := o.kd) (q := 2) (ev_tmp rfl rfl) rfl) ?_
                    refine st rfl (x_assign (v := Value.bool (decide (o.kd = 2))) (ev_tmp rfl rfl)) ?_
                    refine s_nil ?_
                    refine hK128 _ _ ?_
                    refine c_cond (b := decide (o.kd = 2)) (ev_tmp rfl rfl) (fun h129 => ?_) (fun h129 => ?_)
                    · have h130 : o.kd = 2 := of_decide_eq_true h129
                      refine c_seq fun K131 hK132 => ?_
                      refine c_reg ?_
                      refine st rfl (x_move (v := Value.bool true) (ev_tmp rfl rfl)) ?_
                      refine st rfl (x_move (v := Value.bool true) (ev_tmp rfl rfl)) ?_
                      refine gt rfl rfl rfl rfl (x_move (v := Value.slice A78 ((legsC l48).length) c79) (ev_tmp rfl rfl)) ?_
                      refine gt rfl rfl rfl rfl (x_lensl (n := ((legsC l48).length)) Try.underlying26 (ev_tmp rfl rfl)) ?_
                      refine gt rfl rfl rfl rfl (x_move (v := Value.slice A69 ((legsC l).length) c70) (ev_tmp rfl rfl)) ?_
                      refine gt rfl rfl rfl rfl (x_lensl (n := ((legsC l).length)) Try.underlying26 (ev_tmp rfl rfl)) ?_
                      have hw137 : IntKind.i64.wrap (((legsC l).length : Int) - 2) = ((legsC l).length : Int) - 2 := w64 (by rfl) (by omega) (by omega)
                      refine gt rfl rfl rfl rfl (x_sub_eq (p := ((legsC l).length : Int)) (q := 2) (ev_tmp rfl rfl) rfl hw137) ?_
                      refine gt rfl rfl rfl rfl (x_eql (p := ((legsC l48).length : Int)) (q := (((legsC l).length : Int) - 2)) (ev_tmp rfl rfl) (ev_tmp rfl rfl)) ?_
                      refine st rfl (x_pick_t (v := Value.bool (decide (((legsC l48).length : Int) = ((legsC l).length : Int) - 2))) (ev_tmp rfl rfl) (ev_tmp rfl rfl)) ?_
                      refine st rfl (x_assign (v := Value.bool (decide (((legsC l48).length : Int) = ((legsC l).length : Int) - 2))) (ev_tmp rfl rfl)) ?_
                      refine s_nil ?_
                      refine hK132 _ _ ?_
                      refine c_ret ?_
                      refine hT3 _ _ ?_
                      refine r1 rfl (ev_tmp (v := Value.bool (decide (((legsC l48).length : Int) = ((legsC l).length : Int) - 2))) rfl rfl) ?_
                      have f4 := f2 (of_decide_eq_true h129)
                      rw [← g0, ← g2] at f4
                      exact ⟨ret_bool (decide_eq_true (by omega)), M83.below⟩
                    · have h138 : ¬ (o.kd = 2) := of_decide_eq_false h129
                      refine c_skip ?_
                      refine hK95 _ _ ?_
                      refine c_seq fun K139 hK140 => ?_
                      refine c_seq fun K141 hK142 => ?_
                      refine c_reg ?_
                      refine st rfl (x_move (v := Value.slice A78 ((legsC l48).length) c79) (ev_tmp rfl rfl)) ?_
                      refine st rfl (x_lensl (n := ((legsC l48).length)) Try.underlying26 (ev_tmp rfl rfl)) ?_
                      refine st rfl (x_move (v := Value.slice A69 ((legsC l).length) c70) (ev_tmp rfl rfl)) ?_
                      refine st rfl (x_lensl (n := ((legsC l).length)) Try.underlying26 (ev_tmp rfl rfl)) ?_
                      refine st rfl (x_eql (p := ((legsC l48).length : Int)) (q := ((legsC l).length : Int)) (ev_tmp rfl rfl) (ev_tmp rfl rfl)) ?_
                      refine s_nil ?_
                      refine hK142 _ _ ?_
                      refine c_cond (b := decide (((legsC l48).length : Int) = ((legsC l).length : Int))) (ev_tmp rfl rfl) (fun h143 => ?_) (fun h143 => ?_)
                      · have h144 : ((legsC l48).length : Int) = ((legsC l).length : Int) := of_decide_eq_true h143
                        refine c_seq fun K145 hK146 => ?_
                        refine c_reg ?_
                        refine st rfl (x_move (v := Value.bool true) (ev_tmp rfl rfl)) ?_
                        refine st rfl (x_move (v := Value.bool true) (ev_tmp rfl rfl)) ?_
                        refine gt rfl rfl rfl rfl (x_move (v := Value.slice A69 ((legsC l).length) c70) (ev_tmp rfl rfl)) ?_
                        refine gt rfl rfl rfl rfl (x_move (v := Value.slice A78 ((legsC l48).length) c79) (ev_tmp rfl rfl)) ?_
                        refine gC rfl rfl rfl rfl (x_callL (xs := [.tmp 80, .tmp 81]) (vs := [Value.slice A69 ((legsC l).length) c70, Value.slice A78 ((legsC l48).length) c79]) (cap := []) ent_24 rfl ⟨(ev_tmp rfl rfl), (ev_tmp rfl rfl), trivial⟩) (sameLegs_r _ _ (legsC l) _ _ (legsC l48) _ (M83.slw (i := 1) rfl) (M83.slw (i := 0) rfl)) ?_
                        rintro _ w151 ⟨rfl, hb153⟩
                        refine ⟨_, rfl, ?_⟩
                        have M152 := M83.call hb153
                        refine st rfl (x_pick_t (v := Value.bool (sameB legEq (legsC l) (legsC l48))) (ev_tmp rfl rfl) (ev_tmp rfl rfl)) ?_
                        refine st rfl (x_assign (v := Value.bool (sameB legEq (legsC l) (legsC l48))) (ev_tmp rfl rfl)) ?_
                        refine s_nil ?_
                        refine hK146 _ _ ?_
                        refine c_ret ?_
                        refine hT3 _ _ ?_
                        refine r1 rfl (ev_tmp (v := Value.bool (sameB legEq (legsC l) (legsC l48))) rfl rfl) ?_
                        have h77 := of_decide_eq_true h143
                        have f4 := (f3 (of_decide_eq_false h102) (of_decide_eq_false h115) (of_decide_eq_false h129)).resolve_right (fun hh => by have := hh.1; rw [← g0, ← g2] at this; omega)
                        exact ⟨ret_bool ((sameB_iff fun _ _ => legEq_iff).2 (by rw [g0, g2, f4])), M152.below⟩
                      · have h154 : ¬ (((legsC l48).length : Int) = ((legsC l).length : Int)) := of_decide_eq_false h143
                        have h77 := of_decide_eq_false h143
                        obtain ⟨hl2, hn1, hn2, x, hx, hb, hq⟩ := (f3 (of_decide_eq_false h102) (of_decide_eq_false h115) (of_decide_eq_false h129)).resolve_left (fun hh => h77 (by rw [g0, g2, hh]))
                        rw [← g0, ← g2] at hl2
                        refine c_skip ?_
                        refine hK140 _ _ ?_
                        refine c_seq fun K155 hK156 => ?_
                        refine c_seq fun K157 hK158 => ?_
                        refine c_reg ?_
                        refine st rfl (x_fieldv (b := b9) (o := 0) (q := 1) fa_40_1 (ev_tmp rfl rfl) rfl) ?_
                        refine st rfl (x_load1 (v := Value.int .i64 o.nb) Try.underlying3 rfl (ev_tmp rfl rfl) (M83.cell (i := 2) (o := 1) rfl rfl)) ?_
                        refine st rfl (x_lss (p := o.nb) (q := 1) (ev_tmp rfl rfl) rfl) ?_
                        refine st rfl (x_move (v := Value.bool (decide (o.nb < 1))) (ev_tmp rfl rfl)) ?_
                        have hg162 : (decide (o.nb < 1)) = false := (decide_eq_false (by omega))
                        refine gt rfl rfl rfl (congrArg Value.bool hg162) (x_fieldv (b := b9) (o := 0) (q := 1) fa_40_1 (ev_tmp rfl rfl) rfl) ?_
                        refine gt rfl rfl rfl (congrArg Value.bool hg162) (x_load1 (v := Value.int .i64 o.nb) Try.underlying3 rfl (ev_tmp rfl rfl) (M83.cell (i := 2) (o := 1) rfl rfl)) ?_
                        refine gt rfl rfl rfl (congrArg Value.bool hg162) (x_fieldv (b := b6) (o := 0) (q := 0) fa_24_0 (ev_tmp rfl rfl) rfl) ?_
                        refine gt rfl rfl rfl (congrArg Value.bool hg162) (x_load1 (v := Value.slice A l.length c) Try.underlying22 rfl (ev_tmp rfl rfl) (M83.cell (i := 3) (o := 0) rfl rfl)) ?_
                        refine gt rfl rfl rfl (congrArg Value.bool hg162) (x_lensl (n := l.length) Try.underlying22 (ev_tmp rfl rfl)) ?_
                        refine gt rfl rfl rfl (congrArg Value.bool hg162) (x_gtr (p := o.nb) (q := (l.length : Int)) (ev_tmp rfl rfl) (ev_tmp rfl rfl)) ?_
                        refine st rfl (x_pick_f (v := Value.bool (decide ((l.length : Int) < o.nb))) (ev_tmp rfl (congrArg Value.bool hg162)) (ev_tmp rfl rfl)) ?_
                        refine s_nil ?_
                        refine hK158 _ _ ?_
                        have h163 : (decide ((l.length : Int) < o.nb)) = false := (decide_eq_false (by omega))
                        refine c_cond_f (ev_tmp rfl (congrArg Value.bool h163)) ?_
                        refine c_skip ?_
                        refine hK156 _ _ ?_
                        refine c_seq fun K164 hK165 => ?_
                        refine c_reg ?_
                        refine st rfl (x_fieldv (b := b6) (o := 0) (q := 0) fa_24_0 (ev_tmp rfl rfl) rfl) ?_
                        refine st rfl (x_load1 (v := Value.slice A l.length c) Try.underlying22 rfl (ev_tmp rfl rfl) (M83.cell (i := 3) (o := 0) rfl rfl)) ?_
                        refine st rfl (x_fieldv (b := b9) (o := 0) (q := 1) fa_40_1 (ev_tmp rfl rfl) rfl) ?_
                        refine st rfl (x_load1 (v := Value.int .i64 o.nb) Try.underlying3 rfl (ev_tmp rfl rfl) (M83.cell (i := 2) (o := 1) rfl rfl)) ?_
                        have hw166 : IntKind.i64.wrap (o.nb - 1) = o.nb - 1 := w64 (by rfl) (by omega) (by omega)
                        refine st rfl (x_sub_eq (p := o.nb) (q := 1) (ev_tmp rfl rfl) rfl hw166) ?_
                        obtain ⟨g167, o168, hA169⟩ := M83.roat (i := 3) rfl hx
                        refine st rfl (x_elemA (b := g167) (o := o168) (k := ((o.nb - 1).toNat)) ea_22 (ev_tmp rfl rfl) hA169 (ev_tmp rfl rfl) (by omega) (by omega)) ?_
                        refine st rfl (x_loadw (cs := [Value.string x.b, Value.string x.s, Value.string x.p, Value.int .i64 x.q, Value.int .i64 x.r, Value.bool x.bo, Value.bool x.so, Value.int .u8 x.st]) Try.underlying34 rfl sz_34 (ev_tmp rfl rfl) (M83.rorange (i := 3) rfl hA169 hx (f := 0) ⟨rfl, rfl, rfl, rfl, rfl, rfl, rfl, rfl, trivial⟩)) ?_
                        refine snew (cs := #[Value.string ByteArray.empty, Value.string ByteArray.empty, Value.string ByteArray.empty, Value.int .i64 0, Value.int .i64 0, Value.bool false, Value.bool false, Value.int .u8 0]) M83 rfl (x_allocz z_34) fun b172 w173 M174 => ?_
                        refine sset (i := 0) (L' := [Own.cells b172 34 #[Value.string x.b, Value.string x.s, Value.string x.p, Value.int .i64 x.q, Value.int .i64 x.r, Value.bool x.bo, Value.bool x.so, Value.int .u8 x.st], Own.cells b53 24 #[Value.slice A42 l48.length c43], Own.row 34 8 (Value.slice A35 l.length c36) l.length (l.flatMap Trade.cells), Own.cells b9 40 #[Value.int .u8 o.kd, Value.int .i64 o.nb, Value.string o.y, Value.string o.b, Value.string o.s, Value.string o.p, Value.int .i64 o.q, Value.int .i64 o.r], Own.cells b6 24 #[Value.slice A l.length c]]) M174 rfl rfl (x_storew (cs := [Value.string x.b, Value.string x.s, Value.string x.p, Value.int .i64 x.q, Value.int .i64 x.r, Value.bool x.bo, Value.bool x.so, Value.int .u8 x.st]) sz_34 (ev_tmp rfl rfl) (ev_tmp rfl rfl) (M174.cells_at (i := 0) rfl) rfl ⟨rfl, rfl, rfl, rfl, rfl, rfl, rfl, rfl, trivial⟩) fun w175 M176 => ?_
                        refine s_nil ?_
                        refine hK165 _ _ ?_
                        refine c_seq fun K177 hK178 => ?_
                        refine c_reg ?_
                        refine st rfl (x_move (v := Value.bool true) (ev_tmp rfl rfl)) ?_
                        refine st rfl (x_move (v := Value.bool true) (ev_tmp rfl rfl)) ?_
                        refine gt rfl rfl rfl rfl (x_move (v := Value.slice A78 ((legsC l48).length) c79) (ev_tmp rfl rfl)) ?_
                        refine gt rfl rfl rfl rfl (x_lensl (n := ((legsC l48).length)) Try.underlying26 (ev_tmp rfl rfl)) ?_
                        refine gt rfl rfl rfl rfl (x_move (v := Value.slice A69 ((legsC l).length) c70) (ev_tmp rfl rfl)) ?_
                        refine gt rfl rfl rfl rfl (x_lensl (n := ((legsC l).length)) Try.underlying26 (ev_tmp rfl rfl)) ?_
                        have hw183 : IntKind.i64.wrap (((legsC l).length : Int) + 2) = ((legsC l).length : Int) + 2 := w64 (by rfl) (by omega) (by omega)
                        refine gt rfl rfl rfl rfl (x_add_eq (p := ((legsC l).length : Int)) (q := 2) (ev_tmp rfl rfl) rfl hw183) ?_
                        refine gt rfl rfl rfl rfl (x_eql (p := ((legsC l48).length : Int)) (q := (((legsC l).length : Int) + 2)) (ev_tmp rfl rfl) (ev_tmp rfl rfl)) ?_
                        refine st rfl (x_pick_t (v := Value.bool (decide (((legsC l48).length : Int) = ((legsC l).length : Int) + 2))) (ev_tmp rfl rfl) (ev_tmp rfl rfl)) ?_
                        refine st rfl (x_move (v := Value.bool (decide (((legsC l48).length : Int) = ((legsC l).length : Int) + 2))) (ev_tmp rfl rfl)) ?_
                        have hg187 : (decide (((legsC l48).length : Int) = ((legsC l).length : Int) + 2)) = true := (decide_eq_true (by omega))
                        refine gt rfl rfl rfl (congrArg Value.bool hg187) (x_fieldv (b := b172) (o := 0) (q := 5) fa_34_5 (ev_tmp rfl rfl) rfl) ?_
                        refine gt rfl rfl rfl (congrArg Value.bool hg187) (x_load1 (v := Value.bool x.bo) Try.underlying4 rfl (ev_tmp rfl rfl) (M176.cell (i := 0) (o := 5) rfl rfl)) ?_
                        refine gt rfl rfl rfl (congrArg Value.bool hg187) (x_move (v := Value.bool x.bo) (ev_tmp rfl rfl)) ?_
                        refine s_meet3 fun K188 hK189 => ?_
                        have J190 : ∀ jk, K188 (fr 143 ([(117, Value.bool (x.bo || x.so)), (3, Value.pointer (some ⟨b9, 0, none⟩)), (4, Value.bool false), (13, Value.pointer (some ⟨b172, 0, none⟩)), (111, Value.bool (decide (((legsC l48).length : Int) = ((legsC l).length : Int) + 2))), (114, Value.bool x.bo)] ++ jk)) w175 := by
                          intro jk
                          refine hK189 _ _ ?_
                          clear hK189
                          refine st rfl (x_pick_t (v := Value.bool (x.bo || x.so)) (ev_tmp rfl (congrArg Value.bool hg187)) (ev_tmp rfl rfl)) ?_
                          refine st rfl (x_move (v := Value.bool (x.bo || x.so)) (ev_tmp rfl rfl)) ?_
                          have hg196 : (x.bo || x.so) = true := hb
                          refine gt rfl rfl rfl (congrArg Value.bool hg196) (x_fieldv (b := b9) (o := 0) (q := 2) fa_40_2 (ev_tmp rfl rfl) rfl) ?_
                          refine gt rfl rfl rfl (congrArg Value.bool hg196) (x_load1 (v := Value.string o.y) Try.underlying9 rfl (ev_tmp rfl rfl) (M176.cell (i := 3) (o := 2) rfl rfl)) ?_
                          refine gt rfl rfl rfl (congrArg Value.bool hg196) (x_fieldv (b := b172) (o := 0) (q := 0) fa_34_0 (ev_tmp rfl rfl) rfl) ?_
                          refine gt rfl rfl rfl (congrArg Value.bool hg196) (x_load1 (v := Value.string x.b) Try.underlying9 rfl (ev_tmp rfl rfl) (M176.cell (i := 0) (o := 0) rfl rfl)) ?_
                          refine gt rfl rfl rfl (congrArg Value.bool hg196) (x_eqs (p := o.y) (q := x.b) (ev_tmp rfl rfl) (ev_tmp rfl rfl)) ?_
                          refine gt rfl rfl rfl (congrArg Value.bool hg196) (x_move (v := Value.bool (decide (o.y.data.toList = x.b.data.toList))) (ev_tmp rfl rfl)) ?_
                          refine s_meet4 fun K197 hK198 => ?_
                          have J199 : ∀ jk, K197 (fr 143 ([(129, Value.bool ((decide (o.y.data.toList = x.b.data.toList)) && (!x.bo))), (3, Value.pointer (some ⟨b9, 0, none⟩)), (4, Value.bool false), (13, Value.pointer (some ⟨b172, 0, none⟩)), (119, Value.bool (x.bo || x.so)), (125, Value.bool (decide (o.y.data.toList = x.b.data.toList)))] ++ jk)) w175 := by
                            intro jk
                            refine hK198 _ _ ?_
                            clear hK198
                            refine gt rfl rfl rfl (congrArg Value.bool hg196) (x_move (v := Value.bool ((decide (o.y.data.toList = x.b.data.toList)) && (!x.bo))) (ev_tmp rfl rfl)) ?_
                            refine s_meet11 fun K202 hK203 => ?_
                            have J204 : ∀ jk, K202 (fr 143 ([(141, Value.bool (((decide (o.y.data.toList = x.b.data.toList)) && (!x.bo)) || ((decide (o.y.data.toList = x.s.data.toList)) && (!x.so)))), (4, Value.bool false), (119, Value.bool (x.bo || x.so)), (130, Value.bool ((decide (o.y.data.toList = x.b.data.toList)) && (!x.bo)))] ++ jk)) w175 := by
                              intro jk
                              refine hK203 _ _ ?_
                              clear hK203
                              refine st rfl (x_pick_t (v := Value.bool (((decide (o.y.data.toList = x.b.data.toList)) && (!x.bo)) || ((decide (o.y.data.toList = x.s.data.toList)) && (!x.so)))) (ev_tmp rfl (congrArg Value.bool hg196)) (ev_tmp rfl rfl)) ?_
                              refine st rfl (x_assign (v := Value.bool (((decide (o.y.data.toList = x.b.data.toList)) && (!x.bo)) || ((decide (o.y.data.toList = x.s.data.toList)) && (!x.so)))) (ev_tmp rfl rfl)) ?_
                              refine s_nil ?_
                              refine hK178 _ _ ?_
                              refine c_ret ?_
                              refine hT3 _ _ ?_
                              refine r1 rfl (ev_tmp (v := Value.bool (((decide (o.y.data.toList = x.b.data.toList)) && (!x.bo)) || ((decide (o.y.data.toList = x.s.data.toList)) && (!x.so)))) rfl rfl) ?_
                              exact ⟨ret_bool hq, M176.below⟩
                            clear hK203
                            rcases bcase ((decide (o.y.data.toList = x.b.data.toList)) && (!x.bo)) with hg205 | hg205
                            · have h206 : ((decide (o.y.data.toList = x.b.data.toList)) && (!x.bo)) = false := hg205
                              refine gt rfl rfl rfl (congrArg Value.bool hg205) (x_fieldv (b := b9) (o := 0) (q := 2) fa_40_2 (ev_tmp rfl rfl) rfl) ?_
                              refine gt rfl rfl rfl (congrArg Value.bool hg205) (x_load1 (v := Value.string o.y) Try.underlying9 rfl (ev_tmp rfl rfl) (M176.cell (i := 3) (o := 2) rfl rfl)) ?_
                              refine gt rfl rfl rfl (congrArg Value.bool hg205) (x_fieldv (b := b172) (o := 0) (q := 1) fa_34_1 (ev_tmp rfl rfl) rfl) ?_
                              refine gt rfl rfl rfl (congrArg Value.bool hg205) (x_load1 (v := Value.string x.s) Try.underlying9 rfl (ev_tmp rfl rfl) (M176.cell (i := 0) (o := 1) rfl rfl)) ?_
                              refine gt rfl rfl rfl (congrArg Value.bool hg205) (x_eqs (p := o.y) (q := x.s) (ev_tmp rfl rfl) (ev_tmp rfl rfl)) ?_
                              refine gt rfl rfl rfl (congrArg Value.bool hg205) (x_move (v := Value.bool (decide (o.y.data.toList = x.s.data.toList))) (ev_tmp rfl rfl)) ?_
                              refine s_meet4 fun K207 hK208 => ?_
                              have J209 : ∀ jk, K207 (fr 143 ([(140, Value.bool ((decide (o.y.data.toList = x.s.data.toList)) && (!x.so))), (4, Value.bool false), (119, Value.bool (x.bo || x.so)), (130, Value.bool ((decide (o.y.data.toList = x.b.data.toList)) && (!x.bo))), (136, Value.bool (decide (o.y.data.toList = x.s.data.toList)))] ++ jk)) w175 := by
                                intro jk
                                refine hK208 _ _ ?_
                                clear hK208
                                refine gt rfl rfl rfl (congrArg Value.bool hg196) (x_pick_f (v := Value.bool ((decide (o.y.data.toList = x.s.data.toList)) && (!x.so))) (ev_tmp rfl (congrArg Value.bool hg205)) (ev_tmp rfl rfl)) ?_
                                refine s_nil ?_
                                exact j_to J204 ⟨(congrArg Value.bool (or_f hg205)), rfl, rfl, rfl, trivial⟩
                              clear hK208
                              rcases bcase (decide (o.y.data.toList = x.s.data.toList)) with hg210 | hg210
                              · refine gf (b' := false) rfl rfl rfl (congrArg Value.bool hg210) rfl ?_
                                refine gf (b' := false) rfl rfl rfl (congrArg Value.bool hg210) rfl ?_
                                refine gf (b' := false) rfl rfl rfl (congrArg Value.bool hg210) rfl ?_
                                refine gt rfl rfl rfl (congrArg Value.bool hg205) (x_pick_f (v := Value.bool false) (ev_tmp rfl (congrArg Value.bool hg210)) rfl) ?_
                                refine s_nil ?_
                                exact j_to J209 ⟨(congrArg Value.bool (and_f hg210)), rfl, rfl, rfl, rfl, trivial⟩
                              · have h211 : o.y.data.toList = x.s.data.toList := of_decide_eq_true hg210
                                refine gt rfl rfl rfl (congrArg Value.bool hg210) (x_fieldv (b := b172) (o := 0) (q := 6) fa_34_6 (ev_tmp rfl rfl) rfl) ?_
                                refine gt rfl rfl rfl (congrArg Value.bool hg210) (x_load1 (v := Value.bool x.so) Try.underlying4 rfl (ev_tmp rfl rfl) (M176.cell (i := 0) (o := 6) rfl rfl)) ?_
                                refine gt rfl rfl rfl (congrArg Value.bool hg210) (x_not (b := x.so) (ev_tmp rfl rfl)) ?_
                                refine gt rfl rfl rfl (congrArg Value.bool hg205) (x_pick_t (v := Value.bool (!x.so)) (ev_tmp rfl (congrArg Value.bool hg210)) (ev_tmp rfl rfl)) ?_
                                refine s_nil ?_
                                exact j_to J209 ⟨(congrArg Value.bool (and_t hg210)), rfl, rfl, rfl, rfl, trivial⟩
                            · refine gf (b' := true) rfl rfl rfl (congrArg Value.bool hg205) rfl ?_
                              refine gf (b' := true) rfl rfl rfl (congrArg Value.bool hg205) rfl ?_
                              refine gf (b' := true) rfl rfl rfl (congrArg Value.bool hg205) rfl ?_
                              refine gf (b' := true) rfl rfl rfl (congrArg Value.bool hg205) rfl ?_
                              refine gf (b' := true) rfl rfl rfl (congrArg Value.bool hg205) rfl ?_
                              refine gf (b' := true) rfl rfl rfl (congrArg Value.bool hg205) rfl ?_
                              refine gu rfl rfl rfl rfl ?_
                              refine gu rfl rfl rfl rfl ?_
                              refine gu rfl rfl rfl rfl ?_
                              refine gf (b' := true) rfl rfl rfl (congrArg Value.bool hg205) rfl ?_
                              refine gt rfl rfl rfl (congrArg Value.bool hg196) (x_pick_t (v := Value.bool true) (ev_tmp rfl (congrArg Value.bool hg205)) rfl) ?_
                              refine s_nil ?_
                              exact j_to J204 ⟨(congrArg Value.bool (or_t hg205)), rfl, rfl, rfl, trivial⟩
                          clear hK198
                          rcases bcase (decide (o.y.data.toList = x.b.data.toList)) with hg200 | hg200
                          · refine gf (b' := false) rfl rfl rfl (congrArg Value.bool hg200) rfl ?_
                            refine gf (b' := false) rfl rfl rfl (congrArg Value.bool hg200) rfl ?_
                            refine gf (b' := false) rfl rfl rfl (congrArg Value.bool hg200) rfl ?_
                            refine gt rfl rfl rfl (congrArg Value.bool hg196) (x_pick_f (v := Value.bool false) (ev_tmp rfl (congrArg Value.bool hg200)) rfl) ?_
                            refine s_nil ?_
                            exact j_to J199 ⟨(congrArg Value.bool (and_f hg200)), rfl, rfl, rfl, rfl, rfl, trivial⟩
                          · have h201 : o.y.data.toList = x.b.data.toList := of_decide_eq_true hg200
                            refine gt rfl rfl rfl (congrArg Value.bool hg200) (x_fieldv (b := b172) (o := 0) (q := 5) fa_34_5 (ev_tmp rfl rfl) rfl) ?_
                            refine gt rfl rfl rfl (congrArg Value.bool hg200) (x_load1 (v := Value.bool x.bo) Try.underlying4 rfl (ev_tmp rfl rfl) (M176.cell (i := 0) (o := 5) rfl rfl)) ?_
                            refine gt rfl rfl rfl (congrArg Value.bool hg200) (x_not (b := x.bo) (ev_tmp rfl rfl)) ?_
                            refine gt rfl rfl rfl (congrArg Value.bool hg196) (x_pick_t (v := Value.bool (!x.bo)) (ev_tmp rfl (congrArg Value.bool hg200)) (ev_tmp rfl rfl)) ?_
                            refine s_nil ?_
                            exact j_to J199 ⟨(congrArg Value.bool (and_t hg200)), rfl, rfl, rfl, rfl, rfl, trivial⟩
                        clear hK189
                        rcases bcase (x.bo) with hg191 | hg191
                        · have h192 : x.bo = false := hg191
                          refine gt rfl rfl rfl (congrArg Value.bool hg191) (x_fieldv (b := b172) (o := 0) (q := 6) fa_34_6 (ev_tmp rfl rfl) rfl) ?_
                          refine gt rfl rfl rfl (congrArg Value.bool hg191) (x_load1 (v := Value.bool x.so) Try.underlying4 rfl (ev_tmp rfl rfl) (M176.cell (i := 0) (o := 6) rfl rfl)) ?_
                          refine gt rfl rfl rfl (congrArg Value.bool hg187) (x_pick_f (v := Value.bool x.so) (ev_tmp rfl (congrArg Value.bool hg191)) (ev_tmp rfl rfl)) ?_
                          refine s_nil ?_
                          exact j_to J190 ⟨(congrArg Value.bool (or_f hg191)), rfl, rfl, rfl, rfl, rfl, trivial⟩
                        · refine gf (b' := true) rfl rfl rfl (congrArg Value.bool hg191) rfl ?_
                          refine gf (b' := true) rfl rfl rfl (congrArg Value.bool hg191) rfl ?_
                          refine gt rfl rfl rfl (congrArg Value.bool hg187) (x_pick_t (v := Value.bool true) (ev_tmp rfl (congrArg Value.bool hg191)) rfl) ?_
                          refine s_nil ?_
                          exact j_to J190 ⟨(congrArg Value.bool (or_t hg191)), rfl, rfl, rfl, rfl, rfl, trivial⟩
            exact dN
          exact dN
        refine dC ?_ ?_
        · refine dnew (i := 8) (cs := #[Value.slice none 0 0]) M40 rfl rfl (x_allocz z_24) fun b212 w213 M214 => ?_
          refine ⟨(M214.dropL 2), ?_⟩
          refine dA (rs := [3]) (by kernel_rfl) rfl ?_
          refine dC ?_ ?_
          · refine dsC (i := 3) rfl rfl (x_callL (xs := [.tmp 26, .tmp 27]) (vs := [Value.agg #[Value.slice A35 l.length c36], Value.agg #[Value.int .u8 o.kd, Value.int .i64 o.nb, Value.string o.y, Value.string o.b, Value.string o.s, Value.string o.p, Value.int .i64 o.q, Value.int .i64 o.r]]) (cap := []) ent_20 rfl ⟨(ev_tmp rfl rfl), (ev_tmp rfl rfl), trivial⟩) (call_c _ _ l o _ (M214.rowsl (i := 1) rfl rfl Trade.len)) ?_
            rintro _ w217 ⟨A215, c216, l221, e223, e224, he222, rfl, hb218, hs219⟩
            refine ⟨_, rfl, ?_⟩
            have M220 := M214.gotSl hb218 hs219
            refine ⟨((M220.dropL 2).dropR 1), ?_⟩
            refine dT (i := 4) (v := Value.tuple #[Value.agg #[Value.slice A215 l221.length c216], Value.int .i64 e223, Value.int .i64 e224]) rfl (by kernel_rfl) (by kernel_rfl) rfl ((M220.dropL 2).dropR 1) (fun _ hS => x_move (v := Value.tuple #[Value.agg #[Value.slice A215 l221.length c216], Value.int .i64 e223, Value.int .i64 e224]) (ev_tmp rfl rfl)) ?_
            refine dT (i := 5) (v := Value.agg #[Value.slice A215 l221.length c216]) rfl (by kernel_rfl) (by kernel_rfl) rfl ((M220.dropL 2).dropR 1) (fun _ hS => x_extract (v := Value.agg #[Value.slice A215 l221.length c216]) (ev_tmp rfl rfl) rfl) ?_
            refine dT (i := 6) (v := Value.int .i64 e223) rfl (by kernel_rfl) (by kernel_rfl) rfl ((M220.dropL 2).dropR 1) (fun _ hS => x_extract (v := Value.int .i64 e223) (ev_tmp rfl rfl) rfl) ?_
            refine dT (i := 7) (v := Value.int .i64 e224) rfl (by kernel_rfl) (by kernel_rfl) rfl ((M220.dropL 2).dropR 1) (fun _ hS => x_extract (v := Value.int .i64 e224) (ev_tmp rfl rfl) rfl) ?_
            refine dA (rs := [9]) (by kernel_rfl) rfl ?_
            refine dC ?_ ?_
            · refine dset (i := 9) (k := 0) (L' := [Own.cells b212 24 #[Value.slice A215 l221.length c216], Own.row 34 8 (Value.slice A35 l.length c36) l.length (l.flatMap Trade.cells), Own.cells b9 40 #[Value.int .u8 o.kd, Value.int .i64 o.nb, Value.string o.y, Value.string o.b, Value.string o.s, Value.string o.p, Value.int .i64 o.q, Value.int .i64 o.r], Own.cells b6 24 #[Value.slice A l.length c]]) M220 rfl rfl rfl (x_storew (cs := [Value.slice A215 l221.length c216]) sz_24 (ev_tmp rfl rfl) (ev_tmp rfl rfl) (M220.cells_at (i := 0) rfl) rfl ⟨rfl, trivial⟩) fun w226 M227 => ?_
              refine ⟨((M227.dropL 2).dropR 1), ?_⟩
              refine dT (i := 10) (v := Value.int .i64 e223) rfl (by kernel_rfl) (by kernel_rfl) rfl ((M227.dropL 2).dropR 1) (fun _ hS => x_assign (v := Value.int .i64 e223) (ev_tmp rfl rfl)) ?_
              refine dT (i := 11) (v := Value.int .i64 e224) rfl (by kernel_rfl) (by kernel_rfl) rfl ((M227.dropL 2).dropR 1) (fun _ hS => x_assign (v := Value.int .i64 e224) (ev_tmp rfl rfl)) ?_
              refine dE (by kernel_rfl) ?_
              refine hK32 _ _ ?_
              refine c_seq fun K228 hK229 => ?_
              refine c_seq fun K230 hK231 => ?_
              refine c_reg ?_
              refine st rfl (x_move (v := Value.int .i64 e224) (ev_tmp rfl rfl)) ?_
              refine st rfl (x_neq (p := e224) (q := 0) (ev_tmp rfl rfl) rfl) ?_
              refine s_nil ?_
              refine hK231 _ _ ?_
              refine c_cond (b := !(decide (e224 = 0))) (ev_tmp rfl rfl) (fun h232 => ?_) (fun h232 => ?_)
              · have h233 : ¬ (e224 = 0) := of_decide_eq_false (not_t h232)
                refine c_seq fun K234 hK235 => ?_
                refine c_reg ?_
                refine st rfl (x_move (v := Value.bool true) (ev_tmp rfl rfl)) ?_
                refine st rfl (x_assign (v := Value.bool true) (ev_tmp rfl rfl)) ?_
                refine s_nil ?_
                refine hK235 _ _ ?_
                refine c_ret ?_
                refine hT3 _ _ ?_
                refine r1 rfl (ev_tmp (v := Value.bool true) rfl rfl) ?_
                exact ⟨rfl, M227.below⟩
              · have h236 : e224 = 0 := of_decide_eq_true (not_f h232)
                have hz : e224 = 0 := of_decide_eq_true (not_f h232)
                obtain ⟨c0, c2, f01, f2, f3⟩ := once_plain (l := l) (l2 := l221) (o := o) (n := e223) (by rw [← hz]; exact he222)
                have g0 : legsC l = legs l := legsC_of c0
                have g2 : legsC l221 = legs l221 := legsC_of c2
                have hq400 := legsC_len l221
                refine c_skip ?_
                refine hK229 _ _ ?_
                refine c_seq fun K237 hK238 => ?_
                refine c_reg ?_
                refine st rfl (x_loadw (cs := [Value.slice A l.length c]) Try.underlying24 rfl sz_24 (ev_tmp rfl rfl) (M227.range (i := 3) rfl ⟨rfl, trivial⟩)) ?_
                refine sC rfl (x_callL (xs := [.tmp 36]) (vs := [Value.agg #[Value.slice A l.length c]]) (cap := []) ent_12 rfl ⟨(ev_tmp rfl rfl), trivial⟩) (legs_c _ _ l _ (M227.slw (i := 1) rfl)) ?_
                rintro _ w241 ⟨A239, c240, rfl, hb242, hs243⟩
                refine ⟨_, rfl, ?_⟩
                have M244 := M227.gotSl hb242 hs243
                refine st rfl (x_move (v := Value.tuple #[Value.slice A239 ((legsC l).length) c240, Value.int .i64 (chk l)]) (ev_tmp rfl rfl)) ?_
                refine st rfl (x_extract (v := Value.slice A239 ((legsC l).length) c240) (ev_tmp rfl rfl) rfl) ?_
                refine st rfl (x_extract (v := Value.int .i64 (chk l)) (ev_tmp rfl rfl) rfl) ?_
                refine st rfl (x_assign (v := Value.slice A239 ((legsC l).length) c240) (ev_tmp rfl rfl)) ?_
                refine st rfl (x_assign (v := Value.int .i64 (chk l)) (ev_tmp rfl rfl)) ?_
                refine s_nil ?_
                refine hK238 _ _ ?_
                refine c_seq fun K246 hK247 => ?_
                refine c_reg ?_
                refine st rfl (x_loadw (cs := [Value.slice A215 l221.length c216]) Try.underlying24 rfl sz_24 (ev_tmp rfl rfl) (M244.range (i := 0) rfl ⟨rfl, trivial⟩)) ?_
                refine sC rfl (x_callL (xs := [.tmp 41]) (vs := [Value.agg #[Value.slice A215 l221.length c216]]) (cap := []) ent_12 rfl ⟨(ev_tmp rfl rfl), trivial⟩) (legs_c _ _ l221 _ (M244.slw (i := 1) rfl)) ?_
                rintro _ w250 ⟨A248, c249, rfl, hb251, hs252⟩
                refine ⟨_, rfl, ?_⟩
                have M253 := M244.gotSl hb251 hs252
                refine st rfl (x_move (v := Value.tuple #[Value.slice A248 ((legsC l221).length) c249, Value.int .i64 (chk l221)]) (ev_tmp rfl rfl)) ?_
                refine st rfl (x_extract (v := Value.slice A248 ((legsC l221).length) c249) (ev_tmp rfl rfl) rfl) ?_
                refine st rfl (x_extract (v := Value.int .i64 (chk l221)) (ev_tmp rfl rfl) rfl) ?_
                refine st rfl (x_assign (v := Value.slice A248 ((legsC l221).length) c249) (ev_tmp rfl rfl)) ?_
                refine st rfl (x_assign (v := Value.int .i64 (chk l221)) (ev_tmp rfl rfl)) ?_
                refine s_nil ?_
                refine hK247 _ _ ?_
                refine c_seq fun K255 hK256 => ?_
                refine c_seq fun K257 hK258 => ?_
                refine c_reg ?_
                refine st rfl (x_move (v := Value.int .i64 (chk l)) (ev_tmp rfl rfl)) ?_
                refine st rfl (x_neq (p := (chk l)) (q := 0) (ev_tmp rfl rfl) rfl) ?_
                refine st rfl (x_move (v := Value.bool (!(decide (chk l = 0)))) (ev_tmp rfl rfl)) ?_
                have hg262 : (!(decide (chk l = 0))) = false := (by rw [(decide_eq_true c0)]; rfl)
                refine gt rfl rfl rfl (congrArg Value.bool hg262) (x_move (v := Value.int .i64 (chk l221)) (ev_tmp rfl rfl)) ?_
                refine gt rfl rfl rfl (congrArg Value.bool hg262) (x_neq (p := (chk l221)) (q := 0) (ev_tmp rfl rfl) rfl) ?_
                refine st rfl (x_pick_f (v := Value.bool (!(decide (chk l221 = 0)))) (ev_tmp rfl (congrArg Value.bool hg262)) (ev_tmp rfl rfl)) ?_
                refine s_nil ?_
                refine hK258 _ _ ?_
                have h263 : (!(decide (chk l221 = 0))) = false := (by rw [(decide_eq_true c2)]; rfl)
                refine c_cond_f (ev_tmp rfl (congrArg Value.bool h263)) ?_
                refine c_skip ?_
                refine hK256 _ _ ?_
                refine c_seq fun K264 hK265 => ?_
                refine c_seq fun K266 hK267 => ?_
                refine c_reg ?_
                refine st rfl (x_fieldv (b := b9) (o := 0) (q := 0) fa_40_0 (ev_tmp rfl rfl) rfl) ?_
                refine st rfl (x_load1 (v := Value.int .u8 o.kd) Try.underlying5 rfl (ev_tmp rfl rfl) (M253.cell (i := 2) (o := 0) rfl rfl)) ?_
                refine s_nil ?_
                refine hK267 _ _ ?_
                refine c_block ?_
                refine c_seq fun K268 hK269 => ?_
                refine c_seq fun K270 hK271 => ?_
                refine c_reg ?_
                refine st rfl (x_eql (p := o.kd) (q := 0) (ev_tmp rfl rfl) rfl) ?_
                refine st rfl (x_assign (v := Value.bool (decide (o.kd = 0))) (ev_tmp rfl rfl)) ?_
                refine s_nil ?_
                refine hK271 _ _ ?_
                refine c_cond (b := decide (o.kd = 0)) (ev_tmp rfl rfl) (fun h272 => ?_) (fun h272 => ?_)
                · have h273 : o.kd = 0 := of_decide_eq_true h272
                  refine c_skip ?_
                  refine hK269 _ _ ?_
                  have h274 : (decide (o.kd = 0)) = true := h272
                  refine c_cond_t (ev_tmp rfl (congrArg Value.bool h274)) ?_
                  refine c_seq fun K275 hK276 => ?_
                  refine c_reg ?_
                  refine st rfl (x_move (v := Value.bool true) (ev_tmp rfl rfl)) ?_
                  refine st rfl (x_move (v := Value.bool true) (ev_tmp rfl rfl)) ?_
                  refine gt rfl rfl rfl rfl (x_move (v := Value.slice A239 ((legsC l).length) c240) (ev_tmp rfl rfl)) ?_
                  refine gt rfl rfl rfl rfl (x_move (v := Value.slice A248 ((legsC l221).length) c249) (ev_tmp rfl rfl)) ?_
                  refine gC rfl rfl rfl rfl (x_callL (xs := [.tmp 58, .tmp 59]) (vs := [Value.slice A239 ((legsC l).length) c240, Value.slice A248 ((legsC l221).length) c249]) (cap := []) ent_24 rfl ⟨(ev_tmp rfl rfl), (ev_tmp rfl rfl), trivial⟩) (sameLegs_r _ _ (legsC l) _ _ (legsC l221) _ (M253.slw (i := 1) rfl) (M253.slw (i := 0) rfl)) ?_
                  rintro _ w281 ⟨rfl, hb283⟩
                  refine ⟨_, rfl, ?_⟩
                  have M282 := M253.call hb283
                  refine st rfl (x_pick_t (v := Value.bool (sameB legEq (legsC l) (legsC l221))) (ev_tmp rfl rfl) (ev_tmp rfl rfl)) ?_
                  refine st rfl (x_assign (v := Value.bool (sameB legEq (legsC l) (legsC l221))) (ev_tmp rfl rfl)) ?_
                  refine s_nil ?_
                  refine hK276 _ _ ?_
                  refine c_ret ?_
                  refine hT3 _ _ ?_
                  refine r1 rfl (ev_tmp (v := Value.bool (sameB legEq (legsC l) (legsC l221))) rfl rfl) ?_
                  exact ⟨ret_bool ((sameB_iff fun _ _ => legEq_iff).2 (by rw [g0, g2, f01 (.inl (of_decide_eq_true h272))])), M282.below⟩
                · have h284 : ¬ (o.kd = 0) := of_decide_eq_false h272
                  refine c_reg ?_
                  refine st rfl (x_eql (p := o.kd) (q := 1) (ev_tmp rfl rfl) rfl) ?_
                  refine st rfl (x_assign (v := Value.bool (decide (o.kd = 1))) (ev_tmp rfl rfl)) ?_
                  refine s_nil ?_
                  refine hK269 _ _ ?_
                  refine c_cond (b := decide (o.kd = 1)) (ev_tmp rfl rfl) (fun h285 => ?_) (fun h285 => ?_)
                  · have h286 : o.kd = 1 := of_decide_eq_true h285
                    refine c_seq fun K287 hK288 => ?_
                    refine c_reg ?_
                    refine st rfl (x_move (v := Value.bool true) (ev_tmp rfl rfl)) ?_
                    refine st rfl (x_move (v := Value.bool true) (ev_tmp rfl rfl)) ?_
                    refine gt rfl rfl rfl rfl (x_move (v := Value.slice A239 ((legsC l).length) c240) (ev_tmp rfl rfl)) ?_
                    refine gt rfl rfl rfl rfl (x_move (v := Value.slice A248 ((legsC l221).length) c249) (ev_tmp rfl rfl)) ?_
                    refine gC rfl rfl rfl rfl (x_callL (xs := [.tmp 58, .tmp 59]) (vs := [Value.slice A239 ((legsC l).length) c240, Value.slice A248 ((legsC l221).length) c249]) (cap := []) ent_24 rfl ⟨(ev_tmp rfl rfl), (ev_tmp rfl rfl), trivial⟩) (sameLegs_r _ _ (legsC l) _ _ (legsC l221) _ (M253.slw (i := 1) rfl) (M253.slw (i := 0) rfl)) ?_
                    rintro _ w293 ⟨rfl, hb295⟩
                    refine ⟨_, rfl, ?_⟩
                    have M294 := M253.call hb295
                    refine st rfl (x_pick_t (v := Value.bool (sameB legEq (legsC l) (legsC l221))) (ev_tmp rfl rfl) (ev_tmp rfl rfl)) ?_
                    refine st rfl (x_assign (v := Value.bool (sameB legEq (legsC l) (legsC l221))) (ev_tmp rfl rfl)) ?_
                    refine s_nil ?_
                    refine hK288 _ _ ?_
                    refine c_ret ?_
                    refine hT3 _ _ ?_
                    refine r1 rfl (ev_tmp (v := Value.bool (sameB legEq (legsC l) (legsC l221))) rfl rfl) ?_
                    exact ⟨ret_bool ((sameB_iff fun _ _ => legEq_iff).2 (by rw [g0, g2, f01 (.inr (of_decide_eq_true h285))])), M294.below⟩
                  · have h296 : ¬ (o.kd = 1) := of_decide_eq_false h285
                    refine c_seq fun K297 hK298 => ?_
                    refine c_reg ?_
                    refine st rfl (x_eql (p := o.kd) (q := 2) (ev_tmp rfl rfl) rfl) ?_
                    refine st rfl (x_assign (v := Value.bool (decide (o.kd = 2))) (ev_tmp rfl rfl)) ?_
                    refine s_nil ?_
                    refine hK298 _ _ ?_
                    refine c_cond (b := decide (o.kd = 2)) (ev_tmp rfl rfl) (fun h299 => ?_) (fun h299 => ?_)
                    · have h300 : o.kd = 2 := of_decide_eq_true h299
                      refine c_seq fun K301 hK302 => ?_
                      refine c_reg ?_
                      refine st rfl (x_move (v := Value.bool true) (ev_tmp rfl rfl)) ?_
                      refine st rfl (x_move (v := Value.bool true) (ev_tmp rfl rfl)) ?_
                      refine gt rfl rfl rfl rfl (x_move (v := Value.slice A248 ((legsC l221).length) c249) (ev_tmp rfl rfl)) ?_
                      refine gt rfl rfl rfl rfl (x_lensl (n := ((legsC l221).length)) Try.underlying26 (ev_tmp rfl rfl)) ?_
                      refine gt rfl rfl rfl rfl (x_move (v := Value.slice A239 ((legsC l).length) c240) (ev_tmp rfl rfl)) ?_
                      refine gt rfl rfl rfl rfl (x_lensl (n := ((legsC l).length)) Try.underlying26 (ev_tmp rfl rfl)) ?_
                      have hw307 : IntKind.i64.wrap (((legsC l).length : Int) - 2) = ((legsC l).length : Int) - 2 := w64 (by rfl) (by omega) (by omega)
                      refine gt rfl rfl rfl rfl (x_sub_eq (p := ((legsC l).length : Int)) (q := 2) (ev_tmp rfl rfl) rfl hw307) ?_
                      refine gt rfl rfl rfl rfl (x_eql (p := ((legsC l221).length : Int)) (q := (((legsC l).length : Int) - 2)) (ev_tmp rfl rfl) (ev_tmp rfl rfl)) ?_
                      refine st rfl (x_pick_t (v := Value.bool (decide (((legsC l221).length : Int) = ((legsC l).length : Int) - 2))) (ev_tmp rfl rfl) (ev_tmp rfl rfl)) ?_
                      refine st rfl (x_assign (v := Value.bool (decide (((legsC l221).length : Int) = ((legsC l).length : Int) - 2))) (ev_tmp rfl rfl)) ?_
                      refine s_nil ?_
                      refine hK302 _ _ ?_
                      refine c_ret ?_
                      refine hT3 _ _ ?_
                      refine r1 rfl (ev_tmp (v := Value.bool (decide (((legsC l221).length : Int) = ((legsC l).length : Int) - 2))) rfl rfl) ?_
                      have f4 := f2 (of_decide_eq_true h299)
                      rw [← g0, ← g2] at f4
                      exact ⟨ret_bool (decide_eq_true (by omega)), M253.below⟩
                    · have h308 : ¬ (o.kd = 2) := of_decide_eq_false h299
                      refine c_skip ?_
                      refine hK265 _ _ ?_
                      refine c_seq fun K309 hK310 => ?_
                      refine c_seq fun K311 hK312 => ?_
                      refine c_reg ?_
                      refine st rfl (x_move (v := Value.slice A248 ((legsC l221).length) c249) (ev_tmp rfl rfl)) ?_
                      refine st rfl (x_lensl (n := ((legsC l221).length)) Try.underlying26 (ev_tmp rfl rfl)) ?_
                      refine st rfl (x_move (v := Value.slice A239 ((legsC l).length) c240) (ev_tmp rfl rfl)) ?_
                      refine st rfl (x_lensl (n := ((legsC l).length)) Try.underlying26 (ev_tmp rfl rfl)) ?_
                      refine st rfl (x_eql (p := ((legsC l221).length : Int)) (q := ((legsC l).length : Int)) (ev_tmp rfl rfl) (ev_tmp rfl rfl)) ?_
                      refine s_nil ?_
                      refine hK312 _ _ ?_
                      refine c_cond (b := decide (((legsC l221).length : Int) = ((legsC l).length : Int))) (ev_tmp rfl rfl) (fun h313 => ?_) (fun h313 => ?_)
                      · have h314 : ((legsC l221).length : Int) = ((legsC l).length : Int) := of_decide_eq_true h313
                        refine c_seq fun K315 hK316 => ?_
                        refine c_reg ?_
                        refine st rfl (x_move (v := Value.bool true) (ev_tmp rfl rfl)) ?_
                        refine st rfl (x_move (v := Value.bool true) (ev_tmp rfl rfl)) ?_
                        refine gt rfl rfl rfl rfl (x_move (v := Value.slice A239 ((legsC l).length) c240) (ev_tmp rfl rfl)) ?_
                        refine gt rfl rfl rfl rfl (x_move (v := Value.slice A248 ((legsC l221).length) c249) (ev_tmp rfl rfl)) ?_
                        refine gC rfl rfl rfl rfl (x_callL (xs := [.tmp 80, .tmp 81]) (vs := [Value.slice A239 ((legsC l).length) c240, Value.slice A248 ((legsC l221).length) c249]) (cap := []) ent_24 rfl ⟨(ev_tmp rfl rfl), (ev_tmp rfl rfl), trivial⟩) (sameLegs_r _ _ (legsC l) _ _ (legsC l221) _ (M253.slw (i := 1) rfl) (M253.slw (i := 0) rfl)) ?_
                        rintro _ w321 ⟨rfl, hb323⟩
                        refine ⟨_, rfl, ?_⟩
                        have M322 := M253.call hb323
                        refine st rfl (x_pick_t (v := Value.bool (sameB legEq (legsC l) (legsC l221))) (ev_tmp rfl rfl) (ev_tmp rfl rfl)) ?_
                        refine st rfl (x_assign (v := Value.bool (sameB legEq (legsC l) (legsC l221))) (ev_tmp rfl rfl)) ?_
                        refine s_nil ?_
                        refine hK316 _ _ ?_
                        refine c_ret ?_
                        refine hT3 _ _ ?_
                        refine r1 rfl (ev_tmp (v := Value.bool (sameB legEq (legsC l) (legsC l221))) rfl rfl) ?_
                        have h77 := of_decide_eq_true h313
                        have f4 := (f3 (of_decide_eq_false h272) (of_decide_eq_false h285) (of_decide_eq_false h299)).resolve_right (fun hh => by have := hh.1; rw [← g0, ← g2] at this; omega)
                        exact ⟨ret_bool ((sameB_iff fun _ _ => legEq_iff).2 (by rw [g0, g2, f4])), M322.below⟩
                      · have h324 : ¬ (((legsC l221).length : Int) = ((legsC l).length : Int)) := of_decide_eq_false h313
                        have h77 := of_decide_eq_false h313
                        obtain ⟨hl2, hn1, hn2, x, hx, hb, hq⟩ := (f3 (of_decide_eq_false h272) (of_decide_eq_false h285) (of_decide_eq_false h299)).resolve_left (fun hh => h77 (by rw [g0, g2, hh]))
                        rw [← g0, ← g2] at hl2
                        refine c_skip ?_
                        refine hK310 _ _ ?_
                        refine c_seq fun K325 hK326 => ?_
                        refine c_seq fun K327 hK328 => ?_
                        refine c_reg ?_
                        refine st rfl (x_fieldv (b := b9) (o := 0) (q := 1) fa_40_1 (ev_tmp rfl rfl) rfl) ?_
                        refine st rfl (x_load1 (v := Value.int .i64 o.nb) Try.underlying3 rfl (ev_tmp rfl rfl) (M253.cell (i := 2) (o := 1) rfl rfl)) ?_
                        refine st rfl (x_lss (p := o.nb) (q := 1) (ev_tmp rfl rfl) rfl) ?_
                        refine st rfl (x_move (v := Value.bool (decide (o.nb < 1))) (ev_tmp rfl rfl)) ?_
                        have hg332 : (decide (o.nb < 1)) = false := (decide_eq_false (by omega))
                        refine gt rfl rfl rfl (congrArg Value.bool hg332) (x_fieldv (b := b9) (o := 0) (q := 1) fa_40_1 (ev_tmp rfl rfl) rfl) ?_
                        refine gt rfl rfl rfl (congrArg Value.bool hg332) (x_load1 (v := Value.int .i64 o.nb) Try.underlying3 rfl (ev_tmp rfl rfl) (M253.cell (i := 2) (o := 1) rfl rfl)) ?_
                        refine gt rfl rfl rfl (congrArg Value.bool hg332) (x_fieldv (b := b6) (o := 0) (q := 0) fa_24_0 (ev_tmp rfl rfl) rfl) ?_
                        refine gt rfl rfl rfl (congrArg Value.bool hg332) (x_load1 (v := Value.slice A l.length c) Try.underlying22 rfl (ev_tmp rfl rfl) (M253.cell (i := 3) (o := 0) rfl rfl)) ?_
                        refine gt rfl rfl rfl (congrArg Value.bool hg332) (x_lensl (n := l.length) Try.underlying22 (ev_tmp rfl rfl)) ?_
                        refine gt rfl rfl rfl (congrArg Value.bool hg332) (x_gtr (p := o.nb) (q := (l.length : Int)) (ev_tmp rfl rfl) (ev_tmp rfl rfl)) ?_
                        refine st rfl (x_pick_f (v := Value.bool (decide ((l.length : Int) < o.nb))) (ev_tmp rfl (congrArg Value.bool hg332)) (ev_tmp rfl rfl)) ?_
                        refine s_nil ?_
                        refine hK328 _ _ ?_
                        have h333 : (decide ((l.length : Int) < o.nb)) = false := (decide_eq_false (by omega))
                        refine c_cond_f (ev_tmp rfl (congrArg Value.bool h333)) ?_
                        refine c_skip ?_
                        refine hK326 _ _ ?_
                        refine c_seq fun K334 hK335 => ?_
                        refine c_reg ?_
                        refine st rfl (x_fieldv (b := b6) (o := 0) (q := 0) fa_24_0 (ev_tmp rfl rfl) rfl) ?_
                        refine st rfl (x_load1 (v := Value.slice A l.length c) Try.underlying22 rfl (ev_tmp rfl rfl) (M253.cell (i := 3) (o := 0) rfl rfl)) ?_
                        refine st rfl (x_fieldv (b := b9) (o := 0) (q := 1) fa_40_1 (ev_tmp rfl rfl) rfl) ?_
                        refine st rfl (x_load1 (v := Value.int .i64 o.nb) Try.underlying3 rfl (ev_tmp rfl rfl) (M253.cell (i := 2) (o := 1) rfl rfl)) ?_
                        have hw336 : IntKind.i64.wrap (o.nb - 1) = o.nb - 1 := w64 (by rfl) (by omega) (by omega)
                        refine st rfl (x_sub_eq (p := o.nb) (q := 1) (ev_tmp rfl rfl) rfl hw336) ?_
                        obtain ⟨g337, o338, hA339⟩ := M253.roat (i := 3) rfl hx
                        refine st rfl (x_elemA (b := g337) (o := o338) (k := ((o.nb - 1).toNat)) ea_22 (ev_tmp rfl rfl) hA339 (ev_tmp rfl rfl) (by omega) (by omega)) ?_
                        refine st rfl (x_loadw (cs := [Value.string x.b, Value.string x.s, Value.string x.p, Value.int .i64 x.q, Value.int .i64 x.r, Value.bool x.bo, Value.bool x.so, Value.int .u8 x.st]) Try.underlying34 rfl sz_34 (ev_tmp rfl rfl) (M253.rorange (i := 3) rfl hA339 hx (f := 0) ⟨rfl, rfl, rfl, rfl, rfl, rfl, rfl, rfl, trivial⟩)) ?_
                        refine snew (cs := #[Value.string ByteArray.empty, Value.string ByteArray.empty, Value.string ByteArray.empty, Value.int .i64 0, Value.int .i64 0, Value.bool false, Value.bool false, Value.int .u8 0]) M253 rfl (x_allocz z_34) fun b342 w343 M344 => ?_
                        refine sset (i := 0) (L' := [Own.cells b342 34 #[Value.string x.b, Value.string x.s, Value.string x.p, Value.int .i64 x.q, Value.int .i64 x.r, Value.bool x.bo, Value.bool x.so, Value.int .u8 x.st], Own.cells b212 24 #[Value.slice A215 l221.length c216], Own.row 34 8 (Value.slice A35 l.length c36) l.length (l.flatMap Trade.cells), Own.cells b9 40 #[Value.int .u8 o.kd, Value.int .i64 o.nb, Value.string o.y, Value.string o.b, Value.string o.s, Value.string o.p, Value.int .i64 o.q, Value.int .i64 o.r], Own.cells b6 24 #[Value.slice A l.length c]]) M344 rfl rfl (x_storew (cs := [Value.string x.b, Value.string x.s, Value.string x.p, Value.int .i64 x.q, Value.int .i64 x.r, Value.bool x.bo, Value.bool x.so, Value.int .u8 x.st]) sz_34 (ev_tmp rfl rfl) (ev_tmp rfl rfl) (M344.cells_at (i := 0) rfl) rfl ⟨rfl, rfl, rfl, rfl, rfl, rfl, rfl, rfl, trivial⟩) fun w345 M346 => ?_
                        refine s_nil ?_
                        refine hK335 _ _ ?_
                        refine c_seq fun K347 hK348 => ?_
                        refine c_reg ?_
                        refine st rfl (x_move (v := Value.bool true) (ev_tmp rfl rfl)) ?_
                        refine st rfl (x_move (v := Value.bool true) (ev_tmp rfl rfl)) ?_
                        refine gt rfl rfl rfl rfl (x_move (v := Value.slice A248 ((legsC l221).length) c249) (ev_tmp rfl rfl)) ?_
                        refine gt rfl rfl rfl rfl (x_lensl (n := ((legsC l221).length)) Try.underlying26 (ev_tmp rfl rfl)) ?_
                        refine gt rfl rfl rfl rfl (x_move (v := Value.slice A239 ((legsC l).length) c240) (ev_tmp rfl rfl)) ?_
                        refine gt rfl rfl rfl rfl (x_lensl (n := ((legsC l).length)) Try.underlying26 (ev_tmp rfl rfl)) ?_
                        have hw353 : IntKind.i64.wrap (((legsC l).length : Int) + 2) = ((legsC l).length : Int) + 2 := w64 (by rfl) (by omega) (by omega)
                        refine gt rfl rfl rfl rfl (x_add_eq (p := ((legsC l).length : Int)) (q := 2) (ev_tmp rfl rfl) rfl hw353) ?_
                        refine gt rfl rfl rfl rfl (x_eql (p := ((legsC l221).length : Int)) (q := (((legsC l).length : Int) + 2)) (ev_tmp rfl rfl) (ev_tmp rfl rfl)) ?_
                        refine st rfl (x_pick_t (v := Value.bool (decide (((legsC l221).length : Int) = ((legsC l).length : Int) + 2))) (ev_tmp rfl rfl) (ev_tmp rfl rfl)) ?_
                        refine st rfl (x_move (v := Value.bool (decide (((legsC l221).length : Int) = ((legsC l).length : Int) + 2))) (ev_tmp rfl rfl)) ?_
                        have hg357 : (decide (((legsC l221).length : Int) = ((legsC l).length : Int) + 2)) = true := (decide_eq_true (by omega))
                        refine gt rfl rfl rfl (congrArg Value.bool hg357) (x_fieldv (b := b342) (o := 0) (q := 5) fa_34_5 (ev_tmp rfl rfl) rfl) ?_
                        refine gt rfl rfl rfl (congrArg Value.bool hg357) (x_load1 (v := Value.bool x.bo) Try.underlying4 rfl (ev_tmp rfl rfl) (M346.cell (i := 0) (o := 5) rfl rfl)) ?_
                        refine gt rfl rfl rfl (congrArg Value.bool hg357) (x_move (v := Value.bool x.bo) (ev_tmp rfl rfl)) ?_
                        refine s_meet3 fun K358 hK359 => ?_
                        have J360 : ∀ jk, K358 (fr 143 ([(117, Value.bool (x.bo || x.so)), (3, Value.pointer (some ⟨b9, 0, none⟩)), (4, Value.bool false), (13, Value.pointer (some ⟨b342, 0, none⟩)), (111, Value.bool (decide (((legsC l221).length : Int) = ((legsC l).length : Int) + 2))), (114, Value.bool x.bo)] ++ jk)) w345 := by
                          intro jk
                          refine hK359 _ _ ?_
                          clear hK359
                          refine st rfl (x_pick_t (v := Value.bool (x.bo || x.so)) (ev_tmp rfl (congrArg Value.bool hg357)) (ev_tmp rfl rfl)) ?_
                          refine st rfl (x_move (v := Value.bool (x.bo || x.so)) (ev_tmp rfl rfl)) ?_
                          have hg366 : (x.bo || x.so) = true := hb
                          refine gt rfl rfl rfl (congrArg Value.bool hg366) (x_fieldv (b := b9) (o := 0) (q := 2) fa_40_2 (ev_tmp rfl rfl) rfl) ?_
                          refine gt rfl rfl rfl (congrArg Value.bool hg366) (x_load1 (v := Value.string o.y) Try.underlying9 rfl (ev_tmp rfl rfl) (M346.cell (i := 3) (o := 2) rfl rfl)) ?_
                          refine gt rfl rfl rfl (congrArg Value.bool hg366) (x_fieldv (b := b342) (o := 0) (q := 0) fa_34_0 (ev_tmp rfl rfl) rfl) ?_
                          refine gt rfl rfl rfl (congrArg Value.bool hg366) (x_load1 (v := Value.string x.b) Try.underlying9 rfl (ev_tmp rfl rfl) (M346.cell (i := 0) (o := 0) rfl rfl)) ?_
                          refine gt rfl rfl rfl (congrArg Value.bool hg366) (x_eqs (p := o.y) (q := x.b) (ev_tmp rfl rfl) (ev_tmp rfl rfl)) ?_
                          refine gt rfl rfl rfl (congrArg Value.bool hg366) (x_move (v := Value.bool (decide (o.y.data.toList = x.b.data.toList))) (ev_tmp rfl rfl)) ?_
                          refine s_meet4 fun K367 hK368 => ?_
                          have J369 : ∀ jk, K367 (fr 143 ([(129, Value.bool ((decide (o.y.data.toList = x.b.data.toList)) && (!x.bo))), (3, Value.pointer (some ⟨b9, 0, none⟩)), (4, Value.bool false), (13, Value.pointer (some ⟨b342, 0, none⟩)), (119, Value.bool (x.bo || x.so)), (125, Value.bool (decide (o.y.data.toList = x.b.data.toList)))] ++ jk)) w345 := by
                            intro jk
                            refine hK368 _ _ ?_
                            clear hK368
                            refine gt rfl rfl rfl (congrArg Value.bool hg366) (x_move (v := Value.bool ((decide (o.y.data.toList = x.b.data.toList)) && (!x.bo))) (ev_tmp rfl rfl)) ?_
                            refine s_meet11 fun K372 hK373 => ?_
                            have J374 : ∀ jk, K372 (fr 143 ([(141, Value.bool (((decide (o.y.data.toList = x.b.data.toList)) && (!x.bo)) || ((decide (o.y.data.toList = x.s.data.toList)) && (!x.so)))), (4, Value.bool false), (119, Value.bool (x.bo || x.so)), (130, Value.bool ((decide (o.y.data.toList = x.b.data.toList)) && (!x.bo)))] ++ jk)) w345 := by
                              intro jk
                              refine hK373 _ _ ?_
                              clear hK373
                              refine st rfl (x_pick_t (v := Value.bool (((decide (o.y.data.toList = x.b.data.toList)) && (!x.bo)) || ((decide (o.y.data.toList = x.s.data.toList)) && (!x.so)))) (ev_tmp rfl (congrArg Value.bool hg366)) (ev_tmp rfl rfl)) ?_
                              refine st rfl (x_assign (v := Value.bool (((decide (o.y.data.toList = x.b.data.toList)) && (!x.bo)) || ((decide (o.y.data.toList = x.s.data.toList)) && (!x.so)))) (ev_tmp rfl rfl)) ?_
                              refine s_nil ?_
                              refine hK348 _ _ ?_
                              refine c_ret ?_
                              refine hT3 _ _ ?_
                              refine r1 rfl (ev_tmp (v := Value.bool (((decide (o.y.data.toList = x.b.data.toList)) && (!x.bo)) || ((decide (o.y.data.toList = x.s.data.toList)) && (!x.so)))) rfl rfl) ?_
                              exact ⟨ret_bool hq, M346.below⟩
                            clear hK373
                            rcases bcase ((decide (o.y.data.toList = x.b.data.toList)) && (!x.bo)) with hg375 | hg375
                            · have h376 : ((decide (o.y.data.toList = x.b.data.toList)) && (!x.bo)) = false := hg375
                              refine gt rfl rfl rfl (congrArg Value.bool hg375) (x_fieldv (b := b9) (o := 0) (q := 2) fa_40_2 (ev_tmp rfl rfl) rfl) ?_
                              refine gt rfl rfl rfl (congrArg Value.bool hg375) (x_load1 (v := Value.string o.y) Try.underlying9 rfl (ev_tmp rfl rfl) (M346.cell (i := 3) (o := 2) rfl rfl)) ?_
                              refine gt rfl rfl rfl (congrArg Value.bool hg375) (x_fieldv (b := b342) (o := 0) (q := 1) fa_34_1 (ev_tmp rfl rfl) rfl) ?_
                              refine gt rfl rfl rfl (congrArg Value.bool hg375) (x_load1 (v := Value.string x.s) Try.underlying9 rfl (ev_tmp rfl rfl) (M346.cell (i := 0) (o := 1) rfl rfl)) ?_
                              refine gt rfl rfl rfl (congrArg Value.bool hg375) (x_eqs (p := o.y) (q := x.s) (ev_tmp rfl rfl) (ev_tmp rfl rfl)) ?_
                              refine gt rfl rfl rfl (congrArg Value.bool hg375) (x_move (v := Value.bool (decide (o.y.data.toList = x.s.data.toList))) (ev_tmp rfl rfl)) ?_
                              refine s_meet4 fun K377 hK378 => ?_
                              have J379 : ∀ jk, K377 (fr 143 ([(140, Value.bool ((decide (o.y.data.toList = x.s.data.toList)) && (!x.so))), (4, Value.bool false), (119, Value.bool (x.bo || x.so)), (130, Value.bool ((decide (o.y.data.toList = x.b.data.toList)) && (!x.bo))), (136, Value.bool (decide (o.y.data.toList = x.s.data.toList)))] ++ jk)) w345 := by
                                intro jk
                                refine hK378 _ _ ?_
                                clear hK378
                                refine gt rfl rfl rfl (congrArg Value.bool hg366) (x_pick_f (v := Value.bool ((decide (o.y.data.toList = x.s.data.toList)) && (!x.so))) (ev_tmp rfl (congrArg Value.bool hg375)) (ev_tmp rfl rfl)) ?_
                                refine s_nil ?_
                                exact j_to J374 ⟨(congrArg Value.bool (or_f hg375)), rfl, rfl, rfl, trivial⟩
                              clear hK378
                              rcases bcase (decide (o.y.data.toList = x.s.data.toList)) with hg380 | hg380
                              · refine gf (b' := false) rfl rfl rfl (congrArg Value.bool hg380) rfl ?_
                                refine gf (b' := false) rfl rfl rfl (congrArg Value.bool hg380) rfl ?_
                                refine gf (b' := false) rfl rfl rfl (congrArg Value.bool hg380) rfl ?_
                                refine gt rfl rfl rfl (congrArg Value.bool hg375) (x_pick_f (v := Value.bool false) (ev_tmp rfl (congrArg Value.bool hg380)) rfl) ?_
                                refine s_nil ?_
                                exact j_to J379 ⟨(congrArg Value.bool (and_f hg380)), rfl, rfl, rfl, rfl, trivial⟩
                              · have h381 : o.y.data.toList = x.s.data.toList := of_decide_eq_true hg380
                                refine gt rfl rfl rfl (congrArg Value.bool hg380) (x_fieldv (b := b342) (o := 0) (q := 6) fa_34_6 (ev_tmp rfl rfl) rfl) ?_
                                refine gt rfl rfl rfl (congrArg Value.bool hg380) (x_load1 (v := Value.bool x.so) Try.underlying4 rfl (ev_tmp rfl rfl) (M346.cell (i := 0) (o := 6) rfl rfl)) ?_
                                refine gt rfl rfl rfl (congrArg Value.bool hg380) (x_not (b := x.so) (ev_tmp rfl rfl)) ?_
                                refine gt rfl rfl rfl (congrArg Value.bool hg375) (x_pick_t (v := Value.bool (!x.so)) (ev_tmp rfl (congrArg Value.bool hg380)) (ev_tmp rfl rfl)) ?_
                                refine s_nil ?_
                                exact j_to J379 ⟨(congrArg Value.bool (and_t hg380)), rfl, rfl, rfl, rfl, trivial⟩
                            · refine gf (b' := true) rfl rfl rfl (congrArg Value.bool hg375) rfl ?_
                              refine gf (b' := true) rfl rfl rfl (congrArg Value.bool hg375) rfl ?_
                              refine gf (b' := true) rfl rfl rfl (congrArg Value.bool hg375) rfl ?_
                              refine gf (b' := true) rfl rfl rfl (congrArg Value.bool hg375) rfl ?_
                              refine gf (b' := true) rfl rfl rfl (congrArg Value.bool hg375) rfl ?_
                              refine gf (b' := true) rfl rfl rfl (congrArg Value.bool hg375) rfl ?_
                              refine gu rfl rfl rfl rfl ?_
                              refine gu rfl rfl rfl rfl ?_
                              refine gu rfl rfl rfl rfl ?_
                              refine gf (b' := true) rfl rfl rfl (congrArg Value.bool hg375) rfl ?_
                              refine gt rfl rfl rfl (congrArg Value.bool hg366) (x_pick_t (v := Value.bool true) (ev_tmp rfl (congrArg Value.bool hg375)) rfl) ?_
                              refine s_nil ?_
                              exact j_to J374 ⟨(congrArg Value.bool (or_t hg375)), rfl, rfl, rfl, trivial⟩
                          clear hK368
                          rcases bcase (decide (o.y.data.toList = x.b.data.toList)) with hg370 | hg370
                          · refine gf (b' := false) rfl rfl rfl (congrArg Value.bool hg370) rfl ?_
                            refine gf (b' := false) rfl rfl rfl (congrArg Value.bool hg370) rfl ?_
                            refine gf (b' := false) rfl rfl rfl (congrArg Value.bool hg370) rfl ?_
                            refine gt rfl rfl rfl (congrArg Value.bool hg366) (x_pick_f (v := Value.bool false) (ev_tmp rfl (congrArg Value.bool hg370)) rfl) ?_
                            refine s_nil ?_
                            exact j_to J369 ⟨(congrArg Value.bool (and_f hg370)), rfl, rfl, rfl, rfl, rfl, trivial⟩
                          · have h371 : o.y.data.toList = x.b.data.toList := of_decide_eq_true hg370
                            refine gt rfl rfl rfl (congrArg Value.bool hg370) (x_fieldv (b := b342) (o := 0) (q := 5) fa_34_5 (ev_tmp rfl rfl) rfl) ?_
                            refine gt rfl rfl rfl (congrArg Value.bool hg370) (x_load1 (v := Value.bool x.bo) Try.underlying4 rfl (ev_tmp rfl rfl) (M346.cell (i := 0) (o := 5) rfl rfl)) ?_
                            refine gt rfl rfl rfl (congrArg Value.bool hg370) (x_not (b := x.bo) (ev_tmp rfl rfl)) ?_
                            refine gt rfl rfl rfl (congrArg Value.bool hg366) (x_pick_t (v := Value.bool (!x.bo)) (ev_tmp rfl (congrArg Value.bool hg370)) (ev_tmp rfl rfl)) ?_
                            refine s_nil ?_
                            exact j_to J369 ⟨(congrArg Value.bool (and_t hg370)), rfl, rfl, rfl, rfl, rfl, trivial⟩
                        clear hK359
                        rcases bcase (x.bo) with hg361 | hg361
                        · have h362 : x.bo = false := hg361
                          refine gt rfl rfl rfl (congrArg Value.bool hg361) (x_fieldv (b := b342) (o := 0) (q := 6) fa_34_6 (ev_tmp rfl rfl) rfl) ?_
                          refine gt rfl rfl rfl (congrArg Value.bool hg361) (x_load1 (v := Value.bool x.so) Try.underlying4 rfl (ev_tmp rfl rfl) (M346.cell (i := 0) (o := 6) rfl rfl)) ?_
                          refine gt rfl rfl rfl (congrArg Value.bool hg357) (x_pick_f (v := Value.bool x.so) (ev_tmp rfl (congrArg Value.bool hg361)) (ev_tmp rfl rfl)) ?_
                          refine s_nil ?_
                          exact j_to J360 ⟨(congrArg Value.bool (or_f hg361)), rfl, rfl, rfl, rfl, rfl, trivial⟩
                        · refine gf (b' := true) rfl rfl rfl (congrArg Value.bool hg361) rfl ?_
                          refine gf (b' := true) rfl rfl rfl (congrArg Value.bool hg361) rfl ?_
                          refine gt rfl rfl rfl (congrArg Value.bool hg357) (x_pick_t (v := Value.bool true) (ev_tmp rfl (congrArg Value.bool hg361)) rfl) ?_
                          refine s_nil ?_
                          exact j_to J360 ⟨(congrArg Value.bool (or_t hg361)), rfl, rfl, rfl, rfl, rfl, trivial⟩
            exact dN
          exact dN
        exact dN
      refine dC ?_ ?_
      · refine dnew (i := 8) (cs := #[Value.slice none 0 0]) M33 rfl rfl (x_allocz z_24) fun b382 w383 M384 => ?_
        refine ⟨(M384.dropL 1), ?_⟩
        refine dA (rs := [1]) (by kernel_rfl) rfl ?_
        refine dC ?_ ?_
        · refine dsC (i := 1) rfl rfl (x_callL (xs := [.tmp 25]) (vs := [Value.agg #[Value.slice A l.length c]]) (cap := []) ent_16 rfl ⟨(ev_tmp rfl rfl), trivial⟩) (twin_r _ _ l _ (M384.slw (i := 0) rfl) (by omega)) ?_
          rintro _ w387 ⟨A385, c386, rfl, hb388, hr389⟩
          refine ⟨_, rfl, ?_⟩
          have M390 := M384.gotRow hb388 hr389
          refine ⟨(M390.dropL 2), ?_⟩
          refine dA (rs := [3]) (by kernel_rfl) rfl ?_
          refine dC ?_ ?_
          · refine dsC (i := 3) rfl rfl (x_callL (xs := [.tmp 26, .tmp 27]) (vs := [Value.agg #[Value.slice A385 l.length c386], Value.agg #[Value.int .u8 o.kd, Value.int .i64 o.nb, Value.string o.y, Value.string o.b, Value.string o.s, Value.string o.p, Value.int .i64 o.q, Value.int .i64 o.r]]) (cap := []) ent_20 rfl ⟨(ev_tmp rfl rfl), (ev_tmp rfl rfl), trivial⟩) (call_c _ _ l o _ (M390.rowsl (i := 0) rfl rfl Trade.len)) ?_
            rintro _ w394 ⟨A392, c393, l398, e400, e401, he399, rfl, hb395, hs396⟩
            refine ⟨_, rfl, ?_⟩
            have M397 := M390.gotSl hb395 hs396
            refine ⟨((M397.dropL 2).dropR 1), ?_⟩
            refine dT (i := 4) (v := Value.tuple #[Value.agg #[Value.slice A392 l398.length c393], Value.int .i64 e400, Value.int .i64 e401]) rfl (by kernel_rfl) (by kernel_rfl) rfl ((M397.dropL 2).dropR 1) (fun _ hS => x_move (v := Value.tuple #[Value.agg #[Value.slice A392 l398.length c393], Value.int .i64 e400, Value.int .i64 e401]) (ev_tmp rfl rfl)) ?_
            refine dT (i := 5) (v := Value.agg #[Value.slice A392 l398.length c393]) rfl (by kernel_rfl) (by kernel_rfl) rfl ((M397.dropL 2).dropR 1) (fun _ hS => x_extract (v := Value.agg #[Value.slice A392 l398.length c393]) (ev_tmp rfl rfl) rfl) ?_
            refine dT (i := 6) (v := Value.int .i64 e400) rfl (by kernel_rfl) (by kernel_rfl) rfl ((M397.dropL 2).dropR 1) (fun _ hS => x_extract (v := Value.int .i64 e400) (ev_tmp rfl rfl) rfl) ?_
            refine dT (i := 7) (v := Value.int .i64 e401) rfl (by kernel_rfl) (by kernel_rfl) rfl ((M397.dropL 2).dropR 1) (fun _ hS => x_extract (v := Value.int .i64 e401) (ev_tmp rfl rfl) rfl) ?_
            refine dA (rs := [9]) (by kernel_rfl) rfl ?_
            refine dC ?_ ?_
            · refine dset (i := 9) (k := 1) (L' := [Own.row 34 8 (Value.slice A385 l.length c386) l.length (l.flatMap Trade.cells), Own.cells b382 24 #[Value.slice A392 l398.length c393], Own.cells b9 40 #[Value.int .u8 o.kd, Value.int .i64 o.nb, Value.string o.y, Value.string o.b, Value.string o.s, Value.string o.p, Value.int .i64 o.q, Value.int .i64 o.r], Own.cells b6 24 #[Value.slice A l.length c]]) M397 rfl rfl rfl (x_storew (cs := [Value.slice A392 l398.length c393]) sz_24 (ev_tmp rfl rfl) (ev_tmp rfl rfl) (M397.cells_at (i := 1) rfl) rfl ⟨rfl, trivial⟩) fun w403 M404 => ?_
              refine ⟨((M404.dropL 2).dropR 1), ?_⟩
              refine dT (i := 10) (v := Value.int .i64 e400) rfl (by kernel_rfl) (by kernel_rfl) rfl ((M404.dropL 2).dropR 1) (fun _ hS => x_assign (v := Value.int .i64 e400) (ev_tmp rfl rfl)) ?_
              refine dT (i := 11) (v := Value.int .i64 e401) rfl (by kernel_rfl) (by kernel_rfl) rfl ((M404.dropL 2).dropR 1) (fun _ hS => x_assign (v := Value.int .i64 e401) (ev_tmp rfl rfl)) ?_
              refine dE (by kernel_rfl) ?_
              refine hK32 _ _ ?_
              refine c_seq fun K405 hK406 => ?_
              refine c_seq fun K407 hK408 => ?_
              refine c_reg ?_
              refine st rfl (x_move (v := Value.int .i64 e401) (ev_tmp rfl rfl)) ?_
              refine st rfl (x_neq (p := e401) (q := 0) (ev_tmp rfl rfl) rfl) ?_
              refine s_nil ?_
              refine hK408 _ _ ?_
              refine c_cond (b := !(decide (e401 = 0))) (ev_tmp rfl rfl) (fun h409 => ?_) (fun h409 => ?_)
              · have h410 : ¬ (e401 = 0) := of_decide_eq_false (not_t h409)
                refine c_seq fun K411 hK412 => ?_
                refine c_reg ?_
                refine st rfl (x_move (v := Value.bool true) (ev_tmp rfl rfl)) ?_
                refine st rfl (x_assign (v := Value.bool true) (ev_tmp rfl rfl)) ?_
                refine s_nil ?_
                refine hK412 _ _ ?_
                refine c_ret ?_
                refine hT3 _ _ ?_
                refine r1 rfl (ev_tmp (v := Value.bool true) rfl rfl) ?_
                exact ⟨rfl, M404.below⟩
              · have h413 : e401 = 0 := of_decide_eq_true (not_f h409)
                have hz : e401 = 0 := of_decide_eq_true (not_f h409)
                obtain ⟨c0, c2, f01, f2, f3⟩ := once_plain (l := l) (l2 := l398) (o := o) (n := e400) (by rw [← hz]; exact he399)
                have g0 : legsC l = legs l := legsC_of c0
                have g2 : legsC l398 = legs l398 := legsC_of c2
                have hq400 := legsC_len l398
                refine c_skip ?_
                refine hK406 _ _ ?_
                refine c_seq fun K414 hK415 => ?_
                refine c_reg ?_
                refine st rfl (x_loadw (cs := [Value.slice A l.length c]) Try.underlying24 rfl sz_24 (ev_tmp rfl rfl) (M404.range (i := 3) rfl ⟨rfl, trivial⟩)) ?_
                refine sC rfl (x_callL (xs := [.tmp 36]) (vs := [Value.agg #[Value.slice A l.length c]]) (cap := []) ent_12 rfl ⟨(ev_tmp rfl rfl), trivial⟩) (legs_c _ _ l _ (M404.slw (i := 1) rfl)) ?_
                rintro _ w418 ⟨A416, c417, rfl, hb419, hs420⟩
                refine ⟨_, rfl, ?_⟩
                have M421 := M404.gotSl hb419 hs420
                refine st rfl (x_move (v := Value.tuple #[Value.slice A416 ((legsC l).length) c417, Value.int .i64 (chk l)]) (ev_tmp rfl rfl)) ?_
                refine st rfl (x_extract (v := Value.slice A416 ((legsC l).length) c417) (ev_tmp rfl rfl) rfl) ?_
                refine st rfl (x_extract (v := Value.int .i64 (chk l)) (ev_tmp rfl rfl) rfl) ?_
                refine st rfl (x_assign (v := Value.slice A416 ((legsC l).length) c417) (ev_tmp rfl rfl)) ?_
                refine st rfl (x_assign (v := Value.int .i64 (chk l)) (ev_tmp rfl rfl)) ?_
                refine s_nil ?_
                refine hK415 _ _ ?_
                refine c_seq fun K423 hK424 => ?_
                refine c_reg ?_
                refine st rfl (x_loadw (cs := [Value.slice A392 l398.length c393]) Try.underlying24 rfl sz_24 (ev_tmp rfl rfl) (M421.range (i := 1) rfl ⟨rfl, trivial⟩)) ?_
                refine sC rfl (x_callL (xs := [.tmp 41]) (vs := [Value.agg #[Value.slice A392 l398.length c393]]) (cap := []) ent_12 rfl ⟨(ev_tmp rfl rfl), trivial⟩) (legs_c _ _ l398 _ (M421.slw (i := 1) rfl)) ?_
                rintro _ w427 ⟨A425, c426, rfl, hb428, hs429⟩
                refine ⟨_, rfl, ?_⟩
                have M430 := M421.gotSl hb428 hs429
                refine st rfl (x_move (v := Value.tuple #[Value.slice A425 ((legsC l398).length) c426, Value.int .i64 (chk l398)]) (ev_tmp rfl rfl)) ?_
                refine st rfl (x_extract (v := Value.slice A425 ((legsC l398).length) c426) (ev_tmp rfl rfl) rfl) ?_
                refine st rfl (x_extract (v := Value.int .i64 (chk l398)) (ev_tmp rfl rfl) rfl) ?_
                refine st rfl (x_assign (v := Value.slice A425 ((legsC l398).length) c426) (ev_tmp rfl rfl)) ?_
                refine st rfl (x_assign (v := Value.int .i64 (chk l398)) (ev_tmp rfl rfl)) ?_
                refine s_nil ?_
                refine hK424 _ _ ?_
                refine c_seq fun K432 hK433 => ?_
                refine c_seq fun K434 hK435 => ?_
                refine c_reg ?_
                refine st rfl (x_move (v := Value.int .i64 (chk l)) (ev_tmp rfl rfl)) ?_
                refine st rfl (x_neq (p := (chk l)) (q := 0) (ev_tmp rfl rfl) rfl) ?_
                refine st rfl (x_move (v := Value.bool (!(decide (chk l = 0)))) (ev_tmp rfl rfl)) ?_
                have hg439 : (!(decide (chk l = 0))) = false := (by rw [(decide_eq_true c0)]; rfl)
                refine gt rfl rfl rfl (congrArg Value.bool hg439) (x_move (v := Value.int .i64 (chk l398)) (ev_tmp rfl rfl)) ?_
                refine gt rfl rfl rfl (congrArg Value.bool hg439) (x_neq (p := (chk l398)) (q := 0) (ev_tmp rfl rfl) rfl) ?_
                refine st rfl (x_pick_f (v := Value.bool (!(decide (chk l398 = 0)))) (ev_tmp rfl (congrArg Value.bool hg439)) (ev_tmp rfl rfl)) ?_
                refine s_nil ?_
                refine hK435 _ _ ?_
                have h440 : (!(decide (chk l398 = 0))) = false := (by rw [(decide_eq_true c2)]; rfl)
                refine c_cond_f (ev_tmp rfl (congrArg Value.bool h440)) ?_
                refine c_skip ?_
                refine hK433 _ _ ?_
                refine c_seq fun K441 hK442 => ?_
                refine c_seq fun K443 hK444 => ?_
                refine c_reg ?_
                refine st rfl (x_fieldv (b := b9) (o := 0) (q := 0) fa_40_0 (ev_tmp rfl rfl) rfl) ?_
                refine st rfl (x_load1 (v := Value.int .u8 o.kd) Try.underlying5 rfl (ev_tmp rfl rfl) (M430.cell (i := 2) (o := 0) rfl rfl)) ?_
                refine s_nil ?_
                refine hK444 _ _ ?_
                refine c_block ?_
                refine c_seq fun K445 hK446 => ?_
                refine c_seq fun K447 hK448 => ?_
                refine c_reg ?_
                refine st rfl (x_eql (p := o.kd) (q := 0) (ev_tmp rfl rfl) rfl) ?_
                refine st rfl (x_assign (v := Value.bool (decide (o.kd = 0))) (ev_tmp rfl rfl)) ?_
                refine s_nil ?_
                refine hK448 _ _ ?_
                refine c_cond (b := decide (o.kd = 0)) (ev_tmp rfl rfl) (fun h449 => ?_) (fun h449 => ?_)
                · have h450 : o.kd = 0 := of_decide_eq_true h449
                  refine c_skip ?_
                  refine hK446 _ _ ?_
                  have h451 : (decide (o.kd = 0)) = true := h449
                  refine c_cond_t (ev_tmp rfl (congrArg Value.bool h451)) ?_
                  refine c_seq fun K452 hK453 => ?_
                  refine c_reg ?_
                  refine st rfl (x_move (v := Value.bool true) (ev_tmp rfl rfl)) ?_
                  refine st rfl (x_move (v := Value.bool true) (ev_tmp rfl rfl)) ?_
                  refine gt rfl rfl rfl rfl (x_move (v := Value.slice A416 ((legsC l).length) c417) (ev_tmp rfl rfl)) ?_
                  refine gt rfl rfl rfl rfl (x_move (v := Value.slice A425 ((legsC l398).length) c426) (ev_tmp rfl rfl)) ?_
                  refine gC rfl rfl rfl rfl (x_callL (xs := [.tmp 58, .tmp 59]) (vs := [Value.slice A416 ((legsC l).length) c417, Value.slice A425 ((legsC l398).length) c426]) (cap := []) ent_24 rfl ⟨(ev_tmp rfl rfl), (ev_tmp rfl rfl), trivial⟩) (sameLegs_r _ _ (legsC l) _ _ (legsC l398) _ (M430.slw (i := 1) rfl) (M430.slw (i := 0) rfl)) ?_
                  rintro _ w458 ⟨rfl, hb460⟩
                  refine ⟨_, rfl, ?_⟩
                  have M459 := M430.call hb460
                  refine st rfl (x_pick_t (v := Value.bool (sameB legEq (legsC l) (legsC l398))) (ev_tmp rfl rfl) (ev_tmp rfl rfl)) ?_
                  refine st rfl (x_assign (v := Value.bool (sameB legEq (legsC l) (legsC l398))) (ev_tmp rfl rfl)) ?_
                  refine s_nil ?_
                  refine hK453 _ _ ?_
                  refine c_ret ?_
                  refine hT3 _ _ ?_
                  refine r1 rfl (ev_tmp (v := Value.bool (sameB legEq (legsC l) (legsC l398))) rfl rfl) ?_
                  exact ⟨ret_bool ((sameB_iff fun _ _ => legEq_iff).2 (by rw [g0, g2, f01 (.inl (of_decide_eq_true h449))])), M459.below⟩
                · have h461 : ¬ (o.kd = 0) := of_decide_eq_false h449
                  refine c_reg ?_
                  refine st rfl (x_eql (p := o.kd) (q := 1) (ev_tmp rfl rfl) rfl) ?_
                  refine st rfl (x_assign (v := Value.bool (decide (o.kd = 1))) (ev_tmp rfl rfl)) ?_
                  refine s_nil ?_
                  refine hK446 _ _ ?_
                  refine c_cond (b := decide (o.kd = 1)) (ev_tmp rfl rfl) (fun h462 => ?_) (fun h462 => ?_)
                  · have h463 : o.kd = 1 := of_decide_eq_true h462
                    refine c_seq fun K464 hK465 => ?_
                    refine c_reg ?_
                    refine st rfl (x_move (v := Value.bool true) (ev_tmp rfl rfl)) ?_
                    refine st rfl (x_move (v := Value.bool true) (ev_tmp rfl rfl)) ?_
                    refine gt rfl rfl rfl rfl (x_move (v := Value.slice A416 ((legsC l).length) c417) (ev_tmp rfl rfl)) ?_
                    refine gt rfl rfl rfl rfl (x_move (v := Value.slice A425 ((legsC l398).length) c426) (ev_tmp rfl rfl)) ?_
                    refine gC rfl rfl rfl rfl (x_callL (xs := [.tmp 58, .tmp 59]) (vs := [Value.slice A416 ((legsC l).length) c417, Value.slice A425 ((legsC l398).length) c426]) (cap := []) ent_24 rfl ⟨(ev_tmp rfl rfl), (ev_tmp rfl rfl), trivial⟩) (sameLegs_r _ _ (legsC l) _ _ (legsC l398) _ (M430.slw (i := 1) rfl) (M430.slw (i := 0) rfl)) ?_
                    rintro _ w470 ⟨rfl, hb472⟩
                    refine ⟨_, rfl, ?_⟩
                    have M471 := M430.call hb472
                    refine st rfl (x_pick_t (v := Value.bool (sameB legEq (legsC l) (legsC l398))) (ev_tmp rfl rfl) (ev_tmp rfl rfl)) ?_
                    refine st rfl (x_assign (v := Value.bool (sameB legEq (legsC l) (legsC l398))) (ev_tmp rfl rfl)) ?_
                    refine s_nil ?_
                    refine hK465 _ _ ?_
                    refine c_ret ?_
                    refine hT3 _ _ ?_
                    refine r1 rfl (ev_tmp (v := Value.bool (sameB legEq (legsC l) (legsC l398))) rfl rfl) ?_
                    exact ⟨ret_bool ((sameB_iff fun _ _ => legEq_iff).2 (by rw [g0, g2, f01 (.inr (of_decide_eq_true h462))])), M471.below⟩
                  · have h473 : ¬ (o.kd = 1) := of_decide_eq_false h462
                    refine c_seq fun K474 hK475 => ?_
                    refine c_reg ?_
                    refine st rfl (x_eql (p := o.kd) (q := 2) (ev_tmp rfl rfl) rfl) ?_
                    refine st rfl (x_assign (v := Value.bool (decide (o.kd = 2))) (ev_tmp rfl rfl)) ?_
                    refine s_nil ?_
                    refine hK475 _ _ ?_
                    refine c_cond (b := decide (o.kd = 2)) (ev_tmp rfl rfl) (fun h476 => ?_) (fun h476 => ?_)
                    · have h477 : o.kd = 2 := of_decide_eq_true h476
                      refine c_seq fun K478 hK479 => ?_
                      refine c_reg ?_
                      refine st rfl (x_move (v := Value.bool true) (ev_tmp rfl rfl)) ?_
                      refine st rfl (x_move (v := Value.bool true) (ev_tmp rfl rfl)) ?_
                      refine gt rfl rfl rfl rfl (x_move (v := Value.slice A425 ((legsC l398).length) c426) (ev_tmp rfl rfl)) ?_
                      refine gt rfl rfl rfl rfl (x_lensl (n := ((legsC l398).length)) Try.underlying26 (ev_tmp rfl rfl)) ?_
                      refine gt rfl rfl rfl rfl (x_move (v := Value.slice A416 ((legsC l).length) c417) (ev_tmp rfl rfl)) ?_
                      refine gt rfl rfl rfl rfl (x_lensl (n := ((legsC l).length)) Try.underlying26 (ev_tmp rfl rfl)) ?_
                      have hw484 : IntKind.i64.wrap (((legsC l).length : Int) - 2) = ((legsC l).length : Int) - 2 := w64 (by rfl) (by omega) (by omega)
                      refine gt rfl rfl rfl rfl (x_sub_eq (p := ((legsC l).length : Int)) (q := 2) (ev_tmp rfl rfl) rfl hw484) ?_
                      refine gt rfl rfl rfl rfl (x_eql (p := ((legsC l398).length : Int)) (q := (((legsC l).length : Int) - 2)) (ev_tmp rfl rfl) (ev_tmp rfl rfl)) ?_
                      refine st rfl (x_pick_t (v := Value.bool (decide (((legsC l398).length : Int) = ((legsC l).length : Int) - 2))) (ev_tmp rfl rfl) (ev_tmp rfl rfl)) ?_
                      refine st rfl (x_assign (v := Value.bool (decide (((legsC l398).length : Int) = ((legsC l).length : Int) - 2))) (ev_tmp rfl rfl)) ?_
                      refine s_nil ?_
                      refine hK479 _ _ ?_
                      refine c_ret ?_
                      refine hT3 _ _ ?_
                      refine r1 rfl (ev_tmp (v := Value.bool (decide (((legsC l398).length : Int) = ((legsC l).length : Int) - 2))) rfl rfl) ?_
                      have f4 := f2 (of_decide_eq_true h476)
                      rw [← g0, ← g2] at f4
                      exact ⟨ret_bool (decide_eq_true (by omega)), M430.below⟩
                    · have h485 : ¬ (o.kd = 2) := of_decide_eq_false h476
                      refine c_skip ?_
                      refine hK442 _ _ ?_
                      refine c_seq fun K486 hK487 => ?_
                      refine c_seq fun K488 hK489 => ?_
                      refine c_reg ?_
                      refine st rfl (x_move (v := Value.slice A425 ((legsC l398).length) c426) (ev_tmp rfl rfl)) ?_
                      refine st rfl (x_lensl (n := ((legsC l398).length)) Try.underlying26 (ev_tmp rfl rfl)) ?_
                      refine st rfl (x_move (v := Value.slice A416 ((legsC l).length) c417) (ev_tmp rfl rfl)) ?_
                      refine st rfl (x_lensl (n := ((legsC l).length)) Try.underlying26 (ev_tmp rfl rfl)) ?_
                      refine st rfl (x_eql (p := ((legsC l398).length : Int)) (q := ((legsC l).length : Int)) (ev_tmp rfl rfl) (ev_tmp rfl rfl)) ?_
                      refine s_nil ?_
                      refine hK489 _ _ ?_
                      refine c_cond (b := decide (((legsC l398).length : Int) = ((legsC l).length : Int))) (ev_tmp rfl rfl) (fun h490 => ?_) (fun h490 => ?_)
                      · have h491 : ((legsC l398).length : Int) = ((legsC l).length : Int) := of_decide_eq_true h490
                        refine c_seq fun K492 hK493 => ?_
                        refine c_reg ?_
                        refine st rfl (x_move (v := Value.bool true) (ev_tmp rfl rfl)) ?_
                        refine st rfl (x_move (v := Value.bool true) (ev_tmp rfl rfl)) ?_
                        refine gt rfl rfl rfl rfl (x_move (v := Value.slice A416 ((legsC l).length) c417) (ev_tmp rfl rfl)) ?_
                        refine gt rfl rfl rfl rfl (x_move (v := Value.slice A425 ((legsC l398).length) c426) (ev_tmp rfl rfl)) ?_
                        refine gC rfl rfl rfl rfl (x_callL (xs := [.tmp 80, .tmp 81]) (vs := [Value.slice A416 ((legsC l).length) c417, Value.slice A425 ((legsC l398).length) c426]) (cap := []) ent_24 rfl ⟨(ev_tmp rfl rfl), (ev_tmp rfl rfl), trivial⟩) (sameLegs_r _ _ (legsC l) _ _ (legsC l398) _ (M430.slw (i := 1) rfl) (M430.slw (i := 0) rfl)) ?_
                        rintro _ w498 ⟨rfl, hb500⟩
                        refine ⟨_, rfl, ?_⟩
                        have M499 := M430.call hb500
                        refine st rfl (x_pick_t (v := Value.bool (sameB legEq (legsC l) (legsC l398))) (ev_tmp rfl rfl) (ev_tmp rfl rfl)) ?_
                        refine st rfl (x_assign (v := Value.bool (sameB legEq (legsC l) (legsC l398))) (ev_tmp rfl rfl)) ?_
                        refine s_nil ?_
                        refine hK493 _ _ ?_
                        refine c_ret ?_
                        refine hT3 _ _ ?_
                        refine r1 rfl (ev_tmp (v := Value.bool (sameB legEq (legsC l) (legsC l398))) rfl rfl) ?_
                        have h77 := of_decide_eq_true h490
                        have f4 := (f3 (of_decide_eq_false h449) (of_decide_eq_false h462) (of_decide_eq_false h476)).resolve_right (fun hh => by have := hh.1; rw [← g0, ← g2] at this; omega)
                        exact ⟨ret_bool ((sameB_iff fun _ _ => legEq_iff).2 (by rw [g0, g2, f4])), M499.below⟩
                      · have h501 : ¬ (((legsC l398).length : Int) = ((legsC l).length : Int)) := of_decide_eq_false h490
                        have h77 := of_decide_eq_false h490
                        obtain ⟨hl2, hn1, hn2, x, hx, hb, hq⟩ := (f3 (of_decide_eq_false h449) (of_decide_eq_false h462) (of_decide_eq_false h476)).resolve_left (fun hh => h77 (by rw [g0, g2, hh]))
                        rw [← g0, ← g2] at hl2
                        refine c_skip ?_
                        refine hK487 _ _ ?_
                        refine c_seq fun K502 hK503 => ?_
                        refine c_seq fun K504 hK505 => ?_
                        refine c_reg ?_
                        refine st rfl (x_fieldv (b := b9) (o := 0) (q := 1) fa_40_1 (ev_tmp rfl rfl) rfl) ?_
                        refine st rfl (x_load1 (v := Value.int .i64 o.nb) Try.underlying3 rfl (ev_tmp rfl rfl) (M430.cell (i := 2) (o := 1) rfl rfl)) ?_
                        refine st rfl (x_lss (p := o.nb) (q := 1) (ev_tmp rfl rfl) rfl) ?_
                        refine st rfl (x_move (v := Value.bool (decide (o.nb < 1))) (ev_tmp rfl rfl)) ?_
                        have hg509 : (decide (o.nb < 1)) = false := (decide_eq_false (by omega))
                        refine gt rfl rfl rfl (congrArg Value.bool hg509) (x_fieldv (b := b9) (o := 0) (q := 1) fa_40_1 (ev_tmp rfl rfl) rfl) ?_
                        refine gt rfl rfl rfl (congrArg Value.bool hg509) (x_load1 (v := Value.int .i64 o.nb) Try.underlying3 rfl (ev_tmp rfl rfl) (M430.cell (i := 2) (o := 1) rfl rfl)) ?_
                        refine gt rfl rfl rfl (congrArg Value.bool hg509) (x_fieldv (b := b6) (o := 0) (q := 0) fa_24_0 (ev_tmp rfl rfl) rfl) ?_
                        refine gt rfl rfl rfl (congrArg Value.bool hg509) (x_load1 (v := Value.slice A l.length c) Try.underlying22 rfl (ev_tmp rfl rfl) (M430.cell (i := 3) (o := 0) rfl rfl)) ?_
                        refine gt rfl rfl rfl (congrArg Value.bool hg509) (x_lensl (n := l.length) Try.underlying22 (ev_tmp rfl rfl)) ?_
                        refine gt rfl rfl rfl (congrArg Value.bool hg509) (x_gtr (p := o.nb) (q := (l.length : Int)) (ev_tmp rfl rfl) (ev_tmp rfl rfl)) ?_
                        refine st rfl (x_pick_f (v := Value.bool (decide ((l.length : Int) < o.nb))) (ev_tmp rfl (congrArg Value.bool hg509)) (ev_tmp rfl rfl)) ?_
                        refine s_nil ?_
                        refine hK505 _ _ ?_
                        have h510 : (decide ((l.length : Int) < o.nb)) = false := (decide_eq_false (by omega))
                        refine c_cond_f (ev_tmp rfl (congrArg Value.bool h510)) ?_
                        refine c_skip ?_
                        refine hK503 _ _ ?_
                        refine c_seq fun K511 hK512 => ?_
                        refine c_reg ?_
                        refine st rfl (x_fieldv (b := b6) (o := 0) (q := 0) fa_24_0 (ev_tmp rfl rfl) rfl) ?_
                        refine st rfl (x_load1 (v := Value.slice A l.length c) Try.underlying22 rfl (ev_tmp rfl rfl) (M430.cell (i := 3) (o := 0) rfl rfl)) ?_
                        refine st rfl (x_fieldv (b := b9) (o := 0) (q := 1) fa_40_1 (ev_tmp rfl rfl) rfl) ?_
                        refine st rfl (x_load1 (v := Value.int .i64 o.nb) Try.underlying3 rfl (ev_tmp rfl rfl) (M430.cell (i := 2) (o := 1) rfl rfl)) ?_
                        have hw513 : IntKind.i64.wrap (o.nb - 1) = o.nb - 1 := w64 (by rfl) (by omega) (by omega)
                        refine st rfl (x_sub_eq (p := o.nb) (q := 1) (ev_tmp rfl rfl) rfl hw513) ?_
                        obtain ⟨g514, o515, hA516⟩ := M430.roat (i := 3) rfl hx
                        refine st rfl (x_elemA (b := g514) (o := o515) (k := ((o.nb - 1).toNat)) ea_22 (ev_tmp rfl rfl) hA516 (ev_tmp rfl rfl) (by omega) (by omega)) ?_
                        refine st rfl (x_loadw (cs := [Value.string x.b, Value.string x.s, Value.string x.p, Value.int .i64 x.q, Value.int .i64 x.r, Value.bool x.bo, Value.bool x.so, Value.int .u8 x.st]) Try.underlying34 rfl sz_34 (ev_tmp rfl rfl) (M430.rorange (i := 3) rfl hA516 hx (f := 0) ⟨rfl, rfl, rfl, rfl, rfl, rfl, rfl, rfl, trivial⟩)) ?_
                        refine snew (cs := #[Value.string ByteArray.empty, Value.string ByteArray.empty, Value.string ByteArray.empty, Value.int .i64 0, Value.int .i64 0, Value.bool false, Value.bool false, Value.int .u8 0]) M430 rfl (x_allocz z_34) fun b519 w520 M521 => ?_
                        refine sset (i := 0) (L' := [Own.cells b519 34 #[Value.string x.b, Value.string x.s, Value.string x.p, Value.int .i64 x.q, Value.int .i64 x.r, Value.bool x.bo, Value.bool x.so, Value.int .u8 x.st], Own.row 34 8 (Value.slice A385 l.length c386) l.length (l.flatMap Trade.cells), Own.cells b382 24 #[Value.slice A392 l398.length c393], Own.cells b9 40 #[Value.int .u8 o.kd, Value.int .i64 o.nb, Value.string o.y, Value.string o.b, Value.string o.s, Value.string o.p, Value.int .i64 o.q, Value.int .i64 o.r], Own.cells b6 24 #[Value.slice A l.length c]]) M521 rfl rfl (x_storew (cs := [Value.string x.b, Value.string x.s, Value.string x.p, Value.int .i64 x.q, Value.int .i64 x.r, Value.bool x.bo, Value.bool x.so, Value.int .u8 x.st]) sz_34 (ev_tmp rfl rfl) (ev_tmp rfl rfl) (M521.cells_at (i := 0) rfl) rfl ⟨rfl, rfl, rfl, rfl, rfl, rfl, rfl, rfl, trivial⟩) fun w522 M523 => ?_
                        refine s_nil ?_
                        refine hK512 _ _ ?_
                        refine c_seq fun K524 hK525 => ?_
                        refine c_reg ?_
                        refine st rfl (x_move (v := Value.bool true) (ev_tmp rfl rfl)) ?_
                        refine st rfl (x_move (v := Value.bool true) (ev_tmp rfl rfl)) ?_
                        refine gt rfl rfl rfl rfl (x_move (v := Value.slice A425 ((legsC l398).length) c426) (ev_tmp rfl rfl)) ?_
                        refine gt rfl rfl rfl rfl (x_lensl (n := ((legsC l398).length)) Try.underlying26 (ev_tmp rfl rfl)) ?_
                        refine gt rfl rfl rfl rfl (x_move (v := Value.slice A416 ((legsC l).length) c417) (ev_tmp rfl rfl)) ?_
                        refine gt rfl rfl rfl rfl (x_lensl (n := ((legsC l).length)) Try.underlying26 (ev_tmp rfl rfl)) ?_
                        have hw530 : IntKind.i64.wrap (((legsC l).length : Int) + 2) = ((legsC l).length : Int) + 2 := w64 (by rfl) (by omega) (by omega)
                        refine gt rfl rfl rfl rfl (x_add_eq (p := ((legsC l).length : Int)) (q := 2) (ev_tmp rfl rfl) rfl hw530) ?_
                        refine gt rfl rfl rfl rfl (x_eql (p := ((legsC l398).length : Int)) (q := (((legsC l).length : Int) + 2)) (ev_tmp rfl rfl) (ev_tmp rfl rfl)) ?_
                        refine st rfl (x_pick_t (v := Value.bool (decide (((legsC l398).length : Int) = ((legsC l).length : Int) + 2))) (ev_tmp rfl rfl) (ev_tmp rfl rfl)) ?_
                        refine st rfl (x_move (v := Value.bool (decide (((legsC l398).length : Int) = ((legsC l).length : Int) + 2))) (ev_tmp rfl rfl)) ?_
                        have hg534 : (decide (((legsC l398).length : Int) = ((legsC l).length : Int) + 2)) = true := (decide_eq_true (by omega))
                        refine gt rfl rfl rfl (congrArg Value.bool hg534) (x_fieldv (b := b519) (o := 0) (q := 5) fa_34_5 (ev_tmp rfl rfl) rfl) ?_
                        refine gt rfl rfl rfl (congrArg Value.bool hg534) (x_load1 (v := Value.bool x.bo) Try.underlying4 rfl (ev_tmp rfl rfl) (M523.cell (i := 0) (o := 5) rfl rfl)) ?_
                        refine gt rfl rfl rfl (congrArg Value.bool hg534) (x_move (v := Value.bool x.bo) (ev_tmp rfl rfl)) ?_
                        refine s_meet3 fun K535 hK536 => ?_
                        have J537 : ∀ jk, K535 (fr 143 ([(117, Value.bool (x.bo || x.so)), (3, Value.pointer (some ⟨b9, 0, none⟩)), (4, Value.bool false), (13, Value.pointer (some ⟨b519, 0, none⟩)), (111, Value.bool (decide (((legsC l398).length : Int) = ((legsC l).length : Int) + 2))), (114, Value.bool x.bo)] ++ jk)) w522 := by
                          intro jk
                          refine hK536 _ _ ?_
                          clear hK536
                          refine st rfl (x_pick_t (v := Value.bool (x.bo || x.so)) (ev_tmp rfl (congrArg Value.bool hg534)) (ev_tmp rfl rfl)) ?_
                          refine st rfl (x_move (v := Value.bool (x.bo || x.so)) (ev_tmp rfl rfl)) ?_
                          have hg543 : (x.bo || x.so) = true := hb
                          refine gt rfl rfl rfl (congrArg Value.bool hg543) (x_fieldv (b := b9) (o := 0) (q := 2) fa_40_2 (ev_tmp rfl rfl) rfl) ?_
                          refine gt rfl rfl rfl (congrArg Value.bool hg543) (x_load1 (v := Value.string o.y) Try.underlying9 rfl (ev_tmp rfl rfl) (M523.cell (i := 3) (o := 2) rfl rfl)) ?_
                          refine gt rfl rfl rfl (congrArg Value.bool hg543) (x_fieldv (b := b519) (o := 0) (q := 0) fa_34_0 (ev_tmp rfl rfl) rfl) ?_
                          refine gt rfl rfl rfl (congrArg Value.bool hg543) (x_load1 (v := Value.string x.b) Try.underlying9 rfl (ev_tmp rfl rfl) (M523.cell (i := 0) (o := 0) rfl rfl)) ?_
                          refine gt rfl rfl rfl (congrArg Value.bool hg543) (x_eqs (p := o.y) (q := x.b) (ev_tmp rfl rfl) (ev_tmp rfl rfl)) ?_
                          refine gt rfl rfl rfl (congrArg Value.bool hg543) (x_move (v := Value.bool (decide (o.y.data.toList = x.b.data.toList))) (ev_tmp rfl rfl)) ?_
                          refine s_meet4 fun K544 hK545 => ?_
                          have J546 : ∀ jk, K544 (fr 143 ([(129, Value.bool ((decide (o.y.data.toList = x.b.data.toList)) && (!x.bo))), (3, Value.pointer (some ⟨b9, 0, none⟩)), (4, Value.bool false), (13, Value.pointer (some ⟨b519, 0, none⟩)), (119, Value.bool (x.bo || x.so)), (125, Value.bool (decide (o.y.data.toList = x.b.data.toList)))] ++ jk)) w522 := by
                            intro jk
                            refine hK545 _ _ ?_
                            clear hK545
                            refine gt rfl rfl rfl (congrArg Value.bool hg543) (x_move (v := Value.bool ((decide (o.y.data.toList = x.b.data.toList)) && (!x.bo))) (ev_tmp rfl rfl)) ?_
                            refine s_meet11 fun K549 hK550 => ?_
                            have J551 : ∀ jk, K549 (fr 143 ([(141, Value.bool (((decide (o.y.data.toList = x.b.data.toList)) && (!x.bo)) || ((decide (o.y.data.toList = x.s.data.toList)) && (!x.so)))), (4, Value.bool false), (119, Value.bool (x.bo || x.so)), (130, Value.bool ((decide (o.y.data.toList = x.b.data.toList)) && (!x.bo)))] ++ jk)) w522 := by
                              intro jk
                              refine hK550 _ _ ?_
                              clear hK550
                              refine st rfl (x_pick_t (v := Value.bool (((decide (o.y.data.toList = x.b.data.toList)) && (!x.bo)) || ((decide (o.y.data.toList = x.s.data.toList)) && (!x.so)))) (ev_tmp rfl (congrArg Value.bool hg543)) (ev_tmp rfl rfl)) ?_
                              refine st rfl (x_assign (v := Value.bool (((decide (o.y.data.toList = x.b.data.toList)) && (!x.bo)) || ((decide (o.y.data.toList = x.s.data.toList)) && (!x.so)))) (ev_tmp rfl rfl)) ?_
                              refine s_nil ?_
                              refine hK525 _ _ ?_
                              refine c_ret ?_
                              refine hT3 _ _ ?_
                              refine r1 rfl (ev_tmp (v := Value.bool (((decide (o.y.data.toList = x.b.data.toList)) && (!x.bo)) || ((decide (o.y.data.toList = x.s.data.toList)) && (!x.so)))) rfl rfl) ?_
                              exact ⟨ret_bool hq, M523.below⟩
                            clear hK550
                            rcases bcase ((decide (o.y.data.toList = x.b.data.toList)) && (!x.bo)) with hg552 | hg552
                            · have h553 : ((decide (o.y.data.toList = x.b.data.toList)) && (!x.bo)) = false := hg552
                              refine gt rfl rfl rfl (congrArg Value.bool hg552) (x_fieldv (b := b9) (o := 0) (q := 2) fa_40_2 (ev_tmp rfl rfl) rfl) ?_
                              refine gt rfl rfl rfl (congrArg Value.bool hg552) (x_load1 (v := Value.string o.y) Try.underlying9 rfl (ev_tmp rfl rfl) (M523.cell (i := 3) (o := 2) rfl rfl)) ?_
                              refine gt rfl rfl rfl (congrArg Value.bool hg552) (x_fieldv (b := b519) (o := 0) (q := 1) fa_34_1 (ev_tmp rfl rfl) rfl) ?_
                              refine gt rfl rfl rfl (congrArg Value.bool hg552) (x_load1 (v := Value.string x.s) Try.underlying9 rfl (ev_tmp rfl rfl) (M523.cell (i := 0) (o := 1) rfl rfl)) ?_
                              refine gt rfl rfl rfl (congrArg Value.bool hg552) (x_eqs (p := o.y) (q := x.s) (ev_tmp rfl rfl) (ev_tmp rfl rfl)) ?_
                              refine gt rfl rfl rfl (congrArg Value.bool hg552) (x_move (v := Value.bool (decide (o.y.data.toList = x.s.data.toList))) (ev_tmp rfl rfl)) ?_
                              refine s_meet4 fun K554 hK555 => ?_
                              have J556 : ∀ jk, K554 (fr 143 ([(140, Value.bool ((decide (o.y.data.toList = x.s.data.toList)) && (!x.so))), (4, Value.bool false), (119, Value.bool (x.bo || x.so)), (130, Value.bool ((decide (o.y.data.toList = x.b.data.toList)) && (!x.bo))), (136, Value.bool (decide (o.y.data.toList = x.s.data.toList)))] ++ jk)) w522 := by
                                intro jk
                                refine hK555 _ _ ?_
                                clear hK555
                                refine gt rfl rfl rfl (congrArg Value.bool hg543) (x_pick_f (v := Value.bool ((decide (o.y.data.toList = x.s.data.toList)) && (!x.so))) (ev_tmp rfl (congrArg Value.bool hg552)) (ev_tmp rfl rfl)) ?_
                                refine s_nil ?_
                                exact j_to J551 ⟨(congrArg Value.bool (or_f hg552)), rfl, rfl, rfl, trivial⟩
                              clear hK555
                              rcases bcase (decide (o.y.data.toList = x.s.data.toList)) with hg557 | hg557
                              · refine gf (b' := false) rfl rfl rfl (congrArg Value.bool hg557) rfl ?_
                                refine gf (b' := false) rfl rfl rfl (congrArg Value.bool hg557) rfl ?_
                                refine gf (b' := false) rfl rfl rfl (congrArg Value.bool hg557) rfl ?_
                                refine gt rfl rfl rfl (congrArg Value.bool hg552) (x_pick_f (v := Value.bool false) (ev_tmp rfl (congrArg Value.bool hg557)) rfl) ?_
                                refine s_nil ?_
                                exact j_to J556 ⟨(congrArg Value.bool (and_f hg557)), rfl, rfl, rfl, rfl, trivial⟩
                              · have h558 : o.y.data.toList = x.s.data.toList := of_decide_eq_true hg557
                                refine gt rfl rfl rfl (congrArg Value.bool hg557) (x_fieldv (b := b519) (o := 0) (q := 6) fa_34_6 (ev_tmp rfl rfl) rfl) ?_
                                refine gt rfl rfl rfl (congrArg Value.bool hg557) (x_load1 (v := Value.bool x.so) Try.underlying4 rfl (ev_tmp rfl rfl) (M523.cell (i := 0) (o := 6) rfl rfl)) ?_
                                refine gt rfl rfl rfl (congrArg Value.bool hg557) (x_not (b := x.so) (ev_tmp rfl rfl)) ?_
                                refine gt rfl rfl rfl (congrArg Value.bool hg552) (x_pick_t (v := Value.bool (!x.so)) (ev_tmp rfl (congrArg Value.bool hg557)) (ev_tmp rfl rfl)) ?_
                                refine s_nil ?_
                                exact j_to J556 ⟨(congrArg Value.bool (and_t hg557)), rfl, rfl, rfl, rfl, trivial⟩
                            · refine gf (b' := true) rfl rfl rfl (congrArg Value.bool hg552) rfl ?_
                              refine gf (b' := true) rfl rfl rfl (congrArg Value.bool hg552) rfl ?_
                              refine gf (b' := true) rfl rfl rfl (congrArg Value.bool hg552) rfl ?_
                              refine gf (b' := true) rfl rfl rfl (congrArg Value.bool hg552) rfl ?_
                              refine gf (b' := true) rfl rfl rfl (congrArg Value.bool hg552) rfl ?_
                              refine gf (b' := true) rfl rfl rfl (congrArg Value.bool hg552) rfl ?_
                              refine gu rfl rfl rfl rfl ?_
                              refine gu rfl rfl rfl rfl ?_
                              refine gu rfl rfl rfl rfl ?_
                              refine gf (b' := true) rfl rfl rfl (congrArg Value.bool hg552) rfl ?_
                              refine gt rfl rfl rfl (congrArg Value.bool hg543) (x_pick_t (v := Value.bool true) (ev_tmp rfl (congrArg Value.bool hg552)) rfl) ?_
                              refine s_nil ?_
                              exact j_to J551 ⟨(congrArg Value.bool (or_t hg552)), rfl, rfl, rfl, trivial⟩
                          clear hK545
                          rcases bcase (decide (o.y.data.toList = x.b.data.toList)) with hg547 | hg547
                          · refine gf (b' := false) rfl rfl rfl (congrArg Value.bool hg547) rfl ?_
                            refine gf (b' := false) rfl rfl rfl (congrArg Value.bool hg547) rfl ?_
                            refine gf (b' := false) rfl rfl rfl (congrArg Value.bool hg547) rfl ?_
                            refine gt rfl rfl rfl (congrArg Value.bool hg543) (x_pick_f (v := Value.bool false) (ev_tmp rfl (congrArg Value.bool hg547)) rfl) ?_
                            refine s_nil ?_
                            exact j_to J546 ⟨(congrArg Value.bool (and_f hg547)), rfl, rfl, rfl, rfl, rfl, trivial⟩
                          · have h548 : o.y.data.toList = x.b.data.toList := of_decide_eq_true hg547
                            refine gt rfl rfl rfl (congrArg Value.bool hg547) (x_fieldv (b := b519) (o := 0) (q := 5) fa_34_5 (ev_tmp rfl rfl) rfl) ?_
                            refine gt rfl rfl rfl (congrArg Value.bool hg547) (x_load1 (v := Value.bool x.bo) Try.underlying4 rfl (ev_tmp rfl rfl) (M523.cell (i := 0) (o := 5) rfl rfl)) ?_
                            refine gt rfl rfl rfl (congrArg Value.bool hg547) (x_not (b := x.bo) (ev_tmp rfl rfl)) ?_
                            refine gt rfl rfl rfl (congrArg Value.bool hg543) (x_pick_t (v := Value.bool (!x.bo)) (ev_tmp rfl (congrArg Value.bool hg547)) (ev_tmp rfl rfl)) ?_
                            refine s_nil ?_
                            exact j_to J546 ⟨(congrArg Value.bool (and_t hg547)), rfl, rfl, rfl, rfl, rfl, trivial⟩
                        clear hK536
                        rcases bcase (x.bo) with hg538 | hg538
                        · have h539 : x.bo = false := hg538
                          refine gt rfl rfl rfl (congrArg Value.bool hg538) (x_fieldv (b := b519) (o := 0) (q := 6) fa_34_6 (ev_tmp rfl rfl) rfl) ?_
                          refine gt rfl rfl rfl (congrArg Value.bool hg538) (x_load1 (v := Value.bool x.so) Try.underlying4 rfl (ev_tmp rfl rfl) (M523.cell (i := 0) (o := 6) rfl rfl)) ?_
                          refine gt rfl rfl rfl (congrArg Value.bool hg534) (x_pick_f (v := Value.bool x.so) (ev_tmp rfl (congrArg Value.bool hg538)) (ev_tmp rfl rfl)) ?_
                          refine s_nil ?_
                          exact j_to J537 ⟨(congrArg Value.bool (or_f hg538)), rfl, rfl, rfl, rfl, rfl, trivial⟩
                        · refine gf (b' := true) rfl rfl rfl (congrArg Value.bool hg538) rfl ?_
                          refine gf (b' := true) rfl rfl rfl (congrArg Value.bool hg538) rfl ?_
                          refine gt rfl rfl rfl (congrArg Value.bool hg534) (x_pick_t (v := Value.bool true) (ev_tmp rfl (congrArg Value.bool hg538)) rfl) ?_
                          refine s_nil ?_
                          exact j_to J537 ⟨(congrArg Value.bool (or_t hg538)), rfl, rfl, rfl, rfl, rfl, trivial⟩
            exact dN
          exact dN
        exact dN
      exact dN
  clear hK22
  rcases bcase (decide ((220 : Int) < (l.length : Int))) with hg24 | hg24
  · have h25 : ¬ ((220 : Int) < (l.length : Int)) := of_decide_eq_false hg24
    refine gt rfl rfl rfl (congrArg Value.bool hg24) (x_move (v := Value.bool true) (ev_tmp rfl rfl)) ?_
    refine gt rfl rfl rfl (congrArg Value.bool hg24) (x_not (b := true) (ev_tmp rfl rfl)) ?_
    refine st rfl (x_pick_f (v := Value.bool false) (ev_tmp rfl (congrArg Value.bool hg24)) (ev_tmp rfl rfl)) ?_
    refine s_nil ?_
    exact j_to J23 ⟨(congrArg Value.bool (or_f hg24)), rfl, rfl, rfl, rfl, rfl, trivial⟩
  · refine gf (b' := true) rfl rfl rfl (congrArg Value.bool hg24) rfl ?_
    refine gf (b' := true) rfl rfl rfl (congrArg Value.bool hg24) rfl ?_
    refine st rfl (x_pick_t (v := Value.bool true) (ev_tmp rfl (congrArg Value.bool hg24)) rfl) ?_
    refine s_nil ?_
    exact j_to J23 ⟨(congrArg Value.bool (or_t hg24)), rfl, rfl, rfl, rfl, rfl, trivial⟩

end Go.Proofs.Ytkimdlpfbojkgaa
