/- The law NovateRuns, walked. -/
import Derived.Test.YtkimdlpfbojkgaaRb
import Derived.Test.YtkimdlpfbojkgaaI
namespace Go.Proofs.Ytkimdlpfbojkgaa
open Go.RowKit
theorem run_same {la lb l1 l2 : List Trade} {o : Step} {n1 n2 e1 e2 : Int} (hab : la = lb) (h1 : callP la o = (l1, n1, e1)) (h2 : callP lb o = (l2, n2, e2)) : l1 = l2 ∧ n1 = n2 ∧ e1 = e2 := by
  subst hab
  rw [h1] at h2
  simpa using h2
theorem ea_48 : ElemAt Try.prog 48 8 := elemAt_of Try.underlying48 (by kernel_rfl)
theorem ent_21 : Enters Try.prog 21 := enters_of Try.func21 (by kernel_rfl) rfl
theorem ent_22 : Enters Try.prog 22 := enters_of Try.func22 (by kernel_rfl) rfl
set_option maxHeartbeats 1000000 in
set_option maxRecDepth 20000 in
theorem runs_law (A : Option Addr) (c : Nat) (os : List Step) (w : World) (hs : SlB 0 w.heap.size w A c 8 Step.cells os) :
    Calls Try.prog 6 #[Value.slice A os.length c] w fun e w' => e = .returned (.bool (true)) ∧ Below w.heap.size w w' := by
  have hcm : os.length ≤ 9223372036854775807 := by have := hs.1; have := hs.2.1; simp only [maxLen] at this; omega
  have M0 := Mem.start w []
  have M1 := M0.see (Ro.sl 0 w.heap.size A c 8 Step.cells os) (hs) (Nat.le_refl _)
  refine enter (args := [Value.slice A os.length c]) Try.func6 rfl (n := 69) rfl rfl fun T2 hT3 => ?_
  refine c_seq fun K4 hK5 => ?_
  refine c_reg ?_
  refine st rfl (x_assign (v := Value.bool false) rfl) ?_
  refine s_nil ?_
  refine hK5 _ _ ?_
  refine c_seq fun K6 hK7 => ?_
  refine c_reg ?_
  refine sC rfl (x_callL (xs := []) (vs := []) (cap := []) ent_11 rfl trivial) (alive_c _) ?_
  rintro _ w9 ⟨rfl, hb11⟩
  refine ⟨_, rfl, ?_⟩
  have M10 := M1.call hb11
  refine st rfl (x_assign (v := Value.bool true) (ev_tmp rfl rfl)) ?_
  refine s_nil ?_
  refine hK7 _ _ ?_
  refine c_seq fun K12 hK13 => ?_
  refine c_seq fun K14 hK15 => ?_
  refine c_reg ?_
  refine st rfl (x_move (v := Value.slice A os.length c) (ev_tmp rfl rfl)) ?_
  refine st rfl (x_lensl (n := os.length) Try.underlying48 (ev_tmp rfl rfl)) ?_
  refine st rfl (x_gtr (p := (os.length : Int)) (q := 300) (ev_tmp rfl rfl) rfl) ?_
  refine st rfl (x_move (v := Value.bool (decide ((300 : Int) < (os.length : Int)))) (ev_tmp rfl rfl)) ?_
  refine s_meet3 fun K16 hK17 => ?_
  have J18 : ∀ jk, K16 (fr 69 ([(20, Value.bool ((decide ((300 : Int) < (os.length : Int))) || false)), (0, Value.slice A os.length c), (2, Value.bool false), (3, Value.bool true), (17, Value.bool (decide ((300 : Int) < (os.length : Int))))] ++ jk)) w9 := by
    intro jk
    refine hK17 _ _ ?_
    clear hK17
    refine s_nil ?_
    refine hK15 _ _ ?_
    refine c_cond (b := (decide ((300 : Int) < (os.length : Int))) || false) (ev_tmp rfl rfl) (fun h21 => ?_) (fun h21 => ?_)
    · have h22 : ((decide ((300 : Int) < (os.length : Int))) || false) = true := h21
      refine c_seq fun K23 hK24 => ?_
      refine c_reg ?_
      refine st rfl (x_move (v := Value.bool true) (ev_tmp rfl rfl)) ?_
      refine st rfl (x_assign (v := Value.bool true) (ev_tmp rfl rfl)) ?_
      refine s_nil ?_
      refine hK24 _ _ ?_
      refine c_ret ?_
      refine hT3 _ _ ?_
      refine r1 rfl (ev_tmp (v := Value.bool true) rfl rfl) ?_
      exact ⟨rfl, M10.below⟩
    · have h25 : ¬ ((300 : Int) < (os.length : Int)) := of_decide_eq_false (or_l h21)
      have hlen : os.length ≤ 300 := by omega
      refine c_skip ?_
      refine hK13 _ _ ?_
      refine c_seq fun K26 hK27 => ?_
      refine c_reg ?_
      refine sC rfl (x_callL (xs := []) (vs := []) (cap := []) ent_19 rfl trivial) (new_c _) ?_
      rintro _ w28 ⟨rfl, hb29⟩
      refine ⟨_, rfl, ?_⟩
      have M30 := M10.gotSl hb29 (SlB.nil _ _ _ 8 Trade.cells)
      refine st rfl (x_buildL (ps := []) (vs := []) (cs := #[Value.slice none 0 0]) trivial (by kernel_rfl)) ?_
      refine snew (cs := #[Value.slice none 0 0]) M30 rfl (x_allocz z_24) fun b32 w33 M34 => ?_
      refine snew (cs := #[Value.slice none 0 0]) M34 rfl (x_allocz z_24) fun b35 w36 M37 => ?_
      refine sset (i := 1) (L' := [Own.cells b35 24 #[Value.slice none 0 0], Own.cells b32 24 #[Value.slice none (([] : List Trade).length) 0]]) M37 rfl rfl (x_storew (cs := [Value.slice none (([] : List Trade).length) 0]) sz_24 (ev_tmp rfl rfl) (ev_tmp rfl rfl) (M37.cells_at (i := 1) rfl) rfl ⟨rfl, trivial⟩) fun w38 M39 => ?_
      refine sset (i := 0) (L' := [Own.cells b35 24 #[Value.slice none 0 0], Own.cells b32 24 #[Value.slice none (([] : List Trade).length) 0]]) M39 rfl rfl (x_storew (cs := [Value.slice none 0 0]) sz_24 (ev_tmp rfl rfl) (ev_tmp rfl rfl) (M39.cells_at (i := 0) rfl) rfl ⟨rfl, trivial⟩) fun w40 M41 => ?_
      refine s_nil ?_
      refine hK27 _ _ ?_
      refine c_seq fun K42 hK43 => ?_
      refine c_seq fun K44 hK45 => ?_
      refine c_reg ?_
      refine st rfl (x_assign (v := Value.int .i64 0) rfl) ?_
      refine s_nil ?_
      refine hK45 _ _ ?_
      refine c_block ?_
      have M46 : Mem w [] w40 [Own.cells b35 24 #[Value.slice none (([] : List Trade).length) 0], Own.cells b32 24 #[Value.slice none (([] : List Trade).length) 0]] [Ro.sl w9.heap.size w28.heap.size none 0 8 Trade.cells ([] : List Trade), Ro.sl w9.heap.size w28.heap.size none 0 8 Trade.cells ([] : List Trade), Ro.sl 0 w.heap.size A c 8 Step.cells os] := (M41.roSub (R' := [Ro.sl w9.heap.size w28.heap.size none 0 8 Trade.cells ([] : List Trade), Ro.sl w9.heap.size w28.heap.size none 0 8 Trade.cells ([] : List Trade), Ro.sl 0 w.heap.size A c 8 Step.cells os]) (List.forall_mem_cons.2 ⟨List.mem_of_getElem? (i := 0) rfl, (List.forall_mem_cons.2 ⟨List.mem_of_getElem? (i := 0) rfl, (List.forall_mem_cons.2 ⟨List.mem_of_getElem? (i := 1) rfl, (List.forall_mem_nil _)⟩)⟩)⟩))
      refine c_loopH (live := [(0, Value.slice A os.length c), (3, Value.bool true), (4, Value.pointer (some ⟨b32, 0, none⟩)), (5, Value.pointer (some ⟨b35, 0, none⟩)), (6, Value.int .i64 0)]) ⟨rfl, rfl, rfl, rfl, rfl, trivial⟩ (fun mm ll w1 => ∃ (k : Nat) (A0_ : Option Addr) (c0_ : Nat) (la_ : List Trade) (lo0_ : Nat) (hi0_ : Nat) (A1_ : Option Addr) (c1_ : Nat) (lb_ : List Trade) (lo1_ : Nat) (hi1_ : Nat) (jk : List (Nat × Value)), mm = os.length - k ∧ ll = [(0, Value.slice A os.length c), (3, Value.bool true), (4, Value.pointer (some ⟨b32, 0, none⟩)), (5, Value.pointer (some ⟨b35, 0, none⟩)), (6, Value.int .i64 (k : Int))] ++ jk ∧ Mem w [] w1 [Own.cells b35 24 #[Value.slice A1_ lb_.length c1_], Own.cells b32 24 #[Value.slice A0_ la_.length c0_]] [Ro.sl lo0_ hi0_ A0_ c0_ 8 Trade.cells la_, Ro.sl lo1_ hi1_ A1_ c1_ 8 Trade.cells lb_, Ro.sl 0 w.heap.size A c 8 Step.cells os] ∧ (k ≤ os.length) ∧ (la_ = lb_)) ⟨0, none, 0, ([] : List Trade), w9.heap.size, w28.heap.size, none, 0, ([] : List Trade), w9.heap.size, w28.heap.size, _, rfl, rfl, M46, (by omega), rfl⟩ fun mm ll w1 hI47 => ?_
      obtain ⟨k, A0_, c0_, la_, lo0_, hi0_, A1_, c1_, lb_, lo1_, hi1_, jk, rfl, rfl, M49, hk, hab⟩ := hI47
      obtain ⟨w48, rfl⟩ : ∃ x, x = w1 := ⟨_, rfl⟩
      refine c_seq fun K50 hK51 => ?_
      refine c_seq fun K52 hK53 => ?_
      refine c_reg ?_
      refine st rfl (x_move (v := Value.int .i64 (k : Int)) (ev_tmp rfl rfl)) ?_
      refine st rfl (x_move (v := Value.slice A os.length c) (ev_tmp rfl rfl)) ?_
      refine st rfl (x_lensl (n := os.length) Try.underlying48 (ev_tmp rfl rfl)) ?_
      refine st rfl (x_lss (p := (k : Int)) (q := (os.length : Int)) (ev_tmp rfl rfl) (ev_tmp rfl rfl)) ?_
      refine s_nil ?_
      refine hK53 _ _ ?_
      refine c_cond (b := decide ((k : Int) < (os.length : Int))) (ev_tmp rfl rfl) (fun h54 => ?_) (fun h54 => ?_)
      · have h55 : (k : Int) < (os.length : Int) := of_decide_eq_true h54
        obtain ⟨o, ho⟩ : ∃ x, os[k]? = some x := ⟨_, List.getElem?_eq_getElem (by omega)⟩
        refine c_skip ?_
        refine hK51 _ _ ?_
        refine c_seq fun K56 hK57 => ?_
        refine c_block ?_
        refine c_seq fun K58 hK59 => ?_
        have M60 := M49.drew
        refine c_drawn (fun w1 => Mem w [] w1 [Own.cells b35 24 #[Value.slice A1_ lb_.length c1_], Own.cells b32 24 #[Value.slice A0_ la_.length c0_]] [Ro.sl lo0_ hi0_ A0_ c0_ 8 Trade.cells la_, Ro.sl lo1_ hi1_ A1_ c1_ 8 Trade.cells lb_, Ro.sl 0 w.heap.size A c 8 Step.cells os]) mixed ?_
        generalize w48.drew = w61 at M60 ⊢
        refine dT (i := 0) (v := Value.agg #[Value.slice A0_ la_.length c0_]) rfl (by kernel_rfl) (by kernel_rfl) rfl M60 (fun _ hS => x_loadw (cs := [Value.slice A0_ la_.length c0_]) Try.underlying24 rfl sz_24 (ev_tmp rfl rfl) (hS.range (i := 1) rfl ⟨rfl, trivial⟩)) ?_
        refine dT (i := 1) (v := Value.slice A os.length c) rfl (by kernel_rfl) (by kernel_rfl) rfl M60 (fun _ hS => x_move (v := Value.slice A os.length c) (ev_tmp rfl rfl)) ?_
        refine dT (i := 2) (v := Value.int .i64 (k : Int)) rfl (by kernel_rfl) (by kernel_rfl) rfl M60 (fun _ hS => x_move (v := Value.int .i64 (k : Int)) (ev_tmp rfl rfl)) ?_
        obtain ⟨g62, o63, hA64⟩ := M60.roat (i := 2) rfl ho
        refine dT (i := 3) (v := Value.pointer (some ⟨g62, o63 + k * 8, none⟩)) rfl (by kernel_rfl) (by kernel_rfl) rfl M60 (fun _ hS => x_elemA (b := g62) (o := o63) (k := k) ea_48 (ev_tmp rfl rfl) hA64 (ev_tmp rfl rfl) rfl (by omega)) ?_
        refine dT (i := 4) (v := Value.agg #[Value.int .u8 o.kd, Value.int .i64 o.nb, Value.string o.y, Value.string o.b, Value.string o.s, Value.string o.p, Value.int .i64 o.q, Value.int .i64 o.r]) rfl (by kernel_rfl) (by kernel_rfl) rfl M60 (fun _ hS => x_loadw (cs := [Value.int .u8 o.kd, Value.int .i64 o.nb, Value.string o.y, Value.string o.b, Value.string o.s, Value.string o.p, Value.int .i64 o.q, Value.int .i64 o.r]) Try.underlying40 rfl sz_40 (ev_tmp rfl rfl) (hS.rorange (i := 2) rfl hA64 ho (f := 0) ⟨rfl, rfl, rfl, rfl, rfl, rfl, rfl, rfl, trivial⟩)) ?_
        refine dA (rs := [5, 10]) (by kernel_rfl) rfl ?_
        refine dC ?_ ?_
        · refine dsC (i := 5) rfl rfl (x_callL (xs := [.tmp 31, .tmp 35]) (vs := [Value.agg #[Value.slice A0_ la_.length c0_], Value.agg #[Value.int .u8 o.kd, Value.int .i64 o.nb, Value.string o.y, Value.string o.b, Value.string o.s, Value.string o.p, Value.int .i64 o.q, Value.int .i64 o.r]]) (cap := []) ent_20 rfl ⟨(ev_tmp rfl rfl), (ev_tmp rfl rfl), trivial⟩) (call_c _ _ la_ o _ (M60.slw (i := 0) rfl)) ?_
          rintro _ w69 ⟨A67, c68, l73, e75, e76, he74, rfl, hb70, hs71⟩
          refine ⟨_, rfl, ?_⟩
          have M72 := M60.gotSl hb70 hs71
          refine ⟨(M72.dropR 1), ?_⟩
          refine dT (i := 6) (v := Value.tuple #[Value.agg #[Value.slice A67 l73.length c68], Value.int .i64 e75, Value.int .i64 e76]) rfl (by kernel_rfl) (by kernel_rfl) rfl (M72.dropR 1) (fun _ hS => x_move (v := Value.tuple #[Value.agg #[Value.slice A67 l73.length c68], Value.int .i64 e75, Value.int .i64 e76]) (ev_tmp rfl rfl)) ?_
          refine dT (i := 7) (v := Value.agg #[Value.slice A67 l73.length c68]) rfl (by kernel_rfl) (by kernel_rfl) rfl (M72.dropR 1) (fun _ hS => x_extract (v := Value.agg #[Value.slice A67 l73.length c68]) (ev_tmp rfl rfl) rfl) ?_
          refine dT (i := 8) (v := Value.int .i64 e75) rfl (by kernel_rfl) (by kernel_rfl) rfl (M72.dropR 1) (fun _ hS => x_extract (v := Value.int .i64 e75) (ev_tmp rfl rfl) rfl) ?_
          refine dT (i := 9) (v := Value.int .i64 e76) rfl (by kernel_rfl) (by kernel_rfl) rfl (M72.dropR 1) (fun _ hS => x_extract (v := Value.int .i64 e76) (ev_tmp rfl rfl) rfl) ?_
          refine dA (rs := [10]) (by kernel_rfl) rfl ?_
          refine dC ?_ ?_
          · refine dnew (i := 10) (cs := #[Value.slice none 0 0]) M72 rfl rfl (x_allocz z_24) fun b78 w79 M80 => ?_
            refine ⟨((M80.dropL 1).dropR 1), ?_⟩
            refine dA (rs := [11]) (by kernel_rfl) rfl ?_
            refine dC ?_ ?_
            · refine dset (i := 11) (k := 0) (L' := [Own.cells b78 24 #[Value.slice A67 l73.length c68], Own.cells b35 24 #[Value.slice A1_ lb_.length c1_], Own.cells b32 24 #[Value.slice A0_ la_.length c0_]]) M80 rfl rfl rfl (x_storew (cs := [Value.slice A67 l73.length c68]) sz_24 (ev_tmp rfl rfl) (ev_tmp rfl rfl) (M80.cells_at (i := 0) rfl) rfl ⟨rfl, trivial⟩) fun w81 M82 => ?_
              refine ⟨((M82.dropL 1).dropR 1), ?_⟩
              refine dT (i := 12) (v := Value.int .i64 e75) rfl (by kernel_rfl) (by kernel_rfl) rfl ((M82.dropL 1).dropR 1) (fun _ hS => x_assign (v := Value.int .i64 e75) (ev_tmp rfl rfl)) ?_
              refine dT (i := 13) (v := Value.int .i64 e76) rfl (by kernel_rfl) (by kernel_rfl) rfl ((M82.dropL 1).dropR 1) (fun _ hS => x_assign (v := Value.int .i64 e76) (ev_tmp rfl rfl)) ?_
              refine dE (by kernel_rfl) ?_
              refine hK59 _ _ ?_
              refine c_seq fun K83 hK84 => ?_
              have M85 := M82.drew
              refine c_drawn (fun w1 => Mem w [] w1 [Own.cells b78 24 #[Value.slice A67 l73.length c68], Own.cells b35 24 #[Value.slice A1_ lb_.length c1_], Own.cells b32 24 #[Value.slice A0_ la_.length c0_]] [Ro.sl w61.heap.size w69.heap.size A67 c68 8 Trade.cells l73, Ro.sl lo0_ hi0_ A0_ c0_ 8 Trade.cells la_, Ro.sl lo1_ hi1_ A1_ c1_ 8 Trade.cells lb_, Ro.sl 0 w.heap.size A c 8 Step.cells os]) mixed ?_
              generalize w81.drew = w86 at M85 ⊢
              refine dT (i := 0) (v := Value.agg #[Value.slice A1_ lb_.length c1_]) rfl (by kernel_rfl) (by kernel_rfl) rfl M85 (fun _ hS => x_loadw (cs := [Value.slice A1_ lb_.length c1_]) Try.underlying24 rfl sz_24 (ev_tmp rfl rfl) (hS.range (i := 1) rfl ⟨rfl, trivial⟩)) ?_
              refine dT (i := 1) (v := Value.slice A os.length c) rfl (by kernel_rfl) (by kernel_rfl) rfl M85 (fun _ hS => x_move (v := Value.slice A os.length c) (ev_tmp rfl rfl)) ?_
              refine dT (i := 2) (v := Value.int .i64 (k : Int)) rfl (by kernel_rfl) (by kernel_rfl) rfl M85 (fun _ hS => x_move (v := Value.int .i64 (k : Int)) (ev_tmp rfl rfl)) ?_
              refine dT (i := 3) (v := Value.pointer (some ⟨g62, o63 + k * 8, none⟩)) rfl (by kernel_rfl) (by kernel_rfl) rfl M85 (fun _ hS => x_elemA (b := g62) (o := o63) (k := k) ea_48 (ev_tmp rfl rfl) hA64 (ev_tmp rfl rfl) rfl (by omega)) ?_
              refine dT (i := 4) (v := Value.agg #[Value.int .u8 o.kd, Value.int .i64 o.nb, Value.string o.y, Value.string o.b, Value.string o.s, Value.string o.p, Value.int .i64 o.q, Value.int .i64 o.r]) rfl (by kernel_rfl) (by kernel_rfl) rfl M85 (fun _ hS => x_loadw (cs := [Value.int .u8 o.kd, Value.int .i64 o.nb, Value.string o.y, Value.string o.b, Value.string o.s, Value.string o.p, Value.int .i64 o.q, Value.int .i64 o.r]) Try.underlying40 rfl sz_40 (ev_tmp rfl rfl) (hS.rorange (i := 3) rfl hA64 ho (f := 0) ⟨rfl, rfl, rfl, rfl, rfl, rfl, rfl, rfl, trivial⟩)) ?_
              refine dA (rs := [5, 10]) (by kernel_rfl) rfl ?_
              refine dC ?_ ?_
              · refine dsC (i := 5) rfl rfl (x_callL (xs := [.tmp 41, .tmp 45]) (vs := [Value.agg #[Value.slice A1_ lb_.length c1_], Value.agg #[Value.int .u8 o.kd, Value.int .i64 o.nb, Value.string o.y, Value.string o.b, Value.string o.s, Value.string o.p, Value.int .i64 o.q, Value.int .i64 o.r]]) (cap := []) ent_21 rfl ⟨(ev_tmp rfl rfl), (ev_tmp rfl rfl), trivial⟩) (asked_law _ _ lb_ o _ (M85.slw (i := 2) rfl)) ?_
                rintro _ w89 ⟨A87, c88, l93, e95, e96, he94, rfl, hb90, hs91⟩
                refine ⟨_, rfl, ?_⟩
                have M92 := M85.gotSl hb90 hs91
                refine ⟨(M92.dropR 1), ?_⟩
                refine dT (i := 6) (v := Value.tuple #[Value.agg #[Value.slice A87 l93.length c88], Value.int .i64 e95, Value.int .i64 e96]) rfl (by kernel_rfl) (by kernel_rfl) rfl (M92.dropR 1) (fun _ hS => x_move (v := Value.tuple #[Value.agg #[Value.slice A87 l93.length c88], Value.int .i64 e95, Value.int .i64 e96]) (ev_tmp rfl rfl)) ?_
                refine dT (i := 7) (v := Value.agg #[Value.slice A87 l93.length c88]) rfl (by kernel_rfl) (by kernel_rfl) rfl (M92.dropR 1) (fun _ hS => x_extract (v := Value.agg #[Value.slice A87 l93.length c88]) (ev_tmp rfl rfl) rfl) ?_
                refine dT (i := 8) (v := Value.int .i64 e95) rfl (by kernel_rfl) (by kernel_rfl) rfl (M92.dropR 1) (fun _ hS => x_extract (v := Value.int .i64 e95) (ev_tmp rfl rfl) rfl) ?_
                refine dT (i := 9) (v := Value.int .i64 e96) rfl (by kernel_rfl) (by kernel_rfl) rfl (M92.dropR 1) (fun _ hS => x_extract (v := Value.int .i64 e96) (ev_tmp rfl rfl) rfl) ?_
                refine dA (rs := [10]) (by kernel_rfl) rfl ?_
                refine dC ?_ ?_
                · refine dnew (i := 10) (cs := #[Value.slice none 0 0]) M92 rfl rfl (x_allocz z_24) fun b98 w99 M100 => ?_
                  refine ⟨((M100.dropL 1).dropR 1), ?_⟩
                  refine dA (rs := [11]) (by kernel_rfl) rfl ?_
                  refine dC ?_ ?_
                  · refine dset (i := 11) (k := 0) (L' := [Own.cells b98 24 #[Value.slice A87 l93.length c88], Own.cells b78 24 #[Value.slice A67 l73.length c68], Own.cells b35 24 #[Value.slice A1_ lb_.length c1_], Own.cells b32 24 #[Value.slice A0_ la_.length c0_]]) M100 rfl rfl rfl (x_storew (cs := [Value.slice A87 l93.length c88]) sz_24 (ev_tmp rfl rfl) (ev_tmp rfl rfl) (M100.cells_at (i := 0) rfl) rfl ⟨rfl, trivial⟩) fun w101 M102 => ?_
                    refine ⟨((M102.dropL 1).dropR 1), ?_⟩
                    refine dT (i := 12) (v := Value.int .i64 e95) rfl (by kernel_rfl) (by kernel_rfl) rfl ((M102.dropL 1).dropR 1) (fun _ hS => x_assign (v := Value.int .i64 e95) (ev_tmp rfl rfl)) ?_
                    refine dT (i := 13) (v := Value.int .i64 e96) rfl (by kernel_rfl) (by kernel_rfl) rfl ((M102.dropL 1).dropR 1) (fun _ hS => x_assign (v := Value.int .i64 e96) (ev_tmp rfl rfl)) ?_
                    refine dE (by kernel_rfl) ?_
                    refine hK84 _ _ ?_
                    refine c_seq fun K103 hK104 => ?_
                    refine c_seq fun K105 hK106 => ?_
                    refine c_reg ?_
                    refine st rfl (x_loadw (cs := [Value.slice A67 l73.length c68]) Try.underlying24 rfl sz_24 (ev_tmp rfl rfl) (M102.range (i := 1) rfl ⟨rfl, trivial⟩)) ?_
                    refine st rfl (x_loadw (cs := [Value.slice A87 l93.length c88]) Try.underlying24 rfl sz_24 (ev_tmp rfl rfl) (M102.range (i := 0) rfl ⟨rfl, trivial⟩)) ?_
                    refine sC rfl (x_callL (xs := [.tmp 50, .tmp 51]) (vs := [Value.agg #[Value.slice A67 l73.length c68], Value.agg #[Value.slice A87 l93.length c88]]) (cap := []) ent_22 rfl ⟨(ev_tmp rfl rfl), (ev_tmp rfl rfl), trivial⟩) (same_r _ _ l73 _ _ l93 _ (M102.slw (i := 1) rfl) (M102.slw (i := 0) rfl)) ?_
                    rintro _ w107 ⟨rfl, hb109⟩
                    refine ⟨_, rfl, ?_⟩
                    have M108 := M102.call hb109
                    refine st rfl (x_not (b := (sameB tradeEq l73 l93)) (ev_tmp rfl rfl)) ?_
                    refine st rfl (x_move (v := Value.bool (!(sameB tradeEq l73 l93))) (ev_tmp rfl rfl)) ?_
                    have hg113 : (!(sameB tradeEq l73 l93)) = false := (by rw [((sameB_iff fun _ _ => tradeEq_iff).2 (run_same hab he74 he94).1)]; rfl)
                    refine gt rfl rfl rfl (congrArg Value.bool hg113) (x_move (v := Value.int .i64 e75) (ev_tmp rfl rfl)) ?_
                    refine gt rfl rfl rfl (congrArg Value.bool hg113) (x_move (v := Value.int .i64 e95) (ev_tmp rfl rfl)) ?_
                    refine gt rfl rfl rfl (congrArg Value.bool hg113) (x_neq (p := e75) (q := e95) (ev_tmp rfl rfl) (ev_tmp rfl rfl)) ?_
                    refine st rfl (x_pick_f (v := Value.bool (!(decide (e75 = e95)))) (ev_tmp rfl (congrArg Value.bool hg113)) (ev_tmp rfl rfl)) ?_
                    refine st rfl (x_move (v := Value.bool (!(decide (e75 = e95)))) (ev_tmp rfl rfl)) ?_
                    have hg117 : (!(decide (e75 = e95))) = false := (by rw [(decide_eq_true (run_same hab he74 he94).2.1)]; rfl)
                    refine gt rfl rfl rfl (congrArg Value.bool hg117) (x_move (v := Value.int .i64 e76) (ev_tmp rfl rfl)) ?_
                    refine gt rfl rfl rfl (congrArg Value.bool hg117) (x_move (v := Value.int .i64 e96) (ev_tmp rfl rfl)) ?_
                    refine gt rfl rfl rfl (congrArg Value.bool hg117) (x_neq (p := e76) (q := e96) (ev_tmp rfl rfl) (ev_tmp rfl rfl)) ?_
                    refine st rfl (x_pick_f (v := Value.bool (!(decide (e76 = e96)))) (ev_tmp rfl (congrArg Value.bool hg117)) (ev_tmp rfl rfl)) ?_
                    refine s_nil ?_
                    refine hK106 _ _ ?_
                    have h118 : (!(decide (e76 = e96))) = false := (by rw [(decide_eq_true (run_same hab he74 he94).2.2)]; rfl)
                    refine c_cond_f (ev_tmp rfl (congrArg Value.bool h118)) ?_
                    refine c_skip ?_
                    refine hK104 _ _ ?_
                    refine c_seq fun K119 hK120 => ?_
                    refine c_reg ?_
                    refine st rfl (x_move (v := Value.int .i64 e76) (ev_tmp rfl rfl)) ?_
                    refine st rfl (x_eql (p := e76) (q := 0) (ev_tmp rfl rfl) rfl) ?_
                    refine s_nil ?_
                    refine hK120 _ _ ?_
                    refine c_cond (b := decide (e76 = 0)) (ev_tmp rfl rfl) (fun h121 => ?_) (fun h121 => ?_)
                    · have h122 : e76 = 0 := of_decide_eq_true h121
                      have M123 := M108.perm (L' := [Own.cells b35 24 #[Value.slice A1_ lb_.length c1_], Own.cells b32 24 #[Value.slice A0_ la_.length c0_], Own.cells b98 24 #[Value.slice A87 l93.length c88], Own.cells b78 24 #[Value.slice A67 l73.length c68]]) (List.Perm.trans (List.Perm.cons _ (List.Perm.swap _ _ _)) (List.Perm.trans (List.Perm.swap _ _ _) (List.Perm.cons _ (List.Perm.trans (List.Perm.cons _ (List.Perm.swap _ _ _)) (List.Perm.trans (List.Perm.swap _ _ _) (List.Perm.refl _))))))
                      have M124 := M123.drew
                      refine c_drawn (fun w1 => Mem w [] w1 [Own.cells b98 24 #[Value.slice A87 l93.length c88], Own.cells b78 24 #[Value.slice A67 l73.length c68]] [Ro.sl w86.heap.size w89.heap.size A87 c88 8 Trade.cells l93, Ro.sl w61.heap.size w69.heap.size A67 c68 8 Trade.cells l73, Ro.sl lo0_ hi0_ A0_ c0_ 8 Trade.cells la_, Ro.sl lo1_ hi1_ A1_ c1_ 8 Trade.cells lb_, Ro.sl 0 w.heap.size A c 8 Step.cells os]) mixed ?_
                      generalize w107.drew = w125 at M124 ⊢
                      refine dT (i := 0) (v := Value.agg #[Value.slice A67 l73.length c68]) rfl (by kernel_rfl) (by kernel_rfl) rfl (M124.dropL 2) (fun _ hS => x_loadw (cs := [Value.slice A67 l73.length c68]) Try.underlying24 rfl sz_24 (ev_tmp rfl rfl) (hS.range (i := 1) rfl ⟨rfl, trivial⟩)) ?_
                      refine dT (i := 1) (v := Value.agg #[Value.slice A87 l93.length c88]) rfl (by kernel_rfl) (by kernel_rfl) rfl (M124.dropL 2) (fun _ hS => x_loadw (cs := [Value.slice A87 l93.length c88]) Try.underlying24 rfl sz_24 (ev_tmp rfl rfl) (hS.range (i := 0) rfl ⟨rfl, trivial⟩)) ?_
                      refine dA (rs := [2]) (by kernel_rfl) rfl ?_
                      refine dC ?_ ?_
                      · refine dset (i := 2) (k := 1) (L' := [Own.cells b35 24 #[Value.slice A1_ lb_.length c1_], Own.cells b32 24 #[Value.slice A67 l73.length c68], Own.cells b98 24 #[Value.slice A87 l93.length c88], Own.cells b78 24 #[Value.slice A67 l73.length c68]]) M124 rfl rfl rfl (x_storew (cs := [Value.slice A67 l73.length c68]) sz_24 (ev_tmp rfl rfl) (ev_tmp rfl rfl) (M124.cells_at (i := 1) rfl) rfl ⟨rfl, trivial⟩) fun w126 M127 => ?_
                        refine ⟨(M127.dropL 2), ?_⟩
                        refine dA (rs := [3]) (by kernel_rfl) rfl ?_
                        refine dC ?_ ?_
                        · refine dset (i := 3) (k := 0) (L' := [Own.cells b35 24 #[Value.slice A87 l93.length c88], Own.cells b32 24 #[Value.slice A67 l73.length c68], Own.cells b98 24 #[Value.slice A87 l93.length c88], Own.cells b78 24 #[Value.slice A67 l73.length c68]]) M127 rfl rfl rfl (x_storew (cs := [Value.slice A87 l93.length c88]) sz_24 (ev_tmp rfl rfl) (ev_tmp rfl rfl) (M127.cells_at (i := 0) rfl) rfl ⟨rfl, trivial⟩) fun w128 M129 => ?_
                          refine ⟨(M129.dropL 2), ?_⟩
                          refine dE (by kernel_rfl) ?_
                          refine hK57 _ _ ?_
                          refine c_reg ?_
                          refine st rfl (x_move (v := Value.int .i64 (k : Int)) (ev_tmp rfl rfl)) ?_
                          have hw130 : IntKind.i64.wrap ((k : Int) + 1) = (k : Int) + 1 := w64 (by rfl) (by omega) (by omega)
                          refine st rfl (x_add_eq (p := (k : Int)) (q := 1) (ev_tmp rfl rfl) rfl hw130) ?_
                          refine st rfl (x_assign (v := Value.int .i64 ((k : Int) + 1)) (ev_tmp rfl rfl)) ?_
                          refine s_nil ?_
                          have M131 := M129.perm (L' := [Own.cells b98 24 #[Value.slice A87 l93.length c88], Own.cells b78 24 #[Value.slice A67 l73.length c68], Own.cells b35 24 #[Value.slice A87 l93.length c88], Own.cells b32 24 #[Value.slice A67 l73.length c68]]) (List.Perm.trans (List.Perm.cons _ (List.Perm.swap _ _ _)) (List.Perm.trans (List.Perm.swap _ _ _) (List.Perm.cons _ (List.Perm.trans (List.Perm.cons _ (List.Perm.swap _ _ _)) (List.Perm.trans (List.Perm.swap _ _ _) (List.Perm.refl _))))))
                          exact ⟨_, _, (by omega : os.length - (k + 1) < os.length - k), fr_held (live := [(0, Value.slice A os.length c), (3, Value.bool true), (4, Value.pointer (some ⟨b32, 0, none⟩)), (5, Value.pointer (some ⟨b35, 0, none⟩)), (6, Value.int .i64 (((k + 1) : Nat) : Int))]) ⟨rfl, rfl, rfl, rfl, (congrArg (Value.int .i64) (by omega)), trivial⟩, (k + 1), A67, c68, l73, w61.heap.size, w69.heap.size, A87, c88, l93, w86.heap.size, w89.heap.size, _, rfl, rfl, ((M131.dropL 2).roSub (R' := [Ro.sl w61.heap.size w69.heap.size A67 c68 8 Trade.cells l73, Ro.sl w86.heap.size w89.heap.size A87 c88 8 Trade.cells l93, Ro.sl 0 w.heap.size A c 8 Step.cells os]) (List.forall_mem_cons.2 ⟨List.mem_of_getElem? (i := 1) rfl, (List.forall_mem_cons.2 ⟨List.mem_of_getElem? (i := 0) rfl, (List.forall_mem_cons.2 ⟨List.mem_of_getElem? (i := 4) rfl, (List.forall_mem_nil _)⟩)⟩)⟩)), (by omega), (run_same hab he74 he94).1⟩
                        exact dN
                      exact dN
                    · have h132 : ¬ (e76 = 0) := of_decide_eq_false h121
                      refine c_skip ?_
                      refine hK57 _ _ ?_
                      refine c_reg ?_
                      refine st rfl (x_move (v := Value.int .i64 (k : Int)) (ev_tmp rfl rfl)) ?_
                      have hw133 : IntKind.i64.wrap ((k : Int) + 1) = (k : Int) + 1 := w64 (by rfl) (by omega) (by omega)
                      refine st rfl (x_add_eq (p := (k : Int)) (q := 1) (ev_tmp rfl rfl) rfl hw133) ?_
                      refine st rfl (x_assign (v := Value.int .i64 ((k : Int) + 1)) (ev_tmp rfl rfl)) ?_
                      refine s_nil ?_
                      exact ⟨_, _, (by omega : os.length - (k + 1) < os.length - k), fr_held (live := [(0, Value.slice A os.length c), (3, Value.bool true), (4, Value.pointer (some ⟨b32, 0, none⟩)), (5, Value.pointer (some ⟨b35, 0, none⟩)), (6, Value.int .i64 (((k + 1) : Nat) : Int))]) ⟨rfl, rfl, rfl, rfl, (congrArg (Value.int .i64) (by omega)), trivial⟩, (k + 1), A0_, c0_, la_, lo0_, hi0_, A1_, c1_, lb_, lo1_, hi1_, _, rfl, rfl, ((M108.dropL 2).roSub (R' := [Ro.sl lo0_ hi0_ A0_ c0_ 8 Trade.cells la_, Ro.sl lo1_ hi1_ A1_ c1_ 8 Trade.cells lb_, Ro.sl 0 w.heap.size A c 8 Step.cells os]) (List.forall_mem_cons.2 ⟨List.mem_of_getElem? (i := 2) rfl, (List.forall_mem_cons.2 ⟨List.mem_of_getElem? (i := 3) rfl, (List.forall_mem_cons.2 ⟨List.mem_of_getElem? (i := 4) rfl, (List.forall_mem_nil _)⟩)⟩)⟩)), (by omega), hab⟩
                  exact dN
                exact dN
              refine dC ?_ ?_
              · refine dnew (i := 10) (cs := #[Value.slice none 0 0]) M85 rfl rfl (x_allocz z_24) fun b134 w135 M136 => ?_
                refine ⟨(M136.dropL 1), ?_⟩
                refine dA (rs := [5]) (by kernel_rfl) rfl ?_
                refine dC ?_ ?_
                · refine dsC (i := 5) rfl rfl (x_callL (xs := [.tmp 41, .tmp 45]) (vs := [Value.agg #[Value.slice A1_ lb_.length c1_], Value.agg #[Value.int .u8 o.kd, Value.int .i64 o.nb, Value.string o.y, Value.string o.b, Value.string o.s, Value.string o.p, Value.int .i64 o.q, Value.int .i64 o.r]]) (cap := []) ent_21 rfl ⟨(ev_tmp rfl rfl), (ev_tmp rfl rfl), trivial⟩) (asked_law _ _ lb_ o _ (M136.slw (i := 2) rfl)) ?_
                  rintro _ w139 ⟨A137, c138, l143, e145, e146, he144, rfl, hb140, hs141⟩
                  refine ⟨_, rfl, ?_⟩
                  have M142 := M136.gotSl hb140 hs141
                  refine ⟨((M142.dropL 1).dropR 1), ?_⟩
                  refine dT (i := 6) (v := Value.tuple #[Value.agg #[Value.slice A137 l143.length c138], Value.int .i64 e145, Value.int .i64 e146]) rfl (by kernel_rfl) (by kernel_rfl) rfl ((M142.dropL 1).dropR 1) (fun _ hS => x_move (v := Value.tuple #[Value.agg #[Value.slice A137 l143.length c138], Value.int .i64 e145, Value.int .i64 e146]) (ev_tmp rfl rfl)) ?_
                  refine dT (i := 7) (v := Value.agg #[Value.slice A137 l143.length c138]) rfl (by kernel_rfl) (by kernel_rfl) rfl ((M142.dropL 1).dropR 1) (fun _ hS => x_extract (v := Value.agg #[Value.slice A137 l143.length c138]) (ev_tmp rfl rfl) rfl) ?_
                  refine dT (i := 8) (v := Value.int .i64 e145) rfl (by kernel_rfl) (by kernel_rfl) rfl ((M142.dropL 1).dropR 1) (fun _ hS => x_extract (v := Value.int .i64 e145) (ev_tmp rfl rfl) rfl) ?_
                  refine dT (i := 9) (v := Value.int .i64 e146) rfl (by kernel_rfl) (by kernel_rfl) rfl ((M142.dropL 1).dropR 1) (fun _ hS => x_extract (v := Value.int .i64 e146) (ev_tmp rfl rfl) rfl) ?_
                  refine dA (rs := [11]) (by kernel_rfl) rfl ?_
                  refine dC ?_ ?_
                  · refine dset (i := 11) (k := 0) (L' := [Own.cells b134 24 #[Value.slice A137 l143.length c138], Own.cells b78 24 #[Value.slice A67 l73.length c68], Own.cells b35 24 #[Value.slice A1_ lb_.length c1_], Own.cells b32 24 #[Value.slice A0_ la_.length c0_]]) M142 rfl rfl rfl (x_storew (cs := [Value.slice A137 l143.length c138]) sz_24 (ev_tmp rfl rfl) (ev_tmp rfl rfl) (M142.cells_at (i := 0) rfl) rfl ⟨rfl, trivial⟩) fun w148 M149 => ?_
                    refine ⟨((M149.dropL 1).dropR 1), ?_⟩
                    refine dT (i := 12) (v := Value.int .i64 e145) rfl (by kernel_rfl) (by kernel_rfl) rfl ((M149.dropL 1).dropR 1) (fun _ hS => x_assign (v := Value.int .i64 e145) (ev_tmp rfl rfl)) ?_
                    refine dT (i := 13) (v := Value.int .i64 e146) rfl (by kernel_rfl) (by kernel_rfl) rfl ((M149.dropL 1).dropR 1) (fun _ hS => x_assign (v := Value.int .i64 e146) (ev_tmp rfl rfl)) ?_
                    refine dE (by kernel_rfl) ?_
                    refine hK84 _ _ ?_
                    refine c_seq fun K150 hK151 => ?_
                    refine c_seq fun K152 hK153 => ?_
                    refine c_reg ?_
                    refine st rfl (x_loadw (cs := [Value.slice A67 l73.length c68]) Try.underlying24 rfl sz_24 (ev_tmp rfl rfl) (M149.range (i := 1) rfl ⟨rfl, trivial⟩)) ?_
                    refine st rfl (x_loadw (cs := [Value.slice A137 l143.length c138]) Try.underlying24 rfl sz_24 (ev_tmp rfl rfl) (M149.range (i := 0) rfl ⟨rfl, trivial⟩)) ?_
                    refine sC rfl (x_callL (xs := [.tmp 50, .tmp 51]) (vs := [Value.agg #[Value.slice A67 l73.length c68], Value.agg #[Value.slice A137 l143.length c138]]) (cap := []) ent_22 rfl ⟨(ev_tmp rfl rfl), (ev_tmp rfl rfl), trivial⟩) (same_r _ _ l73 _ _ l143 _ (M149.slw (i := 1) rfl) (M149.slw (i := 0) rfl)) ?_
                    rintro _ w154 ⟨rfl, hb156⟩
                    refine ⟨_, rfl, ?_⟩
                    have M155 := M149.call hb156
                    refine st rfl (x_not (b := (sameB tradeEq l73 l143)) (ev_tmp rfl rfl)) ?_
                    refine st rfl (x_move (v := Value.bool (!(sameB tradeEq l73 l143))) (ev_tmp rfl rfl)) ?_
                    have hg160 : (!(sameB tradeEq l73 l143)) = false := (by rw [((sameB_iff fun _ _ => tradeEq_iff).2 (run_same hab he74 he144).1)]; rfl)
                    refine gt rfl rfl rfl (congrArg Value.bool hg160) (x_move (v := Value.int .i64 e75) (ev_tmp rfl rfl)) ?_
                    refine gt rfl rfl rfl (congrArg Value.bool hg160) (x_move (v := Value.int .i64 e145) (ev_tmp rfl rfl)) ?_
                    refine gt rfl rfl rfl (congrArg Value.bool hg160) (x_neq (p := e75) (q := e145) (ev_tmp rfl rfl) (ev_tmp rfl rfl)) ?_
                    refine st rfl (x_pick_f (v := Value.bool (!(decide (e75 = e145)))) (ev_tmp rfl (congrArg Value.bool hg160)) (ev_tmp rfl rfl)) ?_
                    refine st rfl (x_move (v := Value.bool (!(decide (e75 = e145)))) (ev_tmp rfl rfl)) ?_
                    have hg164 : (!(decide (e75 = e145))) = false := (by rw [(decide_eq_true (run_same hab he74 he144).2.1)]; rfl)
                    refine gt rfl rfl rfl (congrArg Value.bool hg164) (x_move (v := Value.int .i64 e76) (ev_tmp rfl rfl)) ?_
                    refine gt rfl rfl rfl (congrArg Value.bool hg164) (x_move (v := Value.int .i64 e146) (ev_tmp rfl rfl)) ?_
                    refine gt rfl rfl rfl (congrArg Value.bool hg164) (x_neq (p := e76) (q := e146) (ev_tmp rfl rfl) (ev_tmp rfl rfl)) ?_
                    refine st rfl (x_pick_f (v := Value.bool (!(decide (e76 = e146)))) (ev_tmp rfl (congrArg Value.bool hg164)) (ev_tmp rfl rfl)) ?_
                    refine s_nil ?_
                    refine hK153 _ _ ?_
                    have h165 : (!(decide (e76 = e146))) = false := (by rw [(decide_eq_true (run_same hab he74 he144).2.2)]; rfl)
                    refine c_cond_f (ev_tmp rfl (congrArg Value.bool h165)) ?_
                    refine c_skip ?_
                    refine hK151 _ _ ?_
                    refine c_seq fun K166 hK167 => ?_
                    refine c_reg ?_
                    refine st rfl (x_move (v := Value.int .i64 e76) (ev_tmp rfl rfl)) ?_
                    refine st rfl (x_eql (p := e76) (q := 0) (ev_tmp rfl rfl) rfl) ?_
                    refine s_nil ?_
                    refine hK167 _ _ ?_
                    refine c_cond (b := decide (e76 = 0)) (ev_tmp rfl rfl) (fun h168 => ?_) (fun h168 => ?_)
                    · have h169 : e76 = 0 := of_decide_eq_true h168
                      have M170 := M155.perm (L' := [Own.cells b35 24 #[Value.slice A1_ lb_.length c1_], Own.cells b32 24 #[Value.slice A0_ la_.length c0_], Own.cells b134 24 #[Value.slice A137 l143.length c138], Own.cells b78 24 #[Value.slice A67 l73.length c68]]) (List.Perm.trans (List.Perm.cons _ (List.Perm.swap _ _ _)) (List.Perm.trans (List.Perm.swap _ _ _) (List.Perm.cons _ (List.Perm.trans (List.Perm.cons _ (List.Perm.swap _ _ _)) (List.Perm.trans (List.Perm.swap _ _ _) (List.Perm.refl _))))))
                      have M171 := M170.drew
                      refine c_drawn (fun w1 => Mem w [] w1 [Own.cells b134 24 #[Value.slice A137 l143.length c138], Own.cells b78 24 #[Value.slice A67 l73.length c68]] [Ro.sl w135.heap.size w139.heap.size A137 c138 8 Trade.cells l143, Ro.sl w61.heap.size w69.heap.size A67 c68 8 Trade.cells l73, Ro.sl lo0_ hi0_ A0_ c0_ 8 Trade.cells la_, Ro.sl lo1_ hi1_ A1_ c1_ 8 Trade.cells lb_, Ro.sl 0 w.heap.size A c 8 Step.cells os]) mixed ?_
                      generalize w154.drew = w172 at M171 ⊢
                      refine dT (i := 0) (v := Value.agg #[Value.slice A67 l73.length c68]) rfl (by kernel_rfl) (by kernel_rfl) rfl (M171.dropL 2) (fun _ hS => x_loadw (cs := [Value.slice A67 l73.length c68]) Try.underlying24 rfl sz_24 (ev_tmp rfl rfl) (hS.range (i := 1) rfl ⟨rfl, trivial⟩)) ?_
                      refine dT (i := 1) (v := Value.agg #[Value.slice A137 l143.length c138]) rfl (by kernel_rfl) (by kernel_rfl) rfl (M171.dropL 2) (fun _ hS => x_loadw (cs := [Value.slice A137 l143.length c138]) Try.underlying24 rfl sz_24 (ev_tmp rfl rfl) (hS.range (i := 0) rfl ⟨rfl, trivial⟩)) ?_
                      refine dA (rs := [2]) (by kernel_rfl) rfl ?_
                      refine dC ?_ ?_
                      · refine dset (i := 2) (k := 1) (L' := [Own.cells b35 24 #[Value.slice A1_ lb_.length c1_], Own.cells b32 24 #[Value.slice A67 l73.length c68], Own.cells b134 24 #[Value.slice A137 l143.length c138], Own.cells b78 24 #[Value.slice A67 l73.length c68]]) M171 rfl rfl rfl (x_storew (cs := [Value.slice A67 l73.length c68]) sz_24 (ev_tmp rfl rfl) (ev_tmp rfl rfl) (M171.cells_at (i := 1) rfl) rfl ⟨rfl, trivial⟩) fun w173 M174 => ?_
                        refine ⟨(M174.dropL 2), ?_⟩
                        refine dA (rs := [3]) (by kernel_rfl) rfl ?_
                        refine dC ?_ ?_
                        · refine dset (i := 3) (k := 0) (L' := [Own.cells b35 24 #[Value.slice A137 l143.length c138], Own.cells b32 24 #[Value.slice A67 l73.length c68], Own.cells b134 24 #[Value.slice A137 l143.length c138], Own.cells b78 24 #[Value.slice A67 l73.length c68]]) M174 rfl rfl rfl (x_storew (cs := [Value.slice A137 l143.length c138]) sz_24 (ev_tmp rfl rfl) (ev_tmp rfl rfl) (M174.cells_at (i := 0) rfl) rfl ⟨rfl, trivial⟩) fun w175 M176 => ?_
                          refine ⟨(M176.dropL 2), ?_⟩
                          refine dE (by kernel_rfl) ?_
                          refine hK57 _ _ ?_
                          refine c_reg ?_
                          refine st rfl (x_move (v := Value.int .i64 (k : Int)) (ev_tmp rfl rfl)) ?_
                          have hw177 : IntKind.i64.wrap ((k : Int) + 1) = (k : Int) + 1 := w64 (by rfl) (by omega) (by omega)
                          refine st rfl (x_add_eq (p := (k : Int)) (q := 1) (ev_tmp rfl rfl) rfl hw177) ?_
                          refine st rfl (x_assign (v := Value.int .i64 ((k : Int) + 1)) (ev_tmp rfl rfl)) ?_
                          refine s_nil ?_
                          have M178 := M176.perm (L' := [Own.cells b134 24 #[Value.slice A137 l143.length c138], Own.cells b78 24 #[Value.slice A67 l73.length c68], Own.cells b35 24 #[Value.slice A137 l143.length c138], Own.cells b32 24 #[Value.slice A67 l73.length c68]]) (List.Perm.trans (List.Perm.cons _ (List.Perm.swap _ _ _)) (List.Perm.trans (List.Perm.swap _ _ _) (List.Perm.cons _ (List.Perm.trans (List.Perm.cons _ (List.Perm.swap _ _ _)) (List.Perm.trans (List.Perm.swap _ _ _) (List.Perm.refl _))))))
                          exact ⟨_, _, (by omega : os.length - (k + 1) < os.length - k), fr_held (live := [(0, Value.slice A os.length c), (3, Value.bool true), (4, Value.pointer (some ⟨b32, 0, none⟩)), (5, Value.pointer (some ⟨b35, 0, none⟩)), (6, Value.int .i64 (((k + 1) : Nat) : Int))]) ⟨rfl, rfl, rfl, rfl, (congrArg (Value.int .i64) (by omega)), trivial⟩, (k + 1), A67, c68, l73, w61.heap.size, w69.heap.size, A137, c138, l143, w135.heap.size, w139.heap.size, _, rfl, rfl, ((M178.dropL 2).roSub (R' := [Ro.sl w61.heap.size w69.heap.size A67 c68 8 Trade.cells l73, Ro.sl w135.heap.size w139.heap.size A137 c138 8 Trade.cells l143, Ro.sl 0 w.heap.size A c 8 Step.cells os]) (List.forall_mem_cons.2 ⟨List.mem_of_getElem? (i := 1) rfl, (List.forall_mem_cons.2 ⟨List.mem_of_getElem? (i := 0) rfl, (List.forall_mem_cons.2 ⟨List.mem_of_getElem? (i := 4) rfl, (List.forall_mem_nil _)⟩)⟩)⟩)), (by omega), (run_same hab he74 he144).1⟩
                        exact dN
                      exact dN
                    · have h179 : ¬ (e76 = 0) := of_decide_eq_false h168
                      refine c_skip ?_
                      refine hK57 _ _ ?_
                      refine c_reg ?_
                      refine st rfl (x_move (v := Value.int .i64 (k : Int)) (ev_tmp rfl rfl)) ?_
                      have hw180 : IntKind.i64.wrap ((k : Int) + 1) = (k : Int) + 1 := w64 (by rfl) (by omega) (by omega)
                      refine st rfl (x_add_eq (p := (k : Int)) (q := 1) (ev_tmp rfl rfl) rfl hw180) ?_
                      refine st rfl (x_assign (v := Value.int .i64 ((k : Int) + 1)) (ev_tmp rfl rfl)) ?_
                      refine s_nil ?_
                      exact ⟨_, _, (by omega : os.length - (k + 1) < os.length - k), fr_held (live := [(0, Value.slice A os.length c), (3, Value.bool true), (4, Value.pointer (some ⟨b32, 0, none⟩)), (5, Value.pointer (some ⟨b35, 0, none⟩)), (6, Value.int .i64 (((k + 1) : Nat) : Int))]) ⟨rfl, rfl, rfl, rfl, (congrArg (Value.int .i64) (by omega)), trivial⟩, (k + 1), A0_, c0_, la_, lo0_, hi0_, A1_, c1_, lb_, lo1_, hi1_, _, rfl, rfl, ((M155.dropL 2).roSub (R' := [Ro.sl lo0_ hi0_ A0_ c0_ 8 Trade.cells la_, Ro.sl lo1_ hi1_ A1_ c1_ 8 Trade.cells lb_, Ro.sl 0 w.heap.size A c 8 Step.cells os]) (List.forall_mem_cons.2 ⟨List.mem_of_getElem? (i := 2) rfl, (List.forall_mem_cons.2 ⟨List.mem_of_getElem? (i := 3) rfl, (List.forall_mem_cons.2 ⟨List.mem_of_getElem? (i := 4) rfl, (List.forall_mem_nil _)⟩)⟩)⟩)), (by omega), hab⟩
                  exact dN
                exact dN
              exact dN
            exact dN
          exact dN
        refine dC ?_ ?_
        · refine dnew (i := 10) (cs := #[Value.slice none 0 0]) M60 rfl rfl (x_allocz z_24) fun b181 w182 M183 => ?_
          refine ⟨(M183.dropL 1), ?_⟩
          refine dA (rs := [5]) (by kernel_rfl) rfl ?_
          refine dC ?_ ?_
          · refine dsC (i := 5) rfl rfl (x_callL (xs := [.tmp 31, .tmp 35]) (vs := [Value.agg #[Value.slice A0_ la_.length c0_], Value.agg #[Value.int .u8 o.kd, Value.int .i64 o.nb, Value.string o.y, Value.string o.b, Value.string o.s, Value.string o.p, Value.int .i64 o.q, Value.int .i64 o.r]]) (cap := []) ent_20 rfl ⟨(ev_tmp rfl rfl), (ev_tmp rfl rfl), trivial⟩) (call_c _ _ la_ o _ (M183.slw (i := 0) rfl)) ?_
            rintro _ w186 ⟨A184, c185, l190, e192, e193, he191, rfl, hb187, hs188⟩
            refine ⟨_, rfl, ?_⟩
            have M189 := M183.gotSl hb187 hs188
            refine ⟨((M189.dropL 1).dropR 1), ?_⟩
            refine dT (i := 6) (v := Value.tuple #[Value.agg #[Value.slice A184 l190.length c185], Value.int .i64 e192, Value.int .i64 e193]) rfl (by kernel_rfl) (by kernel_rfl) rfl ((M189.dropL 1).dropR 1) (fun _ hS => x_move (v := Value.tuple #[Value.agg #[Value.slice A184 l190.length c185], Value.int .i64 e192, Value.int .i64 e193]) (ev_tmp rfl rfl)) ?_
            refine dT (i := 7) (v := Value.agg #[Value.slice A184 l190.length c185]) rfl (by kernel_rfl) (by kernel_rfl) rfl ((M189.dropL 1).dropR 1) (fun _ hS => x_extract (v := Value.agg #[Value.slice A184 l190.length c185]) (ev_tmp rfl rfl) rfl) ?_
            refine dT (i := 8) (v := Value.int .i64 e192) rfl (by kernel_rfl) (by kernel_rfl) rfl ((M189.dropL 1).dropR 1) (fun _ hS => x_extract (v := Value.int .i64 e192) (ev_tmp rfl rfl) rfl) ?_
            refine dT (i := 9) (v := Value.int .i64 e193) rfl (by kernel_rfl) (by kernel_rfl) rfl ((M189.dropL 1).dropR 1) (fun _ hS => x_extract (v := Value.int .i64 e193) (ev_tmp rfl rfl) rfl) ?_
            refine dA (rs := [11]) (by kernel_rfl) rfl ?_
            refine dC ?_ ?_
            · refine dset (i := 11) (k := 0) (L' := [Own.cells b181 24 #[Value.slice A184 l190.length c185], Own.cells b35 24 #[Value.slice A1_ lb_.length c1_], Own.cells b32 24 #[Value.slice A0_ la_.length c0_]]) M189 rfl rfl rfl (x_storew (cs := [Value.slice A184 l190.length c185]) sz_24 (ev_tmp rfl rfl) (ev_tmp rfl rfl) (M189.cells_at (i := 0) rfl) rfl ⟨rfl, trivial⟩) fun w195 M196 => ?_
              refine ⟨((M196.dropL 1).dropR 1), ?_⟩
              refine dT (i := 12) (v := Value.int .i64 e192) rfl (by kernel_rfl) (by kernel_rfl) rfl ((M196.dropL 1).dropR 1) (fun _ hS => x_assign (v := Value.int .i64 e192) (ev_tmp rfl rfl)) ?_
              refine dT (i := 13) (v := Value.int .i64 e193) rfl (by kernel_rfl) (by kernel_rfl) rfl ((M196.dropL 1).dropR 1) (fun _ hS => x_assign (v := Value.int .i64 e193) (ev_tmp rfl rfl)) ?_
              refine dE (by kernel_rfl) ?_
              refine hK59 _ _ ?_
              refine c_seq fun K197 hK198 => ?_
              have M199 := M196.drew
              refine c_drawn (fun w1 => Mem w [] w1 [Own.cells b181 24 #[Value.slice A184 l190.length c185], Own.cells b35 24 #[Value.slice A1_ lb_.length c1_], Own.cells b32 24 #[Value.slice A0_ la_.length c0_]] [Ro.sl w182.heap.size w186.heap.size A184 c185 8 Trade.cells l190, Ro.sl lo0_ hi0_ A0_ c0_ 8 Trade.cells la_, Ro.sl lo1_ hi1_ A1_ c1_ 8 Trade.cells lb_, Ro.sl 0 w.heap.size A c 8 Step.cells os]) mixed ?_
              generalize w195.drew = w200 at M199 ⊢
              refine dT (i := 0) (v := Value.agg #[Value.slice A1_ lb_.length c1_]) rfl (by kernel_rfl) (by kernel_rfl) rfl M199 (fun _ hS => x_loadw (cs := [Value.slice A1_ lb_.length c1_]) Try.underlying24 rfl sz_24 (ev_tmp rfl rfl) (hS.range (i := 1) rfl ⟨rfl, trivial⟩)) ?_
              refine dT (i := 1) (v := Value.slice A os.length c) rfl (by kernel_rfl) (by kernel_rfl) rfl M199 (fun _ hS => x_move (v := Value.slice A os.length c) (ev_tmp rfl rfl)) ?_
              refine dT (i := 2) (v := Value.int .i64 (k : Int)) rfl (by kernel_rfl) (by kernel_rfl) rfl M199 (fun _ hS => x_move (v := Value.int .i64 (k : Int)) (ev_tmp rfl rfl)) ?_
              refine dT (i := 3) (v := Value.pointer (some ⟨g62, o63 + k * 8, none⟩)) rfl (by kernel_rfl) (by kernel_rfl) rfl M199 (fun _ hS => x_elemA (b := g62) (o := o63) (k := k) ea_48 (ev_tmp rfl rfl) hA64 (ev_tmp rfl rfl) rfl (by omega)) ?_
              refine dT (i := 4) (v := Value.agg #[Value.int .u8 o.kd, Value.int .i64 o.nb, Value.string o.y, Value.string o.b, Value.string o.s, Value.string o.p, Value.int .i64 o.q, Value.int .i64 o.r]) rfl (by kernel_rfl) (by kernel_rfl) rfl M199 (fun _ hS => x_loadw (cs := [Value.int .u8 o.kd, Value.int .i64 o.nb, Value.string o.y, Value.string o.b, Value.string o.s, Value.string o.p, Value.int .i64 o.q, Value.int .i64 o.r]) Try.underlying40 rfl sz_40 (ev_tmp rfl rfl) (hS.rorange (i := 3) rfl hA64 ho (f := 0) ⟨rfl, rfl, rfl, rfl, rfl, rfl, rfl, rfl, trivial⟩)) ?_
              refine dA (rs := [5, 10]) (by kernel_rfl) rfl ?_
              refine dC ?_ ?_
              · refine dsC (i := 5) rfl rfl (x_callL (xs := [.tmp 41, .tmp 45]) (vs := [Value.agg #[Value.slice A1_ lb_.length c1_], Value.agg #[Value.int .u8 o.kd, Value.int .i64 o.nb, Value.string o.y, Value.string o.b, Value.string o.s, Value.string o.p, Value.int .i64 o.q, Value.int .i64 o.r]]) (cap := []) ent_21 rfl ⟨(ev_tmp rfl rfl), (ev_tmp rfl rfl), trivial⟩) (asked_law _ _ lb_ o _ (M199.slw (i := 2) rfl)) ?_
                rintro _ w203 ⟨A201, c202, l207, e209, e210, he208, rfl, hb204, hs205⟩
                refine ⟨_, rfl, ?_⟩
                have M206 := M199.gotSl hb204 hs205
                refine ⟨(M206.dropR 1), ?_⟩
                refine dT (i := 6) (v := Value.tuple #[Value.agg #[Value.slice A201 l207.length c202], Value.int .i64 e209, Value.int .i64 e210]) rfl (by kernel_rfl) (by kernel_rfl) rfl (M206.dropR 1) (fun _ hS => x_move (v := Value.tuple #[Value.agg #[Value.slice A201 l207.length c202], Value.int .i64 e209, Value.int .i64 e210]) (ev_tmp rfl rfl)) ?_
                refine dT (i := 7) (v := Value.agg #[Value.slice A201 l207.length c202]) rfl (by kernel_rfl) (by kernel_rfl) rfl (M206.dropR 1) (fun _ hS => x_extract (v := Value.agg #[Value.slice A201 l207.length c202]) (ev_tmp rfl rfl) rfl) ?_
                refine dT (i := 8) (v := Value.int .i64 e209) rfl (by kernel_rfl) (by kernel_rfl) rfl (M206.dropR 1) (fun _ hS => x_extract (v := Value.int .i64 e209) (ev_tmp rfl rfl) rfl) ?_
                refine dT (i := 9) (v := Value.int .i64 e210) rfl (by kernel_rfl) (by kernel_rfl) rfl (M206.dropR 1) (fun _ hS => x_extract (v := Value.int .i64 e210) (ev_tmp rfl rfl) rfl) ?_
                refine dA (rs := [10]) (by kernel_rfl) rfl ?_
                refine dC ?_ ?_
                · refine dnew (i := 10) (cs := #[Value.slice none 0 0]) M206 rfl rfl (x_allocz z_24) fun b212 w213 M214 => ?_
                  refine ⟨((M214.dropL 1).dropR 1), ?_⟩
                  refine dA (rs := [11]) (by kernel_rfl) rfl ?_
                  refine dC ?_ ?_
                  · refine dset (i := 11) (k := 0) (L' := [Own.cells b212 24 #[Value.slice A201 l207.length c202], Own.cells b181 24 #[Value.slice A184 l190.length c185], Own.cells b35 24 #[Value.slice A1_ lb_.length c1_], Own.cells b32 24 #[Value.slice A0_ la_.length c0_]]) M214 rfl rfl rfl (x_storew (cs := [Value.slice A201 l207.length c202]) sz_24 (ev_tmp rfl rfl) (ev_tmp rfl rfl) (M214.cells_at (i := 0) rfl) rfl ⟨rfl, trivial⟩) fun w215 M216 => ?_
                    refine ⟨((M216.dropL 1).dropR 1), ?_⟩
                    refine dT (i := 12) (v := Value.int .i64 e209) rfl (by kernel_rfl) (by kernel_rfl) rfl ((M216.dropL 1).dropR 1) (fun _ hS => x_assign (v := Value.int .i64 e209) (ev_tmp rfl rfl)) ?_
                    refine dT (i := 13) (v := Value.int .i64 e210) rfl (by kernel_rfl) (by kernel_rfl) rfl ((M216.dropL 1).dropR 1) (fun _ hS => x_assign (v := Value.int .i64 e210) (ev_tmp rfl rfl)) ?_
                    refine dE (by kernel_rfl) ?_
                    refine hK198 _ _ ?_
                    refine c_seq fun K217 hK218 => ?_
                    refine c_seq fun K219 hK220 => ?_
                    refine c_reg ?_
                    refine st rfl (x_loadw (cs := [Value.slice A184 l190.length c185]) Try.underlying24 rfl sz_24 (ev_tmp rfl rfl) (M216.range (i := 1) rfl ⟨rfl, trivial⟩)) ?_
                    refine st rfl (x_loadw (cs := [Value.slice A201 l207.length c202]) Try.underlying24 rfl sz_24 (ev_tmp rfl rfl) (M216.range (i := 0) rfl ⟨rfl, trivial⟩)) ?_
                    refine sC rfl (x_callL (xs := [.tmp 50, .tmp 51]) (vs := [Value.agg #[Value.slice A184 l190.length c185], Value.agg #[Value.slice A201 l207.length c202]]) (cap := []) ent_22 rfl ⟨(ev_tmp rfl rfl), (ev_tmp rfl rfl), trivial⟩) (same_r _ _ l190 _ _ l207 _ (M216.slw (i := 1) rfl) (M216.slw (i := 0) rfl)) ?_
                    rintro _ w221 ⟨rfl, hb223⟩
                    refine ⟨_, rfl, ?_⟩
                    have M222 := M216.call hb223
                    refine st rfl (x_not (b := (sameB tradeEq l190 l207)) (ev_tmp rfl rfl)) ?_
                    refine st rfl (x_move (v := Value.bool (!(sameB tradeEq l190 l207))) (ev_tmp rfl rfl)) ?_
                    have hg227 : (!(sameB tradeEq l190 l207)) = false := (by rw [((sameB_iff fun _ _ => tradeEq_iff).2 (run_same hab he191 he208).1)]; rfl)
                    refine gt rfl rfl rfl (congrArg Value.bool hg227) (x_move (v := Value.int .i64 e192) (ev_tmp rfl rfl)) ?_
                    refine gt rfl rfl rfl (congrArg Value.bool hg227) (x_move (v := Value.int .i64 e209) (ev_tmp rfl rfl)) ?_
                    refine gt rfl rfl rfl (congrArg Value.bool hg227) (x_neq (p := e192) (q := e209) (ev_tmp rfl rfl) (ev_tmp rfl rfl)) ?_
                    refine st rfl (x_pick_f (v := Value.bool (!(decide (e192 = e209)))) (ev_tmp rfl (congrArg Value.bool hg227)) (ev_tmp rfl rfl)) ?_
                    refine st rfl (x_move (v := Value.bool (!(decide (e192 = e209)))) (ev_tmp rfl rfl)) ?_
                    have hg231 : (!(decide (e192 = e209))) = false := (by rw [(decide_eq_true (run_same hab he191 he208).2.1)]; rfl)
                    refine gt rfl rfl rfl (congrArg Value.bool hg231) (x_move (v := Value.int .i64 e193) (ev_tmp rfl rfl)) ?_
                    refine gt rfl rfl rfl (congrArg Value.bool hg231) (x_move (v := Value.int .i64 e210) (ev_tmp rfl rfl)) ?_
                    refine gt rfl rfl rfl (congrArg Value.bool hg231) (x_neq (p := e193) (q := e210) (ev_tmp rfl rfl) (ev_tmp rfl rfl)) ?_
                    refine st rfl (x_pick_f (v := Value.bool (!(decide (e193 = e210)))) (ev_tmp rfl (congrArg Value.bool hg231)) (ev_tmp rfl rfl)) ?_
                    refine s_nil ?_
                    refine hK220 _ _ ?_
                    have h232 : (!(decide (e193 = e210))) = false := (by rw [(decide_eq_true (run_same hab he191 he208).2.2)]; rfl)
                    refine c_cond_f (ev_tmp rfl (congrArg Value.bool h232)) ?_
                    refine c_skip ?_
                    refine hK218 _ _ ?_
                    refine c_seq fun K233 hK234 => ?_
                    refine c_reg ?_
                    refine st rfl (x_move (v := Value.int .i64 e193) (ev_tmp rfl rfl)) ?_
                    refine st rfl (x_eql (p := e193) (q := 0) (ev_tmp rfl rfl) rfl) ?_
                    refine s_nil ?_
                    refine hK234 _ _ ?_
                    refine c_cond (b := decide (e193 = 0)) (ev_tmp rfl rfl) (fun h235 => ?_) (fun h235 => ?_)
                    · have h236 : e193 = 0 := of_decide_eq_true h235
                      have M237 := M222.perm (L' := [Own.cells b35 24 #[Value.slice A1_ lb_.length c1_], Own.cells b32 24 #[Value.slice A0_ la_.length c0_], Own.cells b212 24 #[Value.slice A201 l207.length c202], Own.cells b181 24 #[Value.slice A184 l190.length c185]]) (List.Perm.trans (List.Perm.cons _ (List.Perm.swap _ _ _)) (List.Perm.trans (List.Perm.swap _ _ _) (List.Perm.cons _ (List.Perm.trans (List.Perm.cons _ (List.Perm.swap _ _ _)) (List.Perm.trans (List.Perm.swap _ _ _) (List.Perm.refl _))))))
                      have M238 := M237.drew
                      refine c_drawn (fun w1 => Mem w [] w1 [Own.cells b212 24 #[Value.slice A201 l207.length c202], Own.cells b181 24 #[Value.slice A184 l190.length c185]] [Ro.sl w200.heap.size w203.heap.size A201 c202 8 Trade.cells l207, Ro.sl w182.heap.size w186.heap.size A184 c185 8 Trade.cells l190, Ro.sl lo0_ hi0_ A0_ c0_ 8 Trade.cells la_, Ro.sl lo1_ hi1_ A1_ c1_ 8 Trade.cells lb_, Ro.sl 0 w.heap.size A c 8 Step.cells os]) mixed ?_
                      generalize w221.drew = w239 at M238 ⊢
                      refine dT (i := 0) (v := Value.agg #[Value.slice A184 l190.length c185]) rfl (by kernel_rfl) (by kernel_rfl) rfl (M238.dropL 2) (fun _ hS => x_loadw (cs := [Value.slice A184 l190.length c185]) Try.underlying24 rfl sz_24 (ev_tmp rfl rfl) (hS.range (i := 1) rfl ⟨rfl, trivial⟩)) ?_
                      refine dT (i := 1) (v := Value.agg #[Value.slice A201 l207.length c202]) rfl (by kernel_rfl) (by kernel_rfl) rfl (M238.dropL 2) (fun _ hS => x_loadw (cs := [Value.slice A201 l207.length c202]) Try.underlying24 rfl sz_24 (ev_tmp rfl rfl) (hS.range (i := 0) rfl ⟨rfl, trivial⟩)) ?_
                      refine dA (rs := [2]) (by kernel_rfl) rfl ?_
                      refine dC ?_ ?_
                      · refine dset (i := 2) (k := 1) (L' := [Own.cells b35 24 #[Value.slice A1_ lb_.length c1_], Own.cells b32 24 #[Value.slice A184 l190.length c185], Own.cells b212 24 #[Value.slice A201 l207.length c202], Own.cells b181 24 #[Value.slice A184 l190.length c185]]) M238 rfl rfl rfl (x_storew (cs := [Value.slice A184 l190.length c185]) sz_24 (ev_tmp rfl rfl) (ev_tmp rfl rfl) (M238.cells_at (i := 1) rfl) rfl ⟨rfl, trivial⟩) fun w240 M241 => ?_
                        refine ⟨(M241.dropL 2), ?_⟩
                        refine dA (rs := [3]) (by kernel_rfl) rfl ?_
                        refine dC ?_ ?_
                        · refine dset (i := 3) (k := 0) (L' := [Own.cells b35 24 #[Value.slice A201 l207.length c202], Own.cells b32 24 #[Value.slice A184 l190.length c185], Own.cells b212 24 #[Value.slice A201 l207.length c202], Own.cells b181 24 #[Value.slice A184 l190.length c185]]) M241 rfl rfl rfl (x_storew (cs := [Value.slice A201 l207.length c202]) sz_24 (ev_tmp rfl rfl) (ev_tmp rfl rfl) (M241.cells_at (i := 0) rfl) rfl ⟨rfl, trivial⟩) fun w242 M243 => ?_
                          refine ⟨(M243.dropL 2), ?_⟩
                          refine dE (by kernel_rfl) ?_
                          refine hK57 _ _ ?_
                          refine c_reg ?_
                          refine st rfl (x_move (v := Value.int .i64 (k : Int)) (ev_tmp rfl rfl)) ?_
                          have hw244 : IntKind.i64.wrap ((k : Int) + 1) = (k : Int) + 1 := w64 (by rfl) (by omega) (by omega)
                          refine st rfl (x_add_eq (p := (k : Int)) (q := 1) (ev_tmp rfl rfl) rfl hw244) ?_
                          refine st rfl (x_assign (v := Value.int .i64 ((k : Int) + 1)) (ev_tmp rfl rfl)) ?_
                          refine s_nil ?_
                          have M245 := M243.perm (L' := [Own.cells b212 24 #[Value.slice A201 l207.length c202], Own.cells b181 24 #[Value.slice A184 l190.length c185], Own.cells b35 24 #[Value.slice A201 l207.length c202], Own.cells b32 24 #[Value.slice A184 l190.length c185]]) (List.Perm.trans (List.Perm.cons _ (List.Perm.swap _ _ _)) (List.Perm.trans (List.Perm.swap _ _ _) (List.Perm.cons _ (List.Perm.trans (List.Perm.cons _ (List.Perm.swap _ _ _)) (List.Perm.trans (List.Perm.swap _ _ _) (List.Perm.refl _))))))
                          exact ⟨_, _, (by omega : os.length - (k + 1) < os.length - k), fr_held (live := [(0, Value.slice A os.length c), (3, Value.bool true), (4, Value.pointer (some ⟨b32, 0, none⟩)), (5, Value.pointer (some ⟨b35, 0, none⟩)), (6, Value.int .i64 (((k + 1) : Nat) : Int))]) ⟨rfl, rfl, rfl, rfl, (congrArg (Value.int .i64) (by omega)), trivial⟩, (k + 1), A184, c185, l190, w182.heap.size, w186.heap.size, A201, c202, l207, w200.heap.size, w203.heap.size, _, rfl, rfl, ((M245.dropL 2).roSub (R' := [Ro.sl w182.heap.size w186.heap.size A184 c185 8 Trade.cells l190, Ro.sl w200.heap.size w203.heap.size A201 c202 8 Trade.cells l207, Ro.sl 0 w.heap.size A c 8 Step.cells os]) (List.forall_mem_cons.2 ⟨List.mem_of_getElem? (i := 1) rfl, (List.forall_mem_cons.2 ⟨List.mem_of_getElem? (i := 0) rfl, (List.forall_mem_cons.2 ⟨List.mem_of_getElem? (i := 4) rfl, (List.forall_mem_nil _)⟩)⟩)⟩)), (by omega), (run_same hab he191 he208).1⟩
                        exact dN
                      exact dN
                    · have h246 : ¬ (e193 = 0) := of_decide_eq_false h235
                      refine c_skip ?_
                      refine hK57 _ _ ?_
                      refine c_reg ?_
                      refine st rfl (x_move (v := Value.int .i64 (k : Int)) (ev_tmp rfl rfl)) ?_
                      have hw247 : IntKind.i64.wrap ((k : Int) + 1) = (k : Int) + 1 := w64 (by rfl) (by omega) (by omega)
                      refine st rfl (x_add_eq (p := (k : Int)) (q := 1) (ev_tmp rfl rfl) rfl hw247) ?_
                      refine st rfl (x_assign (v := Value.int .i64 ((k : Int) + 1)) (ev_tmp rfl rfl)) ?_
                      refine s_nil ?_
                      exact ⟨_, _, (by omega : os.length - (k + 1) < os.length - k), fr_held (live := [(0, Value.slice A os.length c), (3, Value.bool true), (4, Value.pointer (some ⟨b32, 0, none⟩)), (5, Value.pointer (some ⟨b35, 0, none⟩)), (6, Value.int .i64 (((k + 1) : Nat) : Int))]) ⟨rfl, rfl, rfl, rfl, (congrArg (Value.int .i64) (by omega)), trivial⟩, (k + 1), A0_, c0_, la_, lo0_, hi0_, A1_, c1_, lb_, lo1_, hi1_, _, rfl, rfl, ((M222.dropL 2).roSub (R' := [Ro.sl lo0_ hi0_ A0_ c0_ 8 Trade.cells la_, Ro.sl lo1_ hi1_ A1_ c1_ 8 Trade.cells lb_, Ro.sl 0 w.heap.size A c 8 Step.cells os]) (List.forall_mem_cons.2 ⟨List.mem_of_getElem? (i := 2) rfl, (List.forall_mem_cons.2 ⟨List.mem_of_getElem? (i := 3) rfl, (List.forall_mem_cons.2 ⟨List.mem_of_getElem? (i := 4) rfl, (List.forall_mem_nil _)⟩)⟩)⟩)), (by omega), hab⟩
                  exact dN
                exact dN
              refine dC ?_ ?_
              · refine dnew (i := 10) (cs := #[Value.slice none 0 0]) M199 rfl rfl (x_allocz z_24) fun b248 w249 M250 => ?_
                refine ⟨(M250.dropL 1), ?_⟩
                refine dA (rs := [5]) (by kernel_rfl) rfl ?_
                refine dC ?_ ?_
                · refine dsC (i := 5) rfl rfl (x_callL (xs := [.tmp 41, .tmp 45]) (vs := [Value.agg #[Value.slice A1_ lb_.length c1_], Value.agg #[Value.int .u8 o.kd, Value.int .i64 o.nb, Value.string o.y, Value.string o.b, Value.string o.s, Value.string o.p, Value.int .i64 o.q, Value.int .i64 o.r]]) (cap := []) ent_21 rfl ⟨(ev_tmp rfl rfl), (ev_tmp rfl rfl), trivial⟩) (asked_law _ _ lb_ o _ (M250.slw (i := 2) rfl)) ?_
                  rintro _ w253 ⟨A251, c252, l257, e259, e260, he258, rfl, hb254, hs255⟩
                  refine ⟨_, rfl, ?_⟩
                  have M256 := M250.gotSl hb254 hs255
                  refine ⟨((M256.dropL 1).dropR 1), ?_⟩
                  refine dT (i := 6) (v := Value.tuple #[Value.agg #[Value.slice A251 l257.length c252], Value.int .i64 e259, Value.int .i64 e260]) rfl (by kernel_rfl) (by kernel_rfl) rfl ((M256.dropL 1).dropR 1) (fun _ hS => x_move (v := Value.tuple #[Value.agg #[Value.slice A251 l257.length c252], Value.int .i64 e259, Value.int .i64 e260]) (ev_tmp rfl rfl)) ?_
                  refine dT (i := 7) (v := Value.agg #[Value.slice A251 l257.length c252]) rfl (by kernel_rfl) (by kernel_rfl) rfl ((M256.dropL 1).dropR 1) (fun _ hS => x_extract (v := Value.agg #[Value.slice A251 l257.length c252]) (ev_tmp rfl rfl) rfl) ?_
                  refine dT (i := 8) (v := Value.int .i64 e259) rfl (by kernel_rfl) (by kernel_rfl) rfl ((M256.dropL 1).dropR 1) (fun _ hS => x_extract (v := Value.int .i64 e259) (ev_tmp rfl rfl) rfl) ?_
                  refine dT (i := 9) (v := Value.int .i64 e260) rfl (by kernel_rfl) (by kernel_rfl) rfl ((M256.dropL 1).dropR 1) (fun _ hS => x_extract (v := Value.int .i64 e260) (ev_tmp rfl rfl) rfl) ?_
                  refine dA (rs := [11]) (by kernel_rfl) rfl ?_
                  refine dC ?_ ?_
                  · refine dset (i := 11) (k := 0) (L' := [Own.cells b248 24 #[Value.slice A251 l257.length c252], Own.cells b181 24 #[Value.slice A184 l190.length c185], Own.cells b35 24 #[Value.slice A1_ lb_.length c1_], Own.cells b32 24 #[Value.slice A0_ la_.length c0_]]) M256 rfl rfl rfl (x_storew (cs := [Value.slice A251 l257.length c252]) sz_24 (ev_tmp rfl rfl) (ev_tmp rfl rfl) (M256.cells_at (i := 0) rfl) rfl ⟨rfl, trivial⟩) fun w262 M263 => ?_
                    refine ⟨((M263.dropL 1).dropR 1), ?_⟩
                    refine dT (i := 12) (v := Value.int .i64 e259) rfl (by kernel_rfl) (by kernel_rfl) rfl ((M263.dropL 1).dropR 1) (fun _ hS => x_assign (v := Value.int .i64 e259) (ev_tmp rfl rfl)) ?_
                    refine dT (i := 13) (v := Value.int .i64 e260) rfl (by kernel_rfl) (by kernel_rfl) rfl ((M263.dropL 1).dropR 1) (fun _ hS => x_assign (v := Value.int .i64 e260) (ev_tmp rfl rfl)) ?_
                    refine dE (by kernel_rfl) ?_
                    refine hK198 _ _ ?_
                    refine c_seq fun K264 hK265 => ?_
                    refine c_seq fun K266 hK267 => ?_
                    refine c_reg ?_
                    refine st rfl (x_loadw (cs := [Value.slice A184 l190.length c185]) Try.underlying24 rfl sz_24 (ev_tmp rfl rfl) (M263.range (i := 1) rfl ⟨rfl, trivial⟩)) ?_
                    refine st rfl (x_loadw (cs := [Value.slice A251 l257.length c252]) Try.underlying24 rfl sz_24 (ev_tmp rfl rfl) (M263.range (i := 0) rfl ⟨rfl, trivial⟩)) ?_
                    refine sC rfl (x_callL (xs := [.tmp 50, .tmp 51]) (vs := [Value.agg #[Value.slice A184 l190.length c185], Value.agg #[Value.slice A251 l257.length c252]]) (cap := []) ent_22 rfl ⟨(ev_tmp rfl rfl), (ev_tmp rfl rfl), trivial⟩) (same_r _ _ l190 _ _ l257 _ (M263.slw (i := 1) rfl) (M263.slw (i := 0) rfl)) ?_
                    rintro _ w268 ⟨rfl, hb270⟩
                    refine ⟨_, rfl, ?_⟩
                    have M269 := M263.call hb270
                    refine st rfl (x_not (b := (sameB tradeEq l190 l257)) (ev_tmp rfl rfl)) ?_
                    refine st rfl (x_move (v := Value.bool (!(sameB tradeEq l190 l257))) (ev_tmp rfl rfl)) ?_
                    have hg274 : (!(sameB tradeEq l190 l257)) = false := (by rw [((sameB_iff fun _ _ => tradeEq_iff).2 (run_same hab he191 he258).1)]; rfl)
                    refine gt rfl rfl rfl (congrArg Value.bool hg274) (x_move (v := Value.int .i64 e192) (ev_tmp rfl rfl)) ?_
                    refine gt rfl rfl rfl (congrArg Value.bool hg274) (x_move (v := Value.int .i64 e259) (ev_tmp rfl rfl)) ?_
                    refine gt rfl rfl rfl (congrArg Value.bool hg274) (x_neq (p := e192) (q := e259) (ev_tmp rfl rfl) (ev_tmp rfl rfl)) ?_
                    refine st rfl (x_pick_f (v := Value.bool (!(decide (e192 = e259)))) (ev_tmp rfl (congrArg Value.bool hg274)) (ev_tmp rfl rfl)) ?_
                    refine st rfl (x_move (v := Value.bool (!(decide (e192 = e259)))) (ev_tmp rfl rfl)) ?_
                    have hg278 : (!(decide (e192 = e259))) = false := (by rw [(decide_eq_true (run_same hab he191 he258).2.1)]; rfl)
                    refine gt rfl rfl rfl (congrArg Value.bool hg278) (x_move (v := Value.int .i64 e193) (ev_tmp rfl rfl)) ?_
                    refine gt rfl rfl rfl (congrArg Value.bool hg278) (x_move (v := Value.int .i64 e260) (ev_tmp rfl rfl)) ?_
                    refine gt rfl rfl rfl (congrArg Value.bool hg278) (x_neq (p := e193) (q := e260) (ev_tmp rfl rfl) (ev_tmp rfl rfl)) ?_
                    refine st rfl (x_pick_f (v := Value.bool (!(decide (e193 = e260)))) (ev_tmp rfl (congrArg Value.bool hg278)) (ev_tmp rfl rfl)) ?_
                    refine s_nil ?_
                    refine hK267 _ _ ?_
                    have h279 : (!(decide (e193 = e260))) = false := (by rw [(decide_eq_true (run_same hab he191 he258).2.2)]; rfl)
                    refine c_cond_f (ev_tmp rfl (congrArg Value.bool h279)) ?_
                    refine c_skip ?_
                    refine hK265 _ _ ?_
                    refine c_seq fun K280 hK281 => ?_
                    refine c_reg ?_
                    refine st rfl (x_move (v := Value.int .i64 e193) (ev_tmp rfl rfl)) ?_
                    refine st rfl (x_eql (p := e193) (q := 0) (ev_tmp rfl rfl) rfl) ?_
                    refine s_nil ?_
                    refine hK281 _ _ ?_
                    refine c_cond (b := decide (e193 = 0)) (ev_tmp rfl rfl) (fun h282 => ?_) (fun h282 => ?_)
                    · have h283 : e193 = 0 := of_decide_eq_true h282
                      have M284 := M269.perm (L' := [Own.cells b35 24 #[Value.slice A1_ lb_.length c1_], Own.cells b32 24 #[Value.slice A0_ la_.length c0_], Own.cells b248 24 #[Value.slice A251 l257.length c252], Own.cells b181 24 #[Value.slice A184 l190.length c185]]) (List.Perm.trans (List.Perm.cons _ (List.Perm.swap _ _ _)) (List.Perm.trans (List.Perm.swap _ _ _) (List.Perm.cons _ (List.Perm.trans (List.Perm.cons _ (List.Perm.swap _ _ _)) (List.Perm.trans (List.Perm.swap _ _ _) (List.Perm.refl _))))))
                      have M285 := M284.drew
                      refine c_drawn (fun w1 => Mem w [] w1 [Own.cells b248 24 #[Value.slice A251 l257.length c252], Own.cells b181 24 #[Value.slice A184 l190.length c185]] [Ro.sl w249.heap.size w253.heap.size A251 c252 8 Trade.cells l257, Ro.sl w182.heap.size w186.heap.size A184 c185 8 Trade.cells l190, Ro.sl lo0_ hi0_ A0_ c0_ 8 Trade.cells la_, Ro.sl lo1_ hi1_ A1_ c1_ 8 Trade.cells lb_, Ro.sl 0 w.heap.size A c 8 Step.cells os]) mixed ?_
                      generalize w268.drew = w286 at M285 ⊢
                      refine dT (i := 0) (v := Value.agg #[Value.slice A184 l190.length c185]) rfl (by kernel_rfl) (by kernel_rfl) rfl (M285.dropL 2) (fun _ hS => x_loadw (cs := [Value.slice A184 l190.length c185]) Try.underlying24 rfl sz_24 (ev_tmp rfl rfl) (hS.range (i := 1) rfl ⟨rfl, trivial⟩)) ?_
                      refine dT (i := 1) (v := Value.agg #[Value.slice A251 l257.length c252]) rfl (by kernel_rfl) (by kernel_rfl) rfl (M285.dropL 2) (fun _ hS => x_loadw (cs := [Value.slice A251 l257.length c252]) Try.underlying24 rfl sz_24 (ev_tmp rfl rfl) (hS.range (i := 0) rfl ⟨rfl, trivial⟩)) ?_
                      refine dA (rs := [2]) (by kernel_rfl) rfl ?_
                      refine dC ?_ ?_
                      · refine dset (i := 2) (k := 1) (L' := [Own.cells b35 24 #[Value.slice A1_ lb_.length c1_], Own.cells b32 24 #[Value.slice A184 l190.length c185], Own.cells b248 24 #[Value.slice A251 l257.length c252], Own.cells b181 24 #[Value.slice A184 l190.length c185]]) M285 rfl rfl rfl (x_storew (cs := [Value.slice A184 l190.length c185]) sz_24 (ev_tmp rfl rfl) (ev_tmp rfl rfl) (M285.cells_at (i := 1) rfl) rfl ⟨rfl, trivial⟩) fun w287 M288 => ?_
                        refine ⟨(M288.dropL 2), ?_⟩
                        refine dA (rs := [3]) (by kernel_rfl) rfl ?_
                        refine dC ?_ ?_
                        · refine dset (i := 3) (k := 0) (L' := [Own.cells b35 24 #[Value.slice A251 l257.length c252], Own.cells b32 24 #[Value.slice A184 l190.length c185], Own.cells b248 24 #[Value.slice A251 l257.length c252], Own.cells b181 24 #[Value.slice A184 l190.length c185]]) M288 rfl rfl rfl (x_storew (cs := [Value.slice A251 l257.length c252]) sz_24 (ev_tmp rfl rfl) (ev_tmp rfl rfl) (M288.cells_at (i := 0) rfl) rfl ⟨rfl, trivial⟩) fun w289 M290 => ?_
                          refine ⟨(M290.dropL 2), ?_⟩
                          refine dE (by kernel_rfl) ?_
                          refine hK57 _ _ ?_
                          refine c_reg ?_
                          refine st rfl (x_move (v := Value.int .i64 (k : Int)) (ev_tmp rfl rfl)) ?_
                          have hw291 : IntKind.i64.wrap ((k : Int) + 1) = (k : Int) + 1 := w64 (by rfl) (by omega) (by omega)
                          refine st rfl (x_add_eq (p := (k : Int)) (q := 1) (ev_tmp rfl rfl) rfl hw291) ?_
                          refine st rfl (x_assign (v := Value.int .i64 ((k : Int) + 1)) (ev_tmp rfl rfl)) ?_
                          refine s_nil ?_
                          have M292 := M290.perm (L' := [Own.cells b248 24 #[Value.slice A251 l257.length c252], Own.cells b181 24 #[Value.slice A184 l190.length c185], Own.cells b35 24 #[Value.slice A251 l257.length c252], Own.cells b32 24 #[Value.slice A184 l190.length c185]]) (List.Perm.trans (List.Perm.cons _ (List.Perm.swap _ _ _)) (List.Perm.trans (List.Perm.swap _ _ _) (List.Perm.cons _ (List.Perm.trans (List.Perm.cons _ (List.Perm.swap _ _ _)) (List.Perm.trans (List.Perm.swap _ _ _) (List.Perm.refl _))))))
                          exact ⟨_, _, (by omega : os.length - (k + 1) < os.length - k), fr_held (live := [(0, Value.slice A os.length c), (3, Value.bool true), (4, Value.pointer (some ⟨b32, 0, none⟩)), (5, Value.pointer (some ⟨b35, 0, none⟩)), (6, Value.int .i64 (((k + 1) : Nat) : Int))]) ⟨rfl, rfl, rfl, rfl, (congrArg (Value.int .i64) (by omega)), trivial⟩, (k + 1), A184, c185, l190, w182.heap.size, w186.heap.size, A251, c252, l257, w249.heap.size, w253.heap.size, _, rfl, rfl, ((M292.dropL 2).roSub (R' := [Ro.sl w182.heap.size w186.heap.size A184 c185 8 Trade.cells l190, Ro.sl w249.heap.size w253.heap.size A251 c252 8 Trade.cells l257, Ro.sl 0 w.heap.size A c 8 Step.cells os]) (List.forall_mem_cons.2 ⟨List.mem_of_getElem? (i := 1) rfl, (List.forall_mem_cons.2 ⟨List.mem_of_getElem? (i := 0) rfl, (List.forall_mem_cons.2 ⟨List.mem_of_getElem? (i := 4) rfl, (List.forall_mem_nil _)⟩)⟩)⟩)), (by omega), (run_same hab he191 he258).1⟩
                        exact dN
                      exact dN
                    · have h293 : ¬ (e193 = 0) := of_decide_eq_false h282
                      refine c_skip ?_
                      refine hK57 _ _ ?_
                      refine c_reg ?_
                      refine st rfl (x_move (v := Value.int .i64 (k : Int)) (ev_tmp rfl rfl)) ?_
                      have hw294 : IntKind.i64.wrap ((k : Int) + 1) = (k : Int) + 1 := w64 (by rfl) (by omega) (by omega)
                      refine st rfl (x_add_eq (p := (k : Int)) (q := 1) (ev_tmp rfl rfl) rfl hw294) ?_
                      refine st rfl (x_assign (v := Value.int .i64 ((k : Int) + 1)) (ev_tmp rfl rfl)) ?_
                      refine s_nil ?_
                      exact ⟨_, _, (by omega : os.length - (k + 1) < os.length - k), fr_held (live := [(0, Value.slice A os.length c), (3, Value.bool true), (4, Value.pointer (some ⟨b32, 0, none⟩)), (5, Value.pointer (some ⟨b35, 0, none⟩)), (6, Value.int .i64 (((k + 1) : Nat) : Int))]) ⟨rfl, rfl, rfl, rfl, (congrArg (Value.int .i64) (by omega)), trivial⟩, (k + 1), A0_, c0_, la_, lo0_, hi0_, A1_, c1_, lb_, lo1_, hi1_, _, rfl, rfl, ((M269.dropL 2).roSub (R' := [Ro.sl lo0_ hi0_ A0_ c0_ 8 Trade.cells la_, Ro.sl lo1_ hi1_ A1_ c1_ 8 Trade.cells lb_, Ro.sl 0 w.heap.size A c 8 Step.cells os]) (List.forall_mem_cons.2 ⟨List.mem_of_getElem? (i := 2) rfl, (List.forall_mem_cons.2 ⟨List.mem_of_getElem? (i := 3) rfl, (List.forall_mem_cons.2 ⟨List.mem_of_getElem? (i := 4) rfl, (List.forall_mem_nil _)⟩)⟩)⟩)), (by omega), hab⟩
                  exact dN
                exact dN
              exact dN
            exact dN
          exact dN
        exact dN
      · have h295 : ¬ ((k : Int) < (os.length : Int)) := of_decide_eq_false h54
        refine c_exit ?_
        refine xb_here ?_
        refine hK43 _ _ ?_
        refine c_seq fun K296 hK297 => ?_
        refine c_reg ?_
        refine st rfl (x_move (v := Value.bool true) (ev_tmp rfl rfl)) ?_
        refine st rfl (x_assign (v := Value.bool true) (ev_tmp rfl rfl)) ?_
        refine s_nil ?_
        refine hK297 _ _ ?_
        refine c_ret ?_
        refine hT3 _ _ ?_
        refine r1 rfl (ev_tmp (v := Value.bool true) rfl rfl) ?_
        exact ⟨rfl, M49.below⟩
  clear hK17
  rcases bcase (decide ((300 : Int) < (os.length : Int))) with hg19 | hg19
  · have h20 : ¬ ((300 : Int) < (os.length : Int)) := of_decide_eq_false hg19
    refine gt rfl rfl rfl (congrArg Value.bool hg19) (x_move (v := Value.bool true) (ev_tmp rfl rfl)) ?_
    refine gt rfl rfl rfl (congrArg Value.bool hg19) (x_not (b := true) (ev_tmp rfl rfl)) ?_
    refine st rfl (x_pick_f (v := Value.bool false) (ev_tmp rfl (congrArg Value.bool hg19)) (ev_tmp rfl rfl)) ?_
    refine s_nil ?_
    exact j_to J18 ⟨(congrArg Value.bool (or_f hg19)), rfl, rfl, rfl, rfl, trivial⟩
  · refine gf (b' := true) rfl rfl rfl (congrArg Value.bool hg19) rfl ?_
    refine gf (b' := true) rfl rfl rfl (congrArg Value.bool hg19) rfl ?_
    refine st rfl (x_pick_t (v := Value.bool true) (ev_tmp rfl (congrArg Value.bool hg19)) rfl) ?_
    refine s_nil ?_
    exact j_to J18 ⟨(congrArg Value.bool (or_t hg19)), rfl, rfl, rfl, rfl, trivial⟩

end Go.Proofs.Ytkimdlpfbojkgaa
