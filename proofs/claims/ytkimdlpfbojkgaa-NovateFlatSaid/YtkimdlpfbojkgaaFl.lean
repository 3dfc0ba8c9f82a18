/- The law NovateFlat, walked. -/
import Derived.Test.YtkimdlpfbojkgaaPc
namespace Go.Proofs.Ytkimdlpfbojkgaa
open Go.RowKit
theorem call_chk {l l2 : List Trade} {o : Step} {n e : Int} (h : callP l o = (l2, n, e)) (he : e = 0) : chk l2 = 0 := by
  subst he
  exact (once_plain h).2.1
theorem ent_31 : Enters Try.prog 31 := enters_of Try.func31 (by kernel_rfl) rfl
set_option maxHeartbeats 1000000 in
set_option maxRecDepth 20000 in
theorem flat_law (A : Option Addr) (c : Nat) (os : List Step) (w : World) (hs : SlB 0 w.heap.size w A c 8 Step.cells os) :
    Calls Try.prog 10 #[Value.slice A os.length c] w fun e w' => e = .returned (.bool (true)) ∧ Below w.heap.size w w' := by
  have hcm : os.length ≤ 9223372036854775807 := by have := hs.1; have := hs.2.1; simp only [maxLen] at this; omega
  have M0 := Mem.start w []
  have M1 := M0.see (Ro.sl 0 w.heap.size A c 8 Step.cells os) (hs) (Nat.le_refl _)
  refine enter (args := [Value.slice A os.length c]) Try.func10 rfl (n := 100) rfl rfl fun T2 hT3 => ?_
  refine c_seq fun K4 hK5 => ?_
  refine c_reg ?_
  refine st rfl (x_assign (v := Value.bool false) rfl) ?_
  refine s_nil ?_
  refine hK5 _ _ ?_
  refine c_seq fun K6 hK7 => ?_
  refine c_reg ?_
  refine sC rfl (x_callL (xs := []) (vs := []) (cap := []) ent_11 rfl trivial) (alive_c _) ?_
  rintro _ w9 ⟨rfl, hb11⟩
  refine ⟨_, rfl, ?_⟩
  have M10 := M1.call hb11
  refine st rfl (x_assign (v := Value.bool true) (ev_tmp rfl rfl)) ?_
  refine s_nil ?_
  refine hK7 _ _ ?_
  refine c_seq fun K12 hK13 => ?_
  refine c_seq fun K14 hK15 => ?_
  refine c_reg ?_
  refine st rfl (x_move (v := Value.slice A os.length c) (ev_tmp rfl rfl)) ?_
  refine st rfl (x_lensl (n := os.length) Try.underlying48 (ev_tmp rfl rfl)) ?_
  refine st rfl (x_gtr (p := (os.length : Int)) (q := 300) (ev_tmp rfl rfl) rfl) ?_
  refine st rfl (x_move (v := Value.bool (decide ((300 : Int) < (os.length : Int)))) (ev_tmp rfl rfl)) ?_
  refine s_meet3 fun K16 hK17 => ?_
  have J18 : ∀ jk, K16 (fr 100 ([(20, Value.bool ((decide ((300 : Int) < (os.length : Int))) || false)), (0, Value.slice A os.length c), (2, Value.bool false), (3, Value.bool true), (17, Value.bool (decide ((300 : Int) < (os.length : Int))))] ++ jk)) w9 := by
    intro jk
    refine hK17 _ _ ?_
    clear hK17
    refine s_nil ?_
    refine hK15 _ _ ?_
    refine c_cond (b := (decide ((300 : Int) < (os.length : Int))) || false) (ev_tmp rfl rfl) (fun h21 => ?_) (fun h21 => ?_)
    · have h22 : ((decide ((300 : Int) < (os.length : Int))) || false) = true := h21
      refine c_seq fun K23 hK24 => ?_
      refine c_reg ?_
      refine st rfl (x_move (v := Value.bool true) (ev_tmp rfl rfl)) ?_
      refine st rfl (x_assign (v := Value.bool true) (ev_tmp rfl rfl)) ?_
      refine s_nil ?_
      refine hK24 _ _ ?_
      refine c_ret ?_
      refine hT3 _ _ ?_
      refine r1 rfl (ev_tmp (v := Value.bool true) rfl rfl) ?_
      exact ⟨rfl, M10.below⟩
    · have h25 : ¬ ((300 : Int) < (os.length : Int)) := of_decide_eq_false (or_l h21)
      have hlen : os.length ≤ 300 := by omega
      refine c_skip ?_
      refine hK13 _ _ ?_
      refine c_seq fun K26 hK27 => ?_
      refine c_reg ?_
      refine sC rfl (x_callL (xs := []) (vs := []) (cap := []) ent_19 rfl trivial) (new_c _) ?_
      rintro _ w28 ⟨rfl, hb29⟩
      refine ⟨_, rfl, ?_⟩
      have M30 := M10.gotSl hb29 (SlB.nil _ _ _ 8 Trade.cells)
      refine snew (cs := #[Value.slice none 0 0]) M30 rfl (x_allocz z_24) fun b32 w33 M34 => ?_
      refine sset (i := 0) (L' := [Own.cells b32 24 #[Value.slice none (([] : List Trade).length) 0]]) M34 rfl rfl (x_storew (cs := [Value.slice none (([] : List Trade).length) 0]) sz_24 (ev_tmp rfl rfl) (ev_tmp rfl rfl) (M34.cells_at (i := 0) rfl) rfl ⟨rfl, trivial⟩) fun w35 M36 => ?_
      refine s_nil ?_
      refine hK27 _ _ ?_
      refine c_seq fun K37 hK38 => ?_
      refine c_seq fun K39 hK40 => ?_
      refine c_reg ?_
      refine st rfl (x_assign (v := Value.int .i64 0) rfl) ?_
      refine s_nil ?_
      refine hK40 _ _ ?_
      refine c_block ?_
      have M41 : Mem w [] w35 [Own.cells b32 24 #[Value.slice none (([] : List Trade).length) 0]] [Ro.sl w9.heap.size w28.heap.size none 0 8 Trade.cells ([] : List Trade), Ro.sl 0 w.heap.size A c 8 Step.cells os] := (M36.roSub (R' := [Ro.sl w9.heap.size w28.heap.size none 0 8 Trade.cells ([] : List Trade), Ro.sl 0 w.heap.size A c 8 Step.cells os]) (List.forall_mem_cons.2 ⟨List.mem_of_getElem? (i := 0) rfl, (List.forall_mem_cons.2 ⟨List.mem_of_getElem? (i := 1) rfl, (List.forall_mem_nil _)⟩)⟩))
      refine c_loopH (live := [(0, Value.slice A os.length c), (2, Value.bool false), (3, Value.bool true), (4, Value.pointer (some ⟨b32, 0, none⟩)), (5, Value.int .i64 0)]) ⟨rfl, rfl, rfl, rfl, rfl, trivial⟩ (fun mm ll w1 => ∃ (k : Nat) (A0_ : Option Addr) (c0_ : Nat) (la_ : List Trade) (lo0_ : Nat) (hi0_ : Nat) (jk : List (Nat × Value)), mm = os.length - k ∧ ll = [(0, Value.slice A os.length c), (2, Value.bool false), (3, Value.bool true), (4, Value.pointer (some ⟨b32, 0, none⟩)), (5, Value.int .i64 (k : Int))] ++ jk ∧ Mem w [] w1 [Own.cells b32 24 #[Value.slice A0_ la_.length c0_]] [Ro.sl lo0_ hi0_ A0_ c0_ 8 Trade.cells la_, Ro.sl 0 w.heap.size A c 8 Step.cells os] ∧ (k ≤ os.length) ∧ (chk la_ = 0)) ⟨0, none, 0, ([] : List Trade), w9.heap.size, w28.heap.size, _, rfl, rfl, M41, (by omega), rfl⟩ fun mm ll w1 hI42 => ?_
      obtain ⟨k, A0_, c0_, la_, lo0_, hi0_, jk, rfl, rfl, M44, hk, hchk⟩ := hI42
      obtain ⟨w43, rfl⟩ : ∃ x, x = w1 := ⟨_, rfl⟩
      refine c_seq fun K45 hK46 => ?_
      refine c_seq fun K47 hK48 => ?_
      refine c_reg ?_
      refine st rfl (x_move (v := Value.int .i64 (k : Int)) (ev_tmp rfl rfl)) ?_
      refine st rfl (x_move (v := Value.slice A os.length c) (ev_tmp rfl rfl)) ?_
      refine st rfl (x_lensl (n := os.length) Try.underlying48 (ev_tmp rfl rfl)) ?_
      refine st rfl (x_lss (p := (k : Int)) (q := (os.length : Int)) (ev_tmp rfl rfl) (ev_tmp rfl rfl)) ?_
      refine s_nil ?_
      refine hK48 _ _ ?_
      refine c_cond (b := decide ((k : Int) < (os.length : Int))) (ev_tmp rfl rfl) (fun h49 => ?_) (fun h49 => ?_)
      · have h50 : (k : Int) < (os.length : Int) := of_decide_eq_true h49
        obtain ⟨o, ho⟩ : ∃ x, os[k]? = some x := ⟨_, List.getElem?_eq_getElem (by omega)⟩
        refine c_skip ?_
        refine hK46 _ _ ?_
        refine c_seq fun K51 hK52 => ?_
        refine c_block ?_
        refine c_seq fun K53 hK54 => ?_
        have M55 := M44.drew
        refine c_drawn (fun w1 => Mem w [] w1 [Own.cells b32 24 #[Value.slice A0_ la_.length c0_]] [Ro.sl lo0_ hi0_ A0_ c0_ 8 Trade.cells la_, Ro.sl 0 w.heap.size A c 8 Step.cells os]) mixed ?_
        generalize w43.drew = w56 at M55 ⊢
        refine dT (i := 0) (v := Value.agg #[Value.slice A0_ la_.length c0_]) rfl (by kernel_rfl) (by kernel_rfl) rfl M55 (fun _ hS => x_loadw (cs := [Value.slice A0_ la_.length c0_]) Try.underlying24 rfl sz_24 (ev_tmp rfl rfl) (hS.range (i := 0) rfl ⟨rfl, trivial⟩)) ?_
        refine dT (i := 1) (v := Value.slice A os.length c) rfl (by kernel_rfl) (by kernel_rfl) rfl M55 (fun _ hS => x_move (v := Value.slice A os.length c) (ev_tmp rfl rfl)) ?_
        refine dT (i := 2) (v := Value.int .i64 (k : Int)) rfl (by kernel_rfl) (by kernel_rfl) rfl M55 (fun _ hS => x_move (v := Value.int .i64 (k : Int)) (ev_tmp rfl rfl)) ?_
        obtain ⟨g57, o58, hA59⟩ := M55.roat (i := 1) rfl ho
        refine dT (i := 3) (v := Value.pointer (some ⟨g57, o58 + k * 8, none⟩)) rfl (by kernel_rfl) (by kernel_rfl) rfl M55 (fun _ hS => x_elemA (b := g57) (o := o58) (k := k) ea_48 (ev_tmp rfl rfl) hA59 (ev_tmp rfl rfl) rfl (by omega)) ?_
        refine dT (i := 4) (v := Value.agg #[Value.int .u8 o.kd, Value.int .i64 o.nb, Value.string o.y, Value.string o.b, Value.string o.s, Value.string o.p, Value.int .i64 o.q, Value.int .i64 o.r]) rfl (by kernel_rfl) (by kernel_rfl) rfl M55 (fun _ hS => x_loadw (cs := [Value.int .u8 o.kd, Value.int .i64 o.nb, Value.string o.y, Value.string o.b, Value.string o.s, Value.string o.p, Value.int .i64 o.q, Value.int .i64 o.r]) Try.underlying40 rfl sz_40 (ev_tmp rfl rfl) (hS.rorange (i := 1) rfl hA59 ho (f := 0) ⟨rfl, rfl, rfl, rfl, rfl, rfl, rfl, rfl, trivial⟩)) ?_
        refine dA (rs := [5, 10]) (by kernel_rfl) rfl ?_
        refine dC ?_ ?_
        · refine dsC (i := 5) rfl rfl (x_callL (xs := [.tmp 30, .tmp 34]) (vs := [Value.agg #[Value.slice A0_ la_.length c0_], Value.agg #[Value.int .u8 o.kd, Value.int .i64 o.nb, Value.string o.y, Value.string o.b, Value.string o.s, Value.string o.p, Value.int .i64 o.q, Value.int .i64 o.r]]) (cap := []) ent_20 rfl ⟨(ev_tmp rfl rfl), (ev_tmp rfl rfl), trivial⟩) (call_c _ _ la_ o _ (M55.slw (i := 0) rfl)) ?_
          rintro _ w65 ⟨A62, c63, l69, e71, e72, he70, rfl, hb66, hs67⟩
          refine ⟨_, rfl, ?_⟩
          have M68 := M55.gotSl hb66 hs67
          refine ⟨(M68.dropR 1), ?_⟩
          refine dT (i := 6) (v := Value.tuple #[Value.agg #[Value.slice A62 l69.length c63], Value.int .i64 e71, Value.int .i64 e72]) rfl (by kernel_rfl) (by kernel_rfl) rfl (M68.dropR 1) (fun _ hS => x_move (v := Value.tuple #[Value.agg #[Value.slice A62 l69.length c63], Value.int .i64 e71, Value.int .i64 e72]) (ev_tmp rfl rfl)) ?_
          refine dT (i := 7) (v := Value.agg #[Value.slice A62 l69.length c63]) rfl (by kernel_rfl) (by kernel_rfl) rfl (M68.dropR 1) (fun _ hS => x_extract (v := Value.agg #[Value.slice A62 l69.length c63]) (ev_tmp rfl rfl) rfl) ?_
          refine dT (i := 8) (v := Value.int .i64 e71) rfl (by kernel_rfl) (by kernel_rfl) rfl (M68.dropR 1) (fun _ hS => x_extract (v := Value.int .i64 e71) (ev_tmp rfl rfl) rfl) ?_
          refine dT (i := 9) (v := Value.int .i64 e72) rfl (by kernel_rfl) (by kernel_rfl) rfl (M68.dropR 1) (fun _ hS => x_extract (v := Value.int .i64 e72) (ev_tmp rfl rfl) rfl) ?_
          refine dA (rs := [10]) (by kernel_rfl) rfl ?_
          refine dC ?_ ?_
          · refine dnew (i := 10) (cs := #[Value.slice none 0 0]) M68 rfl rfl (x_allocz z_24) fun b74 w75 M76 => ?_
            refine ⟨((M76.dropL 1).dropR 1), ?_⟩
            refine dA (rs := [11]) (by kernel_rfl) rfl ?_
            refine dC ?_ ?_
            · refine dset (i := 11) (k := 0) (L' := [Own.cells b74 24 #[Value.slice A62 l69.length c63], Own.cells b32 24 #[Value.slice A0_ la_.length c0_]]) M76 rfl rfl rfl (x_storew (cs := [Value.slice A62 l69.length c63]) sz_24 (ev_tmp rfl rfl) (ev_tmp rfl rfl) (M76.cells_at (i := 0) rfl) rfl ⟨rfl, trivial⟩) fun w77 M78 => ?_
              refine ⟨((M78.dropL 1).dropR 1), ?_⟩
              refine dT (i := 12) (v := Value.int .i64 e71) rfl (by kernel_rfl) (by kernel_rfl) rfl ((M78.dropL 1).dropR 1) (fun _ hS => x_assign (v := Value.int .i64 e71) (ev_tmp rfl rfl)) ?_
              refine dT (i := 13) (v := Value.int .i64 e72) rfl (by kernel_rfl) (by kernel_rfl) rfl ((M78.dropL 1).dropR 1) (fun _ hS => x_assign (v := Value.int .i64 e72) (ev_tmp rfl rfl)) ?_
              refine dE (by kernel_rfl) ?_
              refine hK54 _ _ ?_
              refine c_seq fun K79 hK80 => ?_
              refine c_reg ?_
              refine st rfl (x_move (v := Value.int .i64 e72) (ev_tmp rfl rfl)) ?_
              refine st rfl (x_eql (p := e72) (q := 0) (ev_tmp rfl rfl) rfl) ?_
              refine s_nil ?_
              refine hK80 _ _ ?_
              refine c_cond (b := decide (e72 = 0)) (ev_tmp rfl rfl) (fun h81 => ?_) (fun h81 => ?_)
              · have h82 : e72 = 0 := of_decide_eq_true h81
                refine c_reg ?_
                refine st rfl (x_loadw (cs := [Value.slice A62 l69.length c63]) Try.underlying24 rfl sz_24 (ev_tmp rfl rfl) (M78.range (i := 0) rfl ⟨rfl, trivial⟩)) ?_
                refine sset (i := 1) (L' := [Own.cells b74 24 #[Value.slice A62 l69.length c63], Own.cells b32 24 #[Value.slice A62 l69.length c63]]) M78 rfl rfl (x_storew (cs := [Value.slice A62 l69.length c63]) sz_24 (ev_tmp rfl rfl) (ev_tmp rfl rfl) (M78.cells_at (i := 1) rfl) rfl ⟨rfl, trivial⟩) fun w83 M84 => ?_
                refine s_nil ?_
                refine hK52 _ _ ?_
                refine c_reg ?_
                refine st rfl (x_move (v := Value.int .i64 (k : Int)) (ev_tmp rfl rfl)) ?_
                have hw85 : IntKind.i64.wrap ((k : Int) + 1) = (k : Int) + 1 := w64 (by rfl) (by omega) (by omega)
                refine st rfl (x_add_eq (p := (k : Int)) (q := 1) (ev_tmp rfl rfl) rfl hw85) ?_
                refine st rfl (x_assign (v := Value.int .i64 ((k : Int) + 1)) (ev_tmp rfl rfl)) ?_
                refine s_nil ?_
                exact ⟨_, _, (by omega : os.length - (k + 1) < os.length - k), fr_held (live := [(0, Value.slice A os.length c), (2, Value.bool false), (3, Value.bool true), (4, Value.pointer (some ⟨b32, 0, none⟩)), (5, Value.int .i64 (((k + 1) : Nat) : Int))]) ⟨rfl, rfl, rfl, rfl, (congrArg (Value.int .i64) (by omega)), trivial⟩, (k + 1), A62, c63, l69, w56.heap.size, w65.heap.size, _, rfl, rfl, ((M84.dropL 1).roSub (R' := [Ro.sl w56.heap.size w65.heap.size A62 c63 8 Trade.cells l69, Ro.sl 0 w.heap.size A c 8 Step.cells os]) (List.forall_mem_cons.2 ⟨List.mem_of_getElem? (i := 0) rfl, (List.forall_mem_cons.2 ⟨List.mem_of_getElem? (i := 2) rfl, (List.forall_mem_nil _)⟩)⟩)), (by omega), (call_chk he70 (of_decide_eq_true h81))⟩
              · have h86 : ¬ (e72 = 0) := of_decide_eq_false h81
                refine c_skip ?_
                refine hK52 _ _ ?_
                refine c_reg ?_
                refine st rfl (x_move (v := Value.int .i64 (k : Int)) (ev_tmp rfl rfl)) ?_
                have hw87 : IntKind.i64.wrap ((k : Int) + 1) = (k : Int) + 1 := w64 (by rfl) (by omega) (by omega)
                refine st rfl (x_add_eq (p := (k : Int)) (q := 1) (ev_tmp rfl rfl) rfl hw87) ?_
                refine st rfl (x_assign (v := Value.int .i64 ((k : Int) + 1)) (ev_tmp rfl rfl)) ?_
                refine s_nil ?_
                exact ⟨_, _, (by omega : os.length - (k + 1) < os.length - k), fr_held (live := [(0, Value.slice A os.length c), (2, Value.bool false), (3, Value.bool true), (4, Value.pointer (some ⟨b32, 0, none⟩)), (5, Value.int .i64 (((k + 1) : Nat) : Int))]) ⟨rfl, rfl, rfl, rfl, (congrArg (Value.int .i64) (by omega)), trivial⟩, (k + 1), A0_, c0_, la_, lo0_, hi0_, _, rfl, rfl, ((M78.dropL 1).roSub (R' := [Ro.sl lo0_ hi0_ A0_ c0_ 8 Trade.cells la_, Ro.sl 0 w.heap.size A c 8 Step.cells os]) (List.forall_mem_cons.2 ⟨List.mem_of_getElem? (i := 1) rfl, (List.forall_mem_cons.2 ⟨List.mem_of_getElem? (i := 2) rfl, (List.forall_mem_nil _)⟩)⟩)), (by omega), hchk⟩
            exact dN
          exact dN
        refine dC ?_ ?_
        · refine dnew (i := 10) (cs := #[Value.slice none 0 0]) M55 rfl rfl (x_allocz z_24) fun b88 w89 M90 => ?_
          refine ⟨(M90.dropL 1), ?_⟩
          refine dA (rs := [5]) (by kernel_rfl) rfl ?_
          refine dC ?_ ?_
          · refine dsC (i := 5) rfl rfl (x_callL (xs := [.tmp 30, .tmp 34]) (vs := [Value.agg #[Value.slice A0_ la_.length c0_], Value.agg #[Value.int .u8 o.kd, Value.int .i64 o.nb, Value.string o.y, Value.string o.b, Value.string o.s, Value.string o.p, Value.int .i64 o.q, Value.int .i64 o.r]]) (cap := []) ent_20 rfl ⟨(ev_tmp rfl rfl), (ev_tmp rfl rfl), trivial⟩) (call_c _ _ la_ o _ (M90.slw (i := 0) rfl)) ?_
            rintro _ w93 ⟨A91, c92, l97, e99, e100, he98, rfl, hb94, hs95⟩
            refine ⟨_, rfl, ?_⟩
            have M96 := M90.gotSl hb94 hs95
            refine ⟨((M96.dropL 1).dropR 1), ?_⟩
            refine dT (i := 6) (v := Value.tuple #[Value.agg #[Value.slice A91 l97.length c92], Value.int .i64 e99, Value.int .i64 e100]) rfl (by kernel_rfl) (by kernel_rfl) rfl ((M96.dropL 1).dropR 1) (fun _ hS => x_move (v := Value.tuple #[Value.agg #[Value.slice A91 l97.length c92], Value.int .i64 e99, Value.int .i64 e100]) (ev_tmp rfl rfl)) ?_
            refine dT (i := 7) (v := Value.agg #[Value.slice A91 l97.length c92]) rfl (by kernel_rfl) (by kernel_rfl) rfl ((M96.dropL 1).dropR 1) (fun _ hS => x_extract (v := Value.agg #[Value.slice A91 l97.length c92]) (ev_tmp rfl rfl) rfl) ?_
            refine dT (i := 8) (v := Value.int .i64 e99) rfl (by kernel_rfl) (by kernel_rfl) rfl ((M96.dropL 1).dropR 1) (fun _ hS => x_extract (v := Value.int .i64 e99) (ev_tmp rfl rfl) rfl) ?_
            refine dT (i := 9) (v := Value.int .i64 e100) rfl (by kernel_rfl) (by kernel_rfl) rfl ((M96.dropL 1).dropR 1) (fun _ hS => x_extract (v := Value.int .i64 e100) (ev_tmp rfl rfl) rfl) ?_
            refine dA (rs := [11]) (by kernel_rfl) rfl ?_
            refine dC ?_ ?_
            · refine dset (i := 11) (k := 0) (L' := [Own.cells b88 24 #[Value.slice A91 l97.length c92], Own.cells b32 24 #[Value.slice A0_ la_.length c0_]]) M96 rfl rfl rfl (x_storew (cs := [Value.slice A91 l97.length c92]) sz_24 (ev_tmp rfl rfl) (ev_tmp rfl rfl) (M96.cells_at (i := 0) rfl) rfl ⟨rfl, trivial⟩) fun w102 M103 => ?_
              refine ⟨((M103.dropL 1).dropR 1), ?_⟩
              refine dT (i := 12) (v := Value.int .i64 e99) rfl (by kernel_rfl) (by kernel_rfl) rfl ((M103.dropL 1).dropR 1) (fun _ hS => x_assign (v := Value.int .i64 e99) (ev_tmp rfl rfl)) ?_
              refine dT (i := 13) (v := Value.int .i64 e100) rfl (by kernel_rfl) (by kernel_rfl) rfl ((M103.dropL 1).dropR 1) (fun _ hS => x_assign (v := Value.int .i64 e100) (ev_tmp rfl rfl)) ?_
              refine dE (by kernel_rfl) ?_
              refine hK54 _ _ ?_
              refine c_seq fun K104 hK105 => ?_
              refine c_reg ?_
              refine st rfl (x_move (v := Value.int .i64 e100) (ev_tmp rfl rfl)) ?_
              refine st rfl (x_eql (p := e100) (q := 0) (ev_tmp rfl rfl) rfl) ?_
              refine s_nil ?_
              refine hK105 _ _ ?_
              refine c_cond (b := decide (e100 = 0)) (ev_tmp rfl rfl) (fun h106 => ?_) (fun h106 => ?_)
              · have h107 : e100 = 0 := of_decide_eq_true h106
                refine c_reg ?_
                refine st rfl (x_loadw (cs := [Value.slice A91 l97.length c92]) Try.underlying24 rfl sz_24 (ev_tmp rfl rfl) (M103.range (i := 0) rfl ⟨rfl, trivial⟩)) ?_
                refine sset (i := 1) (L' := [Own.cells b88 24 #[Value.slice A91 l97.length c92], Own.cells b32 24 #[Value.slice A91 l97.length c92]]) M103 rfl rfl (x_storew (cs := [Value.slice A91 l97.length c92]) sz_24 (ev_tmp rfl rfl) (ev_tmp rfl rfl) (M103.cells_at (i := 1) rfl) rfl ⟨rfl, trivial⟩) fun w108 M109 => ?_
                refine s_nil ?_
                refine hK52 _ _ ?_
                refine c_reg ?_
                refine st rfl (x_move (v := Value.int .i64 (k : Int)) (ev_tmp rfl rfl)) ?_
                have hw110 : IntKind.i64.wrap ((k : Int) + 1) = (k : Int) + 1 := w64 (by rfl) (by omega) (by omega)
                refine st rfl (x_add_eq (p := (k : Int)) (q := 1) (ev_tmp rfl rfl) rfl hw110) ?_
                refine st rfl (x_assign (v := Value.int .i64 ((k : Int) + 1)) (ev_tmp rfl rfl)) ?_
                refine s_nil ?_
                exact ⟨_, _, (by omega : os.length - (k + 1) < os.length - k), fr_held (live := [(0, Value.slice A os.length c), (2, Value.bool false), (3, Value.bool true), (4, Value.pointer (some ⟨b32, 0, none⟩)), (5, Value.int .i64 (((k + 1) : Nat) : Int))]) ⟨rfl, rfl, rfl, rfl, (congrArg (Value.int .i64) (by omega)), trivial⟩, (k + 1), A91, c92, l97, w89.heap.size, w93.heap.size, _, rfl, rfl, ((M109.dropL 1).roSub (R' := [Ro.sl w89.heap.size w93.heap.size A91 c92 8 Trade.cells l97, Ro.sl 0 w.heap.size A c 8 Step.cells os]) (List.forall_mem_cons.2 ⟨List.mem_of_getElem? (i := 0) rfl, (List.forall_mem_cons.2 ⟨List.mem_of_getElem? (i := 2) rfl, (List.forall_mem_nil _)⟩)⟩)), (by omega), (call_chk he98 (of_decide_eq_true h106))⟩
              · have h111 : ¬ (e100 = 0) := of_decide_eq_false h106
                refine c_skip ?_
                refine hK52 _ _ ?_
                refine c_reg ?_
                refine st rfl (x_move (v := Value.int .i64 (k : Int)) (ev_tmp rfl rfl)) ?_
                have hw112 : IntKind.i64.wrap ((k : Int) + 1) = (k : Int) + 1 := w64 (by rfl) (by omega) (by omega)
                refine st rfl (x_add_eq (p := (k : Int)) (q := 1) (ev_tmp rfl rfl) rfl hw112) ?_
                refine st rfl (x_assign (v := Value.int .i64 ((k : Int) + 1)) (ev_tmp rfl rfl)) ?_
                refine s_nil ?_
                exact ⟨_, _, (by omega : os.length - (k + 1) < os.length - k), fr_held (live := [(0, Value.slice A os.length c), (2, Value.bool false), (3, Value.bool true), (4, Value.pointer (some ⟨b32, 0, none⟩)), (5, Value.int .i64 (((k + 1) : Nat) : Int))]) ⟨rfl, rfl, rfl, rfl, (congrArg (Value.int .i64) (by omega)), trivial⟩, (k + 1), A0_, c0_, la_, lo0_, hi0_, _, rfl, rfl, ((M103.dropL 1).roSub (R' := [Ro.sl lo0_ hi0_ A0_ c0_ 8 Trade.cells la_, Ro.sl 0 w.heap.size A c 8 Step.cells os]) (List.forall_mem_cons.2 ⟨List.mem_of_getElem? (i := 1) rfl, (List.forall_mem_cons.2 ⟨List.mem_of_getElem? (i := 2) rfl, (List.forall_mem_nil _)⟩)⟩)), (by omega), hchk⟩
            exact dN
          exact dN
        exact dN
      · have h113 : ¬ ((k : Int) < (os.length : Int)) := of_decide_eq_false h49
        refine c_exit ?_
        refine xb_here ?_
        refine hK38 _ _ ?_
        refine c_seq fun K114 hK115 => ?_
        refine c_seq fun K116 hK117 => ?_
        refine c_reg ?_
        refine st rfl (x_assign (v := Value.int .i64 0) rfl) ?_
        refine s_nil ?_
        refine hK117 _ _ ?_
        refine c_block ?_
        refine c_loopH (live := [(0, Value.slice A os.length c), (3, Value.bool true), (4, Value.pointer (some ⟨b32, 0, none⟩)), (9, Value.int .i64 0)]) ⟨rfl, rfl, rfl, rfl, trivial⟩ (fun mm ll w1 => ∃ (k2 : Nat) (jk : List (Nat × Value)), mm = os.length - k2 ∧ ll = [(0, Value.slice A os.length c), (3, Value.bool true), (4, Value.pointer (some ⟨b32, 0, none⟩)), (9, Value.int .i64 (k2 : Int))] ++ jk ∧ Mem w [] w1 [Own.cells b32 24 #[Value.slice A0_ la_.length c0_]] [Ro.sl lo0_ hi0_ A0_ c0_ 8 Trade.cells la_, Ro.sl 0 w.heap.size A c 8 Step.cells os] ∧ (k2 ≤ os.length)) ⟨0, _, rfl, rfl, M44, (by omega)⟩ fun mm ll w1 hI118 => ?_
        obtain ⟨k2, jk, rfl, rfl, M120, hk2⟩ := hI118
        obtain ⟨w119, rfl⟩ : ∃ x, x = w1 := ⟨_, rfl⟩
        refine c_seq fun K121 hK122 => ?_
        refine c_seq fun K123 hK124 => ?_
        refine c_reg ?_
        refine st rfl (x_move (v := Value.int .i64 (k2 : Int)) (ev_tmp rfl rfl)) ?_
        refine st rfl (x_move (v := Value.slice A os.length c) (ev_tmp rfl rfl)) ?_
        refine st rfl (x_lensl (n := os.length) Try.underlying48 (ev_tmp rfl rfl)) ?_
        refine st rfl (x_lss (p := (k2 : Int)) (q := (os.length : Int)) (ev_tmp rfl rfl) (ev_tmp rfl rfl)) ?_
        refine s_nil ?_
        refine hK124 _ _ ?_
        refine c_cond (b := decide ((k2 : Int) < (os.length : Int))) (ev_tmp rfl rfl) (fun h125 => ?_) (fun h125 => ?_)
        · have h126 : (k2 : Int) < (os.length : Int) := of_decide_eq_true h125
          obtain ⟨o, ho⟩ : ∃ x, os[k2]? = some x := ⟨_, List.getElem?_eq_getElem (by omega)⟩
          refine c_skip ?_
          refine hK122 _ _ ?_
          refine c_seq fun K127 hK128 => ?_
          refine c_block ?_
          refine c_seq fun K129 hK130 => ?_
          have M131 := M120.drew
          refine c_drawn (fun w1 => Mem w [] w1 [Own.cells b32 24 #[Value.slice A0_ la_.length c0_]] [Ro.sl lo0_ hi0_ A0_ c0_ 8 Trade.cells la_, Ro.sl 0 w.heap.size A c 8 Step.cells os]) mixed ?_
          generalize w119.drew = w132 at M131 ⊢
          refine dT (i := 0) (v := Value.agg #[Value.slice A0_ la_.length c0_]) rfl (by kernel_rfl) (by kernel_rfl) rfl M131 (fun _ hS => x_loadw (cs := [Value.slice A0_ la_.length c0_]) Try.underlying24 rfl sz_24 (ev_tmp rfl rfl) (hS.range (i := 0) rfl ⟨rfl, trivial⟩)) ?_
          refine dT (i := 1) (v := Value.slice A os.length c) rfl (by kernel_rfl) (by kernel_rfl) rfl M131 (fun _ hS => x_move (v := Value.slice A os.length c) (ev_tmp rfl rfl)) ?_
          refine dT (i := 2) (v := Value.int .i64 (k2 : Int)) rfl (by kernel_rfl) (by kernel_rfl) rfl M131 (fun _ hS => x_move (v := Value.int .i64 (k2 : Int)) (ev_tmp rfl rfl)) ?_
          obtain ⟨g133, o134, hA135⟩ := M131.roat (i := 1) rfl ho
          refine dT (i := 3) (v := Value.pointer (some ⟨g133, o134 + k2 * 8, none⟩)) rfl (by kernel_rfl) (by kernel_rfl) rfl M131 (fun _ hS => x_elemA (b := g133) (o := o134) (k := k2) ea_48 (ev_tmp rfl rfl) hA135 (ev_tmp rfl rfl) rfl (by omega)) ?_
          refine dT (i := 4) (v := Value.pointer (some ⟨g133, o134 + k2 * 8 + 5, none⟩)) rfl (by kernel_rfl) (by kernel_rfl) rfl M131 (fun _ hS => x_fieldv (b := g133) (o := (o134 + k2 * 8)) (q := (o134 + k2 * 8 + 5)) fa_40_5 (ev_tmp rfl rfl) rfl) ?_
          refine dT (i := 5) (v := Value.string o.p) rfl (by kernel_rfl) (by kernel_rfl) rfl M131 (fun _ hS => x_load1 (v := Value.string o.p) Try.underlying9 rfl (ev_tmp rfl rfl) (hS.rocell (i := 1) rfl hA135 ho (j := 5) rfl)) ?_
          refine dA (rs := [6]) (by kernel_rfl) rfl ?_
          refine dC ?_ ?_
          · refine dsC (i := 6) rfl rfl (x_callL (xs := [.tmp 49, .const (Value.string (⟨#[104, 111, 117, 115, 101]⟩ : ByteArray)), .tmp 54]) (vs := [Value.agg #[Value.slice A0_ la_.length c0_], Value.string (⟨#[104, 111, 117, 115, 101]⟩ : ByteArray), Value.string o.p]) (cap := []) ent_14 rfl ⟨(ev_tmp rfl rfl), rfl, (ev_tmp rfl rfl), trivial⟩) (position_c _ _ la_ (⟨#[104, 111, 117, 115, 101]⟩ : ByteArray) o.p _ (M131.slw (i := 0) rfl)) ?_
            rintro _ w138 ⟨rfl, hb140⟩
            refine ⟨_, rfl, ?_⟩
            have M139 := M131.call hb140
            refine ⟨M139, ?_⟩
            refine dT (i := 7) (v := Value.tuple #[Value.int .i64 ((posL (legsC la_) (⟨#[104, 111, 117, 115, 101]⟩ : ByteArray) o.p).1), Value.int .i64 ((posL (legsC la_) (⟨#[104, 111, 117, 115, 101]⟩ : ByteArray) o.p).2), Value.int .i64 (chk la_)]) rfl (by kernel_rfl) (by kernel_rfl) rfl M139 (fun _ hS => x_move (v := Value.tuple #[Value.int .i64 ((posL (legsC la_) (⟨#[104, 111, 117, 115, 101]⟩ : ByteArray) o.p).1), Value.int .i64 ((posL (legsC la_) (⟨#[104, 111, 117, 115, 101]⟩ : ByteArray) o.p).2), Value.int .i64 (chk la_)]) (ev_tmp rfl rfl)) ?_
            refine dT (i := 8) (v := Value.int .i64 ((posL (legsC la_) (⟨#[104, 111, 117, 115, 101]⟩ : ByteArray) o.p).1)) rfl (by kernel_rfl) (by kernel_rfl) rfl M139 (fun _ hS => x_extract (v := Value.int .i64 ((posL (legsC la_) (⟨#[104, 111, 117, 115, 101]⟩ : ByteArray) o.p).1)) (ev_tmp rfl rfl) rfl) ?_
            refine dT (i := 9) (v := Value.int .i64 ((posL (legsC la_) (⟨#[104, 111, 117, 115, 101]⟩ : ByteArray) o.p).2)) rfl (by kernel_rfl) (by kernel_rfl) rfl M139 (fun _ hS => x_extract (v := Value.int .i64 ((posL (legsC la_) (⟨#[104, 111, 117, 115, 101]⟩ : ByteArray) o.p).2)) (ev_tmp rfl rfl) rfl) ?_
            refine dT (i := 10) (v := Value.int .i64 (chk la_)) rfl (by kernel_rfl) (by kernel_rfl) rfl M139 (fun _ hS => x_extract (v := Value.int .i64 (chk la_)) (ev_tmp rfl rfl) rfl) ?_
            refine dT (i := 11) (v := Value.int .i64 ((posL (legsC la_) (⟨#[104, 111, 117, 115, 101]⟩ : ByteArray) o.p).1)) rfl (by kernel_rfl) (by kernel_rfl) rfl M139 (fun _ hS => x_assign (v := Value.int .i64 ((posL (legsC la_) (⟨#[104, 111, 117, 115, 101]⟩ : ByteArray) o.p).1)) (ev_tmp rfl rfl)) ?_
            refine dT (i := 12) (v := Value.int .i64 ((posL (legsC la_) (⟨#[104, 111, 117, 115, 101]⟩ : ByteArray) o.p).2)) rfl (by kernel_rfl) (by kernel_rfl) rfl M139 (fun _ hS => x_assign (v := Value.int .i64 ((posL (legsC la_) (⟨#[104, 111, 117, 115, 101]⟩ : ByteArray) o.p).2)) (ev_tmp rfl rfl)) ?_
            refine dT (i := 13) (v := Value.int .i64 (chk la_)) rfl (by kernel_rfl) (by kernel_rfl) rfl M139 (fun _ hS => x_assign (v := Value.int .i64 (chk la_)) (ev_tmp rfl rfl)) ?_
            refine dE (by kernel_rfl) ?_
            refine hK130 _ _ ?_
            refine c_seq fun K141 hK142 => ?_
            have M143 := M139.drew
            refine c_drawn (fun w1 => Mem w [] w1 [Own.cells b32 24 #[Value.slice A0_ la_.length c0_]] [Ro.sl lo0_ hi0_ A0_ c0_ 8 Trade.cells la_, Ro.sl 0 w.heap.size A c 8 Step.cells os]) mixed ?_
            generalize w138.drew = w144 at M143 ⊢
            refine dT (i := 0) (v := Value.int .i64 (chk la_)) rfl (by kernel_rfl) (by kernel_rfl) rfl M143 (fun _ hS => x_move (v := Value.int .i64 (chk la_)) (ev_tmp rfl rfl)) ?_
            refine dT (i := 1) (v := Value.bool (!(decide (chk la_ = 0)))) rfl (by kernel_rfl) (by kernel_rfl) rfl M143 (fun _ hS => x_neq (p := (chk la_)) (q := 0) (ev_tmp rfl rfl) rfl) ?_
            refine dT (i := 2) (v := Value.bool (!(decide (chk la_ = 0)))) rfl (by kernel_rfl) (by kernel_rfl) rfl M143 (fun _ hS => x_move (v := Value.bool (!(decide (chk la_ = 0)))) (ev_tmp rfl rfl)) ?_
            have hg145 : (!(decide (chk la_ = 0))) = false := (by rw [(decide_eq_true hchk)]; rfl)
            refine dTg (i := 3) (v := Value.int .i64 ((posL (legsC la_) (⟨#[104, 111, 117, 115, 101]⟩ : ByteArray) o.p).1)) rfl rfl rfl (congrArg Value.bool hg145) (by kernel_rfl) (by kernel_rfl) rfl M143 (fun _ hS => x_move (v := Value.int .i64 ((posL (legsC la_) (⟨#[104, 111, 117, 115, 101]⟩ : ByteArray) o.p).1)) (ev_tmp rfl rfl)) ?_
            refine dTg (i := 4) (v := Value.bool (!(decide ((posL (legsC la_) (⟨#[104, 111, 117, 115, 101]⟩ : ByteArray) o.p).1 = 0)))) rfl rfl rfl (congrArg Value.bool hg145) (by kernel_rfl) (by kernel_rfl) rfl M143 (fun _ hS => x_neq (p := ((posL (legsC la_) (⟨#[104, 111, 117, 115, 101]⟩ : ByteArray) o.p).1)) (q := 0) (ev_tmp rfl rfl) rfl) ?_
            refine dT (i := 5) (v := Value.bool (!(decide ((posL (legsC la_) (⟨#[104, 111, 117, 115, 101]⟩ : ByteArray) o.p).1 = 0)))) rfl (by kernel_rfl) (by kernel_rfl) rfl M143 (fun _ hS => x_pick_f (v := Value.bool (!(decide ((posL (legsC la_) (⟨#[104, 111, 117, 115, 101]⟩ : ByteArray) o.p).1 = 0)))) (ev_tmp rfl (congrArg Value.bool hg145)) (ev_tmp rfl rfl)) ?_
            refine dT (i := 6) (v := Value.bool (!(decide ((posL (legsC la_) (⟨#[104, 111, 117, 115, 101]⟩ : ByteArray) o.p).1 = 0)))) rfl (by kernel_rfl) (by kernel_rfl) rfl M143 (fun _ hS => x_move (v := Value.bool (!(decide ((posL (legsC la_) (⟨#[104, 111, 117, 115, 101]⟩ : ByteArray) o.p).1 = 0)))) (ev_tmp rfl rfl)) ?_
            have hg146 : (!(decide ((posL (legsC la_) (⟨#[104, 111, 117, 115, 101]⟩ : ByteArray) o.p).1 = 0))) = false := (by rw [(decide_eq_true (congrArg Prod.fst (house_flat hchk)))]; rfl)
            refine dTg (i := 7) (v := Value.int .i64 ((posL (legsC la_) (⟨#[104, 111, 117, 115, 101]⟩ : ByteArray) o.p).2)) rfl rfl rfl (congrArg Value.bool hg146) (by kernel_rfl) (by kernel_rfl) rfl M143 (fun _ hS => x_move (v := Value.int .i64 ((posL (legsC la_) (⟨#[104, 111, 117, 115, 101]⟩ : ByteArray) o.p).2)) (ev_tmp rfl rfl)) ?_
            refine dTg (i := 8) (v := Value.bool (!(decide ((posL (legsC la_) (⟨#[104, 111, 117, 115, 101]⟩ : ByteArray) o.p).2 = 0)))) rfl rfl rfl (congrArg Value.bool hg146) (by kernel_rfl) (by kernel_rfl) rfl M143 (fun _ hS => x_neq (p := ((posL (legsC la_) (⟨#[104, 111, 117, 115, 101]⟩ : ByteArray) o.p).2)) (q := 0) (ev_tmp rfl rfl) rfl) ?_
            refine dT (i := 9) (v := Value.bool (!(decide ((posL (legsC la_) (⟨#[104, 111, 117, 115, 101]⟩ : ByteArray) o.p).2 = 0)))) rfl (by kernel_rfl) (by kernel_rfl) rfl M143 (fun _ hS => x_pick_f (v := Value.bool (!(decide ((posL (legsC la_) (⟨#[104, 111, 117, 115, 101]⟩ : ByteArray) o.p).2 = 0)))) (ev_tmp rfl (congrArg Value.bool hg146)) (ev_tmp rfl rfl)) ?_
            refine dT (i := 10) (v := Value.bool (!(decide ((posL (legsC la_) (⟨#[104, 111, 117, 115, 101]⟩ : ByteArray) o.p).2 = 0)))) rfl (by kernel_rfl) (by kernel_rfl) rfl M143 (fun _ hS => x_move (v := Value.bool (!(decide ((posL (legsC la_) (⟨#[104, 111, 117, 115, 101]⟩ : ByteArray) o.p).2 = 0)))) (ev_tmp rfl rfl)) ?_
            have hg147 : (!(decide ((posL (legsC la_) (⟨#[104, 111, 117, 115, 101]⟩ : ByteArray) o.p).2 = 0))) = false := (by rw [(decide_eq_true (congrArg Prod.snd (house_flat hchk)))]; rfl)
            refine dTg (i := 11) (v := Value.agg #[Value.slice A0_ la_.length c0_]) rfl rfl rfl (congrArg Value.bool hg147) (by kernel_rfl) (by kernel_rfl) rfl M143 (fun _ hS => x_loadw (cs := [Value.slice A0_ la_.length c0_]) Try.underlying24 rfl sz_24 (ev_tmp rfl rfl) (hS.range (i := 0) rfl ⟨rfl, trivial⟩)) ?_
            refine dTg (i := 12) (v := Value.slice A os.length c) rfl rfl rfl (congrArg Value.bool hg147) (by kernel_rfl) (by kernel_rfl) rfl M143 (fun _ hS => x_move (v := Value.slice A os.length c) (ev_tmp rfl rfl)) ?_
            refine dTg (i := 13) (v := Value.int .i64 (k2 : Int)) rfl rfl rfl (congrArg Value.bool hg147) (by kernel_rfl) (by kernel_rfl) rfl M143 (fun _ hS => x_move (v := Value.int .i64 (k2 : Int)) (ev_tmp rfl rfl)) ?_
            refine dTg (i := 14) (v := Value.pointer (some ⟨g133, o134 + k2 * 8, none⟩)) rfl rfl rfl (congrArg Value.bool hg147) (by kernel_rfl) (by kernel_rfl) rfl M143 (fun _ hS => x_elemA (b := g133) (o := o134) (k := k2) ea_48 (ev_tmp rfl rfl) hA135 (ev_tmp rfl rfl) rfl (by omega)) ?_
            refine dTg (i := 15) (v := Value.pointer (some ⟨g133, o134 + k2 * 8 + 3, none⟩)) rfl rfl rfl (congrArg Value.bool hg147) (by kernel_rfl) (by kernel_rfl) rfl M143 (fun _ hS => x_fieldv (b := g133) (o := (o134 + k2 * 8)) (q := (o134 + k2 * 8 + 3)) fa_40_3 (ev_tmp rfl rfl) rfl) ?_
            refine dTg (i := 16) (v := Value.string o.b) rfl rfl rfl (congrArg Value.bool hg147) (by kernel_rfl) (by kernel_rfl) rfl M143 (fun _ hS => x_load1 (v := Value.string o.b) Try.underlying9 rfl (ev_tmp rfl rfl) (hS.rocell (i := 1) rfl hA135 ho (j := 3) rfl)) ?_
            refine dTg (i := 17) (v := Value.slice A os.length c) rfl rfl rfl (congrArg Value.bool hg147) (by kernel_rfl) (by kernel_rfl) rfl M143 (fun _ hS => x_move (v := Value.slice A os.length c) (ev_tmp rfl rfl)) ?_
            refine dTg (i := 18) (v := Value.int .i64 (k2 : Int)) rfl rfl rfl (congrArg Value.bool hg147) (by kernel_rfl) (by kernel_rfl) rfl M143 (fun _ hS => x_move (v := Value.int .i64 (k2 : Int)) (ev_tmp rfl rfl)) ?_
            refine dTg (i := 19) (v := Value.pointer (some ⟨g133, o134 + k2 * 8, none⟩)) rfl rfl rfl (congrArg Value.bool hg147) (by kernel_rfl) (by kernel_rfl) rfl M143 (fun _ hS => x_elemA (b := g133) (o := o134) (k := k2) ea_48 (ev_tmp rfl rfl) hA135 (ev_tmp rfl rfl) rfl (by omega)) ?_
            refine dTg (i := 20) (v := Value.pointer (some ⟨g133, o134 + k2 * 8 + 5, none⟩)) rfl rfl rfl (congrArg Value.bool hg147) (by kernel_rfl) (by kernel_rfl) rfl M143 (fun _ hS => x_fieldv (b := g133) (o := (o134 + k2 * 8)) (q := (o134 + k2 * 8 + 5)) fa_40_5 (ev_tmp rfl rfl) rfl) ?_
            refine dTg (i := 21) (v := Value.string o.p) rfl rfl rfl (congrArg Value.bool hg147) (by kernel_rfl) (by kernel_rfl) rfl M143 (fun _ hS => x_load1 (v := Value.string o.p) Try.underlying9 rfl (ev_tmp rfl rfl) (hS.rocell (i := 1) rfl hA135 ho (j := 5) rfl)) ?_
            refine dA (rs := [22]) (by kernel_rfl) rfl ?_
            refine dC ?_ ?_
            · refine dsCg (i := 22) rfl rfl rfl (congrArg Value.bool hg147) rfl (x_callL (xs := [.tmp 70, .tmp 75, .tmp 80]) (vs := [Value.agg #[Value.slice A0_ la_.length c0_], Value.string o.b, Value.string o.p]) (cap := []) ent_31 rfl ⟨(ev_tmp rfl rfl), (ev_tmp rfl rfl), (ev_tmp rfl rfl), trivial⟩) (agrees_c _ _ la_ o.b o.p _ (M143.slw (i := 0) rfl) hchk) ?_
              rintro _ w148 ⟨rfl, hb150⟩
              refine ⟨_, rfl, ?_⟩
              have M149 := M143.call hb150
              refine ⟨M149, ?_⟩
              refine dTg (i := 23) (v := Value.bool false) rfl rfl rfl (congrArg Value.bool hg147) (by kernel_rfl) (by kernel_rfl) rfl M149 (fun _ hS => x_not (b := true) (ev_tmp rfl rfl)) ?_
              refine dT (i := 24) (v := Value.bool false) rfl (by kernel_rfl) (by kernel_rfl) rfl M149 (fun _ hS => x_pick_f (v := Value.bool false) (ev_tmp rfl (congrArg Value.bool hg147)) (ev_tmp rfl rfl)) ?_
              refine dT (i := 25) (v := Value.bool false) rfl (by kernel_rfl) (by kernel_rfl) rfl M149 (fun _ hS => x_move (v := Value.bool false) (ev_tmp rfl rfl)) ?_
              refine dTg (i := 26) (v := Value.agg #[Value.slice A0_ la_.length c0_]) rfl rfl rfl rfl (by kernel_rfl) (by kernel_rfl) rfl M149 (fun _ hS => x_loadw (cs := [Value.slice A0_ la_.length c0_]) Try.underlying24 rfl sz_24 (ev_tmp rfl rfl) (hS.range (i := 0) rfl ⟨rfl, trivial⟩)) ?_
              refine dTg (i := 27) (v := Value.slice A os.length c) rfl rfl rfl rfl (by kernel_rfl) (by kernel_rfl) rfl M149 (fun _ hS => x_move (v := Value.slice A os.length c) (ev_tmp rfl rfl)) ?_
              refine dTg (i := 28) (v := Value.int .i64 (k2 : Int)) rfl rfl rfl rfl (by kernel_rfl) (by kernel_rfl) rfl M149 (fun _ hS => x_move (v := Value.int .i64 (k2 : Int)) (ev_tmp rfl rfl)) ?_
              refine dTg (i := 29) (v := Value.pointer (some ⟨g133, o134 + k2 * 8, none⟩)) rfl rfl rfl rfl (by kernel_rfl) (by kernel_rfl) rfl M149 (fun _ hS => x_elemA (b := g133) (o := o134) (k := k2) ea_48 (ev_tmp rfl rfl) hA135 (ev_tmp rfl rfl) rfl (by omega)) ?_
              refine dTg (i := 30) (v := Value.pointer (some ⟨g133, o134 + k2 * 8 + 4, none⟩)) rfl rfl rfl rfl (by kernel_rfl) (by kernel_rfl) rfl M149 (fun _ hS => x_fieldv (b := g133) (o := (o134 + k2 * 8)) (q := (o134 + k2 * 8 + 4)) fa_40_4 (ev_tmp rfl rfl) rfl) ?_
              refine dTg (i := 31) (v := Value.string o.s) rfl rfl rfl rfl (by kernel_rfl) (by kernel_rfl) rfl M149 (fun _ hS => x_load1 (v := Value.string o.s) Try.underlying9 rfl (ev_tmp rfl rfl) (hS.rocell (i := 1) rfl hA135 ho (j := 4) rfl)) ?_
              refine dTg (i := 32) (v := Value.slice A os.length c) rfl rfl rfl rfl (by kernel_rfl) (by kernel_rfl) rfl M149 (fun _ hS => x_move (v := Value.slice A os.length c) (ev_tmp rfl rfl)) ?_
              refine dTg (i := 33) (v := Value.int .i64 (k2 : Int)) rfl rfl rfl rfl (by kernel_rfl) (by kernel_rfl) rfl M149 (fun _ hS => x_move (v := Value.int .i64 (k2 : Int)) (ev_tmp rfl rfl)) ?_
              refine dTg (i := 34) (v := Value.pointer (some ⟨g133, o134 + k2 * 8, none⟩)) rfl rfl rfl rfl (by kernel_rfl) (by kernel_rfl) rfl M149 (fun _ hS => x_elemA (b := g133) (o := o134) (k := k2) ea_48 (ev_tmp rfl rfl) hA135 (ev_tmp rfl rfl) rfl (by omega)) ?_
              refine dTg (i := 35) (v := Value.pointer (some ⟨g133, o134 + k2 * 8 + 5, none⟩)) rfl rfl rfl rfl (by kernel_rfl) (by kernel_rfl) rfl M149 (fun _ hS => x_fieldv (b := g133) (o := (o134 + k2 * 8)) (q := (o134 + k2 * 8 + 5)) fa_40_5 (ev_tmp rfl rfl) rfl) ?_
              refine dTg (i := 36) (v := Value.string o.p) rfl rfl rfl rfl (by kernel_rfl) (by kernel_rfl) rfl M149 (fun _ hS => x_load1 (v := Value.string o.p) Try.underlying9 rfl (ev_tmp rfl rfl) (hS.rocell (i := 1) rfl hA135 ho (j := 5) rfl)) ?_
              refine dA (rs := [37]) (by kernel_rfl) rfl ?_
              refine dC ?_ ?_
              · refine dsCg (i := 37) rfl rfl rfl rfl rfl (x_callL (xs := [.tmp 85, .tmp 90, .tmp 95]) (vs := [Value.agg #[Value.slice A0_ la_.length c0_], Value.string o.s, Value.string o.p]) (cap := []) ent_31 rfl ⟨(ev_tmp rfl rfl), (ev_tmp rfl rfl), (ev_tmp rfl rfl), trivial⟩) (agrees_c _ _ la_ o.s o.p _ (M149.slw (i := 0) rfl) hchk) ?_
                rintro _ w151 ⟨rfl, hb153⟩
                refine ⟨_, rfl, ?_⟩
                have M152 := M149.call hb153
                refine ⟨M152, ?_⟩
                refine dTg (i := 38) (v := Value.bool false) rfl rfl rfl rfl (by kernel_rfl) (by kernel_rfl) rfl M152 (fun _ hS => x_not (b := true) (ev_tmp rfl rfl)) ?_
                refine dT (i := 39) (v := Value.bool false) rfl (by kernel_rfl) (by kernel_rfl) rfl M152 (fun _ hS => x_pick_f (v := Value.bool false) (ev_tmp rfl rfl) (ev_tmp rfl rfl)) ?_
                refine dE (by kernel_rfl) ?_
                refine hK142 _ _ ?_
                refine c_cond_f (ev_tmp rfl rfl) ?_
                refine c_skip ?_
                refine hK128 _ _ ?_
                refine c_reg ?_
                refine st rfl (x_move (v := Value.int .i64 (k2 : Int)) (ev_tmp rfl rfl)) ?_
                have hw155 : IntKind.i64.wrap ((k2 : Int) + 1) = (k2 : Int) + 1 := w64 (by rfl) (by omega) (by omega)
                refine st rfl (x_add_eq (p := (k2 : Int)) (q := 1) (ev_tmp rfl rfl) rfl hw155) ?_
                refine st rfl (x_assign (v := Value.int .i64 ((k2 : Int) + 1)) (ev_tmp rfl rfl)) ?_
                refine s_nil ?_
                exact ⟨_, _, (by omega : os.length - (k2 + 1) < os.length - k2), fr_held (live := [(0, Value.slice A os.length c), (3, Value.bool true), (4, Value.pointer (some ⟨b32, 0, none⟩)), (9, Value.int .i64 (((k2 + 1) : Nat) : Int))]) ⟨rfl, rfl, rfl, (congrArg (Value.int .i64) (by omega)), trivial⟩, (k2 + 1), _, rfl, rfl, M152, (by omega)⟩
              exact dN
            exact dN
          exact dN
        · have h156 : ¬ ((k2 : Int) < (os.length : Int)) := of_decide_eq_false h125
          refine c_exit ?_
          refine xb_here ?_
          refine hK115 _ _ ?_
          refine c_seq fun K157 hK158 => ?_
          refine c_reg ?_
          refine st rfl (x_move (v := Value.bool true) (ev_tmp rfl rfl)) ?_
          refine st rfl (x_assign (v := Value.bool true) (ev_tmp rfl rfl)) ?_
          refine s_nil ?_
          refine hK158 _ _ ?_
          refine c_ret ?_
          refine hT3 _ _ ?_
          refine r1 rfl (ev_tmp (v := Value.bool true) rfl rfl) ?_
          exact ⟨rfl, M120.below⟩
  clear hK17
  rcases bcase (decide ((300 : Int) < (os.length : Int))) with hg19 | hg19
  · have h20 : ¬ ((300 : Int) < (os.length : Int)) := of_decide_eq_false hg19
    refine gt rfl rfl rfl (congrArg Value.bool hg19) (x_move (v := Value.bool true) (ev_tmp rfl rfl)) ?_
    refine gt rfl rfl rfl (congrArg Value.bool hg19) (x_not (b := true) (ev_tmp rfl rfl)) ?_
    refine st rfl (x_pick_f (v := Value.bool false) (ev_tmp rfl (congrArg Value.bool hg19)) (ev_tmp rfl rfl)) ?_
    refine s_nil ?_
    exact j_to J18 ⟨(congrArg Value.bool (or_f hg19)), rfl, rfl, rfl, rfl, trivial⟩
  · refine gf (b' := true) rfl rfl rfl (congrArg Value.bool hg19) rfl ?_
    refine gf (b' := true) rfl rfl rfl (congrArg Value.bool hg19) rfl ?_
    refine st rfl (x_pick_t (v := Value.bool true) (ev_tmp rfl (congrArg Value.bool hg19)) rfl) ?_
    refine s_nil ?_
    exact j_to J18 ⟨(congrArg Value.bool (or_t hg19)), rfl, rfl, rfl, rfl, trivial⟩

end Go.Proofs.Ytkimdlpfbojkgaa
