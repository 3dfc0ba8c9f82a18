/- Contracts: the legs of a book. -/
import Derived.Test.YtkimdlpfbojkgaaH
namespace Go.Proofs.Ytkimdlpfbojkgaa
open Go.RowKit
def house : ByteArray := ⟨#[104, 111, 117, 115, 101]⟩
def legs1 (k : Nat) (t : Trade) : List Leg := [⟨(k : Int) + 1, t.b, house, t.p, t.q, t.r⟩, ⟨(k : Int) + 1, house, t.s, t.p, t.q, t.r⟩]
/-- The legs of a list of trades, and those of a book (none if it is not valid). -/
def legs (l : List Trade) : List Leg := l.zipIdx.flatMap fun x => if x.1.st = 1 then legs1 x.2 x.1 else []
def legsC (l : List Trade) : List Leg := if checkB l then legs l else []
theorem legs_snoc {l : List Trade} {k : Nat} {x : Trade} (hx : l[k]? = some x) : legs (l.take (k + 1)) = legs (l.take k) ++ (if x.st = 1 then legs1 k x else []) := by
  have hk := (List.getElem?_eq_some_iff.1 hx).1
  rw [take_at hx]
  unfold legs
  rw [List.zipIdx_append, List.flatMap_append]
  have : (l.take k).length = k := by rw [List.length_take]; omega
  simp [this]
theorem legs_no {l : List Trade} {k : Nat} {x : Trade} (hx : l[k]? = some x) (h : ¬ x.st = 1) : legs (l.take (k + 1)) = legs (l.take k) := by rw [legs_snoc hx, if_neg h, List.append_nil]
theorem legs_yes {l : List Trade} {k : Nat} {x : Trade} (hx : l[k]? = some x) (h : x.st = 1) : legs (l.take (k + 1)) = legs (l.take k) ++ legs1 k x := by rw [legs_snoc hx, if_pos h]
theorem legsC_no {l : List Trade} (h : ¬ chk l = 0) : legsC l = [] := by
  unfold legsC
  rw [if_neg]
  intro hc; apply h; unfold chk; rw [if_pos hc]
theorem legsC_yes {l : List Trade} (h : chk l = 0) (k : Nat) (hk : l.length ≤ k) : legs (l.take k) = legsC l := by
  unfold legsC
  rw [if_pos (chk_ok h), List.take_of_length_le hk]
set_option maxHeartbeats 1000000 in
set_option maxRecDepth 20000 in
theorem legs_c (A : Option Addr) (c : Nat) (l : List Trade) (w : World) (hs : SlB 0 w.heap.size w A c 8 Trade.cells l) :
    Calls Try.prog 12 #[Value.agg #[Value.slice A l.length c]] w fun e w' => ∃ A' c', e = .returned (.tuple #[.slice A' (legsC l).length c', .int .i64 (chk l)]) ∧ Below w.heap.size w w' ∧ SlB w.heap.size w'.heap.size w' A' c' 6 Leg.cells (legsC l) := by
  have M0 := Mem.start w []
  have M1 := M0.see (Ro.sl 0 w.heap.size A c 8 Trade.cells l) (hs) (Nat.le_refl _)
  refine enter (args := [Value.agg #[Value.slice A l.length c]]) Try.func12 rfl (n := 49) rfl rfl fun T2 hT3 => ?_
  refine c_seq fun K4 hK5 => ?_
  refine c_reg ?_
  refine snew (cs := #[Value.slice A l.length c]) M1 rfl (x_box (v := Value.agg #[Value.slice A l.length c]) (ev_tmp rfl rfl)) fun b6 w7 M8 => ?_
  refine st rfl (x_assign (v := Value.slice none 0 0) rfl) ?_
  refine st rfl (x_assign (v := Value.int .i64 0) rfl) ?_
  refine s_nil ?_
  refine hK5 _ _ ?_
  refine c_seq fun K9 hK10 => ?_
  refine c_seq fun K11 hK12 => ?_
  refine c_reg ?_
  refine st rfl (x_loadw (cs := [Value.slice A l.length c]) Try.underlying24 rfl sz_24 (ev_tmp rfl rfl) (M8.range (i := 0) rfl ⟨rfl, trivial⟩)) ?_
  refine sC rfl (x_callL (xs := [.tmp 10]) (vs := [Value.agg #[Value.slice A l.length c]]) (cap := []) ent_13 rfl ⟨(ev_tmp rfl rfl), trivial⟩) (check_c _ _ l _ (M8.slw (i := 0) rfl)) ?_
  rintro _ w13 ⟨rfl, hb15⟩
  refine ⟨_, rfl, ?_⟩
  have M14 := M8.call hb15
  refine st rfl (x_assign (v := Value.int .i64 (chk l)) (ev_tmp rfl rfl)) ?_
  refine s_nil ?_
  refine hK12 _ _ ?_
  refine c_seq fun K16 hK17 => ?_
  refine c_reg ?_
  refine st rfl (x_move (v := Value.int .i64 (chk l)) (ev_tmp rfl rfl)) ?_
  refine st rfl (x_neq (p := (chk l)) (q := 0) (ev_tmp rfl rfl) rfl) ?_
  refine s_nil ?_
  refine hK17 _ _ ?_
  refine c_cond (b := !(decide (chk l = 0))) (ev_tmp rfl rfl) (fun h18 => ?_) (fun h18 => ?_)
  · have h19 : ¬ (chk l = 0) := of_decide_eq_false (not_t h18)
    refine c_seq fun K20 hK21 => ?_
    refine c_reg ?_
    refine st rfl (x_move (v := Value.int .i64 (chk l)) (ev_tmp rfl rfl)) ?_
    refine st rfl (x_assign (v := Value.slice none 0 0) rfl) ?_
    refine st rfl (x_assign (v := Value.int .i64 (chk l)) (ev_tmp rfl rfl)) ?_
    refine s_nil ?_
    refine hK21 _ _ ?_
    refine c_ret ?_
    refine hT3 _ _ ?_
    refine r2 rfl (ev_tmp (v := Value.slice none 0 0) rfl rfl) (ev_tmp (v := Value.int .i64 (chk l)) rfl rfl) ?_
    rw [legsC_no (of_decide_eq_false (not_t h18))]
    exact ⟨none, 0, rfl, M14.below, SlB.nil _ _ _ _ _⟩
  · have h22 : chk l = 0 := of_decide_eq_true (not_f h18)
    have h0 : chk l = 0 := of_decide_eq_true (not_f h18)
    have hl200 := chk_len h0
    refine c_skip ?_
    refine hK10 _ _ ?_
    refine c_seq fun K23 hK24 => ?_
    refine c_reg ?_
    refine st rfl (x_assign (v := Value.slice none 0 0) rfl) ?_
    refine s_nil ?_
    refine hK24 _ _ ?_
    refine c_seq fun K25 hK26 => ?_
    refine c_seq fun K27 hK28 => ?_
    refine c_reg ?_
    refine st rfl (x_fieldv (b := b6) (o := 0) (q := 0) fa_24_0 (ev_tmp rfl rfl) rfl) ?_
    refine st rfl (x_load1 (v := Value.slice A l.length c) Try.underlying22 rfl (ev_tmp rfl rfl) (M14.cell (i := 0) (o := 0) rfl rfl)) ?_
    refine st rfl (x_lensl (n := l.length) Try.underlying22 (ev_tmp rfl rfl)) ?_
    refine st rfl (x_move (v := Value.int .i64 0) rfl) ?_
    refine s_nil ?_
    refine hK28 _ _ ?_
    refine c_block ?_
    have M29 := M14.nilRow 32 6
    refine c_loopH (live := [(2, Value.slice none 0 0), (3, Value.int .i64 0), (5, Value.slice none ((legs (l.take 0)).length) 0), (16, Value.slice A l.length c), (17, Value.int .i64 (l.length : Int)), (18, Value.int .i64 0)]) ⟨rfl, rfl, rfl, rfl, rfl, rfl, trivial⟩ (fun mm ll w1 => ∃ (k : Nat) (A2 : Option Addr) (c2 : Nat) (jk : List (Nat × Value)), mm = l.length - k ∧ ll = [(2, Value.slice none 0 0), (3, Value.int .i64 0), (5, Value.slice A2 ((legs (l.take k)).length) c2), (16, Value.slice A l.length c), (17, Value.int .i64 (l.length : Int)), (18, Value.int .i64 (k : Int))] ++ jk ∧ Mem w [] w1 [Own.row 32 6 (Value.slice A2 ((legs (l.take k)).length) c2) ((legs (l.take k)).length) ((legs (l.take k)).flatMap Leg.cells), Own.cells b6 24 #[Value.slice A l.length c]] [Ro.sl 0 w.heap.size A c 8 Trade.cells l] ∧ (k ≤ l.length) ∧ ((legs (l.take k)).length ≤ 2 * k)) ⟨0, none, 0, _, rfl, rfl, M29, (by omega), (by simp [legs])⟩ fun mm ll w1 hI30 => ?_
    obtain ⟨k, A2, c2, jk, rfl, rfl, M32, hk, hll⟩ := hI30
    obtain ⟨w31, rfl⟩ : ∃ x, x = w1 := ⟨_, rfl⟩
    refine c_seq fun K33 hK34 => ?_
    refine c_reg ?_
    refine st rfl (x_lss (p := (k : Int)) (q := (l.length : Int)) (ev_tmp rfl rfl) (ev_tmp rfl rfl)) ?_
    refine s_nil ?_
    refine hK34 _ _ ?_
    refine c_seq fun K35 hK36 => ?_
    refine c_cond (b := decide ((k : Int) < (l.length : Int))) (ev_tmp rfl rfl) (fun h37 => ?_) (fun h37 => ?_)
    · have h38 : (k : Int) < (l.length : Int) := of_decide_eq_true h37
      obtain ⟨x, hx⟩ : ∃ x, l[k]? = some x := ⟨_, List.getElem?_eq_getElem (by omega)⟩
      refine c_skip ?_
      refine hK36 _ _ ?_
      refine c_seq fun K39 hK40 => ?_
      refine c_block ?_
      refine c_seq fun K41 hK42 => ?_
      refine c_reg ?_
      refine st rfl (x_move (v := Value.int .i64 (k : Int)) (ev_tmp rfl rfl)) ?_
      obtain ⟨g43, o44, hA45⟩ := M32.roat (i := 0) rfl hx
      refine st rfl (x_elemA (b := g43) (o := o44) (k := k) ea_22 (ev_tmp rfl rfl) hA45 (ev_tmp rfl rfl) rfl (by omega)) ?_
      refine st rfl (x_loadw (cs := [Value.string x.b, Value.string x.s, Value.string x.p, Value.int .i64 x.q, Value.int .i64 x.r, Value.bool x.bo, Value.bool x.so, Value.int .u8 x.st]) Try.underlying34 rfl sz_34 (ev_tmp rfl rfl) (M32.rorange (i := 0) rfl hA45 hx (f := 0) ⟨rfl, rfl, rfl, rfl, rfl, rfl, rfl, rfl, trivial⟩)) ?_
      refine snew (cs := #[Value.string ByteArray.empty, Value.string ByteArray.empty, Value.string ByteArray.empty, Value.int .i64 0, Value.int .i64 0, Value.bool false, Value.bool false, Value.int .u8 0]) M32 rfl (x_allocz z_34) fun b48 w49 M50 => ?_
      refine st rfl (x_assign (v := Value.int .i64 (k : Int)) (ev_tmp rfl rfl)) ?_
      refine sset (i := 0) (L' := [Own.cells b48 34 #[Value.string x.b, Value.string x.s, Value.string x.p, Value.int .i64 x.q, Value.int .i64 x.r, Value.bool x.bo, Value.bool x.so, Value.int .u8 x.st], Own.row 32 6 (Value.slice A2 ((legs (l.take k)).length) c2) ((legs (l.take k)).length) ((legs (l.take k)).flatMap Leg.cells), Own.cells b6 24 #[Value.slice A l.length c]]) M50 rfl rfl (x_storew (cs := [Value.string x.b, Value.string x.s, Value.string x.p, Value.int .i64 x.q, Value.int .i64 x.r, Value.bool x.bo, Value.bool x.so, Value.int .u8 x.st]) sz_34 (ev_tmp rfl rfl) (ev_tmp rfl rfl) (M50.cells_at (i := 0) rfl) rfl ⟨rfl, rfl, rfl, rfl, rfl, rfl, rfl, rfl, trivial⟩) fun w51 M52 => ?_
      refine s_nil ?_
      refine hK42 _ _ ?_
      refine c_seq fun K53 hK54 => ?_
      refine c_seq fun K55 hK56 => ?_
      refine c_reg ?_
      refine st rfl (x_fieldv (b := b48) (o := 0) (q := 7) fa_34_7 (ev_tmp rfl rfl) rfl) ?_
      refine st rfl (x_load1 (v := Value.int .u8 x.st) Try.underlying5 rfl (ev_tmp rfl rfl) (M52.cell (i := 0) (o := 7) rfl rfl)) ?_
      refine st rfl (x_neq (p := x.st) (q := 1) (ev_tmp rfl rfl) rfl) ?_
      refine s_nil ?_
      refine hK56 _ _ ?_
      refine c_cond (b := !(decide (x.st = 1))) (ev_tmp rfl rfl) (fun h57 => ?_) (fun h57 => ?_)
      · have h58 : ¬ (x.st = 1) := of_decide_eq_false (not_t h57)
        refine c_exit ?_
        refine xb_here ?_
        refine hK40 _ _ ?_
        refine c_reg ?_
        have hw59 : IntKind.i64.wrap ((k : Int) + 1) = (k : Int) + 1 := w64 (by rfl) (by omega) (by omega)
        refine st rfl (x_add_eq (p := (k : Int)) (q := 1) (ev_tmp rfl rfl) rfl hw59) ?_
        refine st rfl (x_move (v := Value.int .i64 ((k : Int) + 1)) (ev_tmp rfl rfl)) ?_
        refine s_nil ?_
        have hleg : legs (l.take (k + 1)) = legs (l.take k) := legs_no hx (of_decide_eq_false (not_t h57))
        have M60 := M52.rerow (i := 1) rfl (n' := (legs (l.take (k + 1))).length) (xs' := (legs (l.take (k + 1))).flatMap Leg.cells) (by rw [hleg]) (by rw [hleg])
        exact ⟨_, _, (by omega : l.length - (k + 1) < l.length - k), fr_held (live := [(2, Value.slice none 0 0), (3, Value.int .i64 0), (5, Value.slice A2 ((legs (l.take (k + 1))).length) c2), (16, Value.slice A l.length c), (17, Value.int .i64 (l.length : Int)), (18, Value.int .i64 (((k + 1) : Nat) : Int))]) ⟨rfl, rfl, (congrArg (fun n => Value.slice A2 n c2) (by rw [hleg])), rfl, rfl, (congrArg (Value.int .i64) (by omega)), trivial⟩, (k + 1), A2, c2, _, rfl, rfl, (M60.dropL 1), (by omega), (by rw [hleg]; omega)⟩
      · have h61 : x.st = 1 := of_decide_eq_true (not_f h57)
        refine c_skip ?_
        refine hK54 _ _ ?_
        refine c_seq fun K62 hK63 => ?_
        refine c_reg ?_
        refine st rfl (x_move (v := Value.int .i64 (k : Int)) (ev_tmp rfl rfl)) ?_
        have hw64 : IntKind.i64.wrap ((k : Int) + 1) = (k : Int) + 1 := w64 (by rfl) (by omega) (by omega)
        refine st rfl (x_add_eq (p := (k : Int)) (q := 1) (ev_tmp rfl rfl) rfl hw64) ?_
        refine st rfl (x_fieldv (b := b48) (o := 0) (q := 0) fa_34_0 (ev_tmp rfl rfl) rfl) ?_
        refine st rfl (x_load1 (v := Value.string x.b) Try.underlying9 rfl (ev_tmp rfl rfl) (M52.cell (i := 0) (o := 0) rfl rfl)) ?_
        refine st rfl (x_fieldv (b := b48) (o := 0) (q := 2) fa_34_2 (ev_tmp rfl rfl) rfl) ?_
        refine st rfl (x_load1 (v := Value.string x.p) Try.underlying9 rfl (ev_tmp rfl rfl) (M52.cell (i := 0) (o := 2) rfl rfl)) ?_
        refine st rfl (x_fieldv (b := b48) (o := 0) (q := 3) fa_34_3 (ev_tmp rfl rfl) rfl) ?_
        refine st rfl (x_load1 (v := Value.int .i64 x.q) Try.underlying3 rfl (ev_tmp rfl rfl) (M52.cell (i := 0) (o := 3) rfl rfl)) ?_
        refine st rfl (x_fieldv (b := b48) (o := 0) (q := 4) fa_34_4 (ev_tmp rfl rfl) rfl) ?_
        refine st rfl (x_load1 (v := Value.int .i64 x.r) Try.underlying3 rfl (ev_tmp rfl rfl) (M52.cell (i := 0) (o := 4) rfl rfl)) ?_
        refine st rfl (x_buildL (ps := [(0, .tmp 27), (1, .tmp 29), (2, .const (Value.string (⟨#[104, 111, 117, 115, 101]⟩ : ByteArray))), (3, .tmp 31), (4, .tmp 33), (5, .tmp 35)]) (vs := [(0, Value.int .i64 ((k : Int) + 1)), (1, Value.string x.b), (2, Value.string (⟨#[104, 111, 117, 115, 101]⟩ : ByteArray)), (3, Value.string x.p), (4, Value.int .i64 x.q), (5, Value.int .i64 x.r)]) (cs := #[Value.int .i64 ((k : Int) + 1), Value.string x.b, Value.string (⟨#[104, 111, 117, 115, 101]⟩ : ByteArray), Value.string x.p, Value.int .i64 x.q, Value.int .i64 x.r]) ⟨⟨rfl, (ev_tmp rfl rfl)⟩, ⟨rfl, (ev_tmp rfl rfl)⟩, ⟨rfl, rfl⟩, ⟨rfl, (ev_tmp rfl rfl)⟩, ⟨rfl, (ev_tmp rfl rfl)⟩, ⟨rfl, (ev_tmp rfl rfl)⟩, trivial⟩ (by kernel_rfl)) ?_
        refine snew (cs := #[Value.int .i64 0, Value.string ByteArray.empty, Value.string ByteArray.empty, Value.string ByteArray.empty, Value.int .i64 0, Value.int .i64 0]) M52 rfl (x_allocz z_32) fun b65 w66 M67 => ?_
        refine sset (i := 0) (L' := [Own.cells b65 32 #[Value.int .i64 ((k : Int) + 1), Value.string x.b, Value.string (⟨#[104, 111, 117, 115, 101]⟩ : ByteArray), Value.string x.p, Value.int .i64 x.q, Value.int .i64 x.r], Own.cells b48 34 #[Value.string x.b, Value.string x.s, Value.string x.p, Value.int .i64 x.q, Value.int .i64 x.r, Value.bool x.bo, Value.bool x.so, Value.int .u8 x.st], Own.row 32 6 (Value.slice A2 ((legs (l.take k)).length) c2) ((legs (l.take k)).length) ((legs (l.take k)).flatMap Leg.cells), Own.cells b6 24 #[Value.slice A l.length c]]) M67 rfl rfl (x_storew (cs := [Value.int .i64 ((k : Int) + 1), Value.string x.b, Value.string (⟨#[104, 111, 117, 115, 101]⟩ : ByteArray), Value.string x.p, Value.int .i64 x.q, Value.int .i64 x.r]) sz_32 (ev_tmp rfl rfl) (ev_tmp rfl rfl) (M67.cells_at (i := 0) rfl) rfl ⟨rfl, rfl, rfl, rfl, rfl, rfl, trivial⟩) fun w68 M69 => ?_
        refine s_nil ?_
        refine hK63 _ _ ?_
        refine c_seq fun K70 hK71 => ?_
        refine c_reg ?_
        refine st rfl (x_loadw (cs := [Value.int .i64 ((k : Int) + 1), Value.string x.b, Value.string (⟨#[104, 111, 117, 115, 101]⟩ : ByteArray), Value.string x.p, Value.int .i64 x.q, Value.int .i64 x.r]) Try.underlying32 rfl sz_32 (ev_tmp rfl rfl) (M69.range (i := 0) rfl ⟨rfl, rfl, rfl, rfl, rfl, rfl, trivial⟩)) ?_
        refine snew (cs := #[Value.int .i64 0, Value.string ByteArray.empty, Value.string ByteArray.empty, Value.string ByteArray.empty, Value.int .i64 0, Value.int .i64 0]) M69 rfl (x_allocz z_32) fun b72 w73 M74 => ?_
        refine sset (i := 0) (L' := [Own.cells b72 32 #[Value.int .i64 ((k : Int) + 1), Value.string x.b, Value.string (⟨#[104, 111, 117, 115, 101]⟩ : ByteArray), Value.string x.p, Value.int .i64 x.q, Value.int .i64 x.r], Own.cells b65 32 #[Value.int .i64 ((k : Int) + 1), Value.string x.b, Value.string (⟨#[104, 111, 117, 115, 101]⟩ : ByteArray), Value.string x.p, Value.int .i64 x.q, Value.int .i64 x.r], Own.cells b48 34 #[Value.string x.b, Value.string x.s, Value.string x.p, Value.int .i64 x.q, Value.int .i64 x.r, Value.bool x.bo, Value.bool x.so, Value.int .u8 x.st], Own.row 32 6 (Value.slice A2 ((legs (l.take k)).length) c2) ((legs (l.take k)).length) ((legs (l.take k)).flatMap Leg.cells), Own.cells b6 24 #[Value.slice A l.length c]]) M74 rfl rfl (x_storew (cs := [Value.int .i64 ((k : Int) + 1), Value.string x.b, Value.string (⟨#[104, 111, 117, 115, 101]⟩ : ByteArray), Value.string x.p, Value.int .i64 x.q, Value.int .i64 x.r]) sz_32 (ev_tmp rfl rfl) (ev_tmp rfl rfl) (M74.cells_at (i := 0) rfl) rfl ⟨rfl, rfl, rfl, rfl, rfl, rfl, trivial⟩) fun w75 M76 => ?_
        refine s_nil ?_
        refine hK71 _ _ ?_
        refine c_seq fun K77 hK78 => ?_
        have M79 := M76.drew
        refine c_drawn (fun w1 => Mem w [] w1 [Own.cells b65 32 #[Value.int .i64 ((k : Int) + 1), Value.string x.b, Value.string (⟨#[104, 111, 117, 115, 101]⟩ : ByteArray), Value.string x.p, Value.int .i64 x.q, Value.int .i64 x.r], Own.cells b48 34 #[Value.string x.b, Value.string x.s, Value.string x.p, Value.int .i64 x.q, Value.int .i64 x.r, Value.bool x.bo, Value.bool x.so, Value.int .u8 x.st], Own.row 32 6 (Value.slice A2 ((legs (l.take k)).length) c2) ((legs (l.take k)).length) ((legs (l.take k)).flatMap Leg.cells), Own.cells b6 24 #[Value.slice A l.length c]] [Ro.sl 0 w.heap.size A c 8 Trade.cells l]) mixed ?_
        generalize w75.drew = w80 at M79 ⊢
        refine dT (i := 0) (v := Value.pointer (some ⟨b48, 1, none⟩)) rfl (by kernel_rfl) (by kernel_rfl) rfl (M79.dropL 1) (fun _ hS => x_fieldv (b := b48) (o := 0) (q := 1) fa_34_1 (ev_tmp rfl rfl) rfl) ?_
        refine dT (i := 1) (v := Value.string x.s) rfl (by kernel_rfl) (by kernel_rfl) rfl (M79.dropL 1) (fun _ hS => x_load1 (v := Value.string x.s) Try.underlying9 rfl (ev_tmp rfl rfl) (hS.cell (i := 1) (o := 1) rfl rfl)) ?_
        refine dT (i := 2) (v := Value.pointer (some ⟨b72, 1, none⟩)) rfl (by kernel_rfl) (by kernel_rfl) rfl (M79.dropL 1) (fun _ hS => x_fieldv (b := b72) (o := 0) (q := 1) fa_32_1 (ev_tmp rfl rfl) rfl) ?_
        refine dA (rs := [3]) (by kernel_rfl) rfl ?_
        refine dC ?_ ?_
        · refine dset1 (o := 1) (v := Value.string (⟨#[104, 111, 117, 115, 101]⟩ : ByteArray)) (i := 3) (k := 0) (L' := [Own.cells b72 32 #[Value.int .i64 ((k : Int) + 1), Value.string (⟨#[104, 111, 117, 115, 101]⟩ : ByteArray), Value.string (⟨#[104, 111, 117, 115, 101]⟩ : ByteArray), Value.string x.p, Value.int .i64 x.q, Value.int .i64 x.r], Own.cells b65 32 #[Value.int .i64 ((k : Int) + 1), Value.string x.b, Value.string (⟨#[104, 111, 117, 115, 101]⟩ : ByteArray), Value.string x.p, Value.int .i64 x.q, Value.int .i64 x.r], Own.cells b48 34 #[Value.string x.b, Value.string x.s, Value.string x.p, Value.int .i64 x.q, Value.int .i64 x.r, Value.bool x.bo, Value.bool x.so, Value.int .u8 x.st], Own.row 32 6 (Value.slice A2 ((legs (l.take k)).length) c2) ((legs (l.take k)).length) ((legs (l.take k)).flatMap Leg.cells), Own.cells b6 24 #[Value.slice A l.length c]]) M79 rfl rfl rfl (x_store1 (v := Value.string (⟨#[104, 111, 117, 115, 101]⟩ : ByteArray)) sz_9 rfl rfl (ev_tmp rfl rfl) rfl (M79.cell (i := 0) (o := 1) rfl rfl) (M79.free (i := 0) rfl)) fun w81 M82 => ?_
          refine ⟨(M82.dropL 1), ?_⟩
          refine dT (i := 4) (v := Value.pointer (some ⟨b72, 2, none⟩)) rfl (by kernel_rfl) (by kernel_rfl) rfl (M82.dropL 1) (fun _ hS => x_fieldv (b := b72) (o := 0) (q := 2) fa_32_2 (ev_tmp rfl rfl) rfl) ?_
          refine dA (rs := [5]) (by kernel_rfl) rfl ?_
          refine dC ?_ ?_
          · refine dset1 (o := 2) (v := Value.string x.s) (i := 5) (k := 0) (L' := [Own.cells b72 32 #[Value.int .i64 ((k : Int) + 1), Value.string (⟨#[104, 111, 117, 115, 101]⟩ : ByteArray), Value.string x.s, Value.string x.p, Value.int .i64 x.q, Value.int .i64 x.r], Own.cells b65 32 #[Value.int .i64 ((k : Int) + 1), Value.string x.b, Value.string (⟨#[104, 111, 117, 115, 101]⟩ : ByteArray), Value.string x.p, Value.int .i64 x.q, Value.int .i64 x.r], Own.cells b48 34 #[Value.string x.b, Value.string x.s, Value.string x.p, Value.int .i64 x.q, Value.int .i64 x.r, Value.bool x.bo, Value.bool x.so, Value.int .u8 x.st], Own.row 32 6 (Value.slice A2 ((legs (l.take k)).length) c2) ((legs (l.take k)).length) ((legs (l.take k)).flatMap Leg.cells), Own.cells b6 24 #[Value.slice A l.length c]]) M82 rfl rfl rfl (x_store1 (v := Value.string x.s) sz_9 rfl rfl (ev_tmp rfl rfl) (ev_tmp rfl rfl) (M82.cell (i := 0) (o := 2) rfl rfl) (M82.free (i := 0) rfl)) fun w83 M84 => ?_
            refine ⟨(M84.dropL 1), ?_⟩
            refine dE (by kernel_rfl) ?_
            refine hK78 _ _ ?_
            refine c_reg ?_
            refine st rfl (x_move (v := Value.slice A2 ((legs (l.take k)).length) c2) (ev_tmp rfl rfl)) ?_
            refine st rfl (x_loadw (cs := [Value.int .i64 ((k : Int) + 1), Value.string x.b, Value.string (⟨#[104, 111, 117, 115, 101]⟩ : ByteArray), Value.string x.p, Value.int .i64 x.q, Value.int .i64 x.r]) Try.underlying32 rfl sz_32 (ev_tmp rfl rfl) (M84.range (i := 1) rfl ⟨rfl, rfl, rfl, rfl, rfl, rfl, trivial⟩)) ?_
            refine st rfl (x_loadw (cs := [Value.int .i64 ((k : Int) + 1), Value.string (⟨#[104, 111, 117, 115, 101]⟩ : ByteArray), Value.string x.s, Value.string x.p, Value.int .i64 x.q, Value.int .i64 x.r]) Try.underlying32 rfl sz_32 (ev_tmp rfl rfl) (M84.range (i := 0) rfl ⟨rfl, rfl, rfl, rfl, rfl, rfl, trivial⟩)) ?_
            refine snews (cs := #[Value.int .i64 ((k : Int) + 1), Value.string x.b, Value.string (⟨#[104, 111, 117, 115, 101]⟩ : ByteArray), Value.string x.p, Value.int .i64 x.q, Value.int .i64 x.r, Value.int .i64 ((k : Int) + 1), Value.string (⟨#[104, 111, 117, 115, 101]⟩ : ByteArray), Value.string x.s, Value.string x.p, Value.int .i64 x.q, Value.int .i64 x.r]) M84 rfl (x_buildSliceL (ps := [(0, .tmp 43), (1, .tmp 44)]) (vs := [(0, Value.agg #[Value.int .i64 ((k : Int) + 1), Value.string x.b, Value.string (⟨#[104, 111, 117, 115, 101]⟩ : ByteArray), Value.string x.p, Value.int .i64 x.q, Value.int .i64 x.r]), (1, Value.agg #[Value.int .i64 ((k : Int) + 1), Value.string (⟨#[104, 111, 117, 115, 101]⟩ : ByteArray), Value.string x.s, Value.string x.p, Value.int .i64 x.q, Value.int .i64 x.r])]) (cs := #[Value.int .i64 ((k : Int) + 1), Value.string x.b, Value.string (⟨#[104, 111, 117, 115, 101]⟩ : ByteArray), Value.string x.p, Value.int .i64 x.q, Value.int .i64 x.r, Value.int .i64 ((k : Int) + 1), Value.string (⟨#[104, 111, 117, 115, 101]⟩ : ByteArray), Value.string x.s, Value.string x.p, Value.int .i64 x.q, Value.int .i64 x.r]) Try.underlying26 ⟨⟨rfl, (ev_tmp rfl rfl)⟩, ⟨rfl, (ev_tmp rfl rfl)⟩, trivial⟩ (by kernel_rfl)) fun b85 w86 M87 => ?_
            refine sapp (k := 4) (news := [Value.int .i64 ((k : Int) + 1), Value.string x.b, Value.string (⟨#[104, 111, 117, 115, 101]⟩ : ByteArray), Value.string x.p, Value.int .i64 x.q, Value.int .i64 x.r, Value.int .i64 ((k : Int) + 1), Value.string (⟨#[104, 111, 117, 115, 101]⟩ : ByteArray), Value.string x.s, Value.string x.p, Value.int .i64 x.q, Value.int .i64 x.r]) M87 rfl app_26 rfl (ev_tmp rfl rfl) (ev_tmp rfl rfl) rfl (M87.block_news (i := 0) rfl) (oneL_all ⟨rfl, rfl, rfl, rfl, rfl, rfl, rfl, rfl, rfl, rfl, rfl, rfl, trivial⟩) (by simp only [maxLen]; omega) (by omega) fun A88 c89 w90 M91 => ?_
            refine st rfl (x_assign (v := Value.slice A88 ((legs (l.take k)).length + 2) c89) (ev_tmp rfl rfl)) ?_
            refine s_nil ?_
            refine hK40 _ _ ?_
            refine c_reg ?_
            have hw92 : IntKind.i64.wrap ((k : Int) + 1) = (k : Int) + 1 := w64 (by rfl) (by omega) (by omega)
            refine st rfl (x_add_eq (p := (k : Int)) (q := 1) (ev_tmp rfl rfl) rfl hw92) ?_
            refine st rfl (x_move (v := Value.int .i64 ((k : Int) + 1)) (ev_tmp rfl rfl)) ?_
            refine s_nil ?_
            have hleg : legs (l.take (k + 1)) = legs (l.take k) ++ legs1 k x := legs_yes hx (of_decide_eq_true (not_f h57))
            have M93 := M91.rerow (i := 4) rfl (n' := (legs (l.take (k + 1))).length) (xs' := (legs (l.take (k + 1))).flatMap Leg.cells) (by rw [hleg]; simp [legs1]) (by rw [hleg]; simp [legs1, Leg.cells, house])
            exact ⟨_, _, (by omega : l.length - (k + 1) < l.length - k), fr_held (live := [(2, Value.slice none 0 0), (3, Value.int .i64 0), (5, Value.slice A88 ((legs (l.take (k + 1))).length) c89), (16, Value.slice A l.length c), (17, Value.int .i64 (l.length : Int)), (18, Value.int .i64 (((k + 1) : Nat) : Int))]) ⟨rfl, rfl, (congrArg (fun n => Value.slice A88 n c89) (by rw [hleg]; simp [legs1])), rfl, rfl, (congrArg (Value.int .i64) (by omega)), trivial⟩, (k + 1), A88, c89, _, rfl, rfl, (M93.dropL 4), (by omega), (by rw [hleg]; simp [legs1]; omega)⟩
          exact dN
        exact dN
    · have h94 : ¬ ((k : Int) < (l.length : Int)) := of_decide_eq_false h37
      refine c_exit ?_
      refine xb_here ?_
      refine hK26 _ _ ?_
      refine c_seq fun K95 hK96 => ?_
      refine c_reg ?_
      refine st rfl (x_move (v := Value.slice A2 ((legs (l.take k)).length) c2) (ev_tmp rfl rfl)) ?_
      refine st rfl (x_assign (v := Value.slice A2 ((legs (l.take k)).length) c2) (ev_tmp rfl rfl)) ?_
      refine st rfl (x_assign (v := Value.int .i64 0) rfl) ?_
      refine s_nil ?_
      refine hK96 _ _ ?_
      refine c_ret ?_
      refine hT3 _ _ ?_
      refine r2 rfl (ev_tmp (v := Value.slice A2 ((legs (l.take k)).length) c2) rfl rfl) (ev_tmp (v := Value.int .i64 0) rfl rfl) ?_
      have hleg : legs (l.take k) = legsC l := legsC_yes h0 k (by omega)
      have hrow := M32.rownew (i := 0) rfl
      rw [hleg] at hrow
      rw [hleg, h0]
      exact ⟨_, _, rfl, M32.below, SlB.of_row hrow rfl Leg.len⟩

set_option maxHeartbeats 1000000 in
set_option maxRecDepth 20000 in
theorem legs_r (A : Option Addr) (c : Nat) (l : List Trade) (w : World) (hs : SlB 0 w.heap.size w A c 8 Trade.cells l) :
    Calls Try.prog 25 #[Value.agg #[Value.slice A l.length c]] w fun e w' => ∃ A' c', e = .returned (.tuple #[.slice A' (legsC l).length c', .int .i64 (chk l)]) ∧ Below w.heap.size w w' ∧ SlB w.heap.size w'.heap.size w' A' c' 6 Leg.cells (legsC l) := by
  have hcm : l.length ≤ 9223372036854775807 := by have := hs.1; have := hs.2.1; simp only [maxLen] at this; omega
  have M0 := Mem.start w []
  have M1 := M0.see (Ro.sl 0 w.heap.size A c 8 Trade.cells l) (hs) (Nat.le_refl _)
  refine enter (args := [Value.agg #[Value.slice A l.length c]]) Try.func25 rfl (n := 54) rfl rfl fun T2 hT3 => ?_
  refine c_seq fun K4 hK5 => ?_
  refine c_reg ?_
  refine snew (cs := #[Value.slice A l.length c]) M1 rfl (x_box (v := Value.agg #[Value.slice A l.length c]) (ev_tmp rfl rfl)) fun b6 w7 M8 => ?_
  refine st rfl (x_assign (v := Value.slice none 0 0) rfl) ?_
  refine st rfl (x_assign (v := Value.int .i64 0) rfl) ?_
  refine s_nil ?_
  refine hK5 _ _ ?_
  refine c_seq fun K9 hK10 => ?_
  refine c_seq fun K11 hK12 => ?_
  refine c_reg ?_
  refine st rfl (x_loadw (cs := [Value.slice A l.length c]) Try.underlying24 rfl sz_24 (ev_tmp rfl rfl) (M8.range (i := 0) rfl ⟨rfl, trivial⟩)) ?_
  refine sC rfl (x_callL (xs := [.tmp 7]) (vs := [Value.agg #[Value.slice A l.length c]]) (cap := []) ent_30 rfl ⟨(ev_tmp rfl rfl), trivial⟩) (check_r _ _ l _ (M8.slw (i := 0) rfl)) ?_
  rintro _ w13 ⟨rfl, hb15⟩
  refine ⟨_, rfl, ?_⟩
  have M14 := M8.call hb15
  refine st rfl (x_neq (p := (chk l)) (q := 0) (ev_tmp rfl rfl) rfl) ?_
  refine s_nil ?_
  refine hK12 _ _ ?_
  refine c_cond (b := !(decide (chk l = 0))) (ev_tmp rfl rfl) (fun h16 => ?_) (fun h16 => ?_)
  · have h17 : ¬ (chk l = 0) := of_decide_eq_false (not_t h16)
    refine c_seq fun K18 hK19 => ?_
    refine c_reg ?_
    refine st rfl (x_assign (v := Value.slice none 0 0) rfl) ?_
    refine st rfl (x_assign (v := Value.int .i64 8) rfl) ?_
    refine s_nil ?_
    refine hK19 _ _ ?_
    refine c_ret ?_
    refine hT3 _ _ ?_
    refine r2 rfl (ev_tmp (v := Value.slice none 0 0) rfl rfl) (ev_tmp (v := Value.int .i64 8) rfl rfl) ?_
    rw [legsC_no (of_decide_eq_false (not_t h16)), chk_8 (of_decide_eq_false (not_t h16))]
    exact ⟨none, 0, rfl, M14.below, SlB.nil _ _ _ _ _⟩
  · have h20 : chk l = 0 := of_decide_eq_true (not_f h16)
    have h0 : chk l = 0 := of_decide_eq_true (not_f h16)
    have hl200 := chk_len h0
    refine c_skip ?_
    refine hK10 _ _ ?_
    refine c_seq fun K21 hK22 => ?_
    refine c_reg ?_
    refine st rfl (x_assign (v := Value.slice none 0 0) rfl) ?_
    refine s_nil ?_
    refine hK22 _ _ ?_
    refine c_seq fun K23 hK24 => ?_
    refine c_seq fun K25 hK26 => ?_
    refine c_reg ?_
    refine st rfl (x_assign (v := Value.int .i64 0) rfl) ?_
    refine s_nil ?_
    refine hK26 _ _ ?_
    refine c_block ?_
    have M27 := M14.nilRow 32 6
    refine c_loopH (live := [(1, Value.pointer (some ⟨b6, 0, none⟩)), (2, Value.slice none 0 0), (3, Value.int .i64 0), (4, Value.slice none ((legs (l.take 0)).length) 0), (5, Value.int .i64 0)]) ⟨rfl, rfl, rfl, rfl, rfl, trivial⟩ (fun mm ll w1 => ∃ (k : Nat) (A2 : Option Addr) (c2 : Nat) (jk : List (Nat × Value)), mm = l.length - k ∧ ll = [(1, Value.pointer (some ⟨b6, 0, none⟩)), (2, Value.slice none 0 0), (3, Value.int .i64 0), (4, Value.slice A2 ((legs (l.take k)).length) c2), (5, Value.int .i64 (k : Int))] ++ jk ∧ Mem w [] w1 [Own.row 32 6 (Value.slice A2 ((legs (l.take k)).length) c2) ((legs (l.take k)).length) ((legs (l.take k)).flatMap Leg.cells), Own.cells b6 24 #[Value.slice A l.length c]] [Ro.sl 0 w.heap.size A c 8 Trade.cells l] ∧ (k ≤ l.length) ∧ ((legs (l.take k)).length ≤ 2 * k)) ⟨0, none, 0, _, rfl, rfl, M27, (by omega), (by simp [legs])⟩ fun mm ll w1 hI28 => ?_
    obtain ⟨k, A2, c2, jk, rfl, rfl, M30, hk, hll⟩ := hI28
    obtain ⟨w29, rfl⟩ : ∃ x, x = w1 := ⟨_, rfl⟩
    refine c_seq fun K31 hK32 => ?_
    refine c_seq fun K33 hK34 => ?_
    refine c_reg ?_
    refine st rfl (x_move (v := Value.int .i64 (k : Int)) (ev_tmp rfl rfl)) ?_
    refine st rfl (x_fieldv (b := b6) (o := 0) (q := 0) fa_24_0 (ev_tmp rfl rfl) rfl) ?_
    refine st rfl (x_load1 (v := Value.slice A l.length c) Try.underlying22 rfl (ev_tmp rfl rfl) (M30.cell (i := 1) (o := 0) rfl rfl)) ?_
    refine st rfl (x_lensl (n := l.length) Try.underlying22 (ev_tmp rfl rfl)) ?_
    refine st rfl (x_lss (p := (k : Int)) (q := (l.length : Int)) (ev_tmp rfl rfl) (ev_tmp rfl rfl)) ?_
    refine s_nil ?_
    refine hK34 _ _ ?_
    refine c_cond (b := decide ((k : Int) < (l.length : Int))) (ev_tmp rfl rfl) (fun h35 => ?_) (fun h35 => ?_)
    · have h36 : (k : Int) < (l.length : Int) := of_decide_eq_true h35
      obtain ⟨x, hx⟩ : ∃ x, l[k]? = some x := ⟨_, List.getElem?_eq_getElem (by omega)⟩
      refine c_skip ?_
      refine hK32 _ _ ?_
      refine c_seq fun K37 hK38 => ?_
      refine c_block ?_
      refine c_seq fun K39 hK40 => ?_
      refine c_reg ?_
      refine st rfl (x_fieldv (b := b6) (o := 0) (q := 0) fa_24_0 (ev_tmp rfl rfl) rfl) ?_
      refine st rfl (x_load1 (v := Value.slice A l.length c) Try.underlying22 rfl (ev_tmp rfl rfl) (M30.cell (i := 1) (o := 0) rfl rfl)) ?_
      refine st rfl (x_move (v := Value.int .i64 (k : Int)) (ev_tmp rfl rfl)) ?_
      obtain ⟨g41, o42, hA43⟩ := M30.roat (i := 0) rfl hx
      refine st rfl (x_elemA (b := g41) (o := o42) (k := k) ea_22 (ev_tmp rfl rfl) hA43 (ev_tmp rfl rfl) rfl (by omega)) ?_
      refine st rfl (x_loadw (cs := [Value.string x.b, Value.string x.s, Value.string x.p, Value.int .i64 x.q, Value.int .i64 x.r, Value.bool x.bo, Value.bool x.so, Value.int .u8 x.st]) Try.underlying34 rfl sz_34 (ev_tmp rfl rfl) (M30.rorange (i := 0) rfl hA43 hx (f := 0) ⟨rfl, rfl, rfl, rfl, rfl, rfl, rfl, rfl, trivial⟩)) ?_
      refine snew (cs := #[Value.string ByteArray.empty, Value.string ByteArray.empty, Value.string ByteArray.empty, Value.int .i64 0, Value.int .i64 0, Value.bool false, Value.bool false, Value.int .u8 0]) M30 rfl (x_allocz z_34) fun b46 w47 M48 => ?_
      refine sset (i := 0) (L' := [Own.cells b46 34 #[Value.string x.b, Value.string x.s, Value.string x.p, Value.int .i64 x.q, Value.int .i64 x.r, Value.bool x.bo, Value.bool x.so, Value.int .u8 x.st], Own.row 32 6 (Value.slice A2 ((legs (l.take k)).length) c2) ((legs (l.take k)).length) ((legs (l.take k)).flatMap Leg.cells), Own.cells b6 24 #[Value.slice A l.length c]]) M48 rfl rfl (x_storew (cs := [Value.string x.b, Value.string x.s, Value.string x.p, Value.int .i64 x.q, Value.int .i64 x.r, Value.bool x.bo, Value.bool x.so, Value.int .u8 x.st]) sz_34 (ev_tmp rfl rfl) (ev_tmp rfl rfl) (M48.cells_at (i := 0) rfl) rfl ⟨rfl, rfl, rfl, rfl, rfl, rfl, rfl, rfl, trivial⟩) fun w49 M50 => ?_
      refine s_nil ?_
      refine hK40 _ _ ?_
      refine c_seq fun K51 hK52 => ?_
      refine c_reg ?_
      refine st rfl (x_fieldv (b := b46) (o := 0) (q := 7) fa_34_7 (ev_tmp rfl rfl) rfl) ?_
      refine st rfl (x_load1 (v := Value.int .u8 x.st) Try.underlying5 rfl (ev_tmp rfl rfl) (M50.cell (i := 0) (o := 7) rfl rfl)) ?_
      refine st rfl (x_eql (p := x.st) (q := 1) (ev_tmp rfl rfl) rfl) ?_
      refine s_nil ?_
      refine hK52 _ _ ?_
      refine c_cond (b := decide (x.st = 1)) (ev_tmp rfl rfl) (fun h53 => ?_) (fun h53 => ?_)
      · have h54 : x.st = 1 := of_decide_eq_true h53
        refine c_seq fun K55 hK56 => ?_
        refine c_reg ?_
        refine st rfl (x_move (v := Value.slice A2 ((legs (l.take k)).length) c2) (ev_tmp rfl rfl)) ?_
        refine st rfl (x_move (v := Value.int .i64 (k : Int)) (ev_tmp rfl rfl)) ?_
        have hw57 : IntKind.i64.wrap ((k : Int) + 1) = (k : Int) + 1 := w64 (by rfl) (by omega) (by omega)
        refine st rfl (x_add_eq (p := (k : Int)) (q := 1) (ev_tmp rfl rfl) rfl hw57) ?_
        refine st rfl (x_fieldv (b := b46) (o := 0) (q := 0) fa_34_0 (ev_tmp rfl rfl) rfl) ?_
        refine st rfl (x_load1 (v := Value.string x.b) Try.underlying9 rfl (ev_tmp rfl rfl) (M50.cell (i := 0) (o := 0) rfl rfl)) ?_
        refine st rfl (x_fieldv (b := b46) (o := 0) (q := 2) fa_34_2 (ev_tmp rfl rfl) rfl) ?_
        refine st rfl (x_load1 (v := Value.string x.p) Try.underlying9 rfl (ev_tmp rfl rfl) (M50.cell (i := 0) (o := 2) rfl rfl)) ?_
        refine st rfl (x_fieldv (b := b46) (o := 0) (q := 3) fa_34_3 (ev_tmp rfl rfl) rfl) ?_
        refine st rfl (x_load1 (v := Value.int .i64 x.q) Try.underlying3 rfl (ev_tmp rfl rfl) (M50.cell (i := 0) (o := 3) rfl rfl)) ?_
        refine st rfl (x_fieldv (b := b46) (o := 0) (q := 4) fa_34_4 (ev_tmp rfl rfl) rfl) ?_
        refine st rfl (x_load1 (v := Value.int .i64 x.r) Try.underlying3 rfl (ev_tmp rfl rfl) (M50.cell (i := 0) (o := 4) rfl rfl)) ?_
        refine st rfl (x_buildL (ps := [(0, .tmp 27), (1, .tmp 29), (2, .const (Value.string (⟨#[104, 111, 117, 115, 101]⟩ : ByteArray))), (3, .tmp 31), (4, .tmp 33), (5, .tmp 35)]) (vs := [(0, Value.int .i64 ((k : Int) + 1)), (1, Value.string x.b), (2, Value.string (⟨#[104, 111, 117, 115, 101]⟩ : ByteArray)), (3, Value.string x.p), (4, Value.int .i64 x.q), (5, Value.int .i64 x.r)]) (cs := #[Value.int .i64 ((k : Int) + 1), Value.string x.b, Value.string (⟨#[104, 111, 117, 115, 101]⟩ : ByteArray), Value.string x.p, Value.int .i64 x.q, Value.int .i64 x.r]) ⟨⟨rfl, (ev_tmp rfl rfl)⟩, ⟨rfl, (ev_tmp rfl rfl)⟩, ⟨rfl, rfl⟩, ⟨rfl, (ev_tmp rfl rfl)⟩, ⟨rfl, (ev_tmp rfl rfl)⟩, ⟨rfl, (ev_tmp rfl rfl)⟩, trivial⟩ (by kernel_rfl)) ?_
        refine snews (cs := #[Value.int .i64 ((k : Int) + 1), Value.string x.b, Value.string (⟨#[104, 111, 117, 115, 101]⟩ : ByteArray), Value.string x.p, Value.int .i64 x.q, Value.int .i64 x.r]) M50 rfl (x_buildSliceL (ps := [(0, .tmp 36)]) (vs := [(0, Value.agg #[Value.int .i64 ((k : Int) + 1), Value.string x.b, Value.string (⟨#[104, 111, 117, 115, 101]⟩ : ByteArray), Value.string x.p, Value.int .i64 x.q, Value.int .i64 x.r])]) (cs := #[Value.int .i64 ((k : Int) + 1), Value.string x.b, Value.string (⟨#[104, 111, 117, 115, 101]⟩ : ByteArray), Value.string x.p, Value.int .i64 x.q, Value.int .i64 x.r]) Try.underlying26 ⟨⟨rfl, (ev_tmp rfl rfl)⟩, trivial⟩ (by kernel_rfl)) fun b58 w59 M60 => ?_
        refine sapp (k := 2) (news := [Value.int .i64 ((k : Int) + 1), Value.string x.b, Value.string (⟨#[104, 111, 117, 115, 101]⟩ : ByteArray), Value.string x.p, Value.int .i64 x.q, Value.int .i64 x.r]) M60 rfl app_26 rfl (ev_tmp rfl rfl) (ev_tmp rfl rfl) rfl (M60.block_news (i := 0) rfl) (oneL_all ⟨rfl, rfl, rfl, rfl, rfl, rfl, trivial⟩) (by simp only [maxLen]; omega) (by omega) fun A61 c62 w63 M64 => ?_
        refine st rfl (x_assign (v := Value.slice A61 ((legs (l.take k)).length + 1) c62) (ev_tmp rfl rfl)) ?_
        refine s_nil ?_
        refine hK56 _ _ ?_
        refine c_reg ?_
        refine st rfl (x_move (v := Value.slice A61 ((legs (l.take k)).length + 1) c62) (ev_tmp rfl rfl)) ?_
        refine st rfl (x_move (v := Value.int .i64 (k : Int)) (ev_tmp rfl rfl)) ?_
        have hw65 : IntKind.i64.wrap ((k : Int) + 1) = (k : Int) + 1 := w64 (by rfl) (by omega) (by omega)
        refine st rfl (x_add_eq (p := (k : Int)) (q := 1) (ev_tmp rfl rfl) rfl hw65) ?_
        refine st rfl (x_fieldv (b := b46) (o := 0) (q := 1) fa_34_1 (ev_tmp rfl rfl) rfl) ?_
        refine st rfl (x_load1 (v := Value.string x.s) Try.underlying9 rfl (ev_tmp rfl rfl) (M64.cell (i := 1) (o := 1) rfl rfl)) ?_
        refine st rfl (x_fieldv (b := b46) (o := 0) (q := 2) fa_34_2 (ev_tmp rfl rfl) rfl) ?_
        refine st rfl (x_load1 (v := Value.string x.p) Try.underlying9 rfl (ev_tmp rfl rfl) (M64.cell (i := 1) (o := 2) rfl rfl)) ?_
        refine st rfl (x_fieldv (b := b46) (o := 0) (q := 3) fa_34_3 (ev_tmp rfl rfl) rfl) ?_
        refine st rfl (x_load1 (v := Value.int .i64 x.q) Try.underlying3 rfl (ev_tmp rfl rfl) (M64.cell (i := 1) (o := 3) rfl rfl)) ?_
        refine st rfl (x_fieldv (b := b46) (o := 0) (q := 4) fa_34_4 (ev_tmp rfl rfl) rfl) ?_
        refine st rfl (x_load1 (v := Value.int .i64 x.r) Try.underlying3 rfl (ev_tmp rfl rfl) (M64.cell (i := 1) (o := 4) rfl rfl)) ?_
        refine st rfl (x_buildL (ps := [(0, .tmp 41), (1, .const (Value.string (⟨#[104, 111, 117, 115, 101]⟩ : ByteArray))), (2, .tmp 43), (3, .tmp 45), (4, .tmp 47), (5, .tmp 49)]) (vs := [(0, Value.int .i64 ((k : Int) + 1)), (1, Value.string (⟨#[104, 111, 117, 115, 101]⟩ : ByteArray)), (2, Value.string x.s), (3, Value.string x.p), (4, Value.int .i64 x.q), (5, Value.int .i64 x.r)]) (cs := #[Value.int .i64 ((k : Int) + 1), Value.string (⟨#[104, 111, 117, 115, 101]⟩ : ByteArray), Value.string x.s, Value.string x.p, Value.int .i64 x.q, Value.int .i64 x.r]) ⟨⟨rfl, (ev_tmp rfl rfl)⟩, ⟨rfl, rfl⟩, ⟨rfl, (ev_tmp rfl rfl)⟩, ⟨rfl, (ev_tmp rfl rfl)⟩, ⟨rfl, (ev_tmp rfl rfl)⟩, ⟨rfl, (ev_tmp rfl rfl)⟩, trivial⟩ (by kernel_rfl)) ?_
        refine snews (cs := #[Value.int .i64 ((k : Int) + 1), Value.string (⟨#[104, 111, 117, 115, 101]⟩ : ByteArray), Value.string x.s, Value.string x.p, Value.int .i64 x.q, Value.int .i64 x.r]) M64 rfl (x_buildSliceL (ps := [(0, .tmp 50)]) (vs := [(0, Value.agg #[Value.int .i64 ((k : Int) + 1), Value.string (⟨#[104, 111, 117, 115, 101]⟩ : ByteArray), Value.string x.s, Value.string x.p, Value.int .i64 x.q, Value.int .i64 x.r])]) (cs := #[Value.int .i64 ((k : Int) + 1), Value.string (⟨#[104, 111, 117, 115, 101]⟩ : ByteArray), Value.string x.s, Value.string x.p, Value.int .i64 x.q, Value.int .i64 x.r]) Try.underlying26 ⟨⟨rfl, (ev_tmp rfl rfl)⟩, trivial⟩ (by kernel_rfl)) fun b66 w67 M68 => ?_
        refine sapp (k := 3) (news := [Value.int .i64 ((k : Int) + 1), Value.string (⟨#[104, 111, 117, 115, 101]⟩ : ByteArray), Value.string x.s, Value.string x.p, Value.int .i64 x.q, Value.int .i64 x.r]) M68 rfl app_26 rfl (ev_tmp rfl rfl) (ev_tmp rfl rfl) rfl (M68.block_news (i := 0) rfl) (oneL_all ⟨rfl, rfl, rfl, rfl, rfl, rfl, trivial⟩) (by simp only [maxLen]; omega) (by omega) fun A69 c70 w71 M72 => ?_
        refine st rfl (x_assign (v := Value.slice A69 ((legs (l.take k)).length + 1 + 1) c70) (ev_tmp rfl rfl)) ?_
        refine s_nil ?_
        refine hK38 _ _ ?_
        refine c_reg ?_
        refine st rfl (x_move (v := Value.int .i64 (k : Int)) (ev_tmp rfl rfl)) ?_
        have hw73 : IntKind.i64.wrap ((k : Int) + 1) = (k : Int) + 1 := w64 (by rfl) (by omega) (by omega)
        refine st rfl (x_add_eq (p := (k : Int)) (q := 1) (ev_tmp rfl rfl) rfl hw73) ?_
        refine st rfl (x_assign (v := Value.int .i64 ((k : Int) + 1)) (ev_tmp rfl rfl)) ?_
        refine s_nil ?_
        have hleg : legs (l.take (k + 1)) = legs (l.take k) ++ legs1 k x := legs_yes hx (of_decide_eq_true h53)
        have M74 := M72.rerow (i := 3) rfl (n' := (legs (l.take (k + 1))).length) (xs' := (legs (l.take (k + 1))).flatMap Leg.cells) (by rw [hleg]; simp [legs1]) (by rw [hleg]; simp [legs1, Leg.cells, house])
        exact ⟨_, _, (by omega : l.length - (k + 1) < l.length - k), fr_held (live := [(1, Value.pointer (some ⟨b6, 0, none⟩)), (2, Value.slice none 0 0), (3, Value.int .i64 0), (4, Value.slice A69 ((legs (l.take (k + 1))).length) c70), (5, Value.int .i64 (((k + 1) : Nat) : Int))]) ⟨rfl, rfl, rfl, (congrArg (fun n => Value.slice A69 n c70) (by rw [hleg]; simp [legs1])), (congrArg (Value.int .i64) (by omega)), trivial⟩, (k + 1), A69, c70, _, rfl, rfl, (M74.dropL 3), (by omega), (by rw [hleg]; simp [legs1]; omega)⟩
      · have h75 : ¬ (x.st = 1) := of_decide_eq_false h53
        refine c_skip ?_
        refine hK38 _ _ ?_
        refine c_reg ?_
        refine st rfl (x_move (v := Value.int .i64 (k : Int)) (ev_tmp rfl rfl)) ?_
        have hw76 : IntKind.i64.wrap ((k : Int) + 1) = (k : Int) + 1 := w64 (by rfl) (by omega) (by omega)
        refine st rfl (x_add_eq (p := (k : Int)) (q := 1) (ev_tmp rfl rfl) rfl hw76) ?_
        refine st rfl (x_assign (v := Value.int .i64 ((k : Int) + 1)) (ev_tmp rfl rfl)) ?_
        refine s_nil ?_
        have hleg : legs (l.take (k + 1)) = legs (l.take k) := legs_no hx (of_decide_eq_false h53)
        have M77 := M50.rerow (i := 1) rfl (n' := (legs (l.take (k + 1))).length) (xs' := (legs (l.take (k + 1))).flatMap Leg.cells) (by rw [hleg]) (by rw [hleg])
        exact ⟨_, _, (by omega : l.length - (k + 1) < l.length - k), fr_held (live := [(1, Value.pointer (some ⟨b6, 0, none⟩)), (2, Value.slice none 0 0), (3, Value.int .i64 0), (4, Value.slice A2 ((legs (l.take (k + 1))).length) c2), (5, Value.int .i64 (((k + 1) : Nat) : Int))]) ⟨rfl, rfl, rfl, (congrArg (fun n => Value.slice A2 n c2) (by rw [hleg])), (congrArg (Value.int .i64) (by omega)), trivial⟩, (k + 1), A2, c2, _, rfl, rfl, (M77.dropL 1), (by omega), (by rw [hleg]; omega)⟩
    · have h78 : ¬ ((k : Int) < (l.length : Int)) := of_decide_eq_false h35
      refine c_exit ?_
      refine xb_here ?_
      refine hK24 _ _ ?_
      refine c_seq fun K79 hK80 => ?_
      refine c_reg ?_
      refine st rfl (x_move (v := Value.slice A2 ((legs (l.take k)).length) c2) (ev_tmp rfl rfl)) ?_
      refine st rfl (x_assign (v := Value.slice A2 ((legs (l.take k)).length) c2) (ev_tmp rfl rfl)) ?_
      refine st rfl (x_assign (v := Value.int .i64 0) rfl) ?_
      refine s_nil ?_
      refine hK80 _ _ ?_
      refine c_ret ?_
      refine hT3 _ _ ?_
      refine r2 rfl (ev_tmp (v := Value.slice A2 ((legs (l.take k)).length) c2) rfl rfl) (ev_tmp (v := Value.int .i64 0) rfl rfl) ?_
      have hleg : legs (l.take k) = legsC l := legsC_yes h0 k (by omega)
      have hrow := M30.rownew (i := 0) rfl
      rw [hleg] at hrow
      rw [hleg, h0]
      exact ⟨_, _, rfl, M30.below, SlB.of_row hrow rfl Leg.len⟩

end Go.Proofs.Ytkimdlpfbojkgaa
