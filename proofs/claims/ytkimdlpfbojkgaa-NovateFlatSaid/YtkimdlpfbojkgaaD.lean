/- Contracts: comparisons, copies. -/
import Derived.Test.YtkimdlpfbojkgaaC
import Derived.Test.YtkimdlpfbojkgaaE
namespace Go.Proofs.Ytkimdlpfbojkgaa
open Go.RowKit
/-- The same at every place. -/
def sameB {α : Type} (f : α → α → Bool) : List α → List α → Bool
  | [], [] => true
  | x :: l, y :: l2 => f x y && sameB f l l2
  | _, _ => false
theorem sameB_iff {α : Type} {f : α → α → Bool} (hf : ∀ x y, f x y = true ↔ x = y) : ∀ {l l2 : List α}, sameB f l l2 = true ↔ l = l2
  | [], [] => by simp [sameB]
  | [], _ :: _ => by simp [sameB]
  | _ :: _, [] => by simp [sameB]
  | x :: l, y :: l2 => by simp [sameB, hf, sameB_iff hf]
theorem take2 {α : Type} {l l2 : List α} {k : Nat} {x y : α} (hx : l[k]? = some x) (hy : l2[k]? = some y) (h : l.take k = l2.take k) (he : x = y) : l.take (k + 1) = l2.take (k + 1) := by
  rw [take_at hx, take_at hy, h, he]
theorem same_len {α : Type} {f : α → α → Bool} (hf : ∀ x y, f x y = true ↔ x = y) {l l2 : List α} (h : ¬ ((l.length : Int) = (l2.length : Int))) : false = sameB f l l2 := by
  cases hb : sameB f l l2
  · rfl
  · exfalso; apply h; rw [(sameB_iff hf).1 hb]
theorem same_at {α : Type} {f : α → α → Bool} (hf : ∀ x y, f x y = true ↔ x = y) {l l2 : List α} {k : Nat} {x y : α} (hx : l[k]? = some x) (hy : l2[k]? = some y) (h : f x y = false) : false = sameB f l l2 := by
  cases hb : sameB f l l2
  · rfl
  · have := (sameB_iff hf).1 hb
    subst this
    rw [hx] at hy
    injection hy with hy
    subst hy
    have := (hf x x).2 rfl
    rw [h] at this; cases this
theorem same_all {α : Type} {f : α → α → Bool} (hf : ∀ x y, f x y = true ↔ x = y) {l l2 : List α} (k : Nat) (h1 : l.length ≤ k) (h2 : l2.length ≤ k) (h : l.take k = l2.take k) : true = sameB f l l2 := by
  rw [List.take_of_length_le h1, List.take_of_length_le h2] at h
  exact ((sameB_iff hf).2 h).symm
theorem sameT_len {l l2 : List Trade} (h : ¬ ((l.length : Int) = (l2.length : Int))) : false = sameB tradeEq l l2 := same_len (fun _ _ => tradeEq_iff) h
theorem sameL_len {l l2 : List Leg} (h : ¬ ((l.length : Int) = (l2.length : Int))) : false = sameB legEq l l2 := same_len (fun _ _ => legEq_iff) h
theorem sameT_at {l l2 : List Trade} {k : Nat} {x y : Trade} (hx : l[k]? = some x) (hy : l2[k]? = some y) (h : tradeEq x y = false) : false = sameB tradeEq l l2 := same_at (fun _ _ => tradeEq_iff) hx hy h
theorem sameL_at {l l2 : List Leg} {k : Nat} {x y : Leg} (hx : l[k]? = some x) (hy : l2[k]? = some y) (h : legEq x y = false) : false = sameB legEq l l2 := same_at (fun _ _ => legEq_iff) hx hy h
theorem sameT_all {l l2 : List Trade} (k : Nat) (h1 : l.length ≤ k) (h2 : l2.length ≤ k) (h : l.take k = l2.take k) : true = sameB tradeEq l l2 := same_all (fun _ _ => tradeEq_iff) k h1 h2 h
theorem sameL_all {l l2 : List Leg} (k : Nat) (h1 : l.length ≤ k) (h2 : l2.length ≤ k) (h : l.take k = l2.take k) : true = sameB legEq l l2 := same_all (fun _ _ => legEq_iff) k h1 h2 h
set_option maxHeartbeats 1000000 in
set_option maxRecDepth 20000 in
theorem same_r (A : Option Addr) (c : Nat) (l : List Trade) (A2 : Option Addr) (c2 : Nat) (l2 : List Trade) (w : World) (hs : SlB 0 w.heap.size w A c 8 Trade.cells l) (hs2 : SlB 0 w.heap.size w A2 c2 8 Trade.cells l2) :
    Calls Try.prog 22 #[Value.agg #[Value.slice A l.length c], Value.agg #[Value.slice A2 l2.length c2]] w fun e w' => e = .returned (.bool (sameB tradeEq l l2)) ∧ Below w.heap.size w w' := by
  have hcm : l.length ≤ 9223372036854775807 := by have := hs.1; have := hs.2.1; simp only [maxLen] at this; omega
  have M0 := Mem.start w []
  have M1 := M0.see (Ro.sl 0 w.heap.size A c 8 Trade.cells l) (hs) (Nat.le_refl _)
  have M2 := M1.see (Ro.sl 0 w.heap.size A2 c2 8 Trade.cells l2) (hs2) (Nat.le_refl _)
  refine enter (args := [Value.agg #[Value.slice A l.length c], Value.agg #[Value.slice A2 l2.length c2]]) Try.func22 rfl (n := 31) rfl rfl fun T3 hT4 => ?_
  refine c_seq fun K5 hK6 => ?_
  refine c_reg ?_
  refine snew (cs := #[Value.slice A l.length c]) M2 rfl (x_box (v := Value.agg #[Value.slice A l.length c]) (ev_tmp rfl rfl)) fun b7 w8 M9 => ?_
  refine snew (cs := #[Value.slice A2 l2.length c2]) M9 rfl (x_box (v := Value.agg #[Value.slice A2 l2.length c2]) (ev_tmp rfl rfl)) fun b10 w11 M12 => ?_
  refine st rfl (x_assign (v := Value.bool false) rfl) ?_
  refine s_nil ?_
  refine hK6 _ _ ?_
  refine c_seq fun K13 hK14 => ?_
  refine c_seq fun K15 hK16 => ?_
  refine c_reg ?_
  refine st rfl (x_fieldv (b := b7) (o := 0) (q := 0) fa_24_0 (ev_tmp rfl rfl) rfl) ?_
  refine st rfl (x_load1 (v := Value.slice A l.length c) Try.underlying22 rfl (ev_tmp rfl rfl) (M12.cell (i := 1) (o := 0) rfl rfl)) ?_
  refine st rfl (x_lensl (n := l.length) Try.underlying22 (ev_tmp rfl rfl)) ?_
  refine st rfl (x_fieldv (b := b10) (o := 0) (q := 0) fa_24_0 (ev_tmp rfl rfl) rfl) ?_
  refine st rfl (x_load1 (v := Value.slice A2 l2.length c2) Try.underlying22 rfl (ev_tmp rfl rfl) (M12.cell (i := 0) (o := 0) rfl rfl)) ?_
  refine st rfl (x_lensl (n := l2.length) Try.underlying22 (ev_tmp rfl rfl)) ?_
  refine st rfl (x_neq (p := (l.length : Int)) (q := (l2.length : Int)) (ev_tmp rfl rfl) (ev_tmp rfl rfl)) ?_
  refine s_nil ?_
  refine hK16 _ _ ?_
  refine c_cond (b := !(decide ((l.length : Int) = (l2.length : Int)))) (ev_tmp rfl rfl) (fun h17 => ?_) (fun h17 => ?_)
  · have h18 : ¬ ((l.length : Int) = (l2.length : Int)) := of_decide_eq_false (not_t h17)
    refine c_seq fun K19 hK20 => ?_
    refine c_reg ?_
    refine st rfl (x_assign (v := Value.bool false) rfl) ?_
    refine s_nil ?_
    refine hK20 _ _ ?_
    refine c_ret ?_
    refine hT4 _ _ ?_
    refine r1 rfl (ev_tmp (v := Value.bool false) rfl rfl) ?_
    exact ⟨ret_bool (sameT_len (of_decide_eq_false (not_t h17))), M12.below⟩
  · have h21 : (l.length : Int) = (l2.length : Int) := of_decide_eq_true (not_f h17)
    refine c_skip ?_
    refine hK14 _ _ ?_
    refine c_seq fun K22 hK23 => ?_
    refine c_seq fun K24 hK25 => ?_
    refine c_reg ?_
    refine st rfl (x_assign (v := Value.int .i64 0) rfl) ?_
    refine s_nil ?_
    refine hK25 _ _ ?_
    refine c_block ?_
    refine c_loopH (live := [(2, Value.pointer (some ⟨b7, 0, none⟩)), (3, Value.pointer (some ⟨b10, 0, none⟩)), (5, Value.int .i64 0)]) ⟨rfl, rfl, rfl, trivial⟩ (fun mm ll w1 => ∃ (k : Nat) (jk : List (Nat × Value)), mm = l.length - k ∧ ll = [(2, Value.pointer (some ⟨b7, 0, none⟩)), (3, Value.pointer (some ⟨b10, 0, none⟩)), (5, Value.int .i64 (k : Int))] ++ jk ∧ Mem w [] w1 [Own.cells b10 24 #[Value.slice A2 l2.length c2], Own.cells b7 24 #[Value.slice A l.length c]] [Ro.sl 0 w.heap.size A2 c2 8 Trade.cells l2, Ro.sl 0 w.heap.size A c 8 Trade.cells l] ∧ (k ≤ l.length) ∧ (l.take k = l2.take k)) ⟨0, _, rfl, rfl, M12, (by omega), (by simp)⟩ fun mm ll w1 hI26 => ?_
    obtain ⟨k, jk, rfl, rfl, M28, hk, hall⟩ := hI26
    obtain ⟨w27, rfl⟩ : ∃ x, x = w1 := ⟨_, rfl⟩
    refine c_seq fun K29 hK30 => ?_
    refine c_seq fun K31 hK32 => ?_
    refine c_reg ?_
    refine st rfl (x_move (v := Value.int .i64 (k : Int)) (ev_tmp rfl rfl)) ?_
    refine st rfl (x_fieldv (b := b7) (o := 0) (q := 0) fa_24_0 (ev_tmp rfl rfl) rfl) ?_
    refine st rfl (x_load1 (v := Value.slice A l.length c) Try.underlying22 rfl (ev_tmp rfl rfl) (M28.cell (i := 1) (o := 0) rfl rfl)) ?_
    refine st rfl (x_lensl (n := l.length) Try.underlying22 (ev_tmp rfl rfl)) ?_
    refine st rfl (x_lss (p := (k : Int)) (q := (l.length : Int)) (ev_tmp rfl rfl) (ev_tmp rfl rfl)) ?_
    refine s_nil ?_
    refine hK32 _ _ ?_
    refine c_cond (b := decide ((k : Int) < (l.length : Int))) (ev_tmp rfl rfl) (fun h33 => ?_) (fun h33 => ?_)
    · have h34 : (k : Int) < (l.length : Int) := of_decide_eq_true h33
      refine c_skip ?_
      refine hK30 _ _ ?_
      refine c_seq fun K35 hK36 => ?_
      refine c_block ?_
      refine c_seq fun K37 hK38 => ?_
      have M39 := M28.drew
      refine c_drawn (fun w1 => Mem w [] w1 [Own.cells b10 24 #[Value.slice A2 l2.length c2], Own.cells b7 24 #[Value.slice A l.length c]] [Ro.sl 0 w.heap.size A2 c2 8 Trade.cells l2, Ro.sl 0 w.heap.size A c 8 Trade.cells l]) mixed ?_
      generalize w27.drew = w40 at M39 ⊢
      refine dT (i := 0) (v := Value.pointer (some ⟨b7, 0, none⟩)) rfl (by kernel_rfl) (by kernel_rfl) rfl M39 (fun _ hS => x_fieldv (b := b7) (o := 0) (q := 0) fa_24_0 (ev_tmp rfl rfl) rfl) ?_
      refine dT (i := 1) (v := Value.slice A l.length c) rfl (by kernel_rfl) (by kernel_rfl) rfl M39 (fun _ hS => x_load1 (v := Value.slice A l.length c) Try.underlying22 rfl (ev_tmp rfl rfl) (hS.cell (i := 1) (o := 0) rfl rfl)) ?_
      refine dT (i := 2) (v := Value.int .i64 (k : Int)) rfl (by kernel_rfl) (by kernel_rfl) rfl M39 (fun _ hS => x_move (v := Value.int .i64 (k : Int)) (ev_tmp rfl rfl)) ?_
      obtain ⟨x45, hx44⟩ : ∃ x, l[k]? = some x := ⟨_, List.getElem?_eq_getElem (by omega)⟩
      obtain ⟨g41, o42, hA43⟩ := M39.roat (i := 1) rfl hx44
      refine dT (i := 3) (v := Value.pointer (some ⟨g41, o42 + k * 8, none⟩)) rfl (by kernel_rfl) (by kernel_rfl) rfl M39 (fun _ hS => x_elemA (b := g41) (o := o42) (k := k) ea_22 (ev_tmp rfl rfl) hA43 (ev_tmp rfl rfl) rfl (by omega)) ?_
      refine dT (i := 4) (v := Value.agg #[Value.string x45.b, Value.string x45.s, Value.string x45.p, Value.int .i64 x45.q, Value.int .i64 x45.r, Value.bool x45.bo, Value.bool x45.so, Value.int .u8 x45.st]) rfl (by kernel_rfl) (by kernel_rfl) rfl M39 (fun _ hS => x_loadw (cs := [Value.string x45.b, Value.string x45.s, Value.string x45.p, Value.int .i64 x45.q, Value.int .i64 x45.r, Value.bool x45.bo, Value.bool x45.so, Value.int .u8 x45.st]) Try.underlying34 rfl sz_34 (ev_tmp rfl rfl) (hS.rorange (i := 1) rfl hA43 hx44 (f := 0) ⟨rfl, rfl, rfl, rfl, rfl, rfl, rfl, rfl, trivial⟩)) ?_
      refine dT (i := 5) (v := Value.pointer (some ⟨b10, 0, none⟩)) rfl (by kernel_rfl) (by kernel_rfl) rfl M39 (fun _ hS => x_fieldv (b := b10) (o := 0) (q := 0) fa_24_0 (ev_tmp rfl rfl) rfl) ?_
      refine dT (i := 6) (v := Value.slice A2 l2.length c2) rfl (by kernel_rfl) (by kernel_rfl) rfl M39 (fun _ hS => x_load1 (v := Value.slice A2 l2.length c2) Try.underlying22 rfl (ev_tmp rfl rfl) (hS.cell (i := 0) (o := 0) rfl rfl)) ?_
      refine dT (i := 7) (v := Value.int .i64 (k : Int)) rfl (by kernel_rfl) (by kernel_rfl) rfl M39 (fun _ hS => x_move (v := Value.int .i64 (k : Int)) (ev_tmp rfl rfl)) ?_
      obtain ⟨x50, hx49⟩ : ∃ x, l2[k]? = some x := ⟨_, List.getElem?_eq_getElem (by omega)⟩
      obtain ⟨g46, o47, hA48⟩ := M39.roat (i := 0) rfl hx49
      refine dT (i := 8) (v := Value.pointer (some ⟨g46, o47 + k * 8, none⟩)) rfl (by kernel_rfl) (by kernel_rfl) rfl M39 (fun _ hS => x_elemA (b := g46) (o := o47) (k := k) ea_22 (ev_tmp rfl rfl) hA48 (ev_tmp rfl rfl) rfl (by omega)) ?_
      refine dT (i := 9) (v := Value.agg #[Value.string x50.b, Value.string x50.s, Value.string x50.p, Value.int .i64 x50.q, Value.int .i64 x50.r, Value.bool x50.bo, Value.bool x50.so, Value.int .u8 x50.st]) rfl (by kernel_rfl) (by kernel_rfl) rfl M39 (fun _ hS => x_loadw (cs := [Value.string x50.b, Value.string x50.s, Value.string x50.p, Value.int .i64 x50.q, Value.int .i64 x50.r, Value.bool x50.bo, Value.bool x50.so, Value.int .u8 x50.st]) Try.underlying34 rfl sz_34 (ev_tmp rfl rfl) (hS.rorange (i := 0) rfl hA48 hx49 (f := 0) ⟨rfl, rfl, rfl, rfl, rfl, rfl, rfl, rfl, trivial⟩)) ?_
      refine dT (i := 10) (v := Value.bool (!(tradeEq x45 x50))) rfl (by kernel_rfl) (by kernel_rfl) rfl M39 (fun _ hS => x_net (x := x45) (y := x50) (ev_tmp rfl rfl) (ev_tmp rfl rfl)) ?_
      refine dE (by kernel_rfl) ?_
      refine hK38 _ _ ?_
      refine c_cond (b := !(tradeEq x45 x50)) (ev_tmp rfl rfl) (fun h51 => ?_) (fun h51 => ?_)
      · have h52 : tradeEq x45 x50 = false := not_t h51
        refine c_seq fun K53 hK54 => ?_
        refine c_reg ?_
        refine st rfl (x_assign (v := Value.bool false) rfl) ?_
        refine s_nil ?_
        refine hK54 _ _ ?_
        refine c_ret ?_
        refine hT4 _ _ ?_
        refine r1 rfl (ev_tmp (v := Value.bool false) rfl rfl) ?_
        exact ⟨ret_bool (sameT_at hx44 hx49 (not_t h51)), M39.below⟩
      · have h55 : tradeEq x45 x50 = true := not_f h51
        refine c_skip ?_
        refine hK36 _ _ ?_
        refine c_reg ?_
        refine st rfl (x_move (v := Value.int .i64 (k : Int)) (ev_tmp rfl rfl)) ?_
        have hw56 : IntKind.i64.wrap ((k : Int) + 1) = (k : Int) + 1 := w64 (by rfl) (by omega) (by omega)
        refine st rfl (x_add_eq (p := (k : Int)) (q := 1) (ev_tmp rfl rfl) rfl hw56) ?_
        refine st rfl (x_assign (v := Value.int .i64 ((k : Int) + 1)) (ev_tmp rfl rfl)) ?_
        refine s_nil ?_
        exact ⟨_, _, (by omega : l.length - (k + 1) < l.length - k), fr_held (live := [(2, Value.pointer (some ⟨b7, 0, none⟩)), (3, Value.pointer (some ⟨b10, 0, none⟩)), (5, Value.int .i64 (((k + 1) : Nat) : Int))]) ⟨rfl, rfl, (congrArg (Value.int .i64) (by omega)), trivial⟩, (k + 1), _, rfl, rfl, M39, (by omega), (take2 hx44 hx49 hall (tradeEq_iff.1 (not_f h51)))⟩
    · have h57 : ¬ ((k : Int) < (l.length : Int)) := of_decide_eq_false h33
      refine c_exit ?_
      refine xb_here ?_
      refine hK23 _ _ ?_
      refine c_seq fun K58 hK59 => ?_
      refine c_reg ?_
      refine st rfl (x_assign (v := Value.bool true) rfl) ?_
      refine s_nil ?_
      refine hK59 _ _ ?_
      refine c_ret ?_
      refine hT4 _ _ ?_
      refine r1 rfl (ev_tmp (v := Value.bool true) rfl rfl) ?_
      exact ⟨ret_bool (sameT_all k (by omega) (by omega) hall), M28.below⟩

set_option maxHeartbeats 1000000 in
set_option maxRecDepth 20000 in
theorem sameLegs_r (A : Option Addr) (c : Nat) (l : List Leg) (A2 : Option Addr) (c2 : Nat) (l2 : List Leg) (w : World) (hs : SlB 0 w.heap.size w A c 6 Leg.cells l) (hs2 : SlB 0 w.heap.size w A2 c2 6 Leg.cells l2) :
    Calls Try.prog 24 #[Value.slice A l.length c, Value.slice A2 l2.length c2] w fun e w' => e = .returned (.bool (sameB legEq l l2)) ∧ Below w.heap.size w w' := by
  have hcm : l.length ≤ 9223372036854775807 := by have := hs.1; have := hs.2.1; simp only [maxLen] at this; omega
  have M0 := Mem.start w []
  have M1 := M0.see (Ro.sl 0 w.heap.size A c 6 Leg.cells l) (hs) (Nat.le_refl _)
  have M2 := M1.see (Ro.sl 0 w.heap.size A2 c2 6 Leg.cells l2) (hs2) (Nat.le_refl _)
  refine enter (args := [Value.slice A l.length c, Value.slice A2 l2.length c2]) Try.func24 rfl (n := 26) rfl rfl fun T3 hT4 => ?_
  refine c_seq fun K5 hK6 => ?_
  refine c_reg ?_
  refine st rfl (x_assign (v := Value.bool false) rfl) ?_
  refine s_nil ?_
  refine hK6 _ _ ?_
  refine c_seq fun K7 hK8 => ?_
  refine c_seq fun K9 hK10 => ?_
  refine c_reg ?_
  refine st rfl (x_move (v := Value.slice A l.length c) (ev_tmp rfl rfl)) ?_
  refine st rfl (x_lensl (n := l.length) Try.underlying26 (ev_tmp rfl rfl)) ?_
  refine st rfl (x_move (v := Value.slice A2 l2.length c2) (ev_tmp rfl rfl)) ?_
  refine st rfl (x_lensl (n := l2.length) Try.underlying26 (ev_tmp rfl rfl)) ?_
  refine st rfl (x_neq (p := (l.length : Int)) (q := (l2.length : Int)) (ev_tmp rfl rfl) (ev_tmp rfl rfl)) ?_
  refine s_nil ?_
  refine hK10 _ _ ?_
  refine c_cond (b := !(decide ((l.length : Int) = (l2.length : Int)))) (ev_tmp rfl rfl) (fun h11 => ?_) (fun h11 => ?_)
  · have h12 : ¬ ((l.length : Int) = (l2.length : Int)) := of_decide_eq_false (not_t h11)
    refine c_seq fun K13 hK14 => ?_
    refine c_reg ?_
    refine st rfl (x_assign (v := Value.bool false) rfl) ?_
    refine s_nil ?_
    refine hK14 _ _ ?_
    refine c_ret ?_
    refine hT4 _ _ ?_
    refine r1 rfl (ev_tmp (v := Value.bool false) rfl rfl) ?_
    exact ⟨ret_bool (sameL_len (of_decide_eq_false (not_t h11))), M2.below⟩
  · have h15 : (l.length : Int) = (l2.length : Int) := of_decide_eq_true (not_f h11)
    refine c_skip ?_
    refine hK8 _ _ ?_
    refine c_seq fun K16 hK17 => ?_
    refine c_seq fun K18 hK19 => ?_
    refine c_reg ?_
    refine st rfl (x_assign (v := Value.int .i64 0) rfl) ?_
    refine s_nil ?_
    refine hK19 _ _ ?_
    refine c_block ?_
    refine c_loopH (live := [(0, Value.slice A l.length c), (1, Value.slice A2 l2.length c2), (5, Value.int .i64 0)]) ⟨rfl, rfl, rfl, trivial⟩ (fun mm ll w1 => ∃ (k : Nat) (jk : List (Nat × Value)), mm = l.length - k ∧ ll = [(0, Value.slice A l.length c), (1, Value.slice A2 l2.length c2), (5, Value.int .i64 (k : Int))] ++ jk ∧ Mem w [] w1 [] [Ro.sl 0 w.heap.size A2 c2 6 Leg.cells l2, Ro.sl 0 w.heap.size A c 6 Leg.cells l] ∧ (k ≤ l.length) ∧ (l.take k = l2.take k)) ⟨0, _, rfl, rfl, M2, (by omega), (by simp)⟩ fun mm ll w1 hI20 => ?_
    obtain ⟨k, jk, rfl, rfl, M22, hk, hall⟩ := hI20
    obtain ⟨w21, rfl⟩ : ∃ x, x = w1 := ⟨_, rfl⟩
    refine c_seq fun K23 hK24 => ?_
    refine c_seq fun K25 hK26 => ?_
    refine c_reg ?_
    refine st rfl (x_move (v := Value.int .i64 (k : Int)) (ev_tmp rfl rfl)) ?_
    refine st rfl (x_move (v := Value.slice A l.length c) (ev_tmp rfl rfl)) ?_
    refine st rfl (x_lensl (n := l.length) Try.underlying26 (ev_tmp rfl rfl)) ?_
    refine st rfl (x_lss (p := (k : Int)) (q := (l.length : Int)) (ev_tmp rfl rfl) (ev_tmp rfl rfl)) ?_
    refine s_nil ?_
    refine hK26 _ _ ?_
    refine c_cond (b := decide ((k : Int) < (l.length : Int))) (ev_tmp rfl rfl) (fun h27 => ?_) (fun h27 => ?_)
    · have h28 : (k : Int) < (l.length : Int) := of_decide_eq_true h27
      refine c_skip ?_
      refine hK24 _ _ ?_
      refine c_seq fun K29 hK30 => ?_
      refine c_block ?_
      refine c_seq fun K31 hK32 => ?_
      have M33 := M22.drew
      refine c_drawn (fun w1 => Mem w [] w1 [] [Ro.sl 0 w.heap.size A2 c2 6 Leg.cells l2, Ro.sl 0 w.heap.size A c 6 Leg.cells l]) mixed ?_
      generalize w21.drew = w34 at M33 ⊢
      refine dT (i := 0) (v := Value.slice A l.length c) rfl (by kernel_rfl) (by kernel_rfl) rfl M33 (fun _ hS => x_move (v := Value.slice A l.length c) (ev_tmp rfl rfl)) ?_
      refine dT (i := 1) (v := Value.int .i64 (k : Int)) rfl (by kernel_rfl) (by kernel_rfl) rfl M33 (fun _ hS => x_move (v := Value.int .i64 (k : Int)) (ev_tmp rfl rfl)) ?_
      obtain ⟨x39, hx38⟩ : ∃ x, l[k]? = some x := ⟨_, List.getElem?_eq_getElem (by omega)⟩
      obtain ⟨g35, o36, hA37⟩ := M33.roat (i := 1) rfl hx38
      refine dT (i := 2) (v := Value.pointer (some ⟨g35, o36 + k * 6, none⟩)) rfl (by kernel_rfl) (by kernel_rfl) rfl M33 (fun _ hS => x_elemA (b := g35) (o := o36) (k := k) ea_26 (ev_tmp rfl rfl) hA37 (ev_tmp rfl rfl) rfl (by omega)) ?_
      refine dT (i := 3) (v := Value.agg #[Value.int .i64 x39.n, Value.string x39.b, Value.string x39.s, Value.string x39.p, Value.int .i64 x39.q, Value.int .i64 x39.r]) rfl (by kernel_rfl) (by kernel_rfl) rfl M33 (fun _ hS => x_loadw (cs := [Value.int .i64 x39.n, Value.string x39.b, Value.string x39.s, Value.string x39.p, Value.int .i64 x39.q, Value.int .i64 x39.r]) Try.underlying32 rfl sz_32 (ev_tmp rfl rfl) (hS.rorange (i := 1) rfl hA37 hx38 (f := 0) ⟨rfl, rfl, rfl, rfl, rfl, rfl, trivial⟩)) ?_
      refine dT (i := 4) (v := Value.slice A2 l2.length c2) rfl (by kernel_rfl) (by kernel_rfl) rfl M33 (fun _ hS => x_move (v := Value.slice A2 l2.length c2) (ev_tmp rfl rfl)) ?_
      refine dT (i := 5) (v := Value.int .i64 (k : Int)) rfl (by kernel_rfl) (by kernel_rfl) rfl M33 (fun _ hS => x_move (v := Value.int .i64 (k : Int)) (ev_tmp rfl rfl)) ?_
      obtain ⟨x44, hx43⟩ : ∃ x, l2[k]? = some x := ⟨_, List.getElem?_eq_getElem (by omega)⟩
      obtain ⟨g40, o41, hA42⟩ := M33.roat (i := 0) rfl hx43
      refine dT (i := 6) (v := Value.pointer (some ⟨g40, o41 + k * 6, none⟩)) rfl (by kernel_rfl) (by kernel_rfl) rfl M33 (fun _ hS => x_elemA (b := g40) (o := o41) (k := k) ea_26 (ev_tmp rfl rfl) hA42 (ev_tmp rfl rfl) rfl (by omega)) ?_
      refine dT (i := 7) (v := Value.agg #[Value.int .i64 x44.n, Value.string x44.b, Value.string x44.s, Value.string x44.p, Value.int .i64 x44.q, Value.int .i64 x44.r]) rfl (by kernel_rfl) (by kernel_rfl) rfl M33 (fun _ hS => x_loadw (cs := [Value.int .i64 x44.n, Value.string x44.b, Value.string x44.s, Value.string x44.p, Value.int .i64 x44.q, Value.int .i64 x44.r]) Try.underlying32 rfl sz_32 (ev_tmp rfl rfl) (hS.rorange (i := 0) rfl hA42 hx43 (f := 0) ⟨rfl, rfl, rfl, rfl, rfl, rfl, trivial⟩)) ?_
      refine dT (i := 8) (v := Value.bool (!(legEq x39 x44))) rfl (by kernel_rfl) (by kernel_rfl) rfl M33 (fun _ hS => x_nel (x := x39) (y := x44) (ev_tmp rfl rfl) (ev_tmp rfl rfl)) ?_
      refine dE (by kernel_rfl) ?_
      refine hK32 _ _ ?_
      refine c_cond (b := !(legEq x39 x44)) (ev_tmp rfl rfl) (fun h45 => ?_) (fun h45 => ?_)
      · have h46 : legEq x39 x44 = false := not_t h45
        refine c_seq fun K47 hK48 => ?_
        refine c_reg ?_
        refine st rfl (x_assign (v := Value.bool false) rfl) ?_
        refine s_nil ?_
        refine hK48 _ _ ?_
        refine c_ret ?_
        refine hT4 _ _ ?_
        refine r1 rfl (ev_tmp (v := Value.bool false) rfl rfl) ?_
        exact ⟨ret_bool (sameL_at hx38 hx43 (not_t h45)), M33.below⟩
      · have h49 : legEq x39 x44 = true := not_f h45
        refine c_skip ?_
        refine hK30 _ _ ?_
        refine c_reg ?_
        refine st rfl (x_move (v := Value.int .i64 (k : Int)) (ev_tmp rfl rfl)) ?_
        have hw50 : IntKind.i64.wrap ((k : Int) + 1) = (k : Int) + 1 := w64 (by rfl) (by omega) (by omega)
        refine st rfl (x_add_eq (p := (k : Int)) (q := 1) (ev_tmp rfl rfl) rfl hw50) ?_
        refine st rfl (x_assign (v := Value.int .i64 ((k : Int) + 1)) (ev_tmp rfl rfl)) ?_
        refine s_nil ?_
        exact ⟨_, _, (by omega : l.length - (k + 1) < l.length - k), fr_held (live := [(0, Value.slice A l.length c), (1, Value.slice A2 l2.length c2), (5, Value.int .i64 (((k + 1) : Nat) : Int))]) ⟨rfl, rfl, (congrArg (Value.int .i64) (by omega)), trivial⟩, (k + 1), _, rfl, rfl, M33, (by omega), (take2 hx38 hx43 hall (legEq_iff.1 (not_f h45)))⟩
    · have h51 : ¬ ((k : Int) < (l.length : Int)) := of_decide_eq_false h27
      refine c_exit ?_
      refine xb_here ?_
      refine hK17 _ _ ?_
      refine c_seq fun K52 hK53 => ?_
      refine c_reg ?_
      refine st rfl (x_assign (v := Value.bool true) rfl) ?_
      refine s_nil ?_
      refine hK53 _ _ ?_
      refine c_ret ?_
      refine hT4 _ _ ?_
      refine r1 rfl (ev_tmp (v := Value.bool true) rfl rfl) ?_
      exact ⟨ret_bool (sameL_all k (by omega) (by omega) hall), M22.below⟩

set_option maxHeartbeats 1000000 in
set_option maxRecDepth 20000 in
theorem clone_some (A : Addr) (c : Nat) (l : List Trade) (w : World) (hs : SlB 0 w.heap.size w (some A) c 8 Trade.cells l) (hl : l.length ≤ 100000) :
    Calls Try.prog 36 #[Value.slice (some A) l.length c] w fun e w' => ∃ A' c', e = .returned (.slice A' l.length c') ∧ Below w.heap.size w w' ∧ w'.ownsRow w.heap.size 34 8 (.slice A' l.length c') l.length (l.flatMap Trade.cells) := by
  have M0 := Mem.start w []
  have M1 := M0.see (Ro.sl 0 w.heap.size (some A) c 8 Trade.cells l) (hs) (Nat.le_refl _)
  refine enter (args := [Value.slice (some A) l.length c]) Try.func36 rfl (n := 8) rfl rfl fun T2 hT3 => ?_
  refine c_seq fun K4 hK5 => ?_
  refine c_reg ?_
  refine st rfl (x_assign (v := Value.slice none 0 0) rfl) ?_
  refine s_nil ?_
  refine hK5 _ _ ?_
  refine c_seq fun K6 hK7 => ?_
  refine c_seq fun K8 hK9 => ?_
  refine c_reg ?_
  refine st rfl (x_move (v := Value.slice (some A) l.length c) (ev_tmp rfl rfl)) ?_
  refine st rfl (x_slnil_eql Try.underlying22 (ev_tmp rfl rfl) rfl) ?_
  refine s_nil ?_
  refine hK9 _ _ ?_
  refine c_cond_f (ev_tmp rfl rfl) ?_
  refine c_skip ?_
  refine hK7 _ _ ?_
  refine c_seq fun K11 hK12 => ?_
  refine c_reg ?_
  refine snews (cs := #[]) M1 rfl (x_buildSlicez Try.underlying22 z_34) fun b13 w14 M15 => ?_
  refine st rfl (x_move (v := Value.slice (some A) l.length c) (ev_tmp rfl rfl)) ?_
  have M16 := M15.emptyRow (i := 0) rfl 8
  refine sapp (k := 0) (news := l.flatMap Trade.cells) M16 rfl app_22 rfl (ev_tmp rfl rfl) (ev_tmp rfl rfl) (flat_len Trade.len l) ((M16.slw (i := 0) rfl).news Trade.len (by omega)) (flat_one Trade.one l) (by simp only [maxLen]; omega) (by omega) fun A18 c19 w20 M21 => ?_
  refine st rfl (x_assign (v := Value.slice A18 (0 + l.length) c19) (ev_tmp rfl rfl)) ?_
  refine s_nil ?_
  refine hK12 _ _ ?_
  refine c_ret ?_
  refine hT3 _ _ ?_
  refine r1 rfl (ev_tmp (v := Value.slice A18 (0 + l.length) c19) rfl rfl) ?_
  have hrow := M21.rownew (i := 0) rfl
  rw [Nat.zero_add] at hrow
  refine ⟨_, _, ?_, M21.below, hrow⟩
  rw [Nat.zero_add]

set_option maxHeartbeats 1000000 in
set_option maxRecDepth 20000 in
theorem clone_none (w : World) :
    Calls Try.prog 36 #[Value.slice none 0 0] w fun e w' => e = .returned (.slice none 0 0) ∧ Below w.heap.size w w' := by
  have M0 := Mem.start w []
  refine enter (args := [Value.slice none 0 0]) Try.func36 rfl (n := 8) rfl rfl fun T1 hT2 => ?_
  refine c_seq fun K3 hK4 => ?_
  refine c_reg ?_
  refine st rfl (x_assign (v := Value.slice none 0 0) rfl) ?_
  refine s_nil ?_
  refine hK4 _ _ ?_
  refine c_seq fun K5 hK6 => ?_
  refine c_seq fun K7 hK8 => ?_
  refine c_reg ?_
  refine st rfl (x_move (v := Value.slice none 0 0) (ev_tmp rfl rfl)) ?_
  refine st rfl (x_slnil_eql Try.underlying22 (ev_tmp rfl rfl) rfl) ?_
  refine s_nil ?_
  refine hK8 _ _ ?_
  refine c_cond_t (ev_tmp rfl rfl) ?_
  refine c_seq fun K10 hK11 => ?_
  refine c_reg ?_
  refine st rfl (x_assign (v := Value.slice none 0 0) rfl) ?_
  refine s_nil ?_
  refine hK11 _ _ ?_
  refine c_ret ?_
  refine hT2 _ _ ?_
  refine r1 rfl (ev_tmp (v := Value.slice none 0 0) rfl rfl) ?_
  exact ⟨rfl, M0.below⟩

theorem clone_c (A : Option Addr) (c : Nat) (l : List Trade) (w : World) (hs : SlB 0 w.heap.size w A c 8 Trade.cells l) (hl : l.length ≤ 100000) :
    Calls Try.prog 36 #[.slice A l.length c] w fun e w' => ∃ A' c', e = .returned (.slice A' l.length c') ∧ Below w.heap.size w w' ∧ w'.ownsRow w.heap.size 34 8 (.slice A' l.length c') l.length (l.flatMap Trade.cells) := by
  cases A with
  | some a => exact clone_some a c l w hs hl
  | none =>
    have hc : c = 0 := hs.2.2.1 rfl
    subst hc
    have h0 : l = [] := List.eq_nil_of_length_eq_zero (by have := hs.1; omega)
    subst h0
    refine (clone_none w).mono fun e w' h => ⟨none, 0, h.1, h.2, ?_⟩
    exact World.ownsRow_nil w' w.heap.size 34 8

set_option maxHeartbeats 1000000 in
set_option maxRecDepth 20000 in
theorem twin_some (A : Addr) (c : Nat) (l : List Trade) (w : World) (hs : SlB 0 w.heap.size w (some A) c 8 Trade.cells l) (hl : l.length ≤ 100000) :
    Calls Try.prog 16 #[Value.agg #[Value.slice (some A) l.length c]] w fun e w' => ∃ A' c', e = .returned (.agg #[.slice A' l.length c']) ∧ Below w.heap.size w w' ∧ w'.ownsRow w.heap.size 34 8 (.slice A' l.length c') l.length (l.flatMap Trade.cells) := by
  have M0 := Mem.start w []
  have M1 := M0.see (Ro.sl 0 w.heap.size (some A) c 8 Trade.cells l) (hs) (Nat.le_refl _)
  refine enter (args := [Value.agg #[Value.slice (some A) l.length c]]) Try.func16 rfl (n := 8) rfl rfl fun T2 hT3 => ?_
  refine c_seq fun K4 hK5 => ?_
  refine c_reg ?_
  refine snew (cs := #[Value.slice (some A) l.length c]) M1 rfl (x_box (v := Value.agg #[Value.slice (some A) l.length c]) (ev_tmp rfl rfl)) fun b6 w7 M8 => ?_
  refine snew (cs := #[Value.slice none 0 0]) M8 rfl (x_allocz z_24) fun b9 w10 M11 => ?_
  refine s_nil ?_
  refine hK5 _ _ ?_
  refine c_seq fun K12 hK13 => ?_
  refine c_reg ?_
  refine snews (cs := #[]) M11 rfl (x_buildSlicez Try.underlying22 z_34) fun b14 w15 M16 => ?_
  refine st rfl (x_fieldv (b := b6) (o := 0) (q := 0) fa_24_0 (ev_tmp rfl rfl) rfl) ?_
  refine st rfl (x_load1 (v := Value.slice (some A) l.length c) Try.underlying22 rfl (ev_tmp rfl rfl) (M16.cell (i := 2) (o := 0) rfl rfl)) ?_
  have M17 := M16.emptyRow (i := 0) rfl 8
  refine sapp (k := 0) (news := l.flatMap Trade.cells) M17 rfl app_22 rfl (ev_tmp rfl rfl) (ev_tmp rfl rfl) (flat_len Trade.len l) ((M17.slw (i := 0) rfl).news Trade.len (by omega)) (flat_one Trade.one l) (by simp only [maxLen]; omega) (by omega) fun A19 c20 w21 M22 => ?_
  refine st rfl (x_buildL (ps := [(0, .tmp 6)]) (vs := [(0, Value.slice A19 (0 + l.length) c20)]) (cs := #[Value.slice A19 (0 + l.length) c20]) ⟨⟨rfl, (ev_tmp rfl rfl)⟩, trivial⟩ (by kernel_rfl)) ?_
  refine sset (i := 1) (L' := [Own.row 34 8 (Value.slice A19 (0 + l.length) c20) (0 + l.length) ([] ++ l.flatMap Trade.cells), Own.cells b9 24 #[Value.slice A19 (0 + l.length) c20], Own.cells b6 24 #[Value.slice (some A) l.length c]]) M22 rfl rfl (x_storew (cs := [Value.slice A19 (0 + l.length) c20]) sz_24 (ev_tmp rfl rfl) (ev_tmp rfl rfl) (M22.cells_at (i := 1) rfl) rfl ⟨rfl, trivial⟩) fun w23 M24 => ?_
  refine s_nil ?_
  refine hK13 _ _ ?_
  refine c_ret ?_
  refine hT3 _ _ ?_
  refine rm1 rfl (rL (cs := [Value.slice A19 (0 + l.length) c20]) (ev_tmp rfl rfl) Try.underlying24 rfl sz_24 (M24.range (i := 1) rfl ⟨rfl, trivial⟩)) ?_
  have hrow := M24.rownew (i := 0) rfl
  try simp only [Nat.zero_add, List.nil_append] at hrow ⊢
  exact ⟨_, _, rfl, M24.below, hrow⟩

set_option maxHeartbeats 1000000 in
set_option maxRecDepth 20000 in
theorem twin_none (w : World) :
    Calls Try.prog 16 #[Value.agg #[Value.slice none 0 0]] w fun e w' => ∃ A' c', e = .returned (.agg #[.slice A' 0 c']) ∧ Below w.heap.size w w' ∧ w'.ownsRow w.heap.size 34 8 (.slice A' 0 c') 0 [] := by
  have M0 := Mem.start w []
  refine enter (args := [Value.agg #[Value.slice none 0 0]]) Try.func16 rfl (n := 8) rfl rfl fun T1 hT2 => ?_
  refine c_seq fun K3 hK4 => ?_
  refine c_reg ?_
  refine snew (cs := #[Value.slice none 0 0]) M0 rfl (x_box (v := Value.agg #[Value.slice none 0 0]) (ev_tmp rfl rfl)) fun b5 w6 M7 => ?_
  refine snew (cs := #[Value.slice none 0 0]) M7 rfl (x_allocz z_24) fun b8 w9 M10 => ?_
  refine s_nil ?_
  refine hK4 _ _ ?_
  refine c_seq fun K11 hK12 => ?_
  refine c_reg ?_
  refine snews (cs := #[]) M10 rfl (x_buildSlicez Try.underlying22 z_34) fun b13 w14 M15 => ?_
  refine st rfl (x_fieldv (b := b5) (o := 0) (q := 0) fa_24_0 (ev_tmp rfl rfl) rfl) ?_
  refine st rfl (x_load1 (v := Value.slice none 0 0) Try.underlying22 rfl (ev_tmp rfl rfl) (M15.cell (i := 2) (o := 0) rfl rfl)) ?_
  have M16 := M15.emptyRow (i := 0) rfl 8
  refine sapp0 (k := 0) M16 rfl app_22 rfl (ev_tmp rfl rfl) (ev_tmp rfl rfl) ?_
  refine st rfl (x_buildL (ps := [(0, .tmp 6)]) (vs := [(0, Value.slice (some ⟨b13, 0, none⟩) 0 0)]) (cs := #[Value.slice (some ⟨b13, 0, none⟩) 0 0]) ⟨⟨rfl, (ev_tmp rfl rfl)⟩, trivial⟩ (by kernel_rfl)) ?_
  refine sset (i := 1) (L' := [Own.row 34 8 (Value.slice (some ⟨b13, 0, none⟩) 0 0) 0 ([]), Own.cells b8 24 #[Value.slice (some ⟨b13, 0, none⟩) 0 0], Own.cells b5 24 #[Value.slice none 0 0]]) M16 rfl rfl (x_storew (cs := [Value.slice (some ⟨b13, 0, none⟩) 0 0]) sz_24 (ev_tmp rfl rfl) (ev_tmp rfl rfl) (M16.cells_at (i := 1) rfl) rfl ⟨rfl, trivial⟩) fun w18 M19 => ?_
  refine s_nil ?_
  refine hK12 _ _ ?_
  refine c_ret ?_
  refine hT2 _ _ ?_
  refine rm1 rfl (rL (cs := [Value.slice (some ⟨b13, 0, none⟩) 0 0]) (ev_tmp rfl rfl) Try.underlying24 rfl sz_24 (M19.range (i := 1) rfl ⟨rfl, trivial⟩)) ?_
  have hrow := M19.rownew (i := 0) rfl
  try simp only [Nat.zero_add, List.nil_append] at hrow ⊢
  exact ⟨_, _, rfl, M19.below, hrow⟩

theorem twin_r (A : Option Addr) (c : Nat) (l : List Trade) (w : World) (hs : SlB 0 w.heap.size w A c 8 Trade.cells l) (hl : l.length ≤ 100000) :
    Calls Try.prog 16 #[.agg #[.slice A l.length c]] w fun e w' => ∃ A' c', e = .returned (.agg #[.slice A' l.length c']) ∧ Below w.heap.size w w' ∧ w'.ownsRow w.heap.size 34 8 (.slice A' l.length c') l.length (l.flatMap Trade.cells) := by
  cases A with
  | some a => exact twin_some a c l w hs hl
  | none =>
    have hc : c = 0 := hs.2.2.1 rfl
    subst hc
    have h0 : l = [] := List.eq_nil_of_length_eq_zero (by have := hs.1; omega)
    subst h0
    exact (twin_none w).mono fun e w' h => h

end Go.Proofs.Ytkimdlpfbojkgaa
