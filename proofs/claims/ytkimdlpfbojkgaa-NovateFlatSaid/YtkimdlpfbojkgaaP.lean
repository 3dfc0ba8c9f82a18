/- Contracts: positions. -/
import Derived.Test.YtkimdlpfbojkgaaL
namespace Go.Proofs.Ytkimdlpfbojkgaa
open Go.RowKit
/-- One leg more in a position: what is bought less what is sold, and its cost. -/
def addLeg (who product : ByteArray) (a : Int × Int) (x : Leg) : Int × Int :=
  if x.p.data.toList = product.data.toList then
    let a1 := if x.b.data.toList = who.data.toList then (a.1 + x.q, a.2 + x.q * x.r) else a
    if x.s.data.toList = who.data.toList then (a1.1 - x.q, a1.2 - x.q * x.r) else a1
  else a
def posL (l : List Leg) (who product : ByteArray) : Int × Int := l.foldl (addLeg who product) (0, 0)
theorem posL_snoc {l : List Leg} {k : Nat} {x : Leg} {who product : ByteArray} (hx : l[k]? = some x) : posL (l.take (k + 1)) who product = addLeg who product (posL (l.take k) who product) x := by
  unfold posL
  rw [take_at hx, List.foldl_append]; rfl
section
variable {who product : ByteArray} {a : Int × Int} {x : Leg}
theorem al0 (h : (!decide (x.p.data.toList = product.data.toList)) = true) : addLeg who product a x = (a.1, a.2) := by unfold addLeg; rw [if_neg (of_decide_eq_false (not_t h))]
theorem al_tt (h : (!decide (x.p.data.toList = product.data.toList)) = false) (hb : decide (x.b.data.toList = who.data.toList) = true) (hs : decide (x.s.data.toList = who.data.toList) = true) : addLeg who product a x = (a.1 + x.q - x.q, a.2 + x.q * x.r - x.q * x.r) := by
  unfold addLeg; rw [if_pos (of_decide_eq_true (not_f h))]; simp only [if_pos (of_decide_eq_true hb), if_pos (of_decide_eq_true hs)]
theorem al_tf (h : (!decide (x.p.data.toList = product.data.toList)) = false) (hb : decide (x.b.data.toList = who.data.toList) = true) (hs : decide (x.s.data.toList = who.data.toList) = false) : addLeg who product a x = (a.1 + x.q, a.2 + x.q * x.r) := by
  unfold addLeg; rw [if_pos (of_decide_eq_true (not_f h))]; simp only [if_pos (of_decide_eq_true hb), if_neg (of_decide_eq_false hs)]
theorem al_ft (h : (!decide (x.p.data.toList = product.data.toList)) = false) (hb : decide (x.b.data.toList = who.data.toList) = false) (hs : decide (x.s.data.toList = who.data.toList) = true) : addLeg who product a x = (a.1 - x.q, a.2 - x.q * x.r) := by
  unfold addLeg; rw [if_pos (of_decide_eq_true (not_f h))]; simp only [if_neg (of_decide_eq_false hb), if_pos (of_decide_eq_true hs)]
theorem al_ff (h : (!decide (x.p.data.toList = product.data.toList)) = false) (hb : decide (x.b.data.toList = who.data.toList) = false) (hs : decide (x.s.data.toList = who.data.toList) = false) : addLeg who product a x = (a.1, a.2) := by
  unfold addLeg; rw [if_pos (of_decide_eq_true (not_f h))]; simp only [if_neg (of_decide_eq_false hb), if_neg (of_decide_eq_false hs)]
end
theorem terms_bd {t : Trade} (h : termsB t = true) : 1 ≤ t.q ∧ t.q ≤ 1048576 ∧ -536870912 ≤ t.r ∧ t.r ≤ 536870912 := by
  unfold termsB at h
  exact ⟨of_decide_eq_true (and_r (and_l (and_l (and_l h)))), of_decide_eq_true (and_r (and_l (and_l h))), of_decide_eq_true (and_r (and_l h)), of_decide_eq_true (and_r h)⟩
theorem mul_bd {q r : Int} (h1 : 1 ≤ q) (h2 : q ≤ 1048576) (h3 : -536870912 ≤ r) (h4 : r ≤ 536870912) : -562949953421312 ≤ q * r ∧ q * r ≤ 562949953421312 := by
  have ha : q * r ≤ q * 536870912 := Int.mul_le_mul_of_nonneg_left h4 (by omega)
  have hb : q * (-536870912) ≤ q * r := Int.mul_le_mul_of_nonneg_left h3 (by omega)
  constructor <;> omega
theorem legs_mem {l : List Trade} {y : Leg} (h : y ∈ legs l) : ∃ t ∈ l, ∃ k, t.st = 1 ∧ y ∈ legs1 k t := by
  unfold legs at h
  obtain ⟨⟨t, k⟩, hm, hy⟩ := List.mem_flatMap.1 h
  have ht : t ∈ l := by
    obtain ⟨_, _, h3⟩ := List.mem_zipIdx hm
    rw [h3]; exact List.getElem_mem _
  by_cases hs : t.st = 1
  · exact ⟨t, ht, k, hs, by simpa [hs] using hy⟩
  · simp [hs] at hy
theorem legsC_bd {l : List Trade} {k : Nat} {x : Leg} (hx : (legsC l)[k]? = some x) : 1 ≤ x.q ∧ x.q ≤ 1048576 ∧ -562949953421312 ≤ x.q * x.r ∧ x.q * x.r ≤ 562949953421312 := by
  have hm := List.mem_of_getElem? hx
  unfold legsC at hm
  by_cases hc : checkB l = true
  · rw [if_pos hc] at hm
    obtain ⟨t, ht, j, _, hy⟩ := legs_mem hm
    have hr : rightB t = true := List.all_eq_true.1 (and_r hc) t ht
    have ⟨h1, h2, h3, h4⟩ := terms_bd (and_l hr)
    have hb := mul_bd h1 h2 h3 h4
    simp only [legs1, List.mem_cons, List.not_mem_nil, or_false] at hy
    rcases hy with rfl | rfl <;> exact ⟨h1, h2, hb.1, hb.2⟩
  · rw [if_neg hc] at hm; cases hm
theorem legs_len_le : ∀ (l : List Trade), (legs l).length ≤ 2 * l.length := by
  intro l
  have h : ∀ k, k ≤ l.length → (legs (l.take k)).length ≤ 2 * k := by
    intro k
    induction k with
    | zero => intro _; simp [legs]
    | succ k ih =>
      intro hk
      have hx : l[k]? = some (l[k]'(by omega)) := List.getElem?_eq_getElem (by omega)
      rw [legs_snoc hx, List.length_append]
      have := ih (by omega)
      split <;> simp [legs1] <;> omega
  have := h l.length (Nat.le_refl _)
  rwa [List.take_length] at this
theorem legsC_len (l : List Trade) : (legsC l).length ≤ 400 := by
  unfold legsC
  split
  · rename_i hc
    have h1 : l.length ≤ 200 := of_decide_eq_true (and_l hc)
    have := legs_len_le l
    omega
  · simp
set_option maxHeartbeats 1000000 in
set_option maxRecDepth 20000 in
theorem position_c (A : Option Addr) (c : Nat) (l : List Trade) (who product : ByteArray) (w : World) (hs : SlB 0 w.heap.size w A c 8 Trade.cells l) :
    Calls Try.prog 14 #[Value.agg #[Value.slice A l.length c], Value.string who, Value.string product] w fun e w' => e = .returned (.tuple #[.int .i64 (posL (legsC l) who product).1, .int .i64 (posL (legsC l) who product).2, .int .i64 (chk l)]) ∧ Below w.heap.size w w' := by
  have hl400 := legsC_len l
  have M0 := Mem.start w []
  have M1 := M0.see (Ro.sl 0 w.heap.size A c 8 Trade.cells l) (hs) (Nat.le_refl _)
  refine enter (args := [Value.agg #[Value.slice A l.length c], Value.string who, Value.string product]) Try.func14 rfl (n := 64) rfl rfl fun T2 hT3 => ?_
  refine c_seq fun K4 hK5 => ?_
  refine c_reg ?_
  refine snew (cs := #[Value.slice A l.length c]) M1 rfl (x_box (v := Value.agg #[Value.slice A l.length c]) (ev_tmp rfl rfl)) fun b6 w7 M8 => ?_
  refine st rfl (x_assign (v := Value.int .i64 0) rfl) ?_
  refine st rfl (x_assign (v := Value.int .i64 0) rfl) ?_
  refine st rfl (x_assign (v := Value.int .i64 0) rfl) ?_
  refine s_nil ?_
  refine hK5 _ _ ?_
  refine c_seq fun K9 hK10 => ?_
  refine c_reg ?_
  refine st rfl (x_loadw (cs := [Value.slice A l.length c]) Try.underlying24 rfl sz_24 (ev_tmp rfl rfl) (M8.range (i := 0) rfl ⟨rfl, trivial⟩)) ?_
  refine sC rfl (x_callL (xs := [.tmp 16]) (vs := [Value.agg #[Value.slice A l.length c]]) (cap := []) ent_12 rfl ⟨(ev_tmp rfl rfl), trivial⟩) (legs_c _ _ l _ (M8.slw (i := 0) rfl)) ?_
  rintro _ w13 ⟨A11, c12, rfl, hb14, hs15⟩
  refine ⟨_, rfl, ?_⟩
  have M16 := M8.gotSl hb14 hs15
  refine st rfl (x_move (v := Value.tuple #[Value.slice A11 ((legsC l).length) c12, Value.int .i64 (chk l)]) (ev_tmp rfl rfl)) ?_
  refine st rfl (x_extract (v := Value.slice A11 ((legsC l).length) c12) (ev_tmp rfl rfl) rfl) ?_
  refine st rfl (x_extract (v := Value.int .i64 (chk l)) (ev_tmp rfl rfl) rfl) ?_
  refine st rfl (x_assign (v := Value.slice A11 ((legsC l).length) c12) (ev_tmp rfl rfl)) ?_
  refine st rfl (x_assign (v := Value.int .i64 (chk l)) (ev_tmp rfl rfl)) ?_
  refine s_nil ?_
  refine hK10 _ _ ?_
  refine c_seq fun K18 hK19 => ?_
  refine c_reg ?_
  refine st rfl (x_assign (v := Value.int .i64 0) rfl) ?_
  refine st rfl (x_assign (v := Value.int .i64 0) rfl) ?_
  refine s_nil ?_
  refine hK19 _ _ ?_
  refine c_seq fun K20 hK21 => ?_
  refine c_seq fun K22 hK23 => ?_
  refine c_reg ?_
  refine st rfl (x_move (v := Value.slice A11 ((legsC l).length) c12) (ev_tmp rfl rfl)) ?_
  refine st rfl (x_lensl (n := ((legsC l).length)) Try.underlying26 (ev_tmp rfl rfl)) ?_
  refine st rfl (x_move (v := Value.int .i64 0) rfl) ?_
  refine s_nil ?_
  refine hK23 _ _ ?_
  refine c_block ?_
  refine c_loopH (live := [(1, Value.string who), (2, Value.string product), (6, Value.int .i64 0), (7, Value.int .i64 0), (8, Value.int .i64 0), (10, Value.int .i64 (chk l)), (11, Value.int .i64 ((posL ((legsC l).take 0) who product).1)), (12, Value.int .i64 ((posL ((legsC l).take 0) who product).2)), (20, Value.slice A11 ((legsC l).length) c12), (21, Value.int .i64 ((legsC l).length : Int)), (22, Value.int .i64 0)]) ⟨rfl, rfl, rfl, rfl, rfl, rfl, rfl, rfl, rfl, rfl, rfl, trivial⟩ (fun mm ll w1 => ∃ (k : Nat) (jk : List (Nat × Value)), mm = (legsC l).length - k ∧ ll = [(1, Value.string who), (2, Value.string product), (6, Value.int .i64 0), (7, Value.int .i64 0), (8, Value.int .i64 0), (10, Value.int .i64 (chk l)), (11, Value.int .i64 ((posL ((legsC l).take k) who product).1)), (12, Value.int .i64 ((posL ((legsC l).take k) who product).2)), (20, Value.slice A11 ((legsC l).length) c12), (21, Value.int .i64 ((legsC l).length : Int)), (22, Value.int .i64 (k : Int))] ++ jk ∧ Mem w [] w1 [Own.cells b6 24 #[Value.slice A l.length c]] [Ro.sl w7.heap.size w13.heap.size A11 c12 6 Leg.cells (legsC l), Ro.sl 0 w.heap.size A c 8 Trade.cells l] ∧ (k ≤ (legsC l).length) ∧ (-((k : Int) * 1048576) ≤ (posL ((legsC l).take k) who product).1) ∧ ((posL ((legsC l).take k) who product).1 ≤ (k : Int) * 1048576) ∧ (-((k : Int) * 562949953421312) ≤ (posL ((legsC l).take k) who product).2) ∧ ((posL ((legsC l).take k) who product).2 ≤ (k : Int) * 562949953421312)) ⟨0, _, rfl, rfl, M16, (by omega), (by simp [posL]), (by simp [posL]), (by simp [posL]), (by simp [posL])⟩ fun mm ll w1 hI24 => ?_
  obtain ⟨k, jk, rfl, rfl, M26, hk, hb1, hb2, hb3, hb4⟩ := hI24
  obtain ⟨w25, rfl⟩ : ∃ x, x = w1 := ⟨_, rfl⟩
  refine c_seq fun K27 hK28 => ?_
  refine c_reg ?_
  refine st rfl (x_lss (p := (k : Int)) (q := ((legsC l).length : Int)) (ev_tmp rfl rfl) (ev_tmp rfl rfl)) ?_
  refine s_nil ?_
  refine hK28 _ _ ?_
  refine c_seq fun K29 hK30 => ?_
  refine c_cond (b := decide ((k : Int) < ((legsC l).length : Int))) (ev_tmp rfl rfl) (fun h31 => ?_) (fun h31 => ?_)
  · have h32 : (k : Int) < ((legsC l).length : Int) := of_decide_eq_true h31
    obtain ⟨x, hx⟩ : ∃ x, (legsC l)[k]? = some x := ⟨_, List.getElem?_eq_getElem (by omega)⟩
    obtain ⟨hq1, hq2, hm1, hm2⟩ := legsC_bd hx
    refine c_skip ?_
    refine hK30 _ _ ?_
    refine c_seq fun K33 hK34 => ?_
    refine c_block ?_
    refine c_seq fun K35 hK36 => ?_
    refine c_reg ?_
    obtain ⟨g37, o38, hA39⟩ := M26.roat (i := 0) rfl hx
    refine st rfl (x_elemA (b := g37) (o := o38) (k := k) ea_26 (ev_tmp rfl rfl) hA39 (ev_tmp rfl rfl) rfl (by omega)) ?_
    refine st rfl (x_loadw (cs := [Value.int .i64 x.n, Value.string x.b, Value.string x.s, Value.string x.p, Value.int .i64 x.q, Value.int .i64 x.r]) Try.underlying32 rfl sz_32 (ev_tmp rfl rfl) (M26.rorange (i := 0) rfl hA39 hx (f := 0) ⟨rfl, rfl, rfl, rfl, rfl, rfl, trivial⟩)) ?_
    refine snew (cs := #[Value.int .i64 0, Value.string ByteArray.empty, Value.string ByteArray.empty, Value.string ByteArray.empty, Value.int .i64 0, Value.int .i64 0]) M26 rfl (x_allocz z_32) fun b42 w43 M44 => ?_
    refine sset (i := 0) (L' := [Own.cells b42 32 #[Value.int .i64 x.n, Value.string x.b, Value.string x.s, Value.string x.p, Value.int .i64 x.q, Value.int .i64 x.r], Own.cells b6 24 #[Value.slice A l.length c]]) M44 rfl rfl (x_storew (cs := [Value.int .i64 x.n, Value.string x.b, Value.string x.s, Value.string x.p, Value.int .i64 x.q, Value.int .i64 x.r]) sz_32 (ev_tmp rfl rfl) (ev_tmp rfl rfl) (M44.cells_at (i := 0) rfl) rfl ⟨rfl, rfl, rfl, rfl, rfl, rfl, trivial⟩) fun w45 M46 => ?_
    refine s_nil ?_
    refine hK36 _ _ ?_
    refine c_seq fun K47 hK48 => ?_
    refine c_seq fun K49 hK50 => ?_
    refine c_reg ?_
    refine st rfl (x_fieldv (b := b42) (o := 0) (q := 3) fa_32_3 (ev_tmp rfl rfl) rfl) ?_
    refine st rfl (x_load1 (v := Value.string x.p) Try.underlying9 rfl (ev_tmp rfl rfl) (M46.cell (i := 0) (o := 3) rfl rfl)) ?_
    refine st rfl (x_move (v := Value.string product) (ev_tmp rfl rfl)) ?_
    refine st rfl (x_nes (p := x.p) (q := product) (ev_tmp rfl rfl) (ev_tmp rfl rfl)) ?_
    refine s_nil ?_
    refine hK50 _ _ ?_
    refine c_cond (b := !(decide (x.p.data.toList = product.data.toList))) (ev_tmp rfl rfl) (fun h51 => ?_) (fun h51 => ?_)
    · have h52 : ¬ (x.p.data.toList = product.data.toList) := of_decide_eq_false (not_t h51)
      refine c_exit ?_
      refine xb_here ?_
      refine hK34 _ _ ?_
      refine c_reg ?_
      have hw53 : IntKind.i64.wrap ((k : Int) + 1) = (k : Int) + 1 := w64 (by rfl) (by omega) (by omega)
      refine st rfl (x_add_eq (p := (k : Int)) (q := 1) (ev_tmp rfl rfl) rfl hw53) ?_
      refine st rfl (x_move (v := Value.int .i64 ((k : Int) + 1)) (ev_tmp rfl rfl)) ?_
      refine s_nil ?_
      have hstep : posL ((legsC l).take (k + 1)) who product = ((posL ((legsC l).take k) who product).1, (posL ((legsC l).take k) who product).2) := by rw [posL_snoc hx]; exact al0 h51
      exact ⟨_, _, (by omega : (legsC l).length - (k + 1) < (legsC l).length - k), fr_held (live := [(1, Value.string who), (2, Value.string product), (6, Value.int .i64 0), (7, Value.int .i64 0), (8, Value.int .i64 0), (10, Value.int .i64 (chk l)), (11, Value.int .i64 ((posL ((legsC l).take (k + 1)) who product).1)), (12, Value.int .i64 ((posL ((legsC l).take (k + 1)) who product).2)), (20, Value.slice A11 ((legsC l).length) c12), (21, Value.int .i64 ((legsC l).length : Int)), (22, Value.int .i64 (((k + 1) : Nat) : Int))]) ⟨rfl, rfl, rfl, rfl, rfl, rfl, (congrArg (Value.int .i64) (congrArg Prod.fst hstep).symm), (congrArg (Value.int .i64) (congrArg Prod.snd hstep).symm), rfl, rfl, (congrArg (Value.int .i64) (by omega)), trivial⟩, (k + 1), _, rfl, rfl, (M46.dropL 1), (by omega), (by have h1 := congrArg Prod.fst hstep; have h2 := congrArg Prod.snd hstep; simp only at h1 h2; omega), (by have h1 := congrArg Prod.fst hstep; have h2 := congrArg Prod.snd hstep; simp only at h1 h2; omega), (by have h1 := congrArg Prod.fst hstep; have h2 := congrArg Prod.snd hstep; simp only at h1 h2; omega), (by have h1 := congrArg Prod.fst hstep; have h2 := congrArg Prod.snd hstep; simp only at h1 h2; omega)⟩
    · have h54 : x.p.data.toList = product.data.toList := of_decide_eq_true (not_f h51)
      refine c_skip ?_
      refine hK48 _ _ ?_
      refine c_seq fun K55 hK56 => ?_
      refine c_seq fun K57 hK58 => ?_
      refine c_reg ?_
      refine st rfl (x_fieldv (b := b42) (o := 0) (q := 1) fa_32_1 (ev_tmp rfl rfl) rfl) ?_
      refine st rfl (x_load1 (v := Value.string x.b) Try.underlying9 rfl (ev_tmp rfl rfl) (M46.cell (i := 0) (o := 1) rfl rfl)) ?_
      refine st rfl (x_move (v := Value.string who) (ev_tmp rfl rfl)) ?_
      refine st rfl (x_eqs (p := x.b) (q := who) (ev_tmp rfl rfl) (ev_tmp rfl rfl)) ?_
      refine s_nil ?_
      refine hK58 _ _ ?_
      refine c_cond (b := decide (x.b.data.toList = who.data.toList)) (ev_tmp rfl rfl) (fun h59 => ?_) (fun h59 => ?_)
      · have h60 : x.b.data.toList = who.data.toList := of_decide_eq_true h59
        have M61 := M46.drew
        refine c_drawn (fun w1 => Mem w [] w1 [Own.cells b42 32 #[Value.int .i64 x.n, Value.string x.b, Value.string x.s, Value.string x.p, Value.int .i64 x.q, Value.int .i64 x.r], Own.cells b6 24 #[Value.slice A l.length c]] [Ro.sl w7.heap.size w13.heap.size A11 c12 6 Leg.cells (legsC l), Ro.sl 0 w.heap.size A c 8 Trade.cells l]) mixed ?_
        generalize w45.drew = w62 at M61 ⊢
        refine dT (i := 0) (v := Value.int .i64 ((posL ((legsC l).take k) who product).1)) rfl (by kernel_rfl) (by kernel_rfl) rfl M61 (fun _ hS => x_move (v := Value.int .i64 ((posL ((legsC l).take k) who product).1)) (ev_tmp rfl rfl)) ?_
        refine dT (i := 1) (v := Value.pointer (some ⟨b42, 4, none⟩)) rfl (by kernel_rfl) (by kernel_rfl) rfl M61 (fun _ hS => x_fieldv (b := b42) (o := 0) (q := 4) fa_32_4 (ev_tmp rfl rfl) rfl) ?_
        refine dT (i := 2) (v := Value.int .i64 x.q) rfl (by kernel_rfl) (by kernel_rfl) rfl M61 (fun _ hS => x_load1 (v := Value.int .i64 x.q) Try.underlying3 rfl (ev_tmp rfl rfl) (hS.cell (i := 0) (o := 4) rfl rfl)) ?_
        have hw63 : IntKind.i64.wrap (((posL ((legsC l).take k) who product).1) + x.q) = ((posL ((legsC l).take k) who product).1) + x.q := w64 (by rfl) (by omega) (by omega)
        refine dT (i := 3) (v := Value.int .i64 (((posL ((legsC l).take k) who product).1) + x.q)) rfl (by kernel_rfl) (by kernel_rfl) rfl M61 (fun _ hS => x_add_eq (p := ((posL ((legsC l).take k) who product).1)) (q := x.q) (ev_tmp rfl rfl) (ev_tmp rfl rfl) hw63) ?_
        refine dT (i := 4) (v := Value.int .i64 ((posL ((legsC l).take k) who product).2)) rfl (by kernel_rfl) (by kernel_rfl) rfl M61 (fun _ hS => x_move (v := Value.int .i64 ((posL ((legsC l).take k) who product).2)) (ev_tmp rfl rfl)) ?_
        refine dT (i := 5) (v := Value.pointer (some ⟨b42, 4, none⟩)) rfl (by kernel_rfl) (by kernel_rfl) rfl M61 (fun _ hS => x_fieldv (b := b42) (o := 0) (q := 4) fa_32_4 (ev_tmp rfl rfl) rfl) ?_
        refine dT (i := 6) (v := Value.int .i64 x.q) rfl (by kernel_rfl) (by kernel_rfl) rfl M61 (fun _ hS => x_load1 (v := Value.int .i64 x.q) Try.underlying3 rfl (ev_tmp rfl rfl) (hS.cell (i := 0) (o := 4) rfl rfl)) ?_
        refine dT (i := 7) (v := Value.pointer (some ⟨b42, 5, none⟩)) rfl (by kernel_rfl) (by kernel_rfl) rfl M61 (fun _ hS => x_fieldv (b := b42) (o := 0) (q := 5) fa_32_5 (ev_tmp rfl rfl) rfl) ?_
        refine dT (i := 8) (v := Value.int .i64 x.r) rfl (by kernel_rfl) (by kernel_rfl) rfl M61 (fun _ hS => x_load1 (v := Value.int .i64 x.r) Try.underlying3 rfl (ev_tmp rfl rfl) (hS.cell (i := 0) (o := 5) rfl rfl)) ?_
        have hw64 : IntKind.i64.wrap (x.q * x.r) = x.q * x.r := w64 (by rfl) (by omega) (by omega)
        refine dT (i := 9) (v := Value.int .i64 (x.q * x.r)) rfl (by kernel_rfl) (by kernel_rfl) rfl M61 (fun _ hS => x_mul_eq (p := x.q) (q := x.r) (ev_tmp rfl rfl) (ev_tmp rfl rfl) hw64) ?_
        have hw65 : IntKind.i64.wrap (((posL ((legsC l).take k) who product).2) + (x.q * x.r)) = ((posL ((legsC l).take k) who product).2) + (x.q * x.r) := w64 (by rfl) (by omega) (by omega)
        refine dT (i := 10) (v := Value.int .i64 (((posL ((legsC l).take k) who product).2) + (x.q * x.r))) rfl (by kernel_rfl) (by kernel_rfl) rfl M61 (fun _ hS => x_add_eq (p := ((posL ((legsC l).take k) who product).2)) (q := (x.q * x.r)) (ev_tmp rfl rfl) (ev_tmp rfl rfl) hw65) ?_
        refine dT (i := 11) (v := Value.int .i64 (((posL ((legsC l).take k) who product).1) + x.q)) rfl (by kernel_rfl) (by kernel_rfl) rfl M61 (fun _ hS => x_assign (v := Value.int .i64 (((posL ((legsC l).take k) who product).1) + x.q)) (ev_tmp rfl rfl)) ?_
        refine dT (i := 12) (v := Value.int .i64 (((posL ((legsC l).take k) who product).2) + (x.q * x.r))) rfl (by kernel_rfl) (by kernel_rfl) rfl M61 (fun _ hS => x_assign (v := Value.int .i64 (((posL ((legsC l).take k) who product).2) + (x.q * x.r))) (ev_tmp rfl rfl)) ?_
        refine dE (by kernel_rfl) ?_
        refine hK56 _ _ ?_
        refine c_seq fun K66 hK67 => ?_
        refine c_reg ?_
        refine st rfl (x_fieldv (b := b42) (o := 0) (q := 2) fa_32_2 (ev_tmp rfl rfl) rfl) ?_
        refine st rfl (x_load1 (v := Value.string x.s) Try.underlying9 rfl (ev_tmp rfl rfl) (M61.cell (i := 0) (o := 2) rfl rfl)) ?_
        refine st rfl (x_move (v := Value.string who) (ev_tmp rfl rfl)) ?_
        refine st rfl (x_eqs (p := x.s) (q := who) (ev_tmp rfl rfl) (ev_tmp rfl rfl)) ?_
        refine s_nil ?_
        refine hK67 _ _ ?_
        refine c_cond (b := decide (x.s.data.toList = who.data.toList)) (ev_tmp rfl rfl) (fun h68 => ?_) (fun h68 => ?_)
        · have h69 : x.s.data.toList = who.data.toList := of_decide_eq_true h68
          have M70 := M61.drew
          refine c_drawn (fun w1 => Mem w [] w1 [Own.cells b42 32 #[Value.int .i64 x.n, Value.string x.b, Value.string x.s, Value.string x.p, Value.int .i64 x.q, Value.int .i64 x.r], Own.cells b6 24 #[Value.slice A l.length c]] [Ro.sl w7.heap.size w13.heap.size A11 c12 6 Leg.cells (legsC l), Ro.sl 0 w.heap.size A c 8 Trade.cells l]) mixed ?_
          generalize w62.drew = w71 at M70 ⊢
          refine dT (i := 0) (v := Value.int .i64 (((posL ((legsC l).take k) who product).1) + x.q)) rfl (by kernel_rfl) (by kernel_rfl) rfl M70 (fun _ hS => x_move (v := Value.int .i64 (((posL ((legsC l).take k) who product).1) + x.q)) (ev_tmp rfl rfl)) ?_
          refine dT (i := 1) (v := Value.pointer (some ⟨b42, 4, none⟩)) rfl (by kernel_rfl) (by kernel_rfl) rfl M70 (fun _ hS => x_fieldv (b := b42) (o := 0) (q := 4) fa_32_4 (ev_tmp rfl rfl) rfl) ?_
          refine dT (i := 2) (v := Value.int .i64 x.q) rfl (by kernel_rfl) (by kernel_rfl) rfl M70 (fun _ hS => x_load1 (v := Value.int .i64 x.q) Try.underlying3 rfl (ev_tmp rfl rfl) (hS.cell (i := 0) (o := 4) rfl rfl)) ?_
          have hw72 : IntKind.i64.wrap ((((posL ((legsC l).take k) who product).1) + x.q) - x.q) = (((posL ((legsC l).take k) who product).1) + x.q) - x.q := w64 (by rfl) (by omega) (by omega)
          refine dT (i := 3) (v := Value.int .i64 ((((posL ((legsC l).take k) who product).1) + x.q) - x.q)) rfl (by kernel_rfl) (by kernel_rfl) rfl M70 (fun _ hS => x_sub_eq (p := (((posL ((legsC l).take k) who product).1) + x.q)) (q := x.q) (ev_tmp rfl rfl) (ev_tmp rfl rfl) hw72) ?_
          refine dT (i := 4) (v := Value.int .i64 (((posL ((legsC l).take k) who product).2) + (x.q * x.r))) rfl (by kernel_rfl) (by kernel_rfl) rfl M70 (fun _ hS => x_move (v := Value.int .i64 (((posL ((legsC l).take k) who product).2) + (x.q * x.r))) (ev_tmp rfl rfl)) ?_
          refine dT (i := 5) (v := Value.pointer (some ⟨b42, 4, none⟩)) rfl (by kernel_rfl) (by kernel_rfl) rfl M70 (fun _ hS => x_fieldv (b := b42) (o := 0) (q := 4) fa_32_4 (ev_tmp rfl rfl) rfl) ?_
          refine dT (i := 6) (v := Value.int .i64 x.q) rfl (by kernel_rfl) (by kernel_rfl) rfl M70 (fun _ hS => x_load1 (v := Value.int .i64 x.q) Try.underlying3 rfl (ev_tmp rfl rfl) (hS.cell (i := 0) (o := 4) rfl rfl)) ?_
          refine dT (i := 7) (v := Value.pointer (some ⟨b42, 5, none⟩)) rfl (by kernel_rfl) (by kernel_rfl) rfl M70 (fun _ hS => x_fieldv (b := b42) (o := 0) (q := 5) fa_32_5 (ev_tmp rfl rfl) rfl) ?_
          refine dT (i := 8) (v := Value.int .i64 x.r) rfl (by kernel_rfl) (by kernel_rfl) rfl M70 (fun _ hS => x_load1 (v := Value.int .i64 x.r) Try.underlying3 rfl (ev_tmp rfl rfl) (hS.cell (i := 0) (o := 5) rfl rfl)) ?_
          have hw73 : IntKind.i64.wrap (x.q * x.r) = x.q * x.r := w64 (by rfl) (by omega) (by omega)
          refine dT (i := 9) (v := Value.int .i64 (x.q * x.r)) rfl (by kernel_rfl) (by kernel_rfl) rfl M70 (fun _ hS => x_mul_eq (p := x.q) (q := x.r) (ev_tmp rfl rfl) (ev_tmp rfl rfl) hw73) ?_
          have hw74 : IntKind.i64.wrap ((((posL ((legsC l).take k) who product).2) + (x.q * x.r)) - (x.q * x.r)) = (((posL ((legsC l).take k) who product).2) + (x.q * x.r)) - (x.q * x.r) := w64 (by rfl) (by omega) (by omega)
          refine dT (i := 10) (v := Value.int .i64 ((((posL ((legsC l).take k) who product).2) + (x.q * x.r)) - (x.q * x.r))) rfl (by kernel_rfl) (by kernel_rfl) rfl M70 (fun _ hS => x_sub_eq (p := (((posL ((legsC l).take k) who product).2) + (x.q * x.r))) (q := (x.q * x.r)) (ev_tmp rfl rfl) (ev_tmp rfl rfl) hw74) ?_
          refine dT (i := 11) (v := Value.int .i64 ((((posL ((legsC l).take k) who product).1) + x.q) - x.q)) rfl (by kernel_rfl) (by kernel_rfl) rfl M70 (fun _ hS => x_assign (v := Value.int .i64 ((((posL ((legsC l).take k) who product).1) + x.q) - x.q)) (ev_tmp rfl rfl)) ?_
          refine dT (i := 12) (v := Value.int .i64 ((((posL ((legsC l).take k) who product).2) + (x.q * x.r)) - (x.q * x.r))) rfl (by kernel_rfl) (by kernel_rfl) rfl M70 (fun _ hS => x_assign (v := Value.int .i64 ((((posL ((legsC l).take k) who product).2) + (x.q * x.r)) - (x.q * x.r))) (ev_tmp rfl rfl)) ?_
          refine dE (by kernel_rfl) ?_
          refine hK34 _ _ ?_
          refine c_reg ?_
          have hw75 : IntKind.i64.wrap ((k : Int) + 1) = (k : Int) + 1 := w64 (by rfl) (by omega) (by omega)
          refine st rfl (x_add_eq (p := (k : Int)) (q := 1) (ev_tmp rfl rfl) rfl hw75) ?_
          refine st rfl (x_move (v := Value.int .i64 ((k : Int) + 1)) (ev_tmp rfl rfl)) ?_
          refine s_nil ?_
          have hstep : posL ((legsC l).take (k + 1)) who product = ((((posL ((legsC l).take k) who product).1) + x.q) - x.q, (((posL ((legsC l).take k) who product).2) + (x.q * x.r)) - (x.q * x.r)) := by rw [posL_snoc hx]; exact al_tt h51 h59 h68
          exact ⟨_, _, (by omega : (legsC l).length - (k + 1) < (legsC l).length - k), fr_held (live := [(1, Value.string who), (2, Value.string product), (6, Value.int .i64 0), (7, Value.int .i64 0), (8, Value.int .i64 0), (10, Value.int .i64 (chk l)), (11, Value.int .i64 ((posL ((legsC l).take (k + 1)) who product).1)), (12, Value.int .i64 ((posL ((legsC l).take (k + 1)) who product).2)), (20, Value.slice A11 ((legsC l).length) c12), (21, Value.int .i64 ((legsC l).length : Int)), (22, Value.int .i64 (((k + 1) : Nat) : Int))]) ⟨rfl, rfl, rfl, rfl, rfl, rfl, (congrArg (Value.int .i64) (congrArg Prod.fst hstep).symm), (congrArg (Value.int .i64) (congrArg Prod.snd hstep).symm), rfl, rfl, (congrArg (Value.int .i64) (by omega)), trivial⟩, (k + 1), _, rfl, rfl, (M70.dropL 1), (by omega), (by have h1 := congrArg Prod.fst hstep; have h2 := congrArg Prod.snd hstep; simp only at h1 h2; omega), (by have h1 := congrArg Prod.fst hstep; have h2 := congrArg Prod.snd hstep; simp only at h1 h2; omega), (by have h1 := congrArg Prod.fst hstep; have h2 := congrArg Prod.snd hstep; simp only at h1 h2; omega), (by have h1 := congrArg Prod.fst hstep; have h2 := congrArg Prod.snd hstep; simp only at h1 h2; omega)⟩
        · have h76 : ¬ (x.s.data.toList = who.data.toList) := of_decide_eq_false h68
          refine c_skip ?_
          refine hK34 _ _ ?_
          refine c_reg ?_
          have hw77 : IntKind.i64.wrap ((k : Int) + 1) = (k : Int) + 1 := w64 (by rfl) (by omega) (by omega)
          refine st rfl (x_add_eq (p := (k : Int)) (q := 1) (ev_tmp rfl rfl) rfl hw77) ?_
          refine st rfl (x_move (v := Value.int .i64 ((k : Int) + 1)) (ev_tmp rfl rfl)) ?_
          refine s_nil ?_
          have hstep : posL ((legsC l).take (k + 1)) who product = (((posL ((legsC l).take k) who product).1) + x.q, ((posL ((legsC l).take k) who product).2) + (x.q * x.r)) := by rw [posL_snoc hx]; exact al_tf h51 h59 h68
          exact ⟨_, _, (by omega : (legsC l).length - (k + 1) < (legsC l).length - k), fr_held (live := [(1, Value.string who), (2, Value.string product), (6, Value.int .i64 0), (7, Value.int .i64 0), (8, Value.int .i64 0), (10, Value.int .i64 (chk l)), (11, Value.int .i64 ((posL ((legsC l).take (k + 1)) who product).1)), (12, Value.int .i64 ((posL ((legsC l).take (k + 1)) who product).2)), (20, Value.slice A11 ((legsC l).length) c12), (21, Value.int .i64 ((legsC l).length : Int)), (22, Value.int .i64 (((k + 1) : Nat) : Int))]) ⟨rfl, rfl, rfl, rfl, rfl, rfl, (congrArg (Value.int .i64) (congrArg Prod.fst hstep).symm), (congrArg (Value.int .i64) (congrArg Prod.snd hstep).symm), rfl, rfl, (congrArg (Value.int .i64) (by omega)), trivial⟩, (k + 1), _, rfl, rfl, (M61.dropL 1), (by omega), (by have h1 := congrArg Prod.fst hstep; have h2 := congrArg Prod.snd hstep; simp only at h1 h2; omega), (by have h1 := congrArg Prod.fst hstep; have h2 := congrArg Prod.snd hstep; simp only at h1 h2; omega), (by have h1 := congrArg Prod.fst hstep; have h2 := congrArg Prod.snd hstep; simp only at h1 h2; omega), (by have h1 := congrArg Prod.fst hstep; have h2 := congrArg Prod.snd hstep; simp only at h1 h2; omega)⟩
      · have h78 : ¬ (x.b.data.toList = who.data.toList) := of_decide_eq_false h59
        refine c_skip ?_
        refine hK56 _ _ ?_
        refine c_seq fun K79 hK80 => ?_
        refine c_reg ?_
        refine st rfl (x_fieldv (b := b42) (o := 0) (q := 2) fa_32_2 (ev_tmp rfl rfl) rfl) ?_
        refine st rfl (x_load1 (v := Value.string x.s) Try.underlying9 rfl (ev_tmp rfl rfl) (M46.cell (i := 0) (o := 2) rfl rfl)) ?_
        refine st rfl (x_move (v := Value.string who) (ev_tmp rfl rfl)) ?_
        refine st rfl (x_eqs (p := x.s) (q := who) (ev_tmp rfl rfl) (ev_tmp rfl rfl)) ?_
        refine s_nil ?_
        refine hK80 _ _ ?_
        refine c_cond (b := decide (x.s.data.toList = who.data.toList)) (ev_tmp rfl rfl) (fun h81 => ?_) (fun h81 => ?_)
        · have h82 : x.s.data.toList = who.data.toList := of_decide_eq_true h81
          have M83 := M46.drew
          refine c_drawn (fun w1 => Mem w [] w1 [Own.cells b42 32 #[Value.int .i64 x.n, Value.string x.b, Value.string x.s, Value.string x.p, Value.int .i64 x.q, Value.int .i64 x.r], Own.cells b6 24 #[Value.slice A l.length c]] [Ro.sl w7.heap.size w13.heap.size A11 c12 6 Leg.cells (legsC l), Ro.sl 0 w.heap.size A c 8 Trade.cells l]) mixed ?_
          generalize w45.drew = w84 at M83 ⊢
          refine dT (i := 0) (v := Value.int .i64 ((posL ((legsC l).take k) who product).1)) rfl (by kernel_rfl) (by kernel_rfl) rfl M83 (fun _ hS => x_move (v := Value.int .i64 ((posL ((legsC l).take k) who product).1)) (ev_tmp rfl rfl)) ?_
          refine dT (i := 1) (v := Value.pointer (some ⟨b42, 4, none⟩)) rfl (by kernel_rfl) (by kernel_rfl) rfl M83 (fun _ hS => x_fieldv (b := b42) (o := 0) (q := 4) fa_32_4 (ev_tmp rfl rfl) rfl) ?_
          refine dT (i := 2) (v := Value.int .i64 x.q) rfl (by kernel_rfl) (by kernel_rfl) rfl M83 (fun _ hS => x_load1 (v := Value.int .i64 x.q) Try.underlying3 rfl (ev_tmp rfl rfl) (hS.cell (i := 0) (o := 4) rfl rfl)) ?_
          have hw85 : IntKind.i64.wrap (((posL ((legsC l).take k) who product).1) - x.q) = ((posL ((legsC l).take k) who product).1) - x.q := w64 (by rfl) (by omega) (by omega)
          refine dT (i := 3) (v := Value.int .i64 (((posL ((legsC l).take k) who product).1) - x.q)) rfl (by kernel_rfl) (by kernel_rfl) rfl M83 (fun _ hS => x_sub_eq (p := ((posL ((legsC l).take k) who product).1)) (q := x.q) (ev_tmp rfl rfl) (ev_tmp rfl rfl) hw85) ?_
          refine dT (i := 4) (v := Value.int .i64 ((posL ((legsC l).take k) who product).2)) rfl (by kernel_rfl) (by kernel_rfl) rfl M83 (fun _ hS => x_move (v := Value.int .i64 ((posL ((legsC l).take k) who product).2)) (ev_tmp rfl rfl)) ?_
          refine dT (i := 5) (v := Value.pointer (some ⟨b42, 4, none⟩)) rfl (by kernel_rfl) (by kernel_rfl) rfl M83 (fun _ hS => x_fieldv (b := b42) (o := 0) (q := 4) fa_32_4 (ev_tmp rfl rfl) rfl) ?_
          refine dT (i := 6) (v := Value.int .i64 x.q) rfl (by kernel_rfl) (by kernel_rfl) rfl M83 (fun _ hS => x_load1 (v := Value.int .i64 x.q) Try.underlying3 rfl (ev_tmp rfl rfl) (hS.cell (i := 0) (o := 4) rfl rfl)) ?_
          refine dT (i := 7) (v := Value.pointer (some ⟨b42, 5, none⟩)) rfl (by kernel_rfl) (by kernel_rfl) rfl M83 (fun _ hS => x_fieldv (b := b42) (o := 0) (q := 5) fa_32_5 (ev_tmp rfl rfl) rfl) ?_
          refine dT (i := 8) (v := Value.int .i64 x.r) rfl (by kernel_rfl) (by kernel_rfl) rfl M83 (fun _ hS => x_load1 (v := Value.int .i64 x.r) Try.underlying3 rfl (ev_tmp rfl rfl) (hS.cell (i := 0) (o := 5) rfl rfl)) ?_
          have hw86 : IntKind.i64.wrap (x.q * x.r) = x.q * x.r := w64 (by rfl) (by omega) (by omega)
          refine dT (i := 9) (v := Value.int .i64 (x.q * x.r)) rfl (by kernel_rfl) (by kernel_rfl) rfl M83 (fun _ hS => x_mul_eq (p := x.q) (q := x.r) (ev_tmp rfl rfl) (ev_tmp rfl rfl) hw86) ?_
          have hw87 : IntKind.i64.wrap (((posL ((legsC l).take k) who product).2) - (x.q * x.r)) = ((posL ((legsC l).take k) who product).2) - (x.q * x.r) := w64 (by rfl) (by omega) (by omega)
          refine dT (i := 10) (v := Value.int .i64 (((posL ((legsC l).take k) who product).2) - (x.q * x.r))) rfl (by kernel_rfl) (by kernel_rfl) rfl M83 (fun _ hS => x_sub_eq (p := ((posL ((legsC l).take k) who product).2)) (q := (x.q * x.r)) (ev_tmp rfl rfl) (ev_tmp rfl rfl) hw87) ?_
          refine dT (i := 11) (v := Value.int .i64 (((posL ((legsC l).take k) who product).1) - x.q)) rfl (by kernel_rfl) (by kernel_rfl) rfl M83 (fun _ hS => x_assign (v := Value.int .i64 (((posL ((legsC l).take k) who product).1) - x.q)) (ev_tmp rfl rfl)) ?_
          refine dT (i := 12) (v := Value.int .i64 (((posL ((legsC l).take k) who product).2) - (x.q * x.r))) rfl (by kernel_rfl) (by kernel_rfl) rfl M83 (fun _ hS => x_assign (v := Value.int .i64 (((posL ((legsC l).take k) who product).2) - (x.q * x.r))) (ev_tmp rfl rfl)) ?_
          refine dE (by kernel_rfl) ?_
          refine hK34 _ _ ?_
          refine c_reg ?_
          have hw88 : IntKind.i64.wrap ((k : Int) + 1) = (k : Int) + 1 := w64 (by rfl) (by omega) (by omega)
          refine st rfl (x_add_eq (p := (k : Int)) (q := 1) (ev_tmp rfl rfl) rfl hw88) ?_
          refine st rfl (x_move (v := Value.int .i64 ((k : Int) + 1)) (ev_tmp rfl rfl)) ?_
          refine s_nil ?_
          have hstep : posL ((legsC l).take (k + 1)) who product = (((posL ((legsC l).take k) who product).1) - x.q, ((posL ((legsC l).take k) who product).2) - (x.q * x.r)) := by rw [posL_snoc hx]; exact al_ft h51 h59 h81
          exact ⟨_, _, (by omega : (legsC l).length - (k + 1) < (legsC l).length - k), fr_held (live := [(1, Value.string who), (2, Value.string product), (6, Value.int .i64 0), (7, Value.int .i64 0), (8, Value.int .i64 0), (10, Value.int .i64 (chk l)), (11, Value.int .i64 ((posL ((legsC l).take (k + 1)) who product).1)), (12, Value.int .i64 ((posL ((legsC l).take (k + 1)) who product).2)), (20, Value.slice A11 ((legsC l).length) c12), (21, Value.int .i64 ((legsC l).length : Int)), (22, Value.int .i64 (((k + 1) : Nat) : Int))]) ⟨rfl, rfl, rfl, rfl, rfl, rfl, (congrArg (Value.int .i64) (congrArg Prod.fst hstep).symm), (congrArg (Value.int .i64) (congrArg Prod.snd hstep).symm), rfl, rfl, (congrArg (Value.int .i64) (by omega)), trivial⟩, (k + 1), _, rfl, rfl, (M83.dropL 1), (by omega), (by have h1 := congrArg Prod.fst hstep; have h2 := congrArg Prod.snd hstep; simp only at h1 h2; omega), (by have h1 := congrArg Prod.fst hstep; have h2 := congrArg Prod.snd hstep; simp only at h1 h2; omega), (by have h1 := congrArg Prod.fst hstep; have h2 := congrArg Prod.snd hstep; simp only at h1 h2; omega), (by have h1 := congrArg Prod.fst hstep; have h2 := congrArg Prod.snd hstep; simp only at h1 h2; omega)⟩
        · have h89 : ¬ (x.s.data.toList = who.data.toList) := of_decide_eq_false h81
          refine c_skip ?_
          refine hK34 _ _ ?_
          refine c_reg ?_
          have hw90 : IntKind.i64.wrap ((k : Int) + 1) = (k : Int) + 1 := w64 (by rfl) (by omega) (by omega)
          refine st rfl (x_add_eq (p := (k : Int)) (q := 1) (ev_tmp rfl rfl) rfl hw90) ?_
          refine st rfl (x_move (v := Value.int .i64 ((k : Int) + 1)) (ev_tmp rfl rfl)) ?_
          refine s_nil ?_
          have hstep : posL ((legsC l).take (k + 1)) who product = ((posL ((legsC l).take k) who product).1, (posL ((legsC l).take k) who product).2) := by rw [posL_snoc hx]; exact al_ff h51 h59 h81
          exact ⟨_, _, (by omega : (legsC l).length - (k + 1) < (legsC l).length - k), fr_held (live := [(1, Value.string who), (2, Value.string product), (6, Value.int .i64 0), (7, Value.int .i64 0), (8, Value.int .i64 0), (10, Value.int .i64 (chk l)), (11, Value.int .i64 ((posL ((legsC l).take (k + 1)) who product).1)), (12, Value.int .i64 ((posL ((legsC l).take (k + 1)) who product).2)), (20, Value.slice A11 ((legsC l).length) c12), (21, Value.int .i64 ((legsC l).length : Int)), (22, Value.int .i64 (((k + 1) : Nat) : Int))]) ⟨rfl, rfl, rfl, rfl, rfl, rfl, (congrArg (Value.int .i64) (congrArg Prod.fst hstep).symm), (congrArg (Value.int .i64) (congrArg Prod.snd hstep).symm), rfl, rfl, (congrArg (Value.int .i64) (by omega)), trivial⟩, (k + 1), _, rfl, rfl, (M46.dropL 1), (by omega), (by have h1 := congrArg Prod.fst hstep; have h2 := congrArg Prod.snd hstep; simp only at h1 h2; omega), (by have h1 := congrArg Prod.fst hstep; have h2 := congrArg Prod.snd hstep; simp only at h1 h2; omega), (by have h1 := congrArg Prod.fst hstep; have h2 := congrArg Prod.snd hstep; simp only at h1 h2; omega), (by have h1 := congrArg Prod.fst hstep; have h2 := congrArg Prod.snd hstep; simp only at h1 h2; omega)⟩
  · have h91 : ¬ ((k : Int) < ((legsC l).length : Int)) := of_decide_eq_false h31
    refine c_exit ?_
    refine xb_here ?_
    refine hK21 _ _ ?_
    refine c_seq fun K92 hK93 => ?_
    refine c_reg ?_
    refine st rfl (x_move (v := Value.int .i64 ((posL ((legsC l).take k) who product).1)) (ev_tmp rfl rfl)) ?_
    refine st rfl (x_move (v := Value.int .i64 ((posL ((legsC l).take k) who product).2)) (ev_tmp rfl rfl)) ?_
    refine st rfl (x_move (v := Value.int .i64 (chk l)) (ev_tmp rfl rfl)) ?_
    refine st rfl (x_assign (v := Value.int .i64 ((posL ((legsC l).take k) who product).1)) (ev_tmp rfl rfl)) ?_
    refine st rfl (x_assign (v := Value.int .i64 ((posL ((legsC l).take k) who product).2)) (ev_tmp rfl rfl)) ?_
    refine st rfl (x_assign (v := Value.int .i64 (chk l)) (ev_tmp rfl rfl)) ?_
    refine s_nil ?_
    refine hK93 _ _ ?_
    refine c_ret ?_
    refine hT3 _ _ ?_
    refine r3 rfl (ev_tmp (v := Value.int .i64 ((posL ((legsC l).take k) who product).1)) rfl rfl) (ev_tmp (v := Value.int .i64 ((posL ((legsC l).take k) who product).2)) rfl rfl) (ev_tmp (v := Value.int .i64 (chk l)) rfl rfl) ?_
    have hall : (legsC l).take k = legsC l := List.take_of_length_le (by omega)
    rw [hall]
    exact ⟨rfl, M26.below⟩

end Go.Proofs.Ytkimdlpfbojkgaa
