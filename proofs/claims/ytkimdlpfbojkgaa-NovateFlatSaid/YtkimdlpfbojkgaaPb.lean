/- Contracts: positions by the reference, and by the trades. -/
import Derived.Test.YtkimdlpfbojkgaaJ
import Derived.Test.YtkimdlpfbojkgaaKa
namespace Go.Proofs.Ytkimdlpfbojkgaa
open Go.RowKit
section
variable {who product : ByteArray} {a : Int × Int} {x : Leg}
theorem sm_tt (h : (decide (x.p.data.toList = product.data.toList) && decide (x.b.data.toList = who.data.toList)) = true) (h2 : (decide (x.p.data.toList = product.data.toList) && decide (x.s.data.toList = who.data.toList)) = true) : addLeg who product a x = (a.1 + x.q - x.q, a.2 + x.q * x.r - x.q * x.r) := by
  unfold addLeg
  simp only [if_pos (of_decide_eq_true (and_l h)), if_pos (of_decide_eq_true (and_r h)), if_pos (of_decide_eq_true (and_r h2))]
theorem sm_tf (h : (decide (x.p.data.toList = product.data.toList) && decide (x.b.data.toList = who.data.toList)) = true) (h2 : (decide (x.p.data.toList = product.data.toList) && decide (x.s.data.toList = who.data.toList)) = false) : addLeg who product a x = (a.1 + x.q, a.2 + x.q * x.r) := by
  rw [and_l h, Bool.true_and] at h2
  unfold addLeg
  simp only [if_pos (of_decide_eq_true (and_l h)), if_pos (of_decide_eq_true (and_r h)), if_neg (of_decide_eq_false h2)]
theorem sm_ft (h : (decide (x.p.data.toList = product.data.toList) && decide (x.b.data.toList = who.data.toList)) = false) (h2 : (decide (x.p.data.toList = product.data.toList) && decide (x.s.data.toList = who.data.toList)) = true) : addLeg who product a x = (a.1 - x.q, a.2 - x.q * x.r) := by
  rw [and_l h2, Bool.true_and] at h
  unfold addLeg
  simp only [if_pos (of_decide_eq_true (and_l h2)), if_neg (of_decide_eq_false h), if_pos (of_decide_eq_true (and_r h2))]
theorem sm_ff (h : (decide (x.p.data.toList = product.data.toList) && decide (x.b.data.toList = who.data.toList)) = false) (h2 : (decide (x.p.data.toList = product.data.toList) && decide (x.s.data.toList = who.data.toList)) = false) : addLeg who product a x = (a.1, a.2) := by
  unfold addLeg
  by_cases hp : x.p.data.toList = product.data.toList
  · rw [decide_eq_true hp, Bool.true_and] at h h2
    simp only [if_pos hp, if_neg (of_decide_eq_false h), if_neg (of_decide_eq_false h2)]
  · rw [if_neg hp]
end
theorem legsC_mem {l : List Trade} {x : Leg} (hm : x ∈ legsC l) : 1 ≤ x.q ∧ x.q ≤ 1048576 ∧ -562949953421312 ≤ x.q * x.r ∧ x.q * x.r ≤ 562949953421312 := by
  obtain ⟨k, hk⟩ := List.mem_iff_getElem?.1 hm
  exact legsC_bd hk
/-- One trade more in a position that is reckoned from the trades. -/
def addT (who product : ByteArray) (a : Int × Int) (x : Trade) : Int × Int :=
  if x.st = 1 ∧ x.p.data.toList = product.data.toList then
    (if x.b.data.toList = who.data.toList then (a.1 + x.q, a.2 + x.q * x.r) else if x.s.data.toList = who.data.toList then (a.1 - x.q, a.2 - x.q * x.r) else a)
  else a
def agrL (l : List Trade) (who product : ByteArray) : Int × Int := l.foldl (addT who product) (0, 0)
def agrC (l : List Trade) (who product : ByteArray) : Int × Int := if checkB l then agrL l who product else (0, 0)
theorem agrL_snoc {l : List Trade} {k : Nat} {x : Trade} {who product : ByteArray} (hx : l[k]? = some x) : agrL (l.take (k + 1)) who product = addT who product (agrL (l.take k) who product) x := by
  unfold agrL
  rw [take_at hx, List.foldl_append]; rfl
theorem agrC_of {l : List Trade} {who product : ByteArray} (h : chk l = 0) : agrC l who product = agrL l who product := by unfold agrC; rw [if_pos (chk_ok h)]
theorem agrC_no {l : List Trade} {who product : ByteArray} (h : ¬ chk l = 0) : agrC l who product = (0, 0) := by
  unfold agrC; rw [if_neg]; intro hc; exact h (chk_of hc)
section
variable {who product : ByteArray} {a : Int × Int} {x : Trade}
theorem ag0 (h : ((!decide (x.st = 1)) || (!decide (x.p.data.toList = product.data.toList))) = true) : addT who product a x = (a.1 + 0, a.2 + 0) := by
  unfold addT
  rw [if_neg, Int.add_zero, Int.add_zero]
  rintro ⟨h1, h2⟩
  simp [h1, h2] at h
theorem ag_in (h : ((!decide (x.st = 1)) || (!decide (x.p.data.toList = product.data.toList))) = false) : x.st = 1 ∧ x.p.data.toList = product.data.toList := ⟨of_decide_eq_true (not_f (or_l h)), of_decide_eq_true (not_f (or_r h))⟩
theorem agb (h : ((!decide (x.st = 1)) || (!decide (x.p.data.toList = product.data.toList))) = false) (hb : decide (x.b.data.toList = who.data.toList) = true) : addT who product a x = (a.1 + x.q, a.2 + x.q * x.r) := by
  unfold addT; rw [if_pos (ag_in h), if_pos (of_decide_eq_true hb)]
theorem ags (h : ((!decide (x.st = 1)) || (!decide (x.p.data.toList = product.data.toList))) = false) (hb : decide (x.b.data.toList = who.data.toList) = false) (hs : decide (x.s.data.toList = who.data.toList) = true) : addT who product a x = (a.1 + -x.q, a.2 + -(x.q * x.r)) := by
  unfold addT; rw [if_pos (ag_in h), if_neg (of_decide_eq_false hb), if_pos (of_decide_eq_true hs)]; rfl
theorem agn (h : ((!decide (x.st = 1)) || (!decide (x.p.data.toList = product.data.toList))) = false) (hb : decide (x.b.data.toList = who.data.toList) = false) (hs : decide (x.s.data.toList = who.data.toList) = false) : addT who product a x = (a.1 + 0, a.2 + 0) := by
  unfold addT; rw [if_pos (ag_in h), if_neg (of_decide_eq_false hb), if_neg (of_decide_eq_false hs), Int.add_zero, Int.add_zero]
end
theorem ent_25 : Enters Try.prog 25 := enters_of Try.func25 (by kernel_rfl) rfl
theorem ent_46 : Enters Try.prog 46 := enters_of Try.func46 (by kernel_rfl) rfl
set_option maxHeartbeats 1000000 in
set_option maxRecDepth 20000 in
theorem sum_r (A : Option Addr) (c : Nat) (ls : List Leg) (who product : ByteArray) (w : World) (hs : SlB 0 w.heap.size w A c 6 Leg.cells ls) (hbd : ∀ x ∈ ls, 1 ≤ x.q ∧ x.q ≤ 1048576 ∧ -562949953421312 ≤ x.q * x.r ∧ x.q * x.r ≤ 562949953421312) (hlen : ls.length ≤ 400) :
    Calls Try.prog 46 #[Value.slice A ls.length c, Value.string who, Value.string product] w fun e w' => e = .returned (.tuple #[.int .i64 (posL ls who product).1, .int .i64 (posL ls who product).2]) ∧ Below w.heap.size w w' := by
  have M0 := Mem.start w []
  have M1 := M0.see (Ro.sl 0 w.heap.size A c 6 Leg.cells ls) (hs) (Nat.le_refl _)
  refine enter (args := [Value.slice A ls.length c, Value.string who, Value.string product]) Try.func46 rfl (n := 91) rfl rfl fun T2 hT3 => ?_
  refine c_seq fun K4 hK5 => ?_
  refine c_reg ?_
  refine st rfl (x_assign (v := Value.int .i64 0) rfl) ?_
  refine st rfl (x_assign (v := Value.int .i64 0) rfl) ?_
  refine s_nil ?_
  refine hK5 _ _ ?_
  refine c_seq fun K6 hK7 => ?_
  refine c_reg ?_
  refine st rfl (x_assign (v := Value.int .i64 0) rfl) ?_
  refine st rfl (x_assign (v := Value.int .i64 0) rfl) ?_
  refine s_nil ?_
  refine hK7 _ _ ?_
  refine c_seq fun K8 hK9 => ?_
  refine c_seq fun K10 hK11 => ?_
  refine c_reg ?_
  refine st rfl (x_assign (v := Value.int .i64 0) rfl) ?_
  refine s_nil ?_
  refine hK11 _ _ ?_
  refine c_block ?_
  refine c_loopH (live := [(0, Value.slice A ls.length c), (1, Value.string who), (2, Value.string product), (6, Value.int .i64 0), (7, Value.int .i64 0), (8, Value.int .i64 ((posL (ls.take 0) who product).1)), (9, Value.int .i64 ((posL (ls.take 0) who product).2)), (10, Value.int .i64 0)]) ⟨rfl, rfl, rfl, rfl, rfl, rfl, rfl, rfl, trivial⟩ (fun mm ll w1 => ∃ (k : Nat) (jk : List (Nat × Value)), mm = ls.length - k ∧ ll = [(0, Value.slice A ls.length c), (1, Value.string who), (2, Value.string product), (6, Value.int .i64 0), (7, Value.int .i64 0), (8, Value.int .i64 ((posL (ls.take k) who product).1)), (9, Value.int .i64 ((posL (ls.take k) who product).2)), (10, Value.int .i64 (k : Int))] ++ jk ∧ Mem w [] w1 [] [Ro.sl 0 w.heap.size A c 6 Leg.cells ls] ∧ (k ≤ ls.length) ∧ (-((k : Int) * 1048576) ≤ (posL (ls.take k) who product).1) ∧ ((posL (ls.take k) who product).1 ≤ (k : Int) * 1048576) ∧ (-((k : Int) * 562949953421312) ≤ (posL (ls.take k) who product).2) ∧ ((posL (ls.take k) who product).2 ≤ (k : Int) * 562949953421312)) ⟨0, _, rfl, rfl, M1, (by omega), (by simp [posL]), (by simp [posL]), (by simp [posL]), (by simp [posL])⟩ fun mm ll w1 hI12 => ?_
  obtain ⟨k, jk, rfl, rfl, M14, hk, hb1, hb2, hb3, hb4⟩ := hI12
  obtain ⟨w13, rfl⟩ : ∃ x, x = w1 := ⟨_, rfl⟩
  refine c_seq fun K15 hK16 => ?_
  refine c_seq fun K17 hK18 => ?_
  refine c_reg ?_
  refine st rfl (x_move (v := Value.int .i64 (k : Int)) (ev_tmp rfl rfl)) ?_
  refine st rfl (x_move (v := Value.slice A ls.length c) (ev_tmp rfl rfl)) ?_
  refine st rfl (x_lensl (n := ls.length) Try.underlying26 (ev_tmp rfl rfl)) ?_
  refine st rfl (x_lss (p := (k : Int)) (q := (ls.length : Int)) (ev_tmp rfl rfl) (ev_tmp rfl rfl)) ?_
  refine s_nil ?_
  refine hK18 _ _ ?_
  refine c_cond (b := decide ((k : Int) < (ls.length : Int))) (ev_tmp rfl rfl) (fun h19 => ?_) (fun h19 => ?_)
  · have h20 : (k : Int) < (ls.length : Int) := of_decide_eq_true h19
    obtain ⟨x, hx⟩ : ∃ x, ls[k]? = some x := ⟨_, List.getElem?_eq_getElem (by omega)⟩
    obtain ⟨hq1, hq2, hm1, hm2⟩ := hbd x (List.mem_of_getElem? hx)
    refine c_skip ?_
    refine hK16 _ _ ?_
    refine c_seq fun K21 hK22 => ?_
    refine c_block ?_
    refine c_seq fun K23 hK24 => ?_
    refine c_seq fun K25 hK26 => ?_
    refine c_reg ?_
    refine st rfl (x_move (v := Value.slice A ls.length c) (ev_tmp rfl rfl)) ?_
    refine st rfl (x_move (v := Value.int .i64 (k : Int)) (ev_tmp rfl rfl)) ?_
    obtain ⟨g27, o28, hA29⟩ := M14.roat (i := 0) rfl hx
    refine st rfl (x_elemA (b := g27) (o := o28) (k := k) ea_26 (ev_tmp rfl rfl) hA29 (ev_tmp rfl rfl) rfl (by omega)) ?_
    refine st rfl (x_fieldv (b := g27) (o := (o28 + k * 6)) (q := (o28 + k * 6 + 3)) fa_32_3 (ev_tmp rfl rfl) rfl) ?_
    refine st rfl (x_load1 (v := Value.string x.p) Try.underlying9 rfl (ev_tmp rfl rfl) (M14.rocell (i := 0) rfl hA29 hx (j := 3) rfl)) ?_
    refine st rfl (x_move (v := Value.string product) (ev_tmp rfl rfl)) ?_
    refine st rfl (x_eqs (p := x.p) (q := product) (ev_tmp rfl rfl) (ev_tmp rfl rfl)) ?_
    refine st rfl (x_move (v := Value.bool (decide (x.p.data.toList = product.data.toList))) (ev_tmp rfl rfl)) ?_
    refine s_meet8 fun K32 hK33 => ?_
    have J34 : ∀ jk, K32 (fr 91 ([(32, Value.bool ((decide (x.p.data.toList = product.data.toList)) && (decide (x.b.data.toList = who.data.toList)))), (0, Value.slice A ls.length c), (1, Value.string who), (2, Value.string product), (6, Value.int .i64 0), (7, Value.int .i64 0), (8, Value.int .i64 ((posL (ls.take k) who product).1)), (9, Value.int .i64 ((posL (ls.take k) who product).2)), (10, Value.int .i64 (k : Int)), (24, Value.bool (decide (x.p.data.toList = product.data.toList)))] ++ jk)) w13 := by
      intro jk
      refine hK33 _ _ ?_
      clear hK33
      refine s_nil ?_
      refine hK26 _ _ ?_
      refine c_cond (b := (decide (x.p.data.toList = product.data.toList)) && (decide (x.b.data.toList = who.data.toList))) (ev_tmp rfl rfl) (fun h37 => ?_) (fun h37 => ?_)
      · have h38 : x.p.data.toList = product.data.toList := of_decide_eq_true (and_l h37)
        have h39 : x.b.data.toList = who.data.toList := of_decide_eq_true (and_r h37)
        refine c_seq fun K40 hK41 => ?_
        refine c_reg ?_
        refine st rfl (x_move (v := Value.int .i64 ((posL (ls.take k) who product).1)) (ev_tmp rfl rfl)) ?_
        refine st rfl (x_move (v := Value.slice A ls.length c) (ev_tmp rfl rfl)) ?_
        refine st rfl (x_move (v := Value.int .i64 (k : Int)) (ev_tmp rfl rfl)) ?_
        refine st rfl (x_elemA (b := g27) (o := o28) (k := k) ea_26 (ev_tmp rfl rfl) hA29 (ev_tmp rfl rfl) rfl (by omega)) ?_
        refine st rfl (x_fieldv (b := g27) (o := (o28 + k * 6)) (q := (o28 + k * 6 + 4)) fa_32_4 (ev_tmp rfl rfl) rfl) ?_
        refine st rfl (x_load1 (v := Value.int .i64 x.q) Try.underlying3 rfl (ev_tmp rfl rfl) (M14.rocell (i := 0) rfl hA29 hx (j := 4) rfl)) ?_
        have hw42 : IntKind.i64.wrap (((posL (ls.take k) who product).1) + x.q) = ((posL (ls.take k) who product).1) + x.q := w64 (by rfl) (by omega) (by omega)
        refine st rfl (x_add_eq (p := ((posL (ls.take k) who product).1)) (q := x.q) (ev_tmp rfl rfl) (ev_tmp rfl rfl) hw42) ?_
        refine st rfl (x_assign (v := Value.int .i64 (((posL (ls.take k) who product).1) + x.q)) (ev_tmp rfl rfl)) ?_
        refine s_nil ?_
        refine hK41 _ _ ?_
        have M43 := M14.drew
        refine c_drawn (fun w1 => Mem w [] w1 [] [Ro.sl 0 w.heap.size A c 6 Leg.cells ls]) mixed ?_
        generalize w13.drew = w44 at M43 ⊢
        refine dT (i := 0) (v := Value.int .i64 ((posL (ls.take k) who product).2)) rfl (by kernel_rfl) (by kernel_rfl) rfl M43 (fun _ hS => x_move (v := Value.int .i64 ((posL (ls.take k) who product).2)) (ev_tmp rfl rfl)) ?_
        refine dT (i := 1) (v := Value.slice A ls.length c) rfl (by kernel_rfl) (by kernel_rfl) rfl M43 (fun _ hS => x_move (v := Value.slice A ls.length c) (ev_tmp rfl rfl)) ?_
        refine dT (i := 2) (v := Value.int .i64 (k : Int)) rfl (by kernel_rfl) (by kernel_rfl) rfl M43 (fun _ hS => x_move (v := Value.int .i64 (k : Int)) (ev_tmp rfl rfl)) ?_
        refine dT (i := 3) (v := Value.pointer (some ⟨g27, o28 + k * 6, none⟩)) rfl (by kernel_rfl) (by kernel_rfl) rfl M43 (fun _ hS => x_elemA (b := g27) (o := o28) (k := k) ea_26 (ev_tmp rfl rfl) hA29 (ev_tmp rfl rfl) rfl (by omega)) ?_
        refine dT (i := 4) (v := Value.pointer (some ⟨g27, o28 + k * 6 + 4, none⟩)) rfl (by kernel_rfl) (by kernel_rfl) rfl M43 (fun _ hS => x_fieldv (b := g27) (o := (o28 + k * 6)) (q := (o28 + k * 6 + 4)) fa_32_4 (ev_tmp rfl rfl) rfl) ?_
        refine dT (i := 5) (v := Value.int .i64 x.q) rfl (by kernel_rfl) (by kernel_rfl) rfl M43 (fun _ hS => x_load1 (v := Value.int .i64 x.q) Try.underlying3 rfl (ev_tmp rfl rfl) (hS.rocell (i := 0) rfl hA29 hx (j := 4) rfl)) ?_
        refine dT (i := 6) (v := Value.slice A ls.length c) rfl (by kernel_rfl) (by kernel_rfl) rfl M43 (fun _ hS => x_move (v := Value.slice A ls.length c) (ev_tmp rfl rfl)) ?_
        refine dT (i := 7) (v := Value.int .i64 (k : Int)) rfl (by kernel_rfl) (by kernel_rfl) rfl M43 (fun _ hS => x_move (v := Value.int .i64 (k : Int)) (ev_tmp rfl rfl)) ?_
        refine dT (i := 8) (v := Value.pointer (some ⟨g27, o28 + k * 6, none⟩)) rfl (by kernel_rfl) (by kernel_rfl) rfl M43 (fun _ hS => x_elemA (b := g27) (o := o28) (k := k) ea_26 (ev_tmp rfl rfl) hA29 (ev_tmp rfl rfl) rfl (by omega)) ?_
        refine dT (i := 9) (v := Value.pointer (some ⟨g27, o28 + k * 6 + 5, none⟩)) rfl (by kernel_rfl) (by kernel_rfl) rfl M43 (fun _ hS => x_fieldv (b := g27) (o := (o28 + k * 6)) (q := (o28 + k * 6 + 5)) fa_32_5 (ev_tmp rfl rfl) rfl) ?_
        refine dT (i := 10) (v := Value.int .i64 x.r) rfl (by kernel_rfl) (by kernel_rfl) rfl M43 (fun _ hS => x_load1 (v := Value.int .i64 x.r) Try.underlying3 rfl (ev_tmp rfl rfl) (hS.rocell (i := 0) rfl hA29 hx (j := 5) rfl)) ?_
        have hw45 : IntKind.i64.wrap (x.q * x.r) = x.q * x.r := w64 (by rfl) (by omega) (by omega)
        refine dT (i := 11) (v := Value.int .i64 (x.q * x.r)) rfl (by kernel_rfl) (by kernel_rfl) rfl M43 (fun _ hS => x_mul_eq (p := x.q) (q := x.r) (ev_tmp rfl rfl) (ev_tmp rfl rfl) hw45) ?_
        have hw46 : IntKind.i64.wrap (((posL (ls.take k) who product).2) + (x.q * x.r)) = ((posL (ls.take k) who product).2) + (x.q * x.r) := w64 (by rfl) (by omega) (by omega)
        refine dT (i := 12) (v := Value.int .i64 (((posL (ls.take k) who product).2) + (x.q * x.r))) rfl (by kernel_rfl) (by kernel_rfl) rfl M43 (fun _ hS => x_add_eq (p := ((posL (ls.take k) who product).2)) (q := (x.q * x.r)) (ev_tmp rfl rfl) (ev_tmp rfl rfl) hw46) ?_
        refine dT (i := 13) (v := Value.int .i64 (((posL (ls.take k) who product).2) + (x.q * x.r))) rfl (by kernel_rfl) (by kernel_rfl) rfl M43 (fun _ hS => x_assign (v := Value.int .i64 (((posL (ls.take k) who product).2) + (x.q * x.r))) (ev_tmp rfl rfl)) ?_
        refine dE (by kernel_rfl) ?_
        refine hK24 _ _ ?_
        refine c_seq fun K47 hK48 => ?_
        refine c_reg ?_
        refine st rfl (x_move (v := Value.slice A ls.length c) (ev_tmp rfl rfl)) ?_
        refine st rfl (x_move (v := Value.int .i64 (k : Int)) (ev_tmp rfl rfl)) ?_
        refine st rfl (x_elemA (b := g27) (o := o28) (k := k) ea_26 (ev_tmp rfl rfl) hA29 (ev_tmp rfl rfl) rfl (by omega)) ?_
        refine st rfl (x_fieldv (b := g27) (o := (o28 + k * 6)) (q := (o28 + k * 6 + 3)) fa_32_3 (ev_tmp rfl rfl) rfl) ?_
        refine st rfl (x_load1 (v := Value.string x.p) Try.underlying9 rfl (ev_tmp rfl rfl) (M43.rocell (i := 0) rfl hA29 hx (j := 3) rfl)) ?_
        refine st rfl (x_move (v := Value.string product) (ev_tmp rfl rfl)) ?_
        refine st rfl (x_eqs (p := x.p) (q := product) (ev_tmp rfl rfl) (ev_tmp rfl rfl)) ?_
        refine st rfl (x_move (v := Value.bool (decide (x.p.data.toList = product.data.toList))) (ev_tmp rfl rfl)) ?_
        refine s_meet8 fun K49 hK50 => ?_
        have J51 : ∀ jk, K49 (fr 91 ([(68, Value.bool ((decide (x.p.data.toList = product.data.toList)) && (decide (x.s.data.toList = who.data.toList)))), (0, Value.slice A ls.length c), (1, Value.string who), (2, Value.string product), (6, Value.int .i64 0), (7, Value.int .i64 0), (8, Value.int .i64 (((posL (ls.take k) who product).1) + x.q)), (9, Value.int .i64 (((posL (ls.take k) who product).2) + (x.q * x.r))), (10, Value.int .i64 (k : Int)), (33, Value.int .i64 ((posL (ls.take k) who product).1)), (34, Value.slice A ls.length c), (35, Value.int .i64 (k : Int)), (36, Value.pointer (some ⟨g27, o28 + k * 6, none⟩)), (37, Value.pointer (some ⟨g27, o28 + k * 6 + 4, none⟩)), (38, Value.int .i64 x.q), (39, Value.int .i64 (((posL (ls.take k) who product).1) + x.q)), (40, Value.int .i64 ((posL (ls.take k) who product).2)), (41, Value.slice A ls.length c), (42, Value.int .i64 (k : Int)), (43, Value.pointer (some ⟨g27, o28 + k * 6, none⟩)), (44, Value.pointer (some ⟨g27, o28 + k * 6 + 4, none⟩)), (45, Value.int .i64 x.q), (46, Value.slice A ls.length c), (47, Value.int .i64 (k : Int)), (48, Value.pointer (some ⟨g27, o28 + k * 6, none⟩)), (49, Value.pointer (some ⟨g27, o28 + k * 6 + 5, none⟩)), (50, Value.int .i64 x.r), (51, Value.int .i64 (x.q * x.r)), (52, Value.int .i64 (((posL (ls.take k) who product).2) + (x.q * x.r))), (60, Value.bool (decide (x.p.data.toList = product.data.toList)))] ++ jk)) w44 := by
          intro jk
          refine hK50 _ _ ?_
          clear hK50
          refine s_nil ?_
          refine hK48 _ _ ?_
          refine c_cond (b := (decide (x.p.data.toList = product.data.toList)) && (decide (x.s.data.toList = who.data.toList))) (ev_tmp rfl rfl) (fun h54 => ?_) (fun h54 => ?_)
          · have h55 : x.p.data.toList = product.data.toList := of_decide_eq_true (and_l h54)
            have h56 : x.s.data.toList = who.data.toList := of_decide_eq_true (and_r h54)
            refine c_seq fun K57 hK58 => ?_
            refine c_reg ?_
            refine st rfl (x_move (v := Value.int .i64 (((posL (ls.take k) who product).1) + x.q)) (ev_tmp rfl rfl)) ?_
            refine st rfl (x_move (v := Value.slice A ls.length c) (ev_tmp rfl rfl)) ?_
            refine st rfl (x_move (v := Value.int .i64 (k : Int)) (ev_tmp rfl rfl)) ?_
            refine st rfl (x_elemA (b := g27) (o := o28) (k := k) ea_26 (ev_tmp rfl rfl) hA29 (ev_tmp rfl rfl) rfl (by omega)) ?_
            refine st rfl (x_fieldv (b := g27) (o := (o28 + k * 6)) (q := (o28 + k * 6 + 4)) fa_32_4 (ev_tmp rfl rfl) rfl) ?_
            refine st rfl (x_load1 (v := Value.int .i64 x.q) Try.underlying3 rfl (ev_tmp rfl rfl) (M43.rocell (i := 0) rfl hA29 hx (j := 4) rfl)) ?_
            have hw59 : IntKind.i64.wrap ((((posL (ls.take k) who product).1) + x.q) - x.q) = (((posL (ls.take k) who product).1) + x.q) - x.q := w64 (by rfl) (by omega) (by omega)
            refine st rfl (x_sub_eq (p := (((posL (ls.take k) who product).1) + x.q)) (q := x.q) (ev_tmp rfl rfl) (ev_tmp rfl rfl) hw59) ?_
            refine st rfl (x_assign (v := Value.int .i64 ((((posL (ls.take k) who product).1) + x.q) - x.q)) (ev_tmp rfl rfl)) ?_
            refine s_nil ?_
            refine hK58 _ _ ?_
            have M60 := M43.drew
            refine c_drawn (fun w1 => Mem w [] w1 [] [Ro.sl 0 w.heap.size A c 6 Leg.cells ls]) mixed ?_
            generalize w44.drew = w61 at M60 ⊢
            refine dT (i := 0) (v := Value.int .i64 (((posL (ls.take k) who product).2) + (x.q * x.r))) rfl (by kernel_rfl) (by kernel_rfl) rfl M60 (fun _ hS => x_move (v := Value.int .i64 (((posL (ls.take k) who product).2) + (x.q * x.r))) (ev_tmp rfl rfl)) ?_
            refine dT (i := 1) (v := Value.slice A ls.length c) rfl (by kernel_rfl) (by kernel_rfl) rfl M60 (fun _ hS => x_move (v := Value.slice A ls.length c) (ev_tmp rfl rfl)) ?_
            refine dT (i := 2) (v := Value.int .i64 (k : Int)) rfl (by kernel_rfl) (by kernel_rfl) rfl M60 (fun _ hS => x_move (v := Value.int .i64 (k : Int)) (ev_tmp rfl rfl)) ?_
            refine dT (i := 3) (v := Value.pointer (some ⟨g27, o28 + k * 6, none⟩)) rfl (by kernel_rfl) (by kernel_rfl) rfl M60 (fun _ hS => x_elemA (b := g27) (o := o28) (k := k) ea_26 (ev_tmp rfl rfl) hA29 (ev_tmp rfl rfl) rfl (by omega)) ?_
            refine dT (i := 4) (v := Value.pointer (some ⟨g27, o28 + k * 6 + 4, none⟩)) rfl (by kernel_rfl) (by kernel_rfl) rfl M60 (fun _ hS => x_fieldv (b := g27) (o := (o28 + k * 6)) (q := (o28 + k * 6 + 4)) fa_32_4 (ev_tmp rfl rfl) rfl) ?_
            refine dT (i := 5) (v := Value.int .i64 x.q) rfl (by kernel_rfl) (by kernel_rfl) rfl M60 (fun _ hS => x_load1 (v := Value.int .i64 x.q) Try.underlying3 rfl (ev_tmp rfl rfl) (hS.rocell (i := 0) rfl hA29 hx (j := 4) rfl)) ?_
            refine dT (i := 6) (v := Value.slice A ls.length c) rfl (by kernel_rfl) (by kernel_rfl) rfl M60 (fun _ hS => x_move (v := Value.slice A ls.length c) (ev_tmp rfl rfl)) ?_
            refine dT (i := 7) (v := Value.int .i64 (k : Int)) rfl (by kernel_rfl) (by kernel_rfl) rfl M60 (fun _ hS => x_move (v := Value.int .i64 (k : Int)) (ev_tmp rfl rfl)) ?_
            refine dT (i := 8) (v := Value.pointer (some ⟨g27, o28 + k * 6, none⟩)) rfl (by kernel_rfl) (by kernel_rfl) rfl M60 (fun _ hS => x_elemA (b := g27) (o := o28) (k := k) ea_26 (ev_tmp rfl rfl) hA29 (ev_tmp rfl rfl) rfl (by omega)) ?_
            refine dT (i := 9) (v := Value.pointer (some ⟨g27, o28 + k * 6 + 5, none⟩)) rfl (by kernel_rfl) (by kernel_rfl) rfl M60 (fun _ hS => x_fieldv (b := g27) (o := (o28 + k * 6)) (q := (o28 + k * 6 + 5)) fa_32_5 (ev_tmp rfl rfl) rfl) ?_
            refine dT (i := 10) (v := Value.int .i64 x.r) rfl (by kernel_rfl) (by kernel_rfl) rfl M60 (fun _ hS => x_load1 (v := Value.int .i64 x.r) Try.underlying3 rfl (ev_tmp rfl rfl) (hS.rocell (i := 0) rfl hA29 hx (j := 5) rfl)) ?_
            have hw62 : IntKind.i64.wrap (x.q * x.r) = x.q * x.r := w64 (by rfl) (by omega) (by omega)
            refine dT (i := 11) (v := Value.int .i64 (x.q * x.r)) rfl (by kernel_rfl) (by kernel_rfl) rfl M60 (fun _ hS => x_mul_eq (p := x.q) (q := x.r) (ev_tmp rfl rfl) (ev_tmp rfl rfl) hw62) ?_
            have hw63 : IntKind.i64.wrap ((((posL (ls.take k) who product).2) + (x.q * x.r)) - (x.q * x.r)) = (((posL (ls.take k) who product).2) + (x.q * x.r)) - (x.q * x.r) := w64 (by rfl) (by omega) (by omega)
            refine dT (i := 12) (v := Value.int .i64 ((((posL (ls.take k) who product).2) + (x.q * x.r)) - (x.q * x.r))) rfl (by kernel_rfl) (by kernel_rfl) rfl M60 (fun _ hS => x_sub_eq (p := (((posL (ls.take k) who product).2) + (x.q * x.r))) (q := (x.q * x.r)) (ev_tmp rfl rfl) (ev_tmp rfl rfl) hw63) ?_
            refine dT (i := 13) (v := Value.int .i64 ((((posL (ls.take k) who product).2) + (x.q * x.r)) - (x.q * x.r))) rfl (by kernel_rfl) (by kernel_rfl) rfl M60 (fun _ hS => x_assign (v := Value.int .i64 ((((posL (ls.take k) who product).2) + (x.q * x.r)) - (x.q * x.r))) (ev_tmp rfl rfl)) ?_
            refine dE (by kernel_rfl) ?_
            refine hK22 _ _ ?_
            refine c_reg ?_
            refine st rfl (x_move (v := Value.int .i64 (k : Int)) (ev_tmp rfl rfl)) ?_
            have hw64 : IntKind.i64.wrap ((k : Int) + 1) = (k : Int) + 1 := w64 (by rfl) (by omega) (by omega)
            refine st rfl (x_add_eq (p := (k : Int)) (q := 1) (ev_tmp rfl rfl) rfl hw64) ?_
            refine st rfl (x_assign (v := Value.int .i64 ((k : Int) + 1)) (ev_tmp rfl rfl)) ?_
            refine s_nil ?_
            have hstep : posL (ls.take (k + 1)) who product = ((((posL (ls.take k) who product).1) + x.q) - x.q, (((posL (ls.take k) who product).2) + (x.q * x.r)) - (x.q * x.r)) := by rw [posL_snoc hx]; exact sm_tt h37 h54
            exact ⟨_, _, (by omega : ls.length - (k + 1) < ls.length - k), fr_held (live := [(0, Value.slice A ls.length c), (1, Value.string who), (2, Value.string product), (6, Value.int .i64 0), (7, Value.int .i64 0), (8, Value.int .i64 ((posL (ls.take (k + 1)) who product).1)), (9, Value.int .i64 ((posL (ls.take (k + 1)) who product).2)), (10, Value.int .i64 (((k + 1) : Nat) : Int))]) ⟨rfl, rfl, rfl, rfl, rfl, (congrArg (Value.int .i64) (congrArg Prod.fst hstep).symm), (congrArg (Value.int .i64) (congrArg Prod.snd hstep).symm), (congrArg (Value.int .i64) (by omega)), trivial⟩, (k + 1), _, rfl, rfl, M60, (by omega), (by have h1 := congrArg Prod.fst hstep; have h2 := congrArg Prod.snd hstep; simp only at h1 h2; omega), (by have h1 := congrArg Prod.fst hstep; have h2 := congrArg Prod.snd hstep; simp only at h1 h2; omega), (by have h1 := congrArg Prod.fst hstep; have h2 := congrArg Prod.snd hstep; simp only at h1 h2; omega), (by have h1 := congrArg Prod.fst hstep; have h2 := congrArg Prod.snd hstep; simp only at h1 h2; omega)⟩
          · have h65 : ((decide (x.p.data.toList = product.data.toList)) && (decide (x.s.data.toList = who.data.toList))) = false := h54
            refine c_skip ?_
            refine hK22 _ _ ?_
            refine c_reg ?_
            refine st rfl (x_move (v := Value.int .i64 (k : Int)) (ev_tmp rfl rfl)) ?_
            have hw66 : IntKind.i64.wrap ((k : Int) + 1) = (k : Int) + 1 := w64 (by rfl) (by omega) (by omega)
            refine st rfl (x_add_eq (p := (k : Int)) (q := 1) (ev_tmp rfl rfl) rfl hw66) ?_
            refine st rfl (x_assign (v := Value.int .i64 ((k : Int) + 1)) (ev_tmp rfl rfl)) ?_
            refine s_nil ?_
            have hstep : posL (ls.take (k + 1)) who product = (((posL (ls.take k) who product).1) + x.q, ((posL (ls.take k) who product).2) + (x.q * x.r)) := by rw [posL_snoc hx]; exact sm_tf h37 h54
            exact ⟨_, _, (by omega : ls.length - (k + 1) < ls.length - k), fr_held (live := [(0, Value.slice A ls.length c), (1, Value.string who), (2, Value.string product), (6, Value.int .i64 0), (7, Value.int .i64 0), (8, Value.int .i64 ((posL (ls.take (k + 1)) who product).1)), (9, Value.int .i64 ((posL (ls.take (k + 1)) who product).2)), (10, Value.int .i64 (((k + 1) : Nat) : Int))]) ⟨rfl, rfl, rfl, rfl, rfl, (congrArg (Value.int .i64) (congrArg Prod.fst hstep).symm), (congrArg (Value.int .i64) (congrArg Prod.snd hstep).symm), (congrArg (Value.int .i64) (by omega)), trivial⟩, (k + 1), _, rfl, rfl, M43, (by omega), (by have h1 := congrArg Prod.fst hstep; have h2 := congrArg Prod.snd hstep; simp only at h1 h2; omega), (by have h1 := congrArg Prod.fst hstep; have h2 := congrArg Prod.snd hstep; simp only at h1 h2; omega), (by have h1 := congrArg Prod.fst hstep; have h2 := congrArg Prod.snd hstep; simp only at h1 h2; omega), (by have h1 := congrArg Prod.fst hstep; have h2 := congrArg Prod.snd hstep; simp only at h1 h2; omega)⟩
        clear hK50
        rcases bcase (decide (x.p.data.toList = product.data.toList)) with hg52 | hg52
        · refine gf (b' := false) rfl rfl rfl (congrArg Value.bool hg52) rfl ?_
          refine gf (b' := false) rfl rfl rfl (congrArg Value.bool hg52) rfl ?_
          refine gf (b' := false) rfl rfl rfl (congrArg Value.bool hg52) rfl ?_
          refine gf (b' := false) rfl rfl rfl (congrArg Value.bool hg52) rfl ?_
          refine gf (b' := false) rfl rfl rfl (congrArg Value.bool hg52) rfl ?_
          refine gf (b' := false) rfl rfl rfl (congrArg Value.bool hg52) rfl ?_
          refine gf (b' := false) rfl rfl rfl (congrArg Value.bool hg52) rfl ?_
          refine st rfl (x_pick_f (v := Value.bool false) (ev_tmp rfl (congrArg Value.bool hg52)) rfl) ?_
          refine s_nil ?_
          exact j_to J51 ⟨(congrArg Value.bool (and_f hg52)), rfl, rfl, rfl, rfl, rfl, rfl, rfl, rfl, rfl, rfl, rfl, rfl, rfl, rfl, rfl, rfl, rfl, rfl, rfl, rfl, rfl, rfl, rfl, rfl, rfl, rfl, rfl, rfl, rfl, trivial⟩
        · have h53 : x.p.data.toList = product.data.toList := of_decide_eq_true hg52
          refine gt rfl rfl rfl (congrArg Value.bool hg52) (x_move (v := Value.slice A ls.length c) (ev_tmp rfl rfl)) ?_
          refine gt rfl rfl rfl (congrArg Value.bool hg52) (x_move (v := Value.int .i64 (k : Int)) (ev_tmp rfl rfl)) ?_
          refine gt rfl rfl rfl (congrArg Value.bool hg52) (x_elemA (b := g27) (o := o28) (k := k) ea_26 (ev_tmp rfl rfl) hA29 (ev_tmp rfl rfl) rfl (by omega)) ?_
          refine gt rfl rfl rfl (congrArg Value.bool hg52) (x_fieldv (b := g27) (o := (o28 + k * 6)) (q := (o28 + k * 6 + 2)) fa_32_2 (ev_tmp rfl rfl) rfl) ?_
          refine gt rfl rfl rfl (congrArg Value.bool hg52) (x_load1 (v := Value.string x.s) Try.underlying9 rfl (ev_tmp rfl rfl) (M43.rocell (i := 0) rfl hA29 hx (j := 2) rfl)) ?_
          refine gt rfl rfl rfl (congrArg Value.bool hg52) (x_move (v := Value.string who) (ev_tmp rfl rfl)) ?_
          refine gt rfl rfl rfl (congrArg Value.bool hg52) (x_eqs (p := x.s) (q := who) (ev_tmp rfl rfl) (ev_tmp rfl rfl)) ?_
          refine st rfl (x_pick_t (v := Value.bool (decide (x.s.data.toList = who.data.toList))) (ev_tmp rfl (congrArg Value.bool hg52)) (ev_tmp rfl rfl)) ?_
          refine s_nil ?_
          exact j_to J51 ⟨(congrArg Value.bool (and_t hg52)), rfl, rfl, rfl, rfl, rfl, rfl, rfl, rfl, rfl, rfl, rfl, rfl, rfl, rfl, rfl, rfl, rfl, rfl, rfl, rfl, rfl, rfl, rfl, rfl, rfl, rfl, rfl, rfl, rfl, trivial⟩
      · have h67 : ((decide (x.p.data.toList = product.data.toList)) && (decide (x.b.data.toList = who.data.toList))) = false := h37
        refine c_skip ?_
        refine hK24 _ _ ?_
        refine c_seq fun K68 hK69 => ?_
        refine c_reg ?_
        refine st rfl (x_move (v := Value.slice A ls.length c) (ev_tmp rfl rfl)) ?_
        refine st rfl (x_move (v := Value.int .i64 (k : Int)) (ev_tmp rfl rfl)) ?_
        refine st rfl (x_elemA (b := g27) (o := o28) (k := k) ea_26 (ev_tmp rfl rfl) hA29 (ev_tmp rfl rfl) rfl (by omega)) ?_
        refine st rfl (x_fieldv (b := g27) (o := (o28 + k * 6)) (q := (o28 + k * 6 + 3)) fa_32_3 (ev_tmp rfl rfl) rfl) ?_
        refine st rfl (x_load1 (v := Value.string x.p) Try.underlying9 rfl (ev_tmp rfl rfl) (M14.rocell (i := 0) rfl hA29 hx (j := 3) rfl)) ?_
        refine st rfl (x_move (v := Value.string product) (ev_tmp rfl rfl)) ?_
        refine st rfl (x_eqs (p := x.p) (q := product) (ev_tmp rfl rfl) (ev_tmp rfl rfl)) ?_
        refine st rfl (x_move (v := Value.bool (decide (x.p.data.toList = product.data.toList))) (ev_tmp rfl rfl)) ?_
        refine s_meet8 fun K70 hK71 => ?_
        have J72 : ∀ jk, K70 (fr 91 ([(68, Value.bool ((decide (x.p.data.toList = product.data.toList)) && (decide (x.s.data.toList = who.data.toList)))), (0, Value.slice A ls.length c), (1, Value.string who), (2, Value.string product), (6, Value.int .i64 0), (7, Value.int .i64 0), (8, Value.int .i64 ((posL (ls.take k) who product).1)), (9, Value.int .i64 ((posL (ls.take k) who product).2)), (10, Value.int .i64 (k : Int)), (60, Value.bool (decide (x.p.data.toList = product.data.toList)))] ++ jk)) w13 := by
          intro jk
          refine hK71 _ _ ?_
          clear hK71
          refine s_nil ?_
          refine hK69 _ _ ?_
          refine c_cond (b := (decide (x.p.data.toList = product.data.toList)) && (decide (x.s.data.toList = who.data.toList))) (ev_tmp rfl rfl) (fun h75 => ?_) (fun h75 => ?_)
          · have h76 : x.p.data.toList = product.data.toList := of_decide_eq_true (and_l h75)
            have h77 : x.s.data.toList = who.data.toList := of_decide_eq_true (and_r h75)
            refine c_seq fun K78 hK79 => ?_
            refine c_reg ?_
            refine st rfl (x_move (v := Value.int .i64 ((posL (ls.take k) who product).1)) (ev_tmp rfl rfl)) ?_
            refine st rfl (x_move (v := Value.slice A ls.length c) (ev_tmp rfl rfl)) ?_
            refine st rfl (x_move (v := Value.int .i64 (k : Int)) (ev_tmp rfl rfl)) ?_
            refine st rfl (x_elemA (b := g27) (o := o28) (k := k) ea_26 (ev_tmp rfl rfl) hA29 (ev_tmp rfl rfl) rfl (by omega)) ?_
            refine st rfl (x_fieldv (b := g27) (o := (o28 + k * 6)) (q := (o28 + k * 6 + 4)) fa_32_4 (ev_tmp rfl rfl) rfl) ?_
            refine st rfl (x_load1 (v := Value.int .i64 x.q) Try.underlying3 rfl (ev_tmp rfl rfl) (M14.rocell (i := 0) rfl hA29 hx (j := 4) rfl)) ?_
            have hw80 : IntKind.i64.wrap (((posL (ls.take k) who product).1) - x.q) = ((posL (ls.take k) who product).1) - x.q := w64 (by rfl) (by omega) (by omega)
            refine st rfl (x_sub_eq (p := ((posL (ls.take k) who product).1)) (q := x.q) (ev_tmp rfl rfl) (ev_tmp rfl rfl) hw80) ?_
            refine st rfl (x_assign (v := Value.int .i64 (((posL (ls.take k) who product).1) - x.q)) (ev_tmp rfl rfl)) ?_
            refine s_nil ?_
            refine hK79 _ _ ?_
            have M81 := M14.drew
            refine c_drawn (fun w1 => Mem w [] w1 [] [Ro.sl 0 w.heap.size A c 6 Leg.cells ls]) mixed ?_
            generalize w13.drew = w82 at M81 ⊢
            refine dT (i := 0) (v := Value.int .i64 ((posL (ls.take k) who product).2)) rfl (by kernel_rfl) (by kernel_rfl) rfl M81 (fun _ hS => x_move (v := Value.int .i64 ((posL (ls.take k) who product).2)) (ev_tmp rfl rfl)) ?_
            refine dT (i := 1) (v := Value.slice A ls.length c) rfl (by kernel_rfl) (by kernel_rfl) rfl M81 (fun _ hS => x_move (v := Value.slice A ls.length c) (ev_tmp rfl rfl)) ?_
            refine dT (i := 2) (v := Value.int .i64 (k : Int)) rfl (by kernel_rfl) (by kernel_rfl) rfl M81 (fun _ hS => x_move (v := Value.int .i64 (k : Int)) (ev_tmp rfl rfl)) ?_
            refine dT (i := 3) (v := Value.pointer (some ⟨g27, o28 + k * 6, none⟩)) rfl (by kernel_rfl) (by kernel_rfl) rfl M81 (fun _ hS => x_elemA (b := g27) (o := o28) (k := k) ea_26 (ev_tmp rfl rfl) hA29 (ev_tmp rfl rfl) rfl (by omega)) ?_
            refine dT (i := 4) (v := Value.pointer (some ⟨g27, o28 + k * 6 + 4, none⟩)) rfl (by kernel_rfl) (by kernel_rfl) rfl M81 (fun _ hS => x_fieldv (b := g27) (o := (o28 + k * 6)) (q := (o28 + k * 6 + 4)) fa_32_4 (ev_tmp rfl rfl) rfl) ?_
            refine dT (i := 5) (v := Value.int .i64 x.q) rfl (by kernel_rfl) (by kernel_rfl) rfl M81 (fun _ hS => x_load1 (v := Value.int .i64 x.q) Try.underlying3 rfl (ev_tmp rfl rfl) (hS.rocell (i := 0) rfl hA29 hx (j := 4) rfl)) ?_
            refine dT (i := 6) (v := Value.slice A ls.length c) rfl (by kernel_rfl) (by kernel_rfl) rfl M81 (fun _ hS => x_move (v := Value.slice A ls.length c) (ev_tmp rfl rfl)) ?_
            refine dT (i := 7) (v := Value.int .i64 (k : Int)) rfl (by kernel_rfl) (by kernel_rfl) rfl M81 (fun _ hS => x_move (v := Value.int .i64 (k : Int)) (ev_tmp rfl rfl)) ?_
            refine dT (i := 8) (v := Value.pointer (some ⟨g27, o28 + k * 6, none⟩)) rfl (by kernel_rfl) (by kernel_rfl) rfl M81 (fun _ hS => x_elemA (b := g27) (o := o28) (k := k) ea_26 (ev_tmp rfl rfl) hA29 (ev_tmp rfl rfl) rfl (by omega)) ?_
            refine dT (i := 9) (v := Value.pointer (some ⟨g27, o28 + k * 6 + 5, none⟩)) rfl (by kernel_rfl) (by kernel_rfl) rfl M81 (fun _ hS => x_fieldv (b := g27) (o := (o28 + k * 6)) (q := (o28 + k * 6 + 5)) fa_32_5 (ev_tmp rfl rfl) rfl) ?_
            refine dT (i := 10) (v := Value.int .i64 x.r) rfl (by kernel_rfl) (by kernel_rfl) rfl M81 (fun _ hS => x_load1 (v := Value.int .i64 x.r) Try.underlying3 rfl (ev_tmp rfl rfl) (hS.rocell (i := 0) rfl hA29 hx (j := 5) rfl)) ?_
            have hw83 : IntKind.i64.wrap (x.q * x.r) = x.q * x.r := w64 (by rfl) (by omega) (by omega)
            refine dT (i := 11) (v := Value.int .i64 (x.q * x.r)) rfl (by kernel_rfl) (by kernel_rfl) rfl M81 (fun _ hS => x_mul_eq (p := x.q) (q := x.r) (ev_tmp rfl rfl) (ev_tmp rfl rfl) hw83) ?_
            have hw84 : IntKind.i64.wrap (((posL (ls.take k) who product).2) - (x.q * x.r)) = ((posL (ls.take k) who product).2) - (x.q * x.r) := w64 (by rfl) (by omega) (by omega)
            refine dT (i := 12) (v := Value.int .i64 (((posL (ls.take k) who product).2) - (x.q * x.r))) rfl (by kernel_rfl) (by kernel_rfl) rfl M81 (fun _ hS => x_sub_eq (p := ((posL (ls.take k) who product).2)) (q := (x.q * x.r)) (ev_tmp rfl rfl) (ev_tmp rfl rfl) hw84) ?_
            refine dT (i := 13) (v := Value.int .i64 (((posL (ls.take k) who product).2) - (x.q * x.r))) rfl (by kernel_rfl) (by kernel_rfl) rfl M81 (fun _ hS => x_assign (v := Value.int .i64 (((posL (ls.take k) who product).2) - (x.q * x.r))) (ev_tmp rfl rfl)) ?_
            refine dE (by kernel_rfl) ?_
            refine hK22 _ _ ?_
            refine c_reg ?_
            refine st rfl (x_move (v := Value.int .i64 (k : Int)) (ev_tmp rfl rfl)) ?_
            have hw85 : IntKind.i64.wrap ((k : Int) + 1) = (k : Int) + 1 := w64 (by rfl) (by omega) (by omega)
            refine st rfl (x_add_eq (p := (k : Int)) (q := 1) (ev_tmp rfl rfl) rfl hw85) ?_
            refine st rfl (x_assign (v := Value.int .i64 ((k : Int) + 1)) (ev_tmp rfl rfl)) ?_
            refine s_nil ?_
            have hstep : posL (ls.take (k + 1)) who product = (((posL (ls.take k) who product).1) - x.q, ((posL (ls.take k) who product).2) - (x.q * x.r)) := by rw [posL_snoc hx]; exact sm_ft h37 h75
            exact ⟨_, _, (by omega : ls.length - (k + 1) < ls.length - k), fr_held (live := [(0, Value.slice A ls.length c), (1, Value.string who), (2, Value.string product), (6, Value.int .i64 0), (7, Value.int .i64 0), (8, Value.int .i64 ((posL (ls.take (k + 1)) who product).1)), (9, Value.int .i64 ((posL (ls.take (k + 1)) who product).2)), (10, Value.int .i64 (((k + 1) : Nat) : Int))]) ⟨rfl, rfl, rfl, rfl, rfl, (congrArg (Value.int .i64) (congrArg Prod.fst hstep).symm), (congrArg (Value.int .i64) (congrArg Prod.snd hstep).symm), (congrArg (Value.int .i64) (by omega)), trivial⟩, (k + 1), _, rfl, rfl, M81, (by omega), (by have h1 := congrArg Prod.fst hstep; have h2 := congrArg Prod.snd hstep; simp only at h1 h2; omega), (by have h1 := congrArg Prod.fst hstep; have h2 := congrArg Prod.snd hstep; simp only at h1 h2; omega), (by have h1 := congrArg Prod.fst hstep; have h2 := congrArg Prod.snd hstep; simp only at h1 h2; omega), (by have h1 := congrArg Prod.fst hstep; have h2 := congrArg Prod.snd hstep; simp only at h1 h2; omega)⟩
          · have h86 : ((decide (x.p.data.toList = product.data.toList)) && (decide (x.s.data.toList = who.data.toList))) = false := h75
            refine c_skip ?_
            refine hK22 _ _ ?_
            refine c_reg ?_
            refine st rfl (x_move (v := Value.int .i64 (k : Int)) (ev_tmp rfl rfl)) ?_
            have hw87 : IntKind.i64.wrap ((k : Int) + 1) = (k : Int) + 1 := w64 (by rfl) (by omega) (by omega)
            refine st rfl (x_add_eq (p := (k : Int)) (q := 1) (ev_tmp rfl rfl) rfl hw87) ?_
            refine st rfl (x_assign (v := Value.int .i64 ((k : Int) + 1)) (ev_tmp rfl rfl)) ?_
            refine s_nil ?_
            have hstep : posL (ls.take (k + 1)) who product = ((posL (ls.take k) who product).1, (posL (ls.take k) who product).2) := by rw [posL_snoc hx]; exact sm_ff h37 h75
            exact ⟨_, _, (by omega : ls.length - (k + 1) < ls.length - k), fr_held (live := [(0, Value.slice A ls.length c), (1, Value.string who), (2, Value.string product), (6, Value.int .i64 0), (7, Value.int .i64 0), (8, Value.int .i64 ((posL (ls.take (k + 1)) who product).1)), (9, Value.int .i64 ((posL (ls.take (k + 1)) who product).2)), (10, Value.int .i64 (((k + 1) : Nat) : Int))]) ⟨rfl, rfl, rfl, rfl, rfl, (congrArg (Value.int .i64) (congrArg Prod.fst hstep).symm), (congrArg (Value.int .i64) (congrArg Prod.snd hstep).symm), (congrArg (Value.int .i64) (by omega)), trivial⟩, (k + 1), _, rfl, rfl, M14, (by omega), (by have h1 := congrArg Prod.fst hstep; have h2 := congrArg Prod.snd hstep; simp only at h1 h2; omega), (by have h1 := congrArg Prod.fst hstep; have h2 := congrArg Prod.snd hstep; simp only at h1 h2; omega), (by have h1 := congrArg Prod.fst hstep; have h2 := congrArg Prod.snd hstep; simp only at h1 h2; omega), (by have h1 := congrArg Prod.fst hstep; have h2 := congrArg Prod.snd hstep; simp only at h1 h2; omega)⟩
        clear hK71
        rcases bcase (decide (x.p.data.toList = product.data.toList)) with hg73 | hg73
        · refine gf (b' := false) rfl rfl rfl (congrArg Value.bool hg73) rfl ?_
          refine gf (b' := false) rfl rfl rfl (congrArg Value.bool hg73) rfl ?_
          refine gf (b' := false) rfl rfl rfl (congrArg Value.bool hg73) rfl ?_
          refine gf (b' := false) rfl rfl rfl (congrArg Value.bool hg73) rfl ?_
          refine gf (b' := false) rfl rfl rfl (congrArg Value.bool hg73) rfl ?_
          refine gf (b' := false) rfl rfl rfl (congrArg Value.bool hg73) rfl ?_
          refine gf (b' := false) rfl rfl rfl (congrArg Value.bool hg73) rfl ?_
          refine st rfl (x_pick_f (v := Value.bool false) (ev_tmp rfl (congrArg Value.bool hg73)) rfl) ?_
          refine s_nil ?_
          exact j_to J72 ⟨(congrArg Value.bool (and_f hg73)), rfl, rfl, rfl, rfl, rfl, rfl, rfl, rfl, rfl, trivial⟩
        · have h74 : x.p.data.toList = product.data.toList := of_decide_eq_true hg73
          refine gt rfl rfl rfl (congrArg Value.bool hg73) (x_move (v := Value.slice A ls.length c) (ev_tmp rfl rfl)) ?_
          refine gt rfl rfl rfl (congrArg Value.bool hg73) (x_move (v := Value.int .i64 (k : Int)) (ev_tmp rfl rfl)) ?_
          refine gt rfl rfl rfl (congrArg Value.bool hg73) (x_elemA (b := g27) (o := o28) (k := k) ea_26 (ev_tmp rfl rfl) hA29 (ev_tmp rfl rfl) rfl (by omega)) ?_
          refine gt rfl rfl rfl (congrArg Value.bool hg73) (x_fieldv (b := g27) (o := (o28 + k * 6)) (q := (o28 + k * 6 + 2)) fa_32_2 (ev_tmp rfl rfl) rfl) ?_
          refine gt rfl rfl rfl (congrArg Value.bool hg73) (x_load1 (v := Value.string x.s) Try.underlying9 rfl (ev_tmp rfl rfl) (M14.rocell (i := 0) rfl hA29 hx (j := 2) rfl)) ?_
          refine gt rfl rfl rfl (congrArg Value.bool hg73) (x_move (v := Value.string who) (ev_tmp rfl rfl)) ?_
          refine gt rfl rfl rfl (congrArg Value.bool hg73) (x_eqs (p := x.s) (q := who) (ev_tmp rfl rfl) (ev_tmp rfl rfl)) ?_
          refine st rfl (x_pick_t (v := Value.bool (decide (x.s.data.toList = who.data.toList))) (ev_tmp rfl (congrArg Value.bool hg73)) (ev_tmp rfl rfl)) ?_
          refine s_nil ?_
          exact j_to J72 ⟨(congrArg Value.bool (and_t hg73)), rfl, rfl, rfl, rfl, rfl, rfl, rfl, rfl, rfl, trivial⟩
    clear hK33
    rcases bcase (decide (x.p.data.toList = product.data.toList)) with hg35 | hg35
    · refine gf (b' := false) rfl rfl rfl (congrArg Value.bool hg35) rfl ?_
      refine gf (b' := false) rfl rfl rfl (congrArg Value.bool hg35) rfl ?_
      refine gf (b' := false) rfl rfl rfl (congrArg Value.bool hg35) rfl ?_
      refine gf (b' := false) rfl rfl rfl (congrArg Value.bool hg35) rfl ?_
      refine gf (b' := false) rfl rfl rfl (congrArg Value.bool hg35) rfl ?_
      refine gf (b' := false) rfl rfl rfl (congrArg Value.bool hg35) rfl ?_
      refine gf (b' := false) rfl rfl rfl (congrArg Value.bool hg35) rfl ?_
      refine st rfl (x_pick_f (v := Value.bool false) (ev_tmp rfl (congrArg Value.bool hg35)) rfl) ?_
      refine s_nil ?_
      exact j_to J34 ⟨(congrArg Value.bool (and_f hg35)), rfl, rfl, rfl, rfl, rfl, rfl, rfl, rfl, rfl, trivial⟩
    · have h36 : x.p.data.toList = product.data.toList := of_decide_eq_true hg35
      refine gt rfl rfl rfl (congrArg Value.bool hg35) (x_move (v := Value.slice A ls.length c) (ev_tmp rfl rfl)) ?_
      refine gt rfl rfl rfl (congrArg Value.bool hg35) (x_move (v := Value.int .i64 (k : Int)) (ev_tmp rfl rfl)) ?_
      refine gt rfl rfl rfl (congrArg Value.bool hg35) (x_elemA (b := g27) (o := o28) (k := k) ea_26 (ev_tmp rfl rfl) hA29 (ev_tmp rfl rfl) rfl (by omega)) ?_
      refine gt rfl rfl rfl (congrArg Value.bool hg35) (x_fieldv (b := g27) (o := (o28 + k * 6)) (q := (o28 + k * 6 + 1)) fa_32_1 (ev_tmp rfl rfl) rfl) ?_
      refine gt rfl rfl rfl (congrArg Value.bool hg35) (x_load1 (v := Value.string x.b) Try.underlying9 rfl (ev_tmp rfl rfl) (M14.rocell (i := 0) rfl hA29 hx (j := 1) rfl)) ?_
      refine gt rfl rfl rfl (congrArg Value.bool hg35) (x_move (v := Value.string who) (ev_tmp rfl rfl)) ?_
      refine gt rfl rfl rfl (congrArg Value.bool hg35) (x_eqs (p := x.b) (q := who) (ev_tmp rfl rfl) (ev_tmp rfl rfl)) ?_
      refine st rfl (x_pick_t (v := Value.bool (decide (x.b.data.toList = who.data.toList))) (ev_tmp rfl (congrArg Value.bool hg35)) (ev_tmp rfl rfl)) ?_
      refine s_nil ?_
      exact j_to J34 ⟨(congrArg Value.bool (and_t hg35)), rfl, rfl, rfl, rfl, rfl, rfl, rfl, rfl, rfl, trivial⟩
  · have h88 : ¬ ((k : Int) < (ls.length : Int)) := of_decide_eq_false h19
    refine c_exit ?_
    refine xb_here ?_
    refine hK9 _ _ ?_
    refine c_seq fun K89 hK90 => ?_
    refine c_reg ?_
    refine st rfl (x_move (v := Value.int .i64 ((posL (ls.take k) who product).1)) (ev_tmp rfl rfl)) ?_
    refine st rfl (x_move (v := Value.int .i64 ((posL (ls.take k) who product).2)) (ev_tmp rfl rfl)) ?_
    refine st rfl (x_assign (v := Value.int .i64 ((posL (ls.take k) who product).1)) (ev_tmp rfl rfl)) ?_
    refine st rfl (x_assign (v := Value.int .i64 ((posL (ls.take k) who product).2)) (ev_tmp rfl rfl)) ?_
    refine s_nil ?_
    refine hK90 _ _ ?_
    refine c_ret ?_
    refine hT3 _ _ ?_
    refine r2 rfl (ev_tmp (v := Value.int .i64 ((posL (ls.take k) who product).1)) rfl rfl) (ev_tmp (v := Value.int .i64 ((posL (ls.take k) who product).2)) rfl rfl) ?_
    have hall : ls.take k = ls := List.take_of_length_le (by omega)
    rw [hall]
    exact ⟨rfl, M14.below⟩

set_option maxHeartbeats 1000000 in
set_option maxRecDepth 20000 in
theorem position_r (A : Option Addr) (c : Nat) (l : List Trade) (who product : ByteArray) (w : World) (hs : SlB 0 w.heap.size w A c 8 Trade.cells l) :
    Calls Try.prog 26 #[Value.agg #[Value.slice A l.length c], Value.string who, Value.string product] w fun e w' => e = .returned (.tuple #[.int .i64 (posL (legsC l) who product).1, .int .i64 (posL (legsC l) who product).2, .int .i64 (chk l)]) ∧ Below w.heap.size w w' := by
  have M0 := Mem.start w []
  have M1 := M0.see (Ro.sl 0 w.heap.size A c 8 Trade.cells l) (hs) (Nat.le_refl _)
  refine enter (args := [Value.agg #[Value.slice A l.length c], Value.string who, Value.string product]) Try.func26 rfl (n := 28) rfl rfl fun T2 hT3 => ?_
  refine c_seq fun K4 hK5 => ?_
  refine c_reg ?_
  refine snew (cs := #[Value.slice A l.length c]) M1 rfl (x_box (v := Value.agg #[Value.slice A l.length c]) (ev_tmp rfl rfl)) fun b6 w7 M8 => ?_
  refine st rfl (x_assign (v := Value.int .i64 0) rfl) ?_
  refine st rfl (x_assign (v := Value.int .i64 0) rfl) ?_
  refine st rfl (x_assign (v := Value.int .i64 0) rfl) ?_
  refine s_nil ?_
  refine hK5 _ _ ?_
  refine c_seq fun K9 hK10 => ?_
  refine c_reg ?_
  refine st rfl (x_loadw (cs := [Value.slice A l.length c]) Try.underlying24 rfl sz_24 (ev_tmp rfl rfl) (M8.range (i := 0) rfl ⟨rfl, trivial⟩)) ?_
  refine sC rfl (x_callL (xs := [.tmp 14]) (vs := [Value.agg #[Value.slice A l.length c]]) (cap := []) ent_25 rfl ⟨(ev_tmp rfl rfl), trivial⟩) (legs_r _ _ l _ (M8.slw (i := 0) rfl)) ?_
  rintro _ w13 ⟨A11, c12, rfl, hb14, hs15⟩
  refine ⟨_, rfl, ?_⟩
  have M16 := M8.gotSl hb14 hs15
  refine st rfl (x_move (v := Value.tuple #[Value.slice A11 ((legsC l).length) c12, Value.int .i64 (chk l)]) (ev_tmp rfl rfl)) ?_
  refine st rfl (x_extract (v := Value.slice A11 ((legsC l).length) c12) (ev_tmp rfl rfl) rfl) ?_
  refine st rfl (x_extract (v := Value.int .i64 (chk l)) (ev_tmp rfl rfl) rfl) ?_
  refine st rfl (x_assign (v := Value.slice A11 ((legsC l).length) c12) (ev_tmp rfl rfl)) ?_
  refine st rfl (x_assign (v := Value.int .i64 (chk l)) (ev_tmp rfl rfl)) ?_
  refine s_nil ?_
  refine hK10 _ _ ?_
  refine c_seq fun K18 hK19 => ?_
  refine c_reg ?_
  refine st rfl (x_move (v := Value.slice A11 ((legsC l).length) c12) (ev_tmp rfl rfl)) ?_
  refine st rfl (x_move (v := Value.string who) (ev_tmp rfl rfl)) ?_
  refine st rfl (x_move (v := Value.string product) (ev_tmp rfl rfl)) ?_
  refine sC rfl (x_callL (xs := [.tmp 19, .tmp 20, .tmp 21]) (vs := [Value.slice A11 ((legsC l).length) c12, Value.string who, Value.string product]) (cap := []) ent_46 rfl ⟨(ev_tmp rfl rfl), (ev_tmp rfl rfl), (ev_tmp rfl rfl), trivial⟩) (sum_r _ _ (legsC l) who product _ (M16.slw (i := 0) rfl) (fun _ hm => legsC_mem hm) (legsC_len _)) ?_
  rintro _ w20 ⟨rfl, hb22⟩
  refine ⟨_, rfl, ?_⟩
  have M21 := M16.call hb22
  refine st rfl (x_move (v := Value.tuple #[Value.int .i64 ((posL (legsC l) who product).1), Value.int .i64 ((posL (legsC l) who product).2)]) (ev_tmp rfl rfl)) ?_
  refine st rfl (x_extract (v := Value.int .i64 ((posL (legsC l) who product).1)) (ev_tmp rfl rfl) rfl) ?_
  refine st rfl (x_extract (v := Value.int .i64 ((posL (legsC l) who product).2)) (ev_tmp rfl rfl) rfl) ?_
  refine st rfl (x_assign (v := Value.int .i64 ((posL (legsC l) who product).1)) (ev_tmp rfl rfl)) ?_
  refine st rfl (x_assign (v := Value.int .i64 ((posL (legsC l) who product).2)) (ev_tmp rfl rfl)) ?_
  refine s_nil ?_
  refine hK19 _ _ ?_
  refine c_seq fun K23 hK24 => ?_
  refine c_reg ?_
  refine st rfl (x_move (v := Value.int .i64 ((posL (legsC l) who product).1)) (ev_tmp rfl rfl)) ?_
  refine st rfl (x_move (v := Value.int .i64 ((posL (legsC l) who product).2)) (ev_tmp rfl rfl)) ?_
  refine st rfl (x_move (v := Value.int .i64 (chk l)) (ev_tmp rfl rfl)) ?_
  refine st rfl (x_assign (v := Value.int .i64 ((posL (legsC l) who product).1)) (ev_tmp rfl rfl)) ?_
  refine st rfl (x_assign (v := Value.int .i64 ((posL (legsC l) who product).2)) (ev_tmp rfl rfl)) ?_
  refine st rfl (x_assign (v := Value.int .i64 (chk l)) (ev_tmp rfl rfl)) ?_
  refine s_nil ?_
  refine hK24 _ _ ?_
  refine c_ret ?_
  refine hT3 _ _ ?_
  refine r3 rfl (ev_tmp (v := Value.int .i64 ((posL (legsC l) who product).1)) rfl rfl) (ev_tmp (v := Value.int .i64 ((posL (legsC l) who product).2)) rfl rfl) (ev_tmp (v := Value.int .i64 (chk l)) rfl rfl) ?_
  exact ⟨rfl, M21.below⟩

set_option maxHeartbeats 1000000 in
set_option maxRecDepth 20000 in
theorem agreed_c2 (A : Option Addr) (c : Nat) (l : List Trade) (who product : ByteArray) (w : World) (hs : SlB 0 w.heap.size w A c 8 Trade.cells l) :
    Calls Try.prog 27 #[Value.agg #[Value.slice A l.length c], Value.string who, Value.string product] w fun e w' => e = .returned (.tuple #[.int .i64 (agrC l who product).1, .int .i64 (agrC l who product).2, .int .i64 (chk l)]) ∧ Below w.heap.size w w' := by
  have hcm : l.length ≤ 9223372036854775807 := by have := hs.1; have := hs.2.1; simp only [maxLen] at this; omega
  have M0 := Mem.start w []
  have M1 := M0.see (Ro.sl 0 w.heap.size A c 8 Trade.cells l) (hs) (Nat.le_refl _)
  refine enter (args := [Value.agg #[Value.slice A l.length c], Value.string who, Value.string product]) Try.func27 rfl (n := 65) rfl rfl fun T2 hT3 => ?_
  refine c_seq fun K4 hK5 => ?_
  refine c_reg ?_
  refine snew (cs := #[Value.slice A l.length c]) M1 rfl (x_box (v := Value.agg #[Value.slice A l.length c]) (ev_tmp rfl rfl)) fun b6 w7 M8 => ?_
  refine st rfl (x_assign (v := Value.int .i64 0) rfl) ?_
  refine st rfl (x_assign (v := Value.int .i64 0) rfl) ?_
  refine st rfl (x_assign (v := Value.int .i64 0) rfl) ?_
  refine s_nil ?_
  refine hK5 _ _ ?_
  refine c_seq fun K9 hK10 => ?_
  refine c_seq fun K11 hK12 => ?_
  refine c_reg ?_
  refine st rfl (x_loadw (cs := [Value.slice A l.length c]) Try.underlying24 rfl sz_24 (ev_tmp rfl rfl) (M8.range (i := 0) rfl ⟨rfl, trivial⟩)) ?_
  refine sC rfl (x_callL (xs := [.tmp 15]) (vs := [Value.agg #[Value.slice A l.length c]]) (cap := []) ent_13 rfl ⟨(ev_tmp rfl rfl), trivial⟩) (check_c _ _ l _ (M8.slw (i := 0) rfl)) ?_
  rintro _ w13 ⟨rfl, hb15⟩
  refine ⟨_, rfl, ?_⟩
  have M14 := M8.call hb15
  refine st rfl (x_assign (v := Value.int .i64 (chk l)) (ev_tmp rfl rfl)) ?_
  refine s_nil ?_
  refine hK12 _ _ ?_
  refine c_seq fun K16 hK17 => ?_
  refine c_reg ?_
  refine st rfl (x_move (v := Value.int .i64 (chk l)) (ev_tmp rfl rfl)) ?_
  refine st rfl (x_neq (p := (chk l)) (q := 0) (ev_tmp rfl rfl) rfl) ?_
  refine s_nil ?_
  refine hK17 _ _ ?_
  refine c_cond (b := !(decide (chk l = 0))) (ev_tmp rfl rfl) (fun h18 => ?_) (fun h18 => ?_)
  · have h19 : ¬ (chk l = 0) := of_decide_eq_false (not_t h18)
    refine c_seq fun K20 hK21 => ?_
    refine c_reg ?_
    refine st rfl (x_move (v := Value.int .i64 (chk l)) (ev_tmp rfl rfl)) ?_
    refine st rfl (x_assign (v := Value.int .i64 0) rfl) ?_
    refine st rfl (x_assign (v := Value.int .i64 0) rfl) ?_
    refine st rfl (x_assign (v := Value.int .i64 (chk l)) (ev_tmp rfl rfl)) ?_
    refine s_nil ?_
    refine hK21 _ _ ?_
    refine c_ret ?_
    refine hT3 _ _ ?_
    refine r3 rfl (ev_tmp (v := Value.int .i64 0) rfl rfl) (ev_tmp (v := Value.int .i64 0) rfl rfl) (ev_tmp (v := Value.int .i64 (chk l)) rfl rfl) ?_
    rw [agrC_no (of_decide_eq_false (not_t h18))]
    exact ⟨rfl, M14.below⟩
  · have h22 : chk l = 0 := of_decide_eq_true (not_f h18)
    have h0 : chk l = 0 := of_decide_eq_true (not_f h18)
    have hl200 := chk_len h0
    refine c_skip ?_
    refine hK10 _ _ ?_
    refine c_seq fun K23 hK24 => ?_
    refine c_reg ?_
    refine st rfl (x_assign (v := Value.int .i64 0) rfl) ?_
    refine st rfl (x_assign (v := Value.int .i64 0) rfl) ?_
    refine s_nil ?_
    refine hK24 _ _ ?_
    refine c_seq fun K25 hK26 => ?_
    refine c_seq fun K27 hK28 => ?_
    refine c_reg ?_
    refine st rfl (x_fieldv (b := b6) (o := 0) (q := 0) fa_24_0 (ev_tmp rfl rfl) rfl) ?_
    refine st rfl (x_load1 (v := Value.slice A l.length c) Try.underlying22 rfl (ev_tmp rfl rfl) (M14.cell (i := 0) (o := 0) rfl rfl)) ?_
    refine st rfl (x_lensl (n := l.length) Try.underlying22 (ev_tmp rfl rfl)) ?_
    refine st rfl (x_move (v := Value.int .i64 0) rfl) ?_
    refine s_nil ?_
    refine hK28 _ _ ?_
    refine c_block ?_
    refine c_loopH (live := [(1, Value.string who), (2, Value.string product), (6, Value.int .i64 0), (7, Value.int .i64 0), (8, Value.int .i64 0), (10, Value.int .i64 ((agrL (l.take 0) who product).1)), (11, Value.int .i64 ((agrL (l.take 0) who product).2)), (21, Value.slice A l.length c), (22, Value.int .i64 (l.length : Int)), (23, Value.int .i64 0)]) ⟨rfl, rfl, rfl, rfl, rfl, rfl, rfl, rfl, rfl, rfl, trivial⟩ (fun mm ll w1 => ∃ (k : Nat) (jk : List (Nat × Value)), mm = l.length - k ∧ ll = [(1, Value.string who), (2, Value.string product), (6, Value.int .i64 0), (7, Value.int .i64 0), (8, Value.int .i64 0), (10, Value.int .i64 ((agrL (l.take k) who product).1)), (11, Value.int .i64 ((agrL (l.take k) who product).2)), (21, Value.slice A l.length c), (22, Value.int .i64 (l.length : Int)), (23, Value.int .i64 (k : Int))] ++ jk ∧ Mem w [] w1 [Own.cells b6 24 #[Value.slice A l.length c]] [Ro.sl 0 w.heap.size A c 8 Trade.cells l] ∧ (k ≤ l.length) ∧ (-((k : Int) * 1048576) ≤ (agrL (l.take k) who product).1) ∧ ((agrL (l.take k) who product).1 ≤ (k : Int) * 1048576) ∧ (-((k : Int) * 562949953421312) ≤ (agrL (l.take k) who product).2) ∧ ((agrL (l.take k) who product).2 ≤ (k : Int) * 562949953421312)) ⟨0, _, rfl, rfl, M14, (by omega), (by simp [agrL]), (by simp [agrL]), (by simp [agrL]), (by simp [agrL])⟩ fun mm ll w1 hI29 => ?_
    obtain ⟨k, jk, rfl, rfl, M31, hk, hb1, hb2, hb3, hb4⟩ := hI29
    obtain ⟨w30, rfl⟩ : ∃ x, x = w1 := ⟨_, rfl⟩
    refine c_seq fun K32 hK33 => ?_
    refine c_reg ?_
    refine st rfl (x_lss (p := (k : Int)) (q := (l.length : Int)) (ev_tmp rfl rfl) (ev_tmp rfl rfl)) ?_
    refine s_nil ?_
    refine hK33 _ _ ?_
    refine c_seq fun K34 hK35 => ?_
    refine c_cond (b := decide ((k : Int) < (l.length : Int))) (ev_tmp rfl rfl) (fun h36 => ?_) (fun h36 => ?_)
    · have h37 : (k : Int) < (l.length : Int) := of_decide_eq_true h36
      obtain ⟨x, hx⟩ : ∃ x, l[k]? = some x := ⟨_, List.getElem?_eq_getElem (by omega)⟩
      obtain ⟨hq1, hq2, hr1, hr2⟩ := terms_bd (and_l (right_at h0 hx))
      obtain ⟨hm1, hm2⟩ := mul_bd hq1 hq2 hr1 hr2
      have hng : (-x.q) * x.r = -(x.q * x.r) := Int.neg_mul _ _
      refine c_skip ?_
      refine hK35 _ _ ?_
      refine c_seq fun K38 hK39 => ?_
      refine c_block ?_
      refine c_seq fun K40 hK41 => ?_
      refine c_reg ?_
      obtain ⟨g42, o43, hA44⟩ := M31.roat (i := 0) rfl hx
      refine st rfl (x_elemA (b := g42) (o := o43) (k := k) ea_22 (ev_tmp rfl rfl) hA44 (ev_tmp rfl rfl) rfl (by omega)) ?_
      refine st rfl (x_loadw (cs := [Value.string x.b, Value.string x.s, Value.string x.p, Value.int .i64 x.q, Value.int .i64 x.r, Value.bool x.bo, Value.bool x.so, Value.int .u8 x.st]) Try.underlying34 rfl sz_34 (ev_tmp rfl rfl) (M31.rorange (i := 0) rfl hA44 hx (f := 0) ⟨rfl, rfl, rfl, rfl, rfl, rfl, rfl, rfl, trivial⟩)) ?_
      refine snew (cs := #[Value.string ByteArray.empty, Value.string ByteArray.empty, Value.string ByteArray.empty, Value.int .i64 0, Value.int .i64 0, Value.bool false, Value.bool false, Value.int .u8 0]) M31 rfl (x_allocz z_34) fun b47 w48 M49 => ?_
      refine sset (i := 0) (L' := [Own.cells b47 34 #[Value.string x.b, Value.string x.s, Value.string x.p, Value.int .i64 x.q, Value.int .i64 x.r, Value.bool x.bo, Value.bool x.so, Value.int .u8 x.st], Own.cells b6 24 #[Value.slice A l.length c]]) M49 rfl rfl (x_storew (cs := [Value.string x.b, Value.string x.s, Value.string x.p, Value.int .i64 x.q, Value.int .i64 x.r, Value.bool x.bo, Value.bool x.so, Value.int .u8 x.st]) sz_34 (ev_tmp rfl rfl) (ev_tmp rfl rfl) (M49.cells_at (i := 0) rfl) rfl ⟨rfl, rfl, rfl, rfl, rfl, rfl, rfl, rfl, trivial⟩) fun w50 M51 => ?_
      refine s_nil ?_
      refine hK41 _ _ ?_
      refine c_seq fun K52 hK53 => ?_
      refine c_reg ?_
      refine st rfl (x_assign (v := Value.int .i64 0) rfl) ?_
      refine s_nil ?_
      refine hK53 _ _ ?_
      refine c_seq fun K54 hK55 => ?_
      refine c_block ?_
      refine c_seq fun K56 hK57 => ?_
      refine c_reg ?_
      refine st rfl (x_fieldv (b := b47) (o := 0) (q := 7) fa_34_7 (ev_tmp rfl rfl) rfl) ?_
      refine st rfl (x_load1 (v := Value.int .u8 x.st) Try.underlying5 rfl (ev_tmp rfl rfl) (M51.cell (i := 0) (o := 7) rfl rfl)) ?_
      refine st rfl (x_neq (p := x.st) (q := 1) (ev_tmp rfl rfl) rfl) ?_
      refine st rfl (x_move (v := Value.bool (!(decide (x.st = 1)))) (ev_tmp rfl rfl)) ?_
      refine s_meet5 fun K58 hK59 => ?_
      have J60 : ∀ jk, K58 (fr 65 ([(36, Value.bool ((!(decide (x.st = 1))) || (!(decide (x.p.data.toList = product.data.toList))))), (1, Value.string who), (2, Value.string product), (6, Value.int .i64 0), (7, Value.int .i64 0), (8, Value.int .i64 0), (10, Value.int .i64 ((agrL (l.take k) who product).1)), (11, Value.int .i64 ((agrL (l.take k) who product).2)), (13, Value.pointer (some ⟨b47, 0, none⟩)), (14, Value.int .i64 0), (21, Value.slice A l.length c), (22, Value.int .i64 (l.length : Int)), (23, Value.int .i64 (k : Int)), (31, Value.bool (!(decide (x.st = 1))))] ++ jk)) w50 := by
        intro jk
        refine hK59 _ _ ?_
        clear hK59
        refine st rfl (x_assign (v := Value.bool ((!(decide (x.st = 1))) || (!(decide (x.p.data.toList = product.data.toList))))) (ev_tmp rfl rfl)) ?_
        refine s_nil ?_
        refine hK57 _ _ ?_
        refine c_cond (b := (!(decide (x.st = 1))) || (!(decide (x.p.data.toList = product.data.toList)))) (ev_tmp rfl rfl) (fun h63 => ?_) (fun h63 => ?_)
        · have h64 : ((!(decide (x.st = 1))) || (!(decide (x.p.data.toList = product.data.toList)))) = true := h63
          refine c_skip ?_
          refine hK55 _ _ ?_
          have M65 := M51.drew
          refine c_drawn (fun w1 => Mem w [] w1 [Own.cells b47 34 #[Value.string x.b, Value.string x.s, Value.string x.p, Value.int .i64 x.q, Value.int .i64 x.r, Value.bool x.bo, Value.bool x.so, Value.int .u8 x.st], Own.cells b6 24 #[Value.slice A l.length c]] [Ro.sl 0 w.heap.size A c 8 Trade.cells l]) mixed ?_
          generalize w50.drew = w66 at M65 ⊢
          refine dT (i := 0) (v := Value.int .i64 ((agrL (l.take k) who product).1)) rfl (by kernel_rfl) (by kernel_rfl) rfl M65 (fun _ hS => x_move (v := Value.int .i64 ((agrL (l.take k) who product).1)) (ev_tmp rfl rfl)) ?_
          refine dT (i := 1) (v := Value.int .i64 0) rfl (by kernel_rfl) (by kernel_rfl) rfl M65 (fun _ hS => x_move (v := Value.int .i64 0) (ev_tmp rfl rfl)) ?_
          refine dT (i := 2) (v := Value.pointer (some ⟨b47, 3, none⟩)) rfl (by kernel_rfl) (by kernel_rfl) rfl M65 (fun _ hS => x_fieldv (b := b47) (o := 0) (q := 3) fa_34_3 (ev_tmp rfl rfl) rfl) ?_
          refine dT (i := 3) (v := Value.int .i64 x.q) rfl (by kernel_rfl) (by kernel_rfl) rfl M65 (fun _ hS => x_load1 (v := Value.int .i64 x.q) Try.underlying3 rfl (ev_tmp rfl rfl) (hS.cell (i := 0) (o := 3) rfl rfl)) ?_
          have hw67 : IntKind.i64.wrap (0 * x.q) = 0 := w64 (by omega) (by omega) (by omega)
          refine dT (i := 4) (v := Value.int .i64 0) rfl (by kernel_rfl) (by kernel_rfl) rfl M65 (fun _ hS => x_mul_eq (p := 0) (q := x.q) (ev_tmp rfl rfl) (ev_tmp rfl rfl) hw67) ?_
          have hw68 : IntKind.i64.wrap (((agrL (l.take k) who product).1) + 0) = ((agrL (l.take k) who product).1) + 0 := w64 (by rfl) (by omega) (by omega)
          refine dT (i := 5) (v := Value.int .i64 (((agrL (l.take k) who product).1) + 0)) rfl (by kernel_rfl) (by kernel_rfl) rfl M65 (fun _ hS => x_add_eq (p := ((agrL (l.take k) who product).1)) (q := 0) (ev_tmp rfl rfl) (ev_tmp rfl rfl) hw68) ?_
          refine dT (i := 6) (v := Value.int .i64 ((agrL (l.take k) who product).2)) rfl (by kernel_rfl) (by kernel_rfl) rfl M65 (fun _ hS => x_move (v := Value.int .i64 ((agrL (l.take k) who product).2)) (ev_tmp rfl rfl)) ?_
          refine dT (i := 7) (v := Value.int .i64 0) rfl (by kernel_rfl) (by kernel_rfl) rfl M65 (fun _ hS => x_move (v := Value.int .i64 0) (ev_tmp rfl rfl)) ?_
          refine dT (i := 8) (v := Value.pointer (some ⟨b47, 3, none⟩)) rfl (by kernel_rfl) (by kernel_rfl) rfl M65 (fun _ hS => x_fieldv (b := b47) (o := 0) (q := 3) fa_34_3 (ev_tmp rfl rfl) rfl) ?_
          refine dT (i := 9) (v := Value.int .i64 x.q) rfl (by kernel_rfl) (by kernel_rfl) rfl M65 (fun _ hS => x_load1 (v := Value.int .i64 x.q) Try.underlying3 rfl (ev_tmp rfl rfl) (hS.cell (i := 0) (o := 3) rfl rfl)) ?_
          have hw69 : IntKind.i64.wrap (0 * x.q) = 0 := w64 (by omega) (by omega) (by omega)
          refine dT (i := 10) (v := Value.int .i64 0) rfl (by kernel_rfl) (by kernel_rfl) rfl M65 (fun _ hS => x_mul_eq (p := 0) (q := x.q) (ev_tmp rfl rfl) (ev_tmp rfl rfl) hw69) ?_
          refine dT (i := 11) (v := Value.pointer (some ⟨b47, 4, none⟩)) rfl (by kernel_rfl) (by kernel_rfl) rfl M65 (fun _ hS => x_fieldv (b := b47) (o := 0) (q := 4) fa_34_4 (ev_tmp rfl rfl) rfl) ?_
          refine dT (i := 12) (v := Value.int .i64 x.r) rfl (by kernel_rfl) (by kernel_rfl) rfl M65 (fun _ hS => x_load1 (v := Value.int .i64 x.r) Try.underlying3 rfl (ev_tmp rfl rfl) (hS.cell (i := 0) (o := 4) rfl rfl)) ?_
          have hw70 : IntKind.i64.wrap (0 * x.r) = 0 := w64 (by omega) (by omega) (by omega)
          refine dT (i := 13) (v := Value.int .i64 0) rfl (by kernel_rfl) (by kernel_rfl) rfl M65 (fun _ hS => x_mul_eq (p := 0) (q := x.r) (ev_tmp rfl rfl) (ev_tmp rfl rfl) hw70) ?_
          have hw71 : IntKind.i64.wrap (((agrL (l.take k) who product).2) + 0) = ((agrL (l.take k) who product).2) + 0 := w64 (by rfl) (by omega) (by omega)
          refine dT (i := 14) (v := Value.int .i64 (((agrL (l.take k) who product).2) + 0)) rfl (by kernel_rfl) (by kernel_rfl) rfl M65 (fun _ hS => x_add_eq (p := ((agrL (l.take k) who product).2)) (q := 0) (ev_tmp rfl rfl) (ev_tmp rfl rfl) hw71) ?_
          refine dT (i := 15) (v := Value.int .i64 (((agrL (l.take k) who product).1) + 0)) rfl (by kernel_rfl) (by kernel_rfl) rfl M65 (fun _ hS => x_assign (v := Value.int .i64 (((agrL (l.take k) who product).1) + 0)) (ev_tmp rfl rfl)) ?_
          refine dT (i := 16) (v := Value.int .i64 (((agrL (l.take k) who product).2) + 0)) rfl (by kernel_rfl) (by kernel_rfl) rfl M65 (fun _ hS => x_assign (v := Value.int .i64 (((agrL (l.take k) who product).2) + 0)) (ev_tmp rfl rfl)) ?_
          refine dE (by kernel_rfl) ?_
          refine hK39 _ _ ?_
          refine c_reg ?_
          have hw72 : IntKind.i64.wrap ((k : Int) + 1) = (k : Int) + 1 := w64 (by rfl) (by omega) (by omega)
          refine st rfl (x_add_eq (p := (k : Int)) (q := 1) (ev_tmp rfl rfl) rfl hw72) ?_
          refine st rfl (x_move (v := Value.int .i64 ((k : Int) + 1)) (ev_tmp rfl rfl)) ?_
          refine s_nil ?_
          have hstep : agrL (l.take (k + 1)) who product = (((agrL (l.take k) who product).1) + 0, ((agrL (l.take k) who product).2) + 0) := by rw [agrL_snoc hx]; exact ag0 h63
          exact ⟨_, _, (by omega : l.length - (k + 1) < l.length - k), fr_held (live := [(1, Value.string who), (2, Value.string product), (6, Value.int .i64 0), (7, Value.int .i64 0), (8, Value.int .i64 0), (10, Value.int .i64 ((agrL (l.take (k + 1)) who product).1)), (11, Value.int .i64 ((agrL (l.take (k + 1)) who product).2)), (21, Value.slice A l.length c), (22, Value.int .i64 (l.length : Int)), (23, Value.int .i64 (((k + 1) : Nat) : Int))]) ⟨rfl, rfl, rfl, rfl, rfl, (congrArg (Value.int .i64) (congrArg Prod.fst hstep).symm), (congrArg (Value.int .i64) (congrArg Prod.snd hstep).symm), rfl, rfl, (congrArg (Value.int .i64) (by omega)), trivial⟩, (k + 1), _, rfl, rfl, (M65.dropL 1), (by omega), (by have h1 := congrArg Prod.fst hstep; have h2 := congrArg Prod.snd hstep; simp only at h1 h2; omega), (by have h1 := congrArg Prod.fst hstep; have h2 := congrArg Prod.snd hstep; simp only at h1 h2; omega), (by have h1 := congrArg Prod.fst hstep; have h2 := congrArg Prod.snd hstep; simp only at h1 h2; omega), (by have h1 := congrArg Prod.fst hstep; have h2 := congrArg Prod.snd hstep; simp only at h1 h2; omega)⟩
        · have h73 : x.st = 1 := of_decide_eq_true (not_f (or_l h63))
          have h74 : x.p.data.toList = product.data.toList := of_decide_eq_true (not_f (or_r h63))
          refine c_seq fun K75 hK76 => ?_
          refine c_reg ?_
          refine st rfl (x_fieldv (b := b47) (o := 0) (q := 0) fa_34_0 (ev_tmp rfl rfl) rfl) ?_
          refine st rfl (x_load1 (v := Value.string x.b) Try.underlying9 rfl (ev_tmp rfl rfl) (M51.cell (i := 0) (o := 0) rfl rfl)) ?_
          refine st rfl (x_move (v := Value.string who) (ev_tmp rfl rfl)) ?_
          refine st rfl (x_eqs (p := x.b) (q := who) (ev_tmp rfl rfl) (ev_tmp rfl rfl)) ?_
          refine st rfl (x_assign (v := Value.bool (decide (x.b.data.toList = who.data.toList))) (ev_tmp rfl rfl)) ?_
          refine s_nil ?_
          refine hK76 _ _ ?_
          refine c_cond (b := decide (x.b.data.toList = who.data.toList)) (ev_tmp rfl rfl) (fun h77 => ?_) (fun h77 => ?_)
          · have h78 : x.b.data.toList = who.data.toList := of_decide_eq_true h77
            refine c_reg ?_
            refine st rfl (x_assign (v := Value.int .i64 1) rfl) ?_
            refine s_nil ?_
            refine hK55 _ _ ?_
            have M79 := M51.drew
            refine c_drawn (fun w1 => Mem w [] w1 [Own.cells b47 34 #[Value.string x.b, Value.string x.s, Value.string x.p, Value.int .i64 x.q, Value.int .i64 x.r, Value.bool x.bo, Value.bool x.so, Value.int .u8 x.st], Own.cells b6 24 #[Value.slice A l.length c]] [Ro.sl 0 w.heap.size A c 8 Trade.cells l]) mixed ?_
            generalize w50.drew = w80 at M79 ⊢
            refine dT (i := 0) (v := Value.int .i64 ((agrL (l.take k) who product).1)) rfl (by kernel_rfl) (by kernel_rfl) rfl M79 (fun _ hS => x_move (v := Value.int .i64 ((agrL (l.take k) who product).1)) (ev_tmp rfl rfl)) ?_
            refine dT (i := 1) (v := Value.int .i64 1) rfl (by kernel_rfl) (by kernel_rfl) rfl M79 (fun _ hS => x_move (v := Value.int .i64 1) (ev_tmp rfl rfl)) ?_
            refine dT (i := 2) (v := Value.pointer (some ⟨b47, 3, none⟩)) rfl (by kernel_rfl) (by kernel_rfl) rfl M79 (fun _ hS => x_fieldv (b := b47) (o := 0) (q := 3) fa_34_3 (ev_tmp rfl rfl) rfl) ?_
            refine dT (i := 3) (v := Value.int .i64 x.q) rfl (by kernel_rfl) (by kernel_rfl) rfl M79 (fun _ hS => x_load1 (v := Value.int .i64 x.q) Try.underlying3 rfl (ev_tmp rfl rfl) (hS.cell (i := 0) (o := 3) rfl rfl)) ?_
            have hw81 : IntKind.i64.wrap (1 * x.q) = x.q := w64 (by omega) (by omega) (by omega)
            refine dT (i := 4) (v := Value.int .i64 x.q) rfl (by kernel_rfl) (by kernel_rfl) rfl M79 (fun _ hS => x_mul_eq (p := 1) (q := x.q) (ev_tmp rfl rfl) (ev_tmp rfl rfl) hw81) ?_
            have hw82 : IntKind.i64.wrap (((agrL (l.take k) who product).1) + x.q) = ((agrL (l.take k) who product).1) + x.q := w64 (by rfl) (by omega) (by omega)
            refine dT (i := 5) (v := Value.int .i64 (((agrL (l.take k) who product).1) + x.q)) rfl (by kernel_rfl) (by kernel_rfl) rfl M79 (fun _ hS => x_add_eq (p := ((agrL (l.take k) who product).1)) (q := x.q) (ev_tmp rfl rfl) (ev_tmp rfl rfl) hw82) ?_
            refine dT (i := 6) (v := Value.int .i64 ((agrL (l.take k) who product).2)) rfl (by kernel_rfl) (by kernel_rfl) rfl M79 (fun _ hS => x_move (v := Value.int .i64 ((agrL (l.take k) who product).2)) (ev_tmp rfl rfl)) ?_
            refine dT (i := 7) (v := Value.int .i64 1) rfl (by kernel_rfl) (by kernel_rfl) rfl M79 (fun _ hS => x_move (v := Value.int .i64 1) (ev_tmp rfl rfl)) ?_
            refine dT (i := 8) (v := Value.pointer (some ⟨b47, 3, none⟩)) rfl (by kernel_rfl) (by kernel_rfl) rfl M79 (fun _ hS => x_fieldv (b := b47) (o := 0) (q := 3) fa_34_3 (ev_tmp rfl rfl) rfl) ?_
            refine dT (i := 9) (v := Value.int .i64 x.q) rfl (by kernel_rfl) (by kernel_rfl) rfl M79 (fun _ hS => x_load1 (v := Value.int .i64 x.q) Try.underlying3 rfl (ev_tmp rfl rfl) (hS.cell (i := 0) (o := 3) rfl rfl)) ?_
            have hw83 : IntKind.i64.wrap (1 * x.q) = x.q := w64 (by omega) (by omega) (by omega)
            refine dT (i := 10) (v := Value.int .i64 x.q) rfl (by kernel_rfl) (by kernel_rfl) rfl M79 (fun _ hS => x_mul_eq (p := 1) (q := x.q) (ev_tmp rfl rfl) (ev_tmp rfl rfl) hw83) ?_
            refine dT (i := 11) (v := Value.pointer (some ⟨b47, 4, none⟩)) rfl (by kernel_rfl) (by kernel_rfl) rfl M79 (fun _ hS => x_fieldv (b := b47) (o := 0) (q := 4) fa_34_4 (ev_tmp rfl rfl) rfl) ?_
            refine dT (i := 12) (v := Value.int .i64 x.r) rfl (by kernel_rfl) (by kernel_rfl) rfl M79 (fun _ hS => x_load1 (v := Value.int .i64 x.r) Try.underlying3 rfl (ev_tmp rfl rfl) (hS.cell (i := 0) (o := 4) rfl rfl)) ?_
            have hw84 : IntKind.i64.wrap (x.q * x.r) = x.q * x.r := w64 (by rfl) (by omega) (by omega)
            refine dT (i := 13) (v := Value.int .i64 (x.q * x.r)) rfl (by kernel_rfl) (by kernel_rfl) rfl M79 (fun _ hS => x_mul_eq (p := x.q) (q := x.r) (ev_tmp rfl rfl) (ev_tmp rfl rfl) hw84) ?_
            have hw85 : IntKind.i64.wrap (((agrL (l.take k) who product).2) + (x.q * x.r)) = ((agrL (l.take k) who product).2) + (x.q * x.r) := w64 (by rfl) (by omega) (by omega)
            refine dT (i := 14) (v := Value.int .i64 (((agrL (l.take k) who product).2) + (x.q * x.r))) rfl (by kernel_rfl) (by kernel_rfl) rfl M79 (fun _ hS => x_add_eq (p := ((agrL (l.take k) who product).2)) (q := (x.q * x.r)) (ev_tmp rfl rfl) (ev_tmp rfl rfl) hw85) ?_
            refine dT (i := 15) (v := Value.int .i64 (((agrL (l.take k) who product).1) + x.q)) rfl (by kernel_rfl) (by kernel_rfl) rfl M79 (fun _ hS => x_assign (v := Value.int .i64 (((agrL (l.take k) who product).1) + x.q)) (ev_tmp rfl rfl)) ?_
            refine dT (i := 16) (v := Value.int .i64 (((agrL (l.take k) who product).2) + (x.q * x.r))) rfl (by kernel_rfl) (by kernel_rfl) rfl M79 (fun _ hS => x_assign (v := Value.int .i64 (((agrL (l.take k) who product).2) + (x.q * x.r))) (ev_tmp rfl rfl)) ?_
            refine dE (by kernel_rfl) ?_
            refine hK39 _ _ ?_
            refine c_reg ?_
            have hw86 : IntKind.i64.wrap ((k : Int) + 1) = (k : Int) + 1 := w64 (by rfl) (by omega) (by omega)
            refine st rfl (x_add_eq (p := (k : Int)) (q := 1) (ev_tmp rfl rfl) rfl hw86) ?_
            refine st rfl (x_move (v := Value.int .i64 ((k : Int) + 1)) (ev_tmp rfl rfl)) ?_
            refine s_nil ?_
            have hstep : agrL (l.take (k + 1)) who product = (((agrL (l.take k) who product).1) + x.q, ((agrL (l.take k) who product).2) + (x.q * x.r)) := by rw [agrL_snoc hx]; exact agb h63 h77
            exact ⟨_, _, (by omega : l.length - (k + 1) < l.length - k), fr_held (live := [(1, Value.string who), (2, Value.string product), (6, Value.int .i64 0), (7, Value.int .i64 0), (8, Value.int .i64 0), (10, Value.int .i64 ((agrL (l.take (k + 1)) who product).1)), (11, Value.int .i64 ((agrL (l.take (k + 1)) who product).2)), (21, Value.slice A l.length c), (22, Value.int .i64 (l.length : Int)), (23, Value.int .i64 (((k + 1) : Nat) : Int))]) ⟨rfl, rfl, rfl, rfl, rfl, (congrArg (Value.int .i64) (congrArg Prod.fst hstep).symm), (congrArg (Value.int .i64) (congrArg Prod.snd hstep).symm), rfl, rfl, (congrArg (Value.int .i64) (by omega)), trivial⟩, (k + 1), _, rfl, rfl, (M79.dropL 1), (by omega), (by have h1 := congrArg Prod.fst hstep; have h2 := congrArg Prod.snd hstep; simp only at h1 h2; omega), (by have h1 := congrArg Prod.fst hstep; have h2 := congrArg Prod.snd hstep; simp only at h1 h2; omega), (by have h1 := congrArg Prod.fst hstep; have h2 := congrArg Prod.snd hstep; simp only at h1 h2; omega), (by have h1 := congrArg Prod.fst hstep; have h2 := congrArg Prod.snd hstep; simp only at h1 h2; omega)⟩
          · have h87 : ¬ (x.b.data.toList = who.data.toList) := of_decide_eq_false h77
            refine c_seq fun K88 hK89 => ?_
            refine c_reg ?_
            refine st rfl (x_fieldv (b := b47) (o := 0) (q := 1) fa_34_1 (ev_tmp rfl rfl) rfl) ?_
            refine st rfl (x_load1 (v := Value.string x.s) Try.underlying9 rfl (ev_tmp rfl rfl) (M51.cell (i := 0) (o := 1) rfl rfl)) ?_
            refine st rfl (x_move (v := Value.string who) (ev_tmp rfl rfl)) ?_
            refine st rfl (x_eqs (p := x.s) (q := who) (ev_tmp rfl rfl) (ev_tmp rfl rfl)) ?_
            refine st rfl (x_assign (v := Value.bool (decide (x.s.data.toList = who.data.toList))) (ev_tmp rfl rfl)) ?_
            refine s_nil ?_
            refine hK89 _ _ ?_
            refine c_cond (b := decide (x.s.data.toList = who.data.toList)) (ev_tmp rfl rfl) (fun h90 => ?_) (fun h90 => ?_)
            · have h91 : x.s.data.toList = who.data.toList := of_decide_eq_true h90
              refine c_reg ?_
              refine st rfl (x_assign (v := Value.int .i64 (-1)) rfl) ?_
              refine s_nil ?_
              refine hK55 _ _ ?_
              have M92 := M51.drew
              refine c_drawn (fun w1 => Mem w [] w1 [Own.cells b47 34 #[Value.string x.b, Value.string x.s, Value.string x.p, Value.int .i64 x.q, Value.int .i64 x.r, Value.bool x.bo, Value.bool x.so, Value.int .u8 x.st], Own.cells b6 24 #[Value.slice A l.length c]] [Ro.sl 0 w.heap.size A c 8 Trade.cells l]) mixed ?_
              generalize w50.drew = w93 at M92 ⊢
              refine dT (i := 0) (v := Value.int .i64 ((agrL (l.take k) who product).1)) rfl (by kernel_rfl) (by kernel_rfl) rfl M92 (fun _ hS => x_move (v := Value.int .i64 ((agrL (l.take k) who product).1)) (ev_tmp rfl rfl)) ?_
              refine dT (i := 1) (v := Value.int .i64 (-1)) rfl (by kernel_rfl) (by kernel_rfl) rfl M92 (fun _ hS => x_move (v := Value.int .i64 (-1)) (ev_tmp rfl rfl)) ?_
              refine dT (i := 2) (v := Value.pointer (some ⟨b47, 3, none⟩)) rfl (by kernel_rfl) (by kernel_rfl) rfl M92 (fun _ hS => x_fieldv (b := b47) (o := 0) (q := 3) fa_34_3 (ev_tmp rfl rfl) rfl) ?_
              refine dT (i := 3) (v := Value.int .i64 x.q) rfl (by kernel_rfl) (by kernel_rfl) rfl M92 (fun _ hS => x_load1 (v := Value.int .i64 x.q) Try.underlying3 rfl (ev_tmp rfl rfl) (hS.cell (i := 0) (o := 3) rfl rfl)) ?_
              have hw94 : IntKind.i64.wrap ((-1) * x.q) = -x.q := w64 (by omega) (by omega) (by omega)
              refine dT (i := 4) (v := Value.int .i64 (-x.q)) rfl (by kernel_rfl) (by kernel_rfl) rfl M92 (fun _ hS => x_mul_eq (p := (-1)) (q := x.q) (ev_tmp rfl rfl) (ev_tmp rfl rfl) hw94) ?_
              have hw95 : IntKind.i64.wrap (((agrL (l.take k) who product).1) + (-x.q)) = ((agrL (l.take k) who product).1) + (-x.q) := w64 (by rfl) (by omega) (by omega)
              refine dT (i := 5) (v := Value.int .i64 (((agrL (l.take k) who product).1) + (-x.q))) rfl (by kernel_rfl) (by kernel_rfl) rfl M92 (fun _ hS => x_add_eq (p := ((agrL (l.take k) who product).1)) (q := (-x.q)) (ev_tmp rfl rfl) (ev_tmp rfl rfl) hw95) ?_
              refine dT (i := 6) (v := Value.int .i64 ((agrL (l.take k) who product).2)) rfl (by kernel_rfl) (by kernel_rfl) rfl M92 (fun _ hS => x_move (v := Value.int .i64 ((agrL (l.take k) who product).2)) (ev_tmp rfl rfl)) ?_
              refine dT (i := 7) (v := Value.int .i64 (-1)) rfl (by kernel_rfl) (by kernel_rfl) rfl M92 (fun _ hS => x_move (v := Value.int .i64 (-1)) (ev_tmp rfl rfl)) ?_
              refine dT (i := 8) (v := Value.pointer (some ⟨b47, 3, none⟩)) rfl (by kernel_rfl) (by kernel_rfl) rfl M92 (fun _ hS => x_fieldv (b := b47) (o := 0) (q := 3) fa_34_3 (ev_tmp rfl rfl) rfl) ?_
              refine dT (i := 9) (v := Value.int .i64 x.q) rfl (by kernel_rfl) (by kernel_rfl) rfl M92 (fun _ hS => x_load1 (v := Value.int .i64 x.q) Try.underlying3 rfl (ev_tmp rfl rfl) (hS.cell (i := 0) (o := 3) rfl rfl)) ?_
              have hw96 : IntKind.i64.wrap ((-1) * x.q) = -x.q := w64 (by omega) (by omega) (by omega)
              refine dT (i := 10) (v := Value.int .i64 (-x.q)) rfl (by kernel_rfl) (by kernel_rfl) rfl M92 (fun _ hS => x_mul_eq (p := (-1)) (q := x.q) (ev_tmp rfl rfl) (ev_tmp rfl rfl) hw96) ?_
              refine dT (i := 11) (v := Value.pointer (some ⟨b47, 4, none⟩)) rfl (by kernel_rfl) (by kernel_rfl) rfl M92 (fun _ hS => x_fieldv (b := b47) (o := 0) (q := 4) fa_34_4 (ev_tmp rfl rfl) rfl) ?_
              refine dT (i := 12) (v := Value.int .i64 x.r) rfl (by kernel_rfl) (by kernel_rfl) rfl M92 (fun _ hS => x_load1 (v := Value.int .i64 x.r) Try.underlying3 rfl (ev_tmp rfl rfl) (hS.cell (i := 0) (o := 4) rfl rfl)) ?_
              have hw97 : IntKind.i64.wrap ((-x.q) * x.r) = -(x.q * x.r) := w64 (by omega) (by omega) (by omega)
              refine dT (i := 13) (v := Value.int .i64 (-(x.q * x.r))) rfl (by kernel_rfl) (by kernel_rfl) rfl M92 (fun _ hS => x_mul_eq (p := (-x.q)) (q := x.r) (ev_tmp rfl rfl) (ev_tmp rfl rfl) hw97) ?_
              have hw98 : IntKind.i64.wrap (((agrL (l.take k) who product).2) + (-(x.q * x.r))) = ((agrL (l.take k) who product).2) + (-(x.q * x.r)) := w64 (by rfl) (by omega) (by omega)
              refine dT (i := 14) (v := Value.int .i64 (((agrL (l.take k) who product).2) + (-(x.q * x.r)))) rfl (by kernel_rfl) (by kernel_rfl) rfl M92 (fun _ hS => x_add_eq (p := ((agrL (l.take k) who product).2)) (q := (-(x.q * x.r))) (ev_tmp rfl rfl) (ev_tmp rfl rfl) hw98) ?_
              refine dT (i := 15) (v := Value.int .i64 (((agrL (l.take k) who product).1) + (-x.q))) rfl (by kernel_rfl) (by kernel_rfl) rfl M92 (fun _ hS => x_assign (v := Value.int .i64 (((agrL (l.take k) who product).1) + (-x.q))) (ev_tmp rfl rfl)) ?_
              refine dT (i := 16) (v := Value.int .i64 (((agrL (l.take k) who product).2) + (-(x.q * x.r)))) rfl (by kernel_rfl) (by kernel_rfl) rfl M92 (fun _ hS => x_assign (v := Value.int .i64 (((agrL (l.take k) who product).2) + (-(x.q * x.r)))) (ev_tmp rfl rfl)) ?_
              refine dE (by kernel_rfl) ?_
              refine hK39 _ _ ?_
              refine c_reg ?_
              have hw99 : IntKind.i64.wrap ((k : Int) + 1) = (k : Int) + 1 := w64 (by rfl) (by omega) (by omega)
              refine st rfl (x_add_eq (p := (k : Int)) (q := 1) (ev_tmp rfl rfl) rfl hw99) ?_
              refine st rfl (x_move (v := Value.int .i64 ((k : Int) + 1)) (ev_tmp rfl rfl)) ?_
              refine s_nil ?_
              have hstep : agrL (l.take (k + 1)) who product = (((agrL (l.take k) who product).1) + (-x.q), ((agrL (l.take k) who product).2) + (-(x.q * x.r))) := by rw [agrL_snoc hx]; exact ags h63 h77 h90
              exact ⟨_, _, (by omega : l.length - (k + 1) < l.length - k), fr_held (live := [(1, Value.string who), (2, Value.string product), (6, Value.int .i64 0), (7, Value.int .i64 0), (8, Value.int .i64 0), (10, Value.int .i64 ((agrL (l.take (k + 1)) who product).1)), (11, Value.int .i64 ((agrL (l.take (k + 1)) who product).2)), (21, Value.slice A l.length c), (22, Value.int .i64 (l.length : Int)), (23, Value.int .i64 (((k + 1) : Nat) : Int))]) ⟨rfl, rfl, rfl, rfl, rfl, (congrArg (Value.int .i64) (congrArg Prod.fst hstep).symm), (congrArg (Value.int .i64) (congrArg Prod.snd hstep).symm), rfl, rfl, (congrArg (Value.int .i64) (by omega)), trivial⟩, (k + 1), _, rfl, rfl, (M92.dropL 1), (by omega), (by have h1 := congrArg Prod.fst hstep; have h2 := congrArg Prod.snd hstep; simp only at h1 h2; omega), (by have h1 := congrArg Prod.fst hstep; have h2 := congrArg Prod.snd hstep; simp only at h1 h2; omega), (by have h1 := congrArg Prod.fst hstep; have h2 := congrArg Prod.snd hstep; simp only at h1 h2; omega), (by have h1 := congrArg Prod.fst hstep; have h2 := congrArg Prod.snd hstep; simp only at h1 h2; omega)⟩
            · have h100 : ¬ (x.s.data.toList = who.data.toList) := of_decide_eq_false h90
              refine c_skip ?_
              refine hK55 _ _ ?_
              have M101 := M51.drew
              refine c_drawn (fun w1 => Mem w [] w1 [Own.cells b47 34 #[Value.string x.b, Value.string x.s, Value.string x.p, Value.int .i64 x.q, Value.int .i64 x.r, Value.bool x.bo, Value.bool x.so, Value.int .u8 x.st], Own.cells b6 24 #[Value.slice A l.length c]] [Ro.sl 0 w.heap.size A c 8 Trade.cells l]) mixed ?_
              generalize w50.drew = w102 at M101 ⊢
              refine dT (i := 0) (v := Value.int .i64 ((agrL (l.take k) who product).1)) rfl (by kernel_rfl) (by kernel_rfl) rfl M101 (fun _ hS => x_move (v := Value.int .i64 ((agrL (l.take k) who product).1)) (ev_tmp rfl rfl)) ?_
              refine dT (i := 1) (v := Value.int .i64 0) rfl (by kernel_rfl) (by kernel_rfl) rfl M101 (fun _ hS => x_move (v := Value.int .i64 0) (ev_tmp rfl rfl)) ?_
              refine dT (i := 2) (v := Value.pointer (some ⟨b47, 3, none⟩)) rfl (by kernel_rfl) (by kernel_rfl) rfl M101 (fun _ hS => x_fieldv (b := b47) (o := 0) (q := 3) fa_34_3 (ev_tmp rfl rfl) rfl) ?_
              refine dT (i := 3) (v := Value.int .i64 x.q) rfl (by kernel_rfl) (by kernel_rfl) rfl M101 (fun _ hS => x_load1 (v := Value.int .i64 x.q) Try.underlying3 rfl (ev_tmp rfl rfl) (hS.cell (i := 0) (o := 3) rfl rfl)) ?_
              have hw103 : IntKind.i64.wrap (0 * x.q) = 0 := w64 (by omega) (by omega) (by omega)
              refine dT (i := 4) (v := Value.int .i64 0) rfl (by kernel_rfl) (by kernel_rfl) rfl M101 (fun _ hS => x_mul_eq (p := 0) (q := x.q) (ev_tmp rfl rfl) (ev_tmp rfl rfl) hw103) ?_
              have hw104 : IntKind.i64.wrap (((agrL (l.take k) who product).1) + 0) = ((agrL (l.take k) who product).1) + 0 := w64 (by rfl) (by omega) (by omega)
              refine dT (i := 5) (v := Value.int .i64 (((agrL (l.take k) who product).1) + 0)) rfl (by kernel_rfl) (by kernel_rfl) rfl M101 (fun _ hS => x_add_eq (p := ((agrL (l.take k) who product).1)) (q := 0) (ev_tmp rfl rfl) (ev_tmp rfl rfl) hw104) ?_
              refine dT (i := 6) (v := Value.int .i64 ((agrL (l.take k) who product).2)) rfl (by kernel_rfl) (by kernel_rfl) rfl M101 (fun _ hS => x_move (v := Value.int .i64 ((agrL (l.take k) who product).2)) (ev_tmp rfl rfl)) ?_
              refine dT (i := 7) (v := Value.int .i64 0) rfl (by kernel_rfl) (by kernel_rfl) rfl M101 (fun _ hS => x_move (v := Value.int .i64 0) (ev_tmp rfl rfl)) ?_
              refine dT (i := 8) (v := Value.pointer (some ⟨b47, 3, none⟩)) rfl (by kernel_rfl) (by kernel_rfl) rfl M101 (fun _ hS => x_fieldv (b := b47) (o := 0) (q := 3) fa_34_3 (ev_tmp rfl rfl) rfl) ?_
              refine dT (i := 9) (v := Value.int .i64 x.q) rfl (by kernel_rfl) (by kernel_rfl) rfl M101 (fun _ hS => x_load1 (v := Value.int .i64 x.q) Try.underlying3 rfl (ev_tmp rfl rfl) (hS.cell (i := 0) (o := 3) rfl rfl)) ?_
              have hw105 : IntKind.i64.wrap (0 * x.q) = 0 := w64 (by omega) (by omega) (by omega)
              refine dT (i := 10) (v := Value.int .i64 0) rfl (by kernel_rfl) (by kernel_rfl) rfl M101 (fun _ hS => x_mul_eq (p := 0) (q := x.q) (ev_tmp rfl rfl) (ev_tmp rfl rfl) hw105) ?_
              refine dT (i := 11) (v := Value.pointer (some ⟨b47, 4, none⟩)) rfl (by kernel_rfl) (by kernel_rfl) rfl M101 (fun _ hS => x_fieldv (b := b47) (o := 0) (q := 4) fa_34_4 (ev_tmp rfl rfl) rfl) ?_
              refine dT (i := 12) (v := Value.int .i64 x.r) rfl (by kernel_rfl) (by kernel_rfl) rfl M101 (fun _ hS => x_load1 (v := Value.int .i64 x.r) Try.underlying3 rfl (ev_tmp rfl rfl) (hS.cell (i := 0) (o := 4) rfl rfl)) ?_
              have hw106 : IntKind.i64.wrap (0 * x.r) = 0 := w64 (by omega) (by omega) (by omega)
              refine dT (i := 13) (v := Value.int .i64 0) rfl (by kernel_rfl) (by kernel_rfl) rfl M101 (fun _ hS => x_mul_eq (p := 0) (q := x.r) (ev_tmp rfl rfl) (ev_tmp rfl rfl) hw106) ?_
              have hw107 : IntKind.i64.wrap (((agrL (l.take k) who product).2) + 0) = ((agrL (l.take k) who product).2) + 0 := w64 (by rfl) (by omega) (by omega)
              refine dT (i := 14) (v := Value.int .i64 (((agrL (l.take k) who product).2) + 0)) rfl (by kernel_rfl) (by kernel_rfl) rfl M101 (fun _ hS => x_add_eq (p := ((agrL (l.take k) who product).2)) (q := 0) (ev_tmp rfl rfl) (ev_tmp rfl rfl) hw107) ?_
              refine dT (i := 15) (v := Value.int .i64 (((agrL (l.take k) who product).1) + 0)) rfl (by kernel_rfl) (by kernel_rfl) rfl M101 (fun _ hS => x_assign (v := Value.int .i64 (((agrL (l.take k) who product).1) + 0)) (ev_tmp rfl rfl)) ?_
              refine dT (i := 16) (v := Value.int .i64 (((agrL (l.take k) who product).2) + 0)) rfl (by kernel_rfl) (by kernel_rfl) rfl M101 (fun _ hS => x_assign (v := Value.int .i64 (((agrL (l.take k) who product).2) + 0)) (ev_tmp rfl rfl)) ?_
              refine dE (by kernel_rfl) ?_
              refine hK39 _ _ ?_
              refine c_reg ?_
              have hw108 : IntKind.i64.wrap ((k : Int) + 1) = (k : Int) + 1 := w64 (by rfl) (by omega) (by omega)
              refine st rfl (x_add_eq (p := (k : Int)) (q := 1) (ev_tmp rfl rfl) rfl hw108) ?_
              refine st rfl (x_move (v := Value.int .i64 ((k : Int) + 1)) (ev_tmp rfl rfl)) ?_
              refine s_nil ?_
              have hstep : agrL (l.take (k + 1)) who product = (((agrL (l.take k) who product).1) + 0, ((agrL (l.take k) who product).2) + 0) := by rw [agrL_snoc hx]; exact agn h63 h77 h90
              exact ⟨_, _, (by omega : l.length - (k + 1) < l.length - k), fr_held (live := [(1, Value.string who), (2, Value.string product), (6, Value.int .i64 0), (7, Value.int .i64 0), (8, Value.int .i64 0), (10, Value.int .i64 ((agrL (l.take (k + 1)) who product).1)), (11, Value.int .i64 ((agrL (l.take (k + 1)) who product).2)), (21, Value.slice A l.length c), (22, Value.int .i64 (l.length : Int)), (23, Value.int .i64 (((k + 1) : Nat) : Int))]) ⟨rfl, rfl, rfl, rfl, rfl, (congrArg (Value.int .i64) (congrArg Prod.fst hstep).symm), (congrArg (Value.int .i64) (congrArg Prod.snd hstep).symm), rfl, rfl, (congrArg (Value.int .i64) (by omega)), trivial⟩, (k + 1), _, rfl, rfl, (M101.dropL 1), (by omega), (by have h1 := congrArg Prod.fst hstep; have h2 := congrArg Prod.snd hstep; simp only at h1 h2; omega), (by have h1 := congrArg Prod.fst hstep; have h2 := congrArg Prod.snd hstep; simp only at h1 h2; omega), (by have h1 := congrArg Prod.fst hstep; have h2 := congrArg Prod.snd hstep; simp only at h1 h2; omega), (by have h1 := congrArg Prod.fst hstep; have h2 := congrArg Prod.snd hstep; simp only at h1 h2; omega)⟩
      clear hK59
      rcases bcase (!(decide (x.st = 1))) with hg61 | hg61
      · have h62 : x.st = 1 := of_decide_eq_true (not_f hg61)
        refine gt rfl rfl rfl (congrArg Value.bool hg61) (x_fieldv (b := b47) (o := 0) (q := 2) fa_34_2 (ev_tmp rfl rfl) rfl) ?_
        refine gt rfl rfl rfl (congrArg Value.bool hg61) (x_load1 (v := Value.string x.p) Try.underlying9 rfl (ev_tmp rfl rfl) (M51.cell (i := 0) (o := 2) rfl rfl)) ?_
        refine gt rfl rfl rfl (congrArg Value.bool hg61) (x_move (v := Value.string product) (ev_tmp rfl rfl)) ?_
        refine gt rfl rfl rfl (congrArg Value.bool hg61) (x_nes (p := x.p) (q := product) (ev_tmp rfl rfl) (ev_tmp rfl rfl)) ?_
        refine st rfl (x_pick_f (v := Value.bool (!(decide (x.p.data.toList = product.data.toList)))) (ev_tmp rfl (congrArg Value.bool hg61)) (ev_tmp rfl rfl)) ?_
        refine s_nil ?_
        exact j_to J60 ⟨(congrArg Value.bool (or_f hg61)), rfl, rfl, rfl, rfl, rfl, rfl, rfl, rfl, rfl, rfl, rfl, rfl, rfl, trivial⟩
      · refine gf (b' := true) rfl rfl rfl (congrArg Value.bool hg61) rfl ?_
        refine gf (b' := true) rfl rfl rfl (congrArg Value.bool hg61) rfl ?_
        refine gf (b' := true) rfl rfl rfl (congrArg Value.bool hg61) rfl ?_
        refine gf (b' := true) rfl rfl rfl (congrArg Value.bool hg61) rfl ?_
        refine st rfl (x_pick_t (v := Value.bool true) (ev_tmp rfl (congrArg Value.bool hg61)) rfl) ?_
        refine s_nil ?_
        exact j_to J60 ⟨(congrArg Value.bool (or_t hg61)), rfl, rfl, rfl, rfl, rfl, rfl, rfl, rfl, rfl, rfl, rfl, rfl, rfl, trivial⟩
    · have h109 : ¬ ((k : Int) < (l.length : Int)) := of_decide_eq_false h36
      refine c_exit ?_
      refine xb_here ?_
      refine hK26 _ _ ?_
      refine c_seq fun K110 hK111 => ?_
      refine c_reg ?_
      refine st rfl (x_move (v := Value.int .i64 ((agrL (l.take k) who product).1)) (ev_tmp rfl rfl)) ?_
      refine st rfl (x_move (v := Value.int .i64 ((agrL (l.take k) who product).2)) (ev_tmp rfl rfl)) ?_
      refine st rfl (x_assign (v := Value.int .i64 ((agrL (l.take k) who product).1)) (ev_tmp rfl rfl)) ?_
      refine st rfl (x_assign (v := Value.int .i64 ((agrL (l.take k) who product).2)) (ev_tmp rfl rfl)) ?_
      refine st rfl (x_assign (v := Value.int .i64 0) rfl) ?_
      refine s_nil ?_
      refine hK111 _ _ ?_
      refine c_ret ?_
      refine hT3 _ _ ?_
      refine r3 rfl (ev_tmp (v := Value.int .i64 ((agrL (l.take k) who product).1)) rfl rfl) (ev_tmp (v := Value.int .i64 ((agrL (l.take k) who product).2)) rfl rfl) (ev_tmp (v := Value.int .i64 0) rfl rfl) ?_
      have hall : l.take k = l := List.take_of_length_le (by omega)
      rw [agrC_of h0, hall, h0]
      exact ⟨rfl, M31.below⟩

end Go.Proofs.Ytkimdlpfbojkgaa
