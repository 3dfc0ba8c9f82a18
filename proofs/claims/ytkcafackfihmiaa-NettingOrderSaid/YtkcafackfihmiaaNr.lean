/- Several texts in one. No condition. -/
import Derived.Test.YtkcafackfihmiaaA2
import Derived.Test.YtkcafackfihmiaaTU
namespace Go.Proofs.Ytkcafackfihmiaa
set_option linter.unusedVariables false
set_option linter.unusedSimpArgs false
set_option maxRecDepth 100000
open Go.RowKit
noncomputable def c3 : Code := Try.f3.body.getD .skip

noncomputable def c39 : Code := Try.f39.body.getD .skip
inductive f39n0O where
  | ret (v19 : Int)
def f39n0E (a1 : Share_) (a2 : Share_) : f39n0O → Ex × Tr × Hp
  | .ret v19 => (.ret, mkS [(4, (jI v19))], [])
def f39n0S (a1 : Share_) (a2 : Share_) : Tr × Hp := (initS [(jA Share_.cells a1), (jA Share_.cells a2)] 0 .leaf, [])
noncomputable def f39n0 (a1 : Share_) (a2 : Share_) : Option f39n0O :=
  (f41 a1.flow.Date a2.flow.Date).bind fun x11 =>
  (f42 a1.flow.Ccy a2.flow.Ccy).bind fun x13 =>
  (f42 a1.party a2.party).bind fun x15 =>
  (f40 [x11, x13, x15]).bind fun x17 =>
  some (.ret x17)
theorem f39n0_ok (a1 : Share_) (a2 : Share_) {o : f39n0O} (h : (f39n0 a1 a2) = some o) : T Try.prog Try.f39.ntmps 0 c39 (f39n0S a1 a2) (fun r => r = f39n0E a1 a2 o) := by
  unfold f39n0 at h
  obtain ⟨x11, h12, h⟩ := bind_cases h
  obtain ⟨x13, h14, h⟩ := bind_cases h
  obtain ⟨x15, h16, h⟩ := bind_cases h
  obtain ⟨x17, h18, h⟩ := bind_cases h
  obtain rfl := some_inj h
  exact rE cfg_ok [j3, ([], [jH 6 (jI x11), jH 13 (jI x13), jH 18 (jI x15), jH 20 (jI x17)], [])] [] [] [] [4] (.ret, (f39n0E a1 a2 (.ret x17)).2) (ap (same_val (e := ⟨false, 42, [(jS a1.flow.Ccy), (jS a2.flow.Ccy)], [], (jI x13), []⟩) (f := ⟨false, 42, [(jS a1.party), (jS a2.party)], [], (jI x15), []⟩) (fun k => by simp only [jL, jS, jI, jB, jA, NettingSet.cells_eq, NettingSet.map_eq, NettingFlow.cells_eq, NettingFlow.map_eq, Key_.cells_eq, Key_.map_eq, List.cons.injEq, AV.pl.injEq, PV.str.injEq, PV.int.injEq, PV.bool.injEq, PV.agg.injEq, PV.sl.injEq, and_true, true_and] at k; have e0 : x13 = x15 := Option.some.inj (by rw [← h14, ← h16]; simp only [k]); exact ⟨by rw [e0], rfl⟩)) (ap (f41_ok a1.flow.Date a2.flow.Date h12) (ap (f42_ok a1.flow.Ccy a2.flow.Ccy h14) (ap (f42_ok a1.party a2.party h16) (ap (f40_ok [x11, x13, x15] h18) an))))) rfl
noncomputable def f39 (a1 : Share_) (a2 : Share_) : Option Int := (f39n0 a1 a2).bind fun o => match o with
  | .ret v19 => some v19
theorem f39_ok (a1 : Share_) (a2 : Share_) {r : Int} (h : (f39 a1 a2) = some r) : CallS Try.prog false 39 [(jA Share_.cells a1), (jA Share_.cells a2)] [] (jI r) [] := by
  unfold f39 at h
  obtain ⟨o, ho, h⟩ := bind_cases h
  cases o with
  | ret v19 =>
    obtain rfl := some_inj h
    exact CallS.plain cfg_ok (f := Try.f39) (c := c39) (by kernel_rfl) (by kernel_rfl) (by kernel_rfl) (by kernel_rfl) ((f39n0_ok a1 a2 ho).mono fun r e => by subst e; exact ⟨.inl rfl, (jI v19), (jI v19), by kernel_rfl, by kernel_rfl, ((Wk.refl _) : Wk (jI v19) (jI v19))⟩)

instance : Inhabited Share_ := ⟨(Share_.mk str_x (NettingFlow.mk 0 str_x str_x str_x str_x 0))⟩
def so38_39_good (xs : List Share_) : Prop := ∃ c : Share_ → Share_ → Int, (∀ x y, f39 x y = some (c x y)) ∧ Go.Sort.SWO (ltOf c) ∧ xs.length < 4611686018427387904
open Classical in
noncomputable def so38_39 (xs : List Share_) : Option (List Share_) := if h : so38_39_good xs then some (sortL h.choose xs) else none
theorem so38_39_val {xs : List Share_} {c : Share_ → Share_ → Int} (hc : ∀ x y, f39 x y = some (c x y)) (o : Go.Sort.SWO (ltOf c)) (hl : xs.length < 4611686018427387904) : so38_39 xs = some (sortL c xs) := by
  have h : so38_39_good xs := ⟨c, hc, o, hl⟩
  unfold so38_39
  rw [dif_pos h]
  have e : h.choose = c := funext fun x => funext fun y => Option.some.inj ((h.choose_spec.1 x y).symm.trans (hc x y))
  rw [e]
theorem so38_39_ok (xs : List Share_) {r : List Share_} (h : so38_39 xs = some r) :
    CallS Try.prog true 38 [.own 0, .pl (.fn 39)] [some (.row false 7 (xs.map Share_.cells))] (.tup []) [some (.row false 7 (r.map Share_.cells))] := by
  unfold so38_39 at h
  by_cases hc : so38_39_good xs
  · rw [dif_pos hc] at h
    obtain rfl := some_inj h
    have hs := hc.choose_spec
    exact sort_callS (cells := Share_.cells) so_lays rfl so_agg so_size (enters_of Try.func38 (by kernel_rfl) rfl) (fun _ => rfl) (fun x q hq => by
      simp only [Share_.cells, List.mem_cons, List.not_mem_nil, or_false] at hq
      rcases hq with rfl | rfl | rfl | rfl | rfl | rfl | rfl <;> rfl) _ hs.2.1 (fun x y => f39_ok _ _ (hs.1 x y)) xs hs.2.2
  · rw [dif_neg hc] at h; cases h


noncomputable def c16 : Code := Try.f16.body.getD .skip
inductive f16n2O where
  | exit0 (v37 : List (Key_ × Int))
def f16n2E (bb1 : ByteArray) (bg2 : List NettingFlow) : f16n2O → Ex × Tr × Hp
  | .exit0 v37 => ((.exit 0), mkS [(0, (jS bb1)), (7, (.mp 0))], [some (.map (v37.map (mkv (pAgg Key_.cells) (pInt .i64))))])
def f16n2S (bb1 : ByteArray) (bg2 : List NettingFlow) (v29 : Int) (v30 : List (Key_ × Int)) : Tr × Hp := (mkS [(0, (jS bb1)), (7, (.mp 0)), (27, (jL 6 NettingFlow.cells bg2)), (28, (jI (bg2.length : Int))), (29, (jI v29))], [some (.map (v30.map (mkv (pAgg Key_.cells) (pInt .i64))))])
noncomputable def f16n2 : Nat → ByteArray → List NettingFlow → Int → List (Key_ × Int) → Option f16n2O
  | 0, _, _, _, _ => none
  | f + 1, bb1, bg2, v29, v30 =>
    bif (decide (v29 < (bg2.length : Int))) then
      (at? bg2 v29).bind fun x35 =>
      (f16n2 f bb1 bg2 (wr64 (v29 + 1)) (mPut Key_.eqb (Key_.mk x35.Date x35.To x35.Ccy) (wr64 ((mGet Key_.eqb 0 (Key_.mk x35.Date x35.To x35.Ccy) (mPut Key_.eqb (Key_.mk x35.Date x35.From x35.Ccy) (wr64 ((mGet Key_.eqb 0 (Key_.mk x35.Date x35.From x35.Ccy) v30) - x35.Amount)) v30)) + x35.Amount)) (mPut Key_.eqb (Key_.mk x35.Date x35.From x35.Ccy) (wr64 ((mGet Key_.eqb 0 (Key_.mk x35.Date x35.From x35.Ccy) v30) - x35.Amount)) v30)))
    else
      some (.exit0 v30)
theorem f16n2_ok : ∀ (f : Nat) (bb1 : ByteArray) (bg2 : List NettingFlow) (v29 : Int) (v30 : List (Key_ × Int)) {o : f16n2O}, (f16n2 f bb1 bg2 v29 v30) = some o → TL Try.prog Try.f16.ntmps 0 f (cL (cL (dropC 1 (cL (dropC 4 c16))))) (f16n2S bb1 bg2 v29 v30) (fun r => r = f16n2E bb1 bg2 o)
  | 0, _, _, _, _, o, h => by rw [f16n2] at h; cases h
  | f + 1, bb1, bg2, v29, v30, o, h => by
    rw [f16n2] at h
    refine TL.body (K := fun s => ∃ v29 : Int, ∃ v30 : List (Key_ × Int), s = (f16n2S bb1 bg2 v29 v30) ∧ (f16n2 f bb1 bg2 v29 v30) = some o) ?_ (by rintro _ ⟨v29, v30, rfl, hk⟩; exact f16n2_ok f _ _ _ _ hk)
    rcases cond_cases h with ⟨h32, h⟩ | ⟨h32, h⟩
    · obtain ⟨x35, h36, h⟩ := bind_cases h
      exact rE cfg_ok [j3, ([], [(0, .idx (Int.toNat v29) (NettingFlow.cells x35))], []), ([], [(8, .look ((pInt .i64) (mGet Key_.eqb 0 (Key_.mk x35.Date x35.From x35.Ccy) v30)) (mHas Key_.eqb (Key_.mk x35.Date x35.From x35.Ccy) v30)), (12, .ment ((pInt .i64) (mGet Key_.eqb 0 (Key_.mk x35.Date x35.From x35.Ccy) v30)) (mIdx Key_.eqb (Key_.mk x35.Date x35.From x35.Ccy) v30) ((mEns Key_.eqb 0 (Key_.mk x35.Date x35.From x35.Ccy) v30).map (mkv (pAgg Key_.cells) (pInt .i64)))), (14, .mst (mIdx Key_.eqb (Key_.mk x35.Date x35.From x35.Ccy) v30) ((pAgg Key_.cells) (Key_.mk x35.Date x35.From x35.Ccy)) ((pInt .i64) (mGet Key_.eqb 0 (Key_.mk x35.Date x35.From x35.Ccy) v30)))], [(14, .map 0 ((mPut Key_.eqb (Key_.mk x35.Date x35.From x35.Ccy) (wr64 ((mGet Key_.eqb 0 (Key_.mk x35.Date x35.From x35.Ccy) v30) - x35.Amount)) v30).map (mkv (pAgg Key_.cells) (pInt .i64))))]), ([], [(8, .look ((pInt .i64) (mGet Key_.eqb 0 (Key_.mk x35.Date x35.To x35.Ccy) (mPut Key_.eqb (Key_.mk x35.Date x35.From x35.Ccy) (wr64 ((mGet Key_.eqb 0 (Key_.mk x35.Date x35.From x35.Ccy) v30) - x35.Amount)) v30))) (mHas Key_.eqb (Key_.mk x35.Date x35.To x35.Ccy) (mPut Key_.eqb (Key_.mk x35.Date x35.From x35.Ccy) (wr64 ((mGet Key_.eqb 0 (Key_.mk x35.Date x35.From x35.Ccy) v30) - x35.Amount)) v30))), (12, .ment ((pInt .i64) (mGet Key_.eqb 0 (Key_.mk x35.Date x35.To x35.Ccy) (mPut Key_.eqb (Key_.mk x35.Date x35.From x35.Ccy) (wr64 ((mGet Key_.eqb 0 (Key_.mk x35.Date x35.From x35.Ccy) v30) - x35.Amount)) v30))) (mIdx Key_.eqb (Key_.mk x35.Date x35.To x35.Ccy) (mPut Key_.eqb (Key_.mk x35.Date x35.From x35.Ccy) (wr64 ((mGet Key_.eqb 0 (Key_.mk x35.Date x35.From x35.Ccy) v30) - x35.Amount)) v30)) ((mEns Key_.eqb 0 (Key_.mk x35.Date x35.To x35.Ccy) (mPut Key_.eqb (Key_.mk x35.Date x35.From x35.Ccy) (wr64 ((mGet Key_.eqb 0 (Key_.mk x35.Date x35.From x35.Ccy) v30) - x35.Amount)) v30)).map (mkv (pAgg Key_.cells) (pInt .i64)))), (14, .mst (mIdx Key_.eqb (Key_.mk x35.Date x35.To x35.Ccy) (mPut Key_.eqb (Key_.mk x35.Date x35.From x35.Ccy) (wr64 ((mGet Key_.eqb 0 (Key_.mk x35.Date x35.From x35.Ccy) v30) - x35.Amount)) v30)) ((pAgg Key_.cells) (Key_.mk x35.Date x35.To x35.Ccy)) ((pInt .i64) (mGet Key_.eqb 0 (Key_.mk x35.Date x35.To x35.Ccy) (mPut Key_.eqb (Key_.mk x35.Date x35.From x35.Ccy) (wr64 ((mGet Key_.eqb 0 (Key_.mk x35.Date x35.From x35.Ccy) v30) - x35.Amount)) v30))))], [(14, .map 0 ((mPut Key_.eqb (Key_.mk x35.Date x35.To x35.Ccy) (wr64 ((mGet Key_.eqb 0 (Key_.mk x35.Date x35.To x35.Ccy) (mPut Key_.eqb (Key_.mk x35.Date x35.From x35.Ccy) (wr64 ((mGet Key_.eqb 0 (Key_.mk x35.Date x35.From x35.Ccy) v30) - x35.Amount)) v30)) + x35.Amount)) (mPut Key_.eqb (Key_.mk x35.Date x35.From x35.Ccy) (wr64 ((mGet Key_.eqb 0 (Key_.mk x35.Date x35.From x35.Ccy) v30) - x35.Amount)) v30)).map (mkv (pAgg Key_.cells) (pInt .i64))))]), j3] [some true] [] [0] [0, 7, 27, 28, 29] (.norm, (f16n2S bb1 bg2 (wr64 (v29 + 1)) (mPut Key_.eqb (Key_.mk x35.Date x35.To x35.Ccy) (wr64 ((mGet Key_.eqb 0 (Key_.mk x35.Date x35.To x35.Ccy) (mPut Key_.eqb (Key_.mk x35.Date x35.From x35.Ccy) (wr64 ((mGet Key_.eqb 0 (Key_.mk x35.Date x35.From x35.Ccy) v30) - x35.Amount)) v30)) + x35.Amount)) (mPut Key_.eqb (Key_.mk x35.Date x35.From x35.Ccy) (wr64 ((mGet Key_.eqb 0 (Key_.mk x35.Date x35.From x35.Ccy) v30) - x35.Amount)) v30)))) (ap h32 (ap (at_some h36).1 (ap (at_map NettingFlow.cells (at_some h36).2) (ap (look_map (vp := (pInt .i64)) (e := 3) key_62 0 (by kernel_rfl) (Key_.mk x35.Date x35.From x35.Ccy) v30) (ap (ment_map (vp := (pInt .i64)) (e := 3) key_62 0 (by kernel_rfl) (Key_.mk x35.Date x35.From x35.Ccy) v30) (ap (rfl : ((mIdx Key_.eqb (Key_.mk x35.Date x35.From x35.Ccy) v30) : Int) = (((mIdx Key_.eqb (Key_.mk x35.Date x35.From x35.Ccy) v30) : Nat) : Int)) (ap (mst_at (vp := (pInt .i64)) key_62 0 (Key_.mk x35.Date x35.From x35.Ccy) v30) (ap (mst_put (vp := (pInt .i64)) key_62 0 (wr64 ((mGet Key_.eqb 0 (Key_.mk x35.Date x35.From x35.Ccy) v30) - x35.Amount)) (Key_.mk x35.Date x35.From x35.Ccy) v30) (ap (look_map (vp := (pInt .i64)) (e := 3) key_62 0 (by kernel_rfl) (Key_.mk x35.Date x35.To x35.Ccy) (mPut Key_.eqb (Key_.mk x35.Date x35.From x35.Ccy) (wr64 ((mGet Key_.eqb 0 (Key_.mk x35.Date x35.From x35.Ccy) v30) - x35.Amount)) v30)) (ap (ment_map (vp := (pInt .i64)) (e := 3) key_62 0 (by kernel_rfl) (Key_.mk x35.Date x35.To x35.Ccy) (mPut Key_.eqb (Key_.mk x35.Date x35.From x35.Ccy) (wr64 ((mGet Key_.eqb 0 (Key_.mk x35.Date x35.From x35.Ccy) v30) - x35.Amount)) v30)) (ap (rfl : ((mIdx Key_.eqb (Key_.mk x35.Date x35.To x35.Ccy) (mPut Key_.eqb (Key_.mk x35.Date x35.From x35.Ccy) (wr64 ((mGet Key_.eqb 0 (Key_.mk x35.Date x35.From x35.Ccy) v30) - x35.Amount)) v30)) : Int) = (((mIdx Key_.eqb (Key_.mk x35.Date x35.To x35.Ccy) (mPut Key_.eqb (Key_.mk x35.Date x35.From x35.Ccy) (wr64 ((mGet Key_.eqb 0 (Key_.mk x35.Date x35.From x35.Ccy) v30) - x35.Amount)) v30)) : Nat) : Int)) (ap (mst_at (vp := (pInt .i64)) key_62 0 (Key_.mk x35.Date x35.To x35.Ccy) (mPut Key_.eqb (Key_.mk x35.Date x35.From x35.Ccy) (wr64 ((mGet Key_.eqb 0 (Key_.mk x35.Date x35.From x35.Ccy) v30) - x35.Amount)) v30)) (ap (mst_put (vp := (pInt .i64)) key_62 0 (wr64 ((mGet Key_.eqb 0 (Key_.mk x35.Date x35.To x35.Ccy) (mPut Key_.eqb (Key_.mk x35.Date x35.From x35.Ccy) (wr64 ((mGet Key_.eqb 0 (Key_.mk x35.Date x35.From x35.Ccy) v30) - x35.Amount)) v30)) + x35.Amount)) (Key_.mk x35.Date x35.To x35.Ccy) (mPut Key_.eqb (Key_.mk x35.Date x35.From x35.Ccy) (wr64 ((mGet Key_.eqb 0 (Key_.mk x35.Date x35.From x35.Ccy) v30) - x35.Amount)) v30)) an))))))))))))) (LoopQ.norm ⟨(wr64 (v29 + 1)), (mPut Key_.eqb (Key_.mk x35.Date x35.To x35.Ccy) (wr64 ((mGet Key_.eqb 0 (Key_.mk x35.Date x35.To x35.Ccy) (mPut Key_.eqb (Key_.mk x35.Date x35.From x35.Ccy) (wr64 ((mGet Key_.eqb 0 (Key_.mk x35.Date x35.From x35.Ccy) v30) - x35.Amount)) v30)) + x35.Amount)) (mPut Key_.eqb (Key_.mk x35.Date x35.From x35.Ccy) (wr64 ((mGet Key_.eqb 0 (Key_.mk x35.Date x35.From x35.Ccy) v30) - x35.Amount)) v30)), rfl, h⟩)
    · obtain rfl := some_inj h
      exact rK cfg_ok 2 [j3] [some false] [] [0] [0, 7] (.exit 0) ((f16n2E bb1 bg2 (.exit0 v30)).2) (ap h32 an) (LoopQ.out rfl rfl)
noncomputable def f16n2L (bb1 : ByteArray) (bg2 : List NettingFlow) : List NettingFlow → Int → (List (Key_ × Int)) → Option f16n2O
  | [], v29, v30 =>
    some (.exit0 v30)
  | x0 :: rest, v29, v30 =>
    (f16n2L bb1 bg2 rest (v29 + 1) (mPut Key_.eqb (Key_.mk x0.Date x0.To x0.Ccy) (wr64 ((mGet Key_.eqb 0 (Key_.mk x0.Date x0.To x0.Ccy) (mPut Key_.eqb (Key_.mk x0.Date x0.From x0.Ccy) (wr64 ((mGet Key_.eqb 0 (Key_.mk x0.Date x0.From x0.Ccy) v30) - x0.Amount)) v30)) + x0.Amount)) (mPut Key_.eqb (Key_.mk x0.Date x0.From x0.Ccy) (wr64 ((mGet Key_.eqb 0 (Key_.mk x0.Date x0.From x0.Ccy) v30) - x0.Amount)) v30)))
theorem f16n2L_eq (bb1 : ByteArray) (bg2 : List NettingFlow) : ∀ (rest : List NettingFlow) (f k : Nat) (v30 : List (Key_ × Int)), bg2.drop k = rest → bg2.length ≤ maxLen → rest.length < f → f16n2 f bb1 bg2 (k : Int) v30 = f16n2L bb1 bg2 rest (k : Int) v30
  | _, 0, _, _, _, _, hf => absurd hf (Nat.not_lt_zero _)
  | [], f + 1, k, v30, hd, hm, hf => by
    have hk : ¬ ((k : Int) < (bg2.length : Int)) := by have := drop_nil hd; omega
    rw [f16n2, f16n2L]
    simp only [decide_eq_false hk, cond_false]
  | x0 :: rest, f + 1, k, v30, hd, hm, hf => by
    obtain ⟨hx, hlt, hd'⟩ := drop_cons hd
    have hk : (k : Int) < (bg2.length : Int) := by omega
    have hw : wr64 ((k : Int) + 1) = (k : Int) + 1 := wr64_of (by omega) (by unfold maxLen at hm; omega)
    have ih : ∀ (v30 : List (Key_ × Int)), f16n2 f bb1 bg2 ((k : Int) + 1) v30 = f16n2L bb1 bg2 rest ((k : Int) + 1) v30 := fun v30 => f16n2L_eq bb1 bg2 rest f (k + 1) v30 hd' hm (by simpa using hf)
    rw [f16n2, f16n2L]
    simp only [decide_eq_true hk, cond_true, at_nat, hx, Option.bind_some, hw, ih]
theorem f16n2_run (bb1 : ByteArray) (bg2 : List NettingFlow) (v30 : List (Key_ × Int)) (hm : bg2.length ≤ maxLen) : f16n2 FUEL bb1 bg2 0 v30 = f16n2L bb1 bg2 bg2 0 v30 := f16n2L_eq bb1 bg2 bg2 FUEL 0 v30 List.drop_zero hm (lt_FUEL hm)
inductive f16n1O where
  | norm (v41 : List (Key_ × Int))
def f16n1E (bb1 : ByteArray) (bg2 : List NettingFlow) : f16n1O → Ex × Tr × Hp
  | .norm v41 => (.norm, mkS [(0, (jS bb1)), (7, (.mp 0))], [some (.map (v41.map (mkv (pAgg Key_.cells) (pInt .i64))))])
def f16n1S (bb1 : ByteArray) (bg2 : List NettingFlow) : Tr × Hp := (mkS [(0, (jS bb1)), (1, (jL 6 NettingFlow.cells bg2)), (7, (.mp 0))], [some (.map ([].map (mkv (pAgg Key_.cells) (pInt .i64))))])
noncomputable def f16n1 (bb1 : ByteArray) (bg2 : List NettingFlow) : Option f16n1O :=
  (f16n2 FUEL bb1 bg2 0 []).bind fun o38 => match o38 with
  | .exit0 v40 => some (.norm v40)
theorem f16n1_ok (bb1 : ByteArray) (bg2 : List NettingFlow) {o : f16n1O} (h : (f16n1 bb1 bg2) = some o) : T Try.prog Try.f16.ntmps 0 (cL (dropC 4 c16)) (f16n1S bb1 bg2) (fun r => r = f16n1E bb1 bg2 o) := by
  unfold f16n1 at h
  refine rN cfg_ok 1 [([], [], [(1, .val (jI (bg2.length : Int)))])] [] [] [0] [0, 7, 27, 28, 29] (f16n2S bb1 bg2 0 []) (ap (len_cv (xs := bg2) (c := NettingFlow.cells)) an) ?_
  obtain ⟨o38, h39, h⟩ := bind_cases h
  cases o38 with
  | exit0 v40 =>
    obtain rfl := some_inj h
    exact T.last' (T.bl (i := 0) (by kernel_rfl) (by kernel_rfl) (f16n2_ok FUEL bb1 bg2 0 [] h39)) (tds := []) (m := [0]) (keep := [0, 7]) (st2 := (f16n1E bb1 bg2 (.norm v40)).2) (by kernel_rfl) an rfl
inductive f16n4O where
  | exit2 (v90 : List Share_)
  | ret
def f16n4E (bb1 : ByteArray) (bi2 : List (Key_ × Int)) : f16n4O → Ex × Tr × Hp
  | .exit2 v90 => ((.exit 2), mkS [(10, (.own 0))], [jR 7 Share_.cells v90])
  | .ret => (.ret, mkS [(4, (.pl (.sl .nil 0 []))), (5, (jI 14))], [])
def f16n4S (bb1 : ByteArray) (bi2 : List (Key_ × Int)) (v74 : List Share_) (sn0 : List Nat) : Tr × Hp := (mkS [(0, (jS bb1)), (10, (.own 0)), (63, (.it 1))], [jR 7 Share_.cells v74, some (.iter 2 (bi2.map (mkv (pAgg Key_.cells) (pInt .i64))).length sn0), some (.map (bi2.map (mkv (pAgg Key_.cells) (pInt .i64))))])
noncomputable def f16n4 (bb1 : ByteArray) (bi2 : List (Key_ × Int)) : List (Key_ × Int) → (List Share_) → Option f16n4O
  | [], v74 =>
    some (.exit2 v74)
  | x76 :: rest, v74 =>
    bif (seq x76.1.set bb1) then
      (f16n4 bb1 bi2 rest v74)
    else
      bif (decide (1125899906842624 < (mxI x76.2 (wr64 (0 - x76.2))))) then
        some .ret
      else
        (f37 (Key_.mk x76.1.date str_x x76.1.ccy) bb1 x76.1.set x76.2).bind fun x86 =>
        bif x86.2 then
          req (fit (v74.length + 1) 96) <|
          (f16n4 bb1 bi2 rest (v74 ++ [(Share_.mk x76.1.set x86.1)]))
        else
          (f16n4 bb1 bi2 rest v74)
theorem f16n4_ok (bb1 : ByteArray) (bi2 : List (Key_ × Int)) : ∀ (f : Nat) (sn0 rem : List Nat) (v74 : List Share_) {Q : f16n4O → Prop}, Rem bi2.length sn0 rem → rem.length < f → (∀ p, p.Perm rem → ∃ o, f16n4 bb1 bi2 (ords bi2 p) v74 = some o ∧ Q o) → TL Try.prog Try.f16.ntmps 0 f (cL (cL (dropC 1 (cL (dropC 1 (dropC 1 (dropC 4 c16))))))) (f16n4S bb1 bi2 v74 sn0) (fun r => ∃ o, Q o ∧ r = f16n4E bb1 bi2 o)
  | 0, _, _, _, _, _, hf, _ => absurd hf (Nat.not_lt_zero _)
  | f + 1, sn0, rem, v74, Q, hR, hf, H => by
    refine TL.bodyQ (K := fun s => ∃ (sn0 rem : List Nat) (v74 : List Share_), s = f16n4S bb1 bi2 v74 sn0 ∧ Rem bi2.length sn0 rem ∧ rem.length < f ∧ (∀ p, p.Perm rem → ∃ o, f16n4 bb1 bi2 (ords bi2 p) v74 = some o ∧ Q o)) ?_ (by rintro _ ⟨sn0, rem, v74, rfl, h1, h2, h3⟩; exact f16n4_ok bb1 bi2 f sn0 rem v74 h1 h2 h3)
    refine T.oneNext cfg_ok (x := .tmp 63) (t := 64) (tb := 65) (i := 1) (o := 2) (m := (bi2.map (mkv (pAgg Key_.cells) (pInt .i64))).length) (seen := sn0) (kvs := (bi2.map (mkv (pAgg Key_.cells) (pInt .i64)))) (by kernel_rfl) (by kernel_rfl) (by kernel_rfl) (by kernel_rfl) (by kernel_rfl) (by kernel_rfl) rfl (fun hs => ?_) (fun j75 k v hj hs hx => ?_)
    · obtain rfl := hR.none (by simpa using hs)
      obtain ⟨o, h0, hq⟩ := H [] (List.Perm.refl _)
      have h : f16n4 bb1 bi2 [] v74 = some o := h0
      rw [f16n4] at h
      obtain rfl := some_inj h
      exact rK cfg_ok 1 [] [none] [] [0] [10] (.exit 2) ((f16n4E bb1 bi2 (.exit2 v74)).2) an (LoopQ2.out ⟨_, hq, rfl⟩ rfl)
    · obtain ⟨x76, h77, rfl, rfl⟩ := mkv_at hx
      obtain ⟨hR2, hlen, hP⟩ := hR.step (j := j75) (by simpa using hj) hs
      have H2 : ∀ p, p.Perm (rem.erase j75) → ∃ o, f16n4 bb1 bi2 (x76 :: ords bi2 p) v74 = some o ∧ Q o := fun p hp => by obtain ⟨o, h, hq⟩ := H _ (hP p hp); rw [ords_cons h77] at h; exact ⟨o, h, hq⟩
      obtain ⟨o, h, hq⟩ := H2 _ (List.Perm.refl _)
      rw [f16n4] at h
      rcases cond_cases h with ⟨h84, h⟩ | ⟨h84, h⟩
      · exact rE cfg_ok [([], [(0, .entr j75 ((pAgg Key_.cells) x76.1) ((pInt .i64) x76.2))], []), j3] [none, some true] [] [0, 1, 2] [0, 10, 63] (.norm, (f16n4S bb1 bi2 v74 (sn0 ++ [j75]))) (ap (last_app (seen := sn0) (j := j75)) (ap (rfl : (bi2.map (mkv (pAgg Key_.cells) (pInt .i64))).length = (bi2.map (mkv (pAgg Key_.cells) (pInt .i64))).length) (ap (at_mkv (kp := (pAgg Key_.cells)) (vp := (pInt .i64)) h77) (ap h84 an)))) (LoopQ2.norm ⟨sn0 ++ [j75], rem.erase j75, v74, rfl, hR2, by omega, fun p hp => by obtain ⟨o, h, hq⟩ := H2 p hp; refine ⟨o, ?_, hq⟩; rw [f16n4] at h; simp only [h84, cond_true, cond_false, Option.bind_some, req] at h; exact h⟩)
      · rcases cond_cases h with ⟨h85, h⟩ | ⟨h85, h⟩
        · obtain rfl := some_inj h
          exact rE cfg_ok [([], [(0, .entr j75 ((pAgg Key_.cells) x76.1) ((pInt .i64) x76.2))], []), j3, j3, j3] [none, some false, some true] [] [] [4, 5] (.ret, (f16n4E bb1 bi2 .ret).2) (ap (last_app (seen := sn0) (j := j75)) (ap (rfl : (bi2.map (mkv (pAgg Key_.cells) (pInt .i64))).length = (bi2.map (mkv (pAgg Key_.cells) (pInt .i64))).length) (ap (at_mkv (kp := (pAgg Key_.cells)) (vp := (pInt .i64)) h77) (ap h84 (ap h85 an))))) (LoopQ2.out ⟨_, hq, rfl⟩ rfl)
        · obtain ⟨x86, h87, h⟩ := bind_cases h
          rcases cond_cases h with ⟨h88, h⟩ | ⟨h88, h⟩
          · obtain ⟨h89, h⟩ := req_cases h
            exact rE cfg_ok [([], [(0, .entr j75 ((pAgg Key_.cells) x76.1) ((pInt .i64) x76.2))], []), j3, j3, ([], [jH 9 (.tup [(jA NettingFlow.cells x86.1), (jB x86.2)])], []), j3, ([], [(6, .fits)], [(6, .row 6 ((v74 ++ [(Share_.mk x76.1.set x86.1)]).map Share_.cells))])] [none, some false, some false, some true] [] [6, 1, 2] [0, 10, 63] (.norm, (f16n4S bb1 bi2 (v74 ++ [(Share_.mk x76.1.set x86.1)]) (sn0 ++ [j75]))) (ap (last_app (seen := sn0) (j := j75)) (ap (rfl : (bi2.map (mkv (pAgg Key_.cells) (pInt .i64))).length = (bi2.map (mkv (pAgg Key_.cells) (pInt .i64))).length) (ap (at_mkv (kp := (pAgg Key_.cells)) (vp := (pInt .i64)) h77) (ap h84 (ap h85 (ap (f37_ok (Key_.mk x76.1.date str_x x76.1.ccy) bb1 x76.1.set x76.2 h87) (ap h88 (ap (fit_map (te := ti71) (xs := v74) (n := 1) (c := Share_.cells) h89 rfl) (ap (app_cv (xs := v74) (ys := [(Share_.mk x76.1.set x86.1)]) (c := Share_.cells)) an))))))))) (LoopQ2.norm ⟨sn0 ++ [j75], rem.erase j75, (v74 ++ [(Share_.mk x76.1.set x86.1)]), rfl, hR2, by omega, fun p hp => by obtain ⟨o, h, hq⟩ := H2 p hp; refine ⟨o, ?_, hq⟩; rw [f16n4] at h; simp only [h84, h85, h87, h88, h89, cond_true, cond_false, Option.bind_some, req] at h; exact h⟩)
          · exact rE cfg_ok [([], [(0, .entr j75 ((pAgg Key_.cells) x76.1) ((pInt .i64) x76.2))], []), j3, j3, ([], [jH 9 (.tup [(jA NettingFlow.cells x86.1), (jB x86.2)])], []), j3] [none, some false, some false, some false] [] [0, 1, 2] [0, 10, 63] (.norm, (f16n4S bb1 bi2 v74 (sn0 ++ [j75]))) (ap (last_app (seen := sn0) (j := j75)) (ap (rfl : (bi2.map (mkv (pAgg Key_.cells) (pInt .i64))).length = (bi2.map (mkv (pAgg Key_.cells) (pInt .i64))).length) (ap (at_mkv (kp := (pAgg Key_.cells)) (vp := (pInt .i64)) h77) (ap h84 (ap h85 (ap (f37_ok (Key_.mk x76.1.date str_x x76.1.ccy) bb1 x76.1.set x76.2 h87) (ap h88 an))))))) (LoopQ2.norm ⟨sn0 ++ [j75], rem.erase j75, v74, rfl, hR2, by omega, fun p hp => by obtain ⟨o, h, hq⟩ := H2 p hp; refine ⟨o, ?_, hq⟩; rw [f16n4] at h; simp only [h84, h85, h87, h88, cond_true, cond_false, Option.bind_some, req] at h; exact h⟩)
inductive f16n3O where
  | norm (v94 : List Share_)
  | ret
def f16n3E (bb1 : ByteArray) (bi2 : List (Key_ × Int)) : f16n3O → Ex × Tr × Hp
  | .norm v94 => (.norm, mkS [(10, (.own 0))], [jR 7 Share_.cells v94])
  | .ret => (.ret, mkS [(4, (.pl (.sl .nil 0 []))), (5, (jI 14))], [])
def f16n3S (bb1 : ByteArray) (bi2 : List (Key_ × Int)) : Tr × Hp := (mkS [(0, (jS bb1)), (7, (.mp 0)), (10, (.pl (.sl .nil 0 [])))], [some (.map (bi2.map (mkv (pAgg Key_.cells) (pInt .i64))))])
noncomputable def f16n3 (bb1 : ByteArray) (bi2 : List (Key_ × Int)) (p : List (Key_ × Int)) : Option f16n3O :=
  (f16n4 bb1 bi2 p []).bind fun o91 => match o91 with
  | .exit2 v93 => some (.norm v93)
  | .ret => some .ret
theorem f16n3_ok (bb1 : ByteArray) (bi2 : List (Key_ × Int)) {Q : f16n3O → Prop} (H : ∀ p, p.Perm bi2 → ∃ o, f16n3 bb1 bi2 p = some o ∧ Q o) : T Try.prog Try.f16.ntmps 0 (cL (dropC 1 (dropC 1 (dropC 4 c16)))) (f16n3S bb1 bi2) (fun r => ∃ o, Q o ∧ r = f16n3E bb1 bi2 o) := by
  refine rN cfg_ok 1 [j3] [] [.mat 10 7] [2, 1, 0] [0, 10, 63] (f16n4S bb1 bi2 [] []) an ?_
  refine T.lastQ (T.blQ (i := 2) (by kernel_rfl) (by kernel_rfl) (f16n4_ok bb1 bi2 _ [] (List.range bi2.length) [] (Rem.start _) (Nat.lt_succ_self _) (Q := fun y => ∃ o, (match y with | .exit2 v93 => some (.norm v93) | .ret => some .ret) = some o ∧ Q o) (fun p hp => by obtain ⟨o, h, hq⟩ := H _ (ords_perm hp); unfold f16n3 at h; obtain ⟨y, hy, h⟩ := bind_ex h; exact ⟨y, hy, o, h, hq⟩))) ?_
  rintro y ⟨o, h, hq⟩
  cases y with
  | exit2 v93 =>
    obtain rfl := some_inj h
    exact Tidy.of [] [0] [10] ((f16n3E bb1 bi2 (.norm v93)).2) (by kernel_rfl) an ⟨_, hq, rfl⟩
  | ret =>
    obtain rfl := some_inj h
    exact Tidy.of [] [] [4, 5] ((f16n3E bb1 bi2 .ret).2) (by kernel_rfl) an ⟨_, hq, rfl⟩
inductive f16n6O where
  | exit4 (v130 : List NettingFlow)
def f16n6E (bm1 : List Share_) : f16n6O → Ex × Tr × Hp
  | .exit4 v130 => ((.exit 4), mkS [(15, (.own 0))], [jR 6 NettingFlow.cells v130])
def f16n6S (bm1 : List Share_) (v120 : Int) (v121 : List NettingFlow) : Tr × Hp := (mkS [(15, (.own 0)), (104, (.own 1)), (105, (jI (bm1.length : Int))), (106, (jI v120))], [jR 6 NettingFlow.cells v121, jR 7 Share_.cells bm1])
noncomputable def f16n6 : Nat → List Share_ → Int → List NettingFlow → Option f16n6O
  | 0, _, _, _ => none
  | f + 1, bm1, v120, v121 =>
    bif (decide (v120 < (bm1.length : Int))) then
      (at? bm1 v120).bind fun x127 =>
      req (fit (v121.length + 1) 80) <|
      (f16n6 f bm1 (wr64 (v120 + 1)) (v121 ++ [x127.flow]))
    else
      some (.exit4 v121)
theorem f16n6_ok : ∀ (f : Nat) (bm1 : List Share_) (v120 : Int) (v121 : List NettingFlow) {o : f16n6O}, (f16n6 f bm1 v120 v121) = some o → TL Try.prog Try.f16.ntmps 0 f (cL (cL (dropC 1 (cL (dropC 3 (dropC 1 (dropC 1 (dropC 1 (dropC 4 c16))))))))) (f16n6S bm1 v120 v121) (fun r => r = f16n6E bm1 o)
  | 0, _, _, _, o, h => by rw [f16n6] at h; cases h
  | f + 1, bm1, v120, v121, o, h => by
    rw [f16n6] at h
    refine TL.body (K := fun s => ∃ v120 : Int, ∃ v121 : List NettingFlow, s = (f16n6S bm1 v120 v121) ∧ (f16n6 f bm1 v120 v121) = some o) ?_ (by rintro _ ⟨v120, v121, rfl, hk⟩; exact f16n6_ok f _ _ _ hk)
    rcases cond_cases h with ⟨h123, h⟩ | ⟨h123, h⟩
    · obtain ⟨x127, h128, h⟩ := bind_cases h
      obtain ⟨h129, h⟩ := req_cases h
      exact rE cfg_ok [j3, ([], [(0, .at_ (Int.toNat v120)), (1, .idx 0 (Share_.cells x127))], []), ([], [(4, .fits)], [(4, .row 4 ((v121 ++ [x127.flow]).map NettingFlow.cells))]), j3] [some true] [] [4, 1] [15, 104, 105, 106] (.norm, (f16n6S bm1 (wr64 (v120 + 1)) (v121 ++ [x127.flow]))) (ap h123 (ap (at_some h128).1 (ap (lt_map Share_.cells (at_some h128).2) (ap (at_map Share_.cells (at_some h128).2) (ap (fit_map (te := ti32) (xs := v121) (n := 1) (c := NettingFlow.cells) h129 rfl) (ap (app_cv (xs := v121) (ys := [x127.flow]) (c := NettingFlow.cells)) an)))))) (LoopQ.norm ⟨(wr64 (v120 + 1)), (v121 ++ [x127.flow]), rfl, h⟩)
    · obtain rfl := some_inj h
      exact rK cfg_ok 2 [j3] [some false] [] [0] [15] (.exit 4) ((f16n6E bm1 (.exit4 v121)).2) (ap h123 an) (LoopQ.out rfl rfl)
noncomputable def f16n6L (bm1 : List Share_) : List Share_ → Int → (List NettingFlow) → Option f16n6O
  | [], v120, v121 =>
    some (.exit4 v121)
  | x0 :: rest, v120, v121 =>
    req (fit (v121.length + 1) 80) <|
    (f16n6L bm1 rest (v120 + 1) (v121 ++ [x0.flow]))
theorem f16n6L_eq (bm1 : List Share_) : ∀ (rest : List Share_) (f k : Nat) (v121 : List NettingFlow), bm1.drop k = rest → bm1.length ≤ maxLen → rest.length < f → f16n6 f bm1 (k : Int) v121 = f16n6L bm1 rest (k : Int) v121
  | _, 0, _, _, _, _, hf => absurd hf (Nat.not_lt_zero _)
  | [], f + 1, k, v121, hd, hm, hf => by
    have hk : ¬ ((k : Int) < (bm1.length : Int)) := by have := drop_nil hd; omega
    rw [f16n6, f16n6L]
    simp only [decide_eq_false hk, cond_false]
  | x0 :: rest, f + 1, k, v121, hd, hm, hf => by
    obtain ⟨hx, hlt, hd'⟩ := drop_cons hd
    have hk : (k : Int) < (bm1.length : Int) := by omega
    have hw : wr64 ((k : Int) + 1) = (k : Int) + 1 := wr64_of (by omega) (by unfold maxLen at hm; omega)
    have ih : ∀ (v121 : List NettingFlow), f16n6 f bm1 ((k : Int) + 1) v121 = f16n6L bm1 rest ((k : Int) + 1) v121 := fun v121 => f16n6L_eq bm1 rest f (k + 1) v121 hd' hm (by simpa using hf)
    rw [f16n6, f16n6L]
    simp only [decide_eq_true hk, cond_true, at_nat, hx, Option.bind_some, hw, ih]
theorem f16n6_run (bm1 : List Share_) (v121 : List NettingFlow) (hm : bm1.length ≤ maxLen) : f16n6 FUEL bm1 0 v121 = f16n6L bm1 bm1 0 v121 := f16n6L_eq bm1 bm1 FUEL 0 v121 List.drop_zero hm (lt_FUEL hm)
inductive f16n5O where
  | norm (v134 : List NettingFlow)
def f16n5E (bm1 : List Share_) : f16n5O → Ex × Tr × Hp
  | .norm v134 => (.norm, mkS [(15, (.own 0))], [jR 6 NettingFlow.cells v134])
def f16n5S (bm1 : List Share_) : Tr × Hp := (mkS [(10, (.own 0)), (15, (.pl (.sl .nil 0 [])))], [jR 7 Share_.cells bm1])
noncomputable def f16n5 (bm1 : List Share_) : Option f16n5O :=
  (f16n6 FUEL bm1 0 []).bind fun o131 => match o131 with
  | .exit4 v133 => some (.norm v133)
theorem f16n5_ok (bm1 : List Share_) {o : f16n5O} (h : (f16n5 bm1) = some o) : T Try.prog Try.f16.ntmps 0 (cL (dropC 3 (dropC 1 (dropC 1 (dropC 1 (dropC 4 c16)))))) (f16n5S bm1) (fun r => r = f16n5E bm1 o) := by
  unfold f16n5 at h
  refine rN cfg_ok 1 [([], [], [(1, .val (jI (bm1.length : Int)))])] [] [.mat 15 6] [1, 0] [15, 104, 105, 106] (f16n6S bm1 0 []) (ap (len_cv (xs := bm1) (c := Share_.cells)) an) ?_
  obtain ⟨o131, h132, h⟩ := bind_cases h
  cases o131 with
  | exit4 v133 =>
    obtain rfl := some_inj h
    exact T.last' (T.bl (i := 4) (by kernel_rfl) (by kernel_rfl) (f16n6_ok FUEL bm1 0 [] h132)) (tds := []) (m := [0]) (keep := [15]) (st2 := (f16n5E bm1 (.norm v133)).2) (by kernel_rfl) an rfl
inductive f16n0O where
  | ret (v138 : Int) (v139 : List NettingFlow)
def f16n0E (a1 : ByteArray) (a2 : List NettingFlow) : f16n0O → Ex × Tr × Hp
  | .ret v138 v139 => (.ret, mkS [(4, (.own 0)), (5, (jI v138))], [jR 6 NettingFlow.cells v139])
def f16n0S (a1 : ByteArray) (a2 : List NettingFlow) : Tr × Hp := (initS [(jS a1), (jL 6 NettingFlow.cells a2)] 0 .leaf, [])
noncomputable def f16n0 (a1 : ByteArray) (a2 : List NettingFlow) : Option f16n0O :=
  (f35 a2).bind fun x6 =>
  bif (decide (x6 = 0)) then
    (f36 a1).bind fun x12 =>
    bif x12 then
      (f16n1 a1 a2).bind fun o42 => match o42 with
      | .norm v44 => (anyOrder v44 fun p => (f16n3 a1 v44 p).bind fun o95 => match o95 with
        | .norm v97 => bif (decide (500 < (v97.length : Int))) then
            some (.ret 4 [])
          else
            (so38_39 v97).bind fun x102 =>
            (f16n5 x102).bind fun o135 => match o135 with
            | .norm v137 => some (.ret 0 v137)
        | .ret => some (.ret 14 []))
    else
      some (.ret 2 [])
  else
    some (.ret x6 [])
theorem f16n0_ok (a1 : ByteArray) (a2 : List NettingFlow) {o : f16n0O} (h : (f16n0 a1 a2) = some o) : T Try.prog Try.f16.ntmps 0 c16 (f16n0S a1 a2) (fun r => r = f16n0E a1 a2 o) := by
  unfold f16n0 at h
  obtain ⟨x6, h7, h⟩ := bind_cases h
  rcases cond_cases h with ⟨h8, h⟩ | ⟨h8, h⟩
  · obtain ⟨x12, h13, h⟩ := bind_cases h
    rcases cond_cases h with ⟨h14, h⟩ | ⟨h14, h⟩
    · refine rN cfg_ok 4 [j3, ([], [jH 1 (jI x6)], []), j3, ([], [jH 1 (jB x12)], []), j3] [some false, some false] [] [0] [0, 1, 7] (f16n1S a1 a2) (ap (f35_ok a2 h7) (ap (not_t h8) (ap (f36_ok a1 h13) (ap (not_t h14) an)))) ?_
      obtain ⟨o42, h43, h⟩ := bind_cases h
      cases o42 with
      | norm v44 =>
        refine T.oneN (by kernel_rfl) (f16n1_ok a1 a2 h43) (st2 := (f16n1E a1 a2 (.norm v44)).2) rfl ?_
        refine rN cfg_ok 1 [j3] [] [] [0] [0, 7, 10] (f16n3S a1 v44) an ?_
        refine T.oneQ (by kernel_rfl) (f16n3_ok a1 v44 (fun p hp => bind_ex (anyOrder_at h p hp))) ?_
        intro o95 h
        cases o95 with
        | norm v97 =>
          refine OneR.go ((f16n3E a1 v44 (.norm v97)).2) rfl ?_
          rcases cond_cases h with ⟨h99, h⟩ | ⟨h99, h⟩
          · obtain rfl := some_inj h
            exact rK cfg_ok 1 [([], [], [(1, .val (jI (v97.length : Int)))]), j3] [some true] [.mat 4 6] [1] [4, 5] .ret ((f16n0E a1 a2 (.ret 4 [])).2) (ap (len_cv (xs := v97) (c := Share_.cells)) (ap h99 an)) rfl
          · obtain ⟨x102, h103, h⟩ := bind_cases h
            refine rN cfg_ok 3 [([], [], [(1, .val (jI (v97.length : Int)))]), ([], [(1, .call (.tup []) [jR 7 Share_.cells x102])], []), j3] [some false] [] [0] [10, 15] (f16n5S x102) (ap (len_cv (xs := v97) (c := Share_.cells)) (ap h99 (ap (so38_39_ok v97 h103) an))) ?_
            obtain ⟨o135, h136, h⟩ := bind_cases h
            cases o135 with
            | norm v137 =>
              refine T.oneN (by kernel_rfl) (f16n5_ok x102 h136) (st2 := (f16n5E x102 (.norm v137)).2) rfl ?_
              obtain rfl := some_inj h
              exact rE cfg_ok [j3] [] [] [0] [4, 5] (.ret, (f16n0E a1 a2 (.ret 0 v137)).2) an rfl
        | ret =>
          obtain rfl := some_inj h
          exact OneR.out [.mat 4 6] [0] [4, 5] ((f16n0E a1 a2 (.ret 14 [])).2) (by kernel_rfl) an rfl rfl
    · obtain rfl := some_inj h
      exact rK cfg_ok 3 [j3, ([], [jH 1 (jI x6)], []), j3, ([], [jH 1 (jB x12)], []), j3] [some false, some true] [.mat 4 6] [0] [4, 5] .ret ((f16n0E a1 a2 (.ret 2 [])).2) (ap (f35_ok a2 h7) (ap (not_t h8) (ap (f36_ok a1 h13) (ap (not_f h14) an)))) rfl
  · obtain rfl := some_inj h
    exact rK cfg_ok 2 [j3, ([], [jH 1 (jI x6)], []), j3, j3] [some true] [.mat 4 6] [0] [4, 5] .ret ((f16n0E a1 a2 (.ret x6 [])).2) (ap (f35_ok a2 h7) (ap (not_f h8) an)) rfl
noncomputable def f16 (a1 : ByteArray) (a2 : List NettingFlow) : Option ((List NettingFlow) × Int) := (f16n0 a1 a2).bind fun o => match o with
  | .ret v138 v139 => some (v139, v138)
theorem f16_ok (a1 : ByteArray) (a2 : List NettingFlow) {r : (List NettingFlow) × Int} (h : (f16 a1 a2) = some r) : CallS Try.prog false 16 [(jS a1), (jL 6 NettingFlow.cells a2)] [] (.tup [(jL 6 NettingFlow.cells r.1), (jI r.2)]) [] := by
  unfold f16 at h
  obtain ⟨o, ho, h⟩ := bind_cases h
  cases o with
  | ret v138 v139 =>
    obtain rfl := some_inj h
    exact CallS.plain cfg_ok (f := Try.f16) (c := c16) (by kernel_rfl) (by kernel_rfl) (by kernel_rfl) (by kernel_rfl) ((f16n0_ok a1 a2 ho).mono fun r e => by subst e; exact ⟨.inl rfl, (.tup [(.own 0), (jI v138)]), (.tup [(jL 6 NettingFlow.cells v139), (jI v138)]), by kernel_rfl, by kernel_rfl, ((Wk.refl _) : Wk (.tup [(jL 6 NettingFlow.cells v139), (jI v138)]) (.tup [(jL 6 NettingFlow.cells v139), (jI v138)]))⟩)

noncomputable def c17 : Code := Try.f17.body.getD .skip
inductive f17n2O where
  | exit0
  | ret
def f17n2E (bg1 : List NettingFlow) (bg2 : List NettingFlow) : f17n2O → Ex × Tr × Hp
  | .exit0 => ((.exit 0), mkS [], [])
  | .ret => (.ret, mkS [(4, (jB false))], [])
def f17n2S (bg1 : List NettingFlow) (bg2 : List NettingFlow) (v30 : Int) : Tr × Hp := (mkS [(0, (jL 6 NettingFlow.cells bg1)), (1, (jL 6 NettingFlow.cells bg2)), (5, (jI v30))], [])
noncomputable def f17n2 : Nat → List NettingFlow → List NettingFlow → Int → Option f17n2O
  | 0, _, _, _ => none
  | f + 1, bg1, bg2, v30 =>
    bif (decide (v30 < (bg1.length : Int))) then
      (at? bg1 v30).bind fun x38 =>
      (at? bg2 v30).bind fun x40 =>
      bif (NettingFlow.eqb x38 x40) then
        (f17n2 f bg1 bg2 (wr64 (v30 + 1)))
      else
        some .ret
    else
      some .exit0
theorem f17n2_ok : ∀ (f : Nat) (bg1 : List NettingFlow) (bg2 : List NettingFlow) (v30 : Int) {o : f17n2O}, (f17n2 f bg1 bg2 v30) = some o → TL Try.prog Try.f17.ntmps 0 f (cL (cL (dropC 1 (cL (dropC 2 c17))))) (f17n2S bg1 bg2 v30) (fun r => r = f17n2E bg1 bg2 o)
  | 0, _, _, _, o, h => by rw [f17n2] at h; cases h
  | f + 1, bg1, bg2, v30, o, h => by
    rw [f17n2] at h
    refine TL.body (K := fun s => ∃ v30 : Int, s = (f17n2S bg1 bg2 v30) ∧ (f17n2 f bg1 bg2 v30) = some o) ?_ (by rintro _ ⟨v30, rfl, hk⟩; exact f17n2_ok f _ _ _ hk)
    rcases cond_cases h with ⟨h32, h⟩ | ⟨h32, h⟩
    · obtain ⟨x38, h39, h⟩ := bind_cases h
      obtain ⟨x40, h41, h⟩ := bind_cases h
      rcases cond_cases h with ⟨h42, h⟩ | ⟨h42, h⟩
      · exact rE cfg_ok [([], [], [(2, .val (jI (bg1.length : Int)))]), ([], [(2, .idx (Int.toNat v30) (NettingFlow.cells x38)), (6, .idx (Int.toNat v30) (NettingFlow.cells x40)), (8, .bool (NettingFlow.eqb x38 x40))], []), j3] [some true, some false] [] [] [0, 1, 5] (.norm, (f17n2S bg1 bg2 (wr64 (v30 + 1)))) (ap (len_cv (xs := bg1) (c := NettingFlow.cells)) (ap h32 (ap (at_some h39).1 (ap (at_map NettingFlow.cells (at_some h39).2) (ap (at_some h41).1 (ap (at_map NettingFlow.cells (at_some h41).2) (ap (NettingFlow.eqb_ok x38 x40) (ap (not_t h42) an)))))))) (LoopQ.norm ⟨(wr64 (v30 + 1)), rfl, h⟩)
      · obtain rfl := some_inj h
        exact rK cfg_ok 2 [([], [], [(2, .val (jI (bg1.length : Int)))]), ([], [(2, .idx (Int.toNat v30) (NettingFlow.cells x38)), (6, .idx (Int.toNat v30) (NettingFlow.cells x40)), (8, .bool (NettingFlow.eqb x38 x40))], []), j3] [some true, some true] [] [] [4] .ret ((f17n2E bg1 bg2 .ret).2) (ap (len_cv (xs := bg1) (c := NettingFlow.cells)) (ap h32 (ap (at_some h39).1 (ap (at_map NettingFlow.cells (at_some h39).2) (ap (at_some h41).1 (ap (at_map NettingFlow.cells (at_some h41).2) (ap (NettingFlow.eqb_ok x38 x40) (ap (not_f h42) an)))))))) (LoopQ.out rfl rfl)
    · obtain rfl := some_inj h
      exact rK cfg_ok 1 [([], [], [(2, .val (jI (bg1.length : Int)))])] [some false] [] [] [] (.exit 0) ((f17n2E bg1 bg2 .exit0).2) (ap (len_cv (xs := bg1) (c := NettingFlow.cells)) (ap h32 an)) (LoopQ.out rfl rfl)
noncomputable def f17n2L (bg1 : List NettingFlow) (bg2 : List NettingFlow) : List NettingFlow → Int → Option f17n2O
  | [], v30 =>
    some .exit0
  | x0 :: rest, v30 =>
    (at? bg2 v30).bind fun x40 =>
    bif (NettingFlow.eqb x0 x40) then
      (f17n2L bg1 bg2 rest (v30 + 1))
    else
      some .ret
theorem f17n2L_eq (bg1 : List NettingFlow) (bg2 : List NettingFlow) : ∀ (rest : List NettingFlow) (f k : Nat), bg1.drop k = rest → bg1.length ≤ maxLen → rest.length < f → f17n2 f bg1 bg2 (k : Int) = f17n2L bg1 bg2 rest (k : Int)
  | _, 0, _, _, _, hf => absurd hf (Nat.not_lt_zero _)
  | [], f + 1, k, hd, hm, hf => by
    have hk : ¬ ((k : Int) < (bg1.length : Int)) := by have := drop_nil hd; omega
    rw [f17n2, f17n2L]
    simp only [decide_eq_false hk, cond_false]
  | x0 :: rest, f + 1, k, hd, hm, hf => by
    obtain ⟨hx, hlt, hd'⟩ := drop_cons hd
    have hk : (k : Int) < (bg1.length : Int) := by omega
    have hw : wr64 ((k : Int) + 1) = (k : Int) + 1 := wr64_of (by omega) (by unfold maxLen at hm; omega)
    have ih : f17n2 f bg1 bg2 ((k : Int) + 1) = f17n2L bg1 bg2 rest ((k : Int) + 1) := f17n2L_eq bg1 bg2 rest f (k + 1) hd' hm (by simpa using hf)
    rw [f17n2, f17n2L]
    simp only [decide_eq_true hk, cond_true, at_nat, hx, Option.bind_some, hw, ih]
theorem f17n2_run (bg1 : List NettingFlow) (bg2 : List NettingFlow) (hm : bg1.length ≤ maxLen) : f17n2 FUEL bg1 bg2 0 = f17n2L bg1 bg2 bg1 0 := f17n2L_eq bg1 bg2 bg1 FUEL 0 List.drop_zero hm (lt_FUEL hm)
inductive f17n1O where
  | norm
  | ret
def f17n1E (bg1 : List NettingFlow) (bg2 : List NettingFlow) : f17n1O → Ex × Tr × Hp
  | .norm => (.norm, mkS [], [])
  | .ret => (.ret, mkS [(4, (jB false))], [])
def f17n1S (bg1 : List NettingFlow) (bg2 : List NettingFlow) : Tr × Hp := (mkS [(0, (jL 6 NettingFlow.cells bg1)), (1, (jL 6 NettingFlow.cells bg2))], [])
noncomputable def f17n1 (bg1 : List NettingFlow) (bg2 : List NettingFlow) : Option f17n1O :=
  (f17n2 FUEL bg1 bg2 0).bind fun o43 => match o43 with
  | .exit0 => some .norm
  | .ret => some .ret
theorem f17n1_ok (bg1 : List NettingFlow) (bg2 : List NettingFlow) {o : f17n1O} (h : (f17n1 bg1 bg2) = some o) : T Try.prog Try.f17.ntmps 0 (cL (dropC 2 c17)) (f17n1S bg1 bg2) (fun r => r = f17n1E bg1 bg2 o) := by
  unfold f17n1 at h
  refine rN cfg_ok 1 [j3] [] [] [] [0, 1, 5] (f17n2S bg1 bg2 0) an ?_
  obtain ⟨o43, h44, h⟩ := bind_cases h
  cases o43 with
  | exit0 =>
    obtain rfl := some_inj h
    exact T.last' (T.bl (i := 0) (by kernel_rfl) (by kernel_rfl) (f17n2_ok FUEL bg1 bg2 0 h44)) (tds := []) (m := []) (keep := []) (st2 := (f17n1E bg1 bg2 .norm).2) (by kernel_rfl) an rfl
  | ret =>
    obtain rfl := some_inj h
    exact T.last' (T.bl (i := 0) (by kernel_rfl) (by kernel_rfl) (f17n2_ok FUEL bg1 bg2 0 h44)) (tds := []) (m := []) (keep := [4]) (st2 := (f17n1E bg1 bg2 .ret).2) (by kernel_rfl) an rfl
inductive f17n0O where
  | ret (v47 : Bool)
def f17n0E (a1 : List NettingFlow) (a2 : List NettingFlow) : f17n0O → Ex × Tr × Hp
  | .ret v47 => (.ret, mkS [(4, (jB v47))], [])
def f17n0S (a1 : List NettingFlow) (a2 : List NettingFlow) : Tr × Hp := (initS [(jL 6 NettingFlow.cells a1), (jL 6 NettingFlow.cells a2)] 0 .leaf, [])
noncomputable def f17n0 (a1 : List NettingFlow) (a2 : List NettingFlow) : Option f17n0O :=
  bif (decide ((a1.length : Int) = (a2.length : Int))) then
    (f17n1 a1 a2).bind fun o45 => match o45 with
    | .norm => some (.ret true)
    | .ret => some (.ret false)
  else
    some (.ret false)
theorem f17n0_ok (a1 : List NettingFlow) (a2 : List NettingFlow) {o : f17n0O} (h : (f17n0 a1 a2) = some o) : T Try.prog Try.f17.ntmps 0 c17 (f17n0S a1 a2) (fun r => r = f17n0E a1 a2 o) := by
  unfold f17n0 at h
  rcases cond_cases h with ⟨h4, h⟩ | ⟨h4, h⟩
  · refine rN cfg_ok 2 [j3, ([], [], [(1, .val (jI (a1.length : Int))), (3, .val (jI (a2.length : Int)))])] [some false] [] [] [0, 1] (f17n1S a1 a2) (ap (len_cv (xs := a1) (c := NettingFlow.cells)) (ap (len_cv (xs := a2) (c := NettingFlow.cells)) (ap (not_t h4) an))) ?_
    obtain ⟨o45, h46, h⟩ := bind_cases h
    cases o45 with
    | norm =>
      refine T.oneN (by kernel_rfl) (f17n1_ok a1 a2 h46) (st2 := (f17n1E a1 a2 .norm).2) rfl ?_
      obtain rfl := some_inj h
      exact rE cfg_ok [j3] [] [] [] [4] (.ret, (f17n0E a1 a2 (.ret true)).2) an rfl
    | ret =>
      obtain rfl := some_inj h
      exact T.oneX' (by kernel_rfl) (f17n1_ok a1 a2 h46) (tds := []) (m := []) (keep := [4]) (st2 := (f17n0E a1 a2 (.ret false)).2) (by kernel_rfl) an rfl rfl
  · obtain rfl := some_inj h
    exact rK cfg_ok 2 [j3, ([], [], [(1, .val (jI (a1.length : Int))), (3, .val (jI (a2.length : Int)))]), j3] [some true] [] [] [4] .ret ((f17n0E a1 a2 (.ret false)).2) (ap (len_cv (xs := a1) (c := NettingFlow.cells)) (ap (len_cv (xs := a2) (c := NettingFlow.cells)) (ap (not_f h4) an))) rfl
noncomputable def f17 (a1 : List NettingFlow) (a2 : List NettingFlow) : Option Bool := (f17n0 a1 a2).bind fun o => match o with
  | .ret v47 => some v47
theorem f17_ok (a1 : List NettingFlow) (a2 : List NettingFlow) {r : Bool} (h : (f17 a1 a2) = some r) : CallS Try.prog false 17 [(jL 6 NettingFlow.cells a1), (jL 6 NettingFlow.cells a2)] [] (jB r) [] := by
  unfold f17 at h
  obtain ⟨o, ho, h⟩ := bind_cases h
  cases o with
  | ret v47 =>
    obtain rfl := some_inj h
    exact CallS.plain cfg_ok (f := Try.f17) (c := c17) (by kernel_rfl) (by kernel_rfl) (by kernel_rfl) (by kernel_rfl) ((f17n0_ok a1 a2 ho).mono fun r e => by subst e; exact ⟨.inl rfl, (jB v47), (jB v47), by kernel_rfl, by kernel_rfl, ((Wk.refl _) : Wk (jB v47) (jB v47))⟩)

noncomputable def c4 : Code := Try.f4.body.getD .skip
inductive f4n2O where
  | exit0 (v88 : List NettingFlow) (v89 : List NettingFlow) (v90 : List NettingFlow)
def f4n2E (ba1 : List NettingSet) (bg2 : List NettingFlow) (bb3 : ByteArray) (bf4 : Bool) : f4n2O → Ex × Tr × Hp
  | .exit0 v88 v89 v90 => ((.exit 0), mkS [(0, (jL 3 NettingSet.cells ba1)), (1, (jL 6 NettingFlow.cells bg2)), (2, (jS bb3)), (7, (jB bf4)), (8, (.own 0)), (9, (.own 1)), (10, (.own 2))], [jR 6 NettingFlow.cells v88, jR 6 NettingFlow.cells v89, jR 6 NettingFlow.cells v90])
def f4n2S (ba1 : List NettingSet) (bg2 : List NettingFlow) (bb3 : ByteArray) (bf4 : Bool) (v60 : Int) (v61 : List NettingFlow) (v62 : List NettingFlow) (v63 : List NettingFlow) : Tr × Hp := (mkS [(0, (jL 3 NettingSet.cells ba1)), (1, (jL 6 NettingFlow.cells bg2)), (2, (jS bb3)), (7, (jB bf4)), (8, (.own 0)), (9, (.own 1)), (10, (.own 2)), (11, (jI v60))], [jR 6 NettingFlow.cells v61, jR 6 NettingFlow.cells v62, jR 6 NettingFlow.cells v63])
noncomputable def f4n2 : Nat → List NettingSet → List NettingFlow → ByteArray → Bool → Int → List NettingFlow → List NettingFlow → List NettingFlow → Option f4n2O
  | 0, _, _, _, _, _, _, _, _ => none
  | f + 1, ba1, bg2, bb3, bf4, v60, v61, v62, v63 =>
    bif (decide (v60 < (bg2.length : Int))) then
      (at? bg2 (wr64 ((wr64 ((bg2.length : Int) - 1)) - v60))).bind fun x77 =>
      req (fit (v61.length + 1) 80) <|
      (at? bg2 v60).bind fun x80 =>
      bif (seq x80.Set str_x) then
        bif (seq x77.Set str_x) then
          (f4n2 f ba1 bg2 bb3 bf4 (wr64 (v60 + 1)) (v61 ++ [x77]) v62 v63)
        else
          req (fit (v63.length + 1) 80) <|
          (f4n2 f ba1 bg2 bb3 bf4 (wr64 (v60 + 1)) (v61 ++ [x77]) v62 (v63 ++ [x77]))
      else
        req (fit (v62.length + 1) 80) <|
        bif (seq x77.Set str_x) then
          (f4n2 f ba1 bg2 bb3 bf4 (wr64 (v60 + 1)) (v61 ++ [x77]) (v62 ++ [x80]) v63)
        else
          req (fit (v63.length + 1) 80) <|
          (f4n2 f ba1 bg2 bb3 bf4 (wr64 (v60 + 1)) (v61 ++ [x77]) (v62 ++ [x80]) (v63 ++ [x77]))
    else
      some (.exit0 v61 v62 v63)
theorem f4n2_ok : ∀ (f : Nat) (ba1 : List NettingSet) (bg2 : List NettingFlow) (bb3 : ByteArray) (bf4 : Bool) (v60 : Int) (v61 : List NettingFlow) (v62 : List NettingFlow) (v63 : List NettingFlow) {o : f4n2O}, (f4n2 f ba1 bg2 bb3 bf4 v60 v61 v62 v63) = some o → TL Try.prog Try.f4.ntmps 0 f (cL (cL (dropC 1 (cL (dropC 4 c4))))) (f4n2S ba1 bg2 bb3 bf4 v60 v61 v62 v63) (fun r => r = f4n2E ba1 bg2 bb3 bf4 o)
  | 0, _, _, _, _, _, _, _, _, o, h => by rw [f4n2] at h; cases h
  | f + 1, ba1, bg2, bb3, bf4, v60, v61, v62, v63, o, h => by
    rw [f4n2] at h
    refine TL.body (K := fun s => ∃ v60 : Int, ∃ v61 : List NettingFlow, ∃ v62 : List NettingFlow, ∃ v63 : List NettingFlow, s = (f4n2S ba1 bg2 bb3 bf4 v60 v61 v62 v63) ∧ (f4n2 f ba1 bg2 bb3 bf4 v60 v61 v62 v63) = some o) ?_ (by rintro _ ⟨v60, v61, v62, v63, rfl, hk⟩; exact f4n2_ok f _ _ _ _ _ _ _ _ hk)
    rcases cond_cases h with ⟨h65, h⟩ | ⟨h65, h⟩
    · obtain ⟨x77, h78, h⟩ := bind_cases h
      obtain ⟨h79, h⟩ := req_cases h
      obtain ⟨x80, h81, h⟩ := bind_cases h
      rcases cond_cases h with ⟨h82, h⟩ | ⟨h82, h⟩
      · rcases cond_cases h with ⟨h83, h⟩ | ⟨h83, h⟩
        · exact rE cfg_ok [([], [], [(2, .val (jI (bg2.length : Int)))]), ([], [(7, .idx (Int.toNat (wr64 ((wr64 ((bg2.length : Int) - 1)) - v60))) (NettingFlow.cells x77)), (10, .fits)], [(3, .val (jI (bg2.length : Int))), (10, .row 4 ((v61 ++ [x77]).map NettingFlow.cells))]), ([], [(2, .idx (Int.toNat v60) (NettingFlow.cells x80))], []), ([], [(6, .idx (Int.toNat (wr64 ((wr64 ((bg2.length : Int) - 1)) - v60))) (NettingFlow.cells x77))], [(2, .val (jI (bg2.length : Int)))]), j3] [some true, some false, some false] [] [4, 1, 2] [0, 1, 2, 7, 8, 9, 10, 11] (.norm, (f4n2S ba1 bg2 bb3 bf4 (wr64 (v60 + 1)) (v61 ++ [x77]) v62 v63)) (ap (len_cv (xs := bg2) (c := NettingFlow.cells)) (ap h65 (ap (len_cv (xs := bg2) (c := NettingFlow.cells)) (ap (at_some h78).1 (ap (at_map NettingFlow.cells (at_some h78).2) (ap (fit_map (te := ti32) (xs := v61) (n := 1) (c := NettingFlow.cells) h79 rfl) (ap (app_cv (xs := v61) (ys := [x77]) (c := NettingFlow.cells)) (ap (at_some h81).1 (ap (at_map NettingFlow.cells (at_some h81).2) (ap (not_t h82) (ap (len_cv (xs := bg2) (c := NettingFlow.cells)) (ap (at_some h78).1 (ap (at_map NettingFlow.cells (at_some h78).2) (ap (not_t h83) an)))))))))))))) (LoopQ.norm ⟨(wr64 (v60 + 1)), (v61 ++ [x77]), v62, v63, rfl, h⟩)
        · obtain ⟨h84, h⟩ := req_cases h
          exact rE cfg_ok [([], [], [(2, .val (jI (bg2.length : Int)))]), ([], [(7, .idx (Int.toNat (wr64 ((wr64 ((bg2.length : Int) - 1)) - v60))) (NettingFlow.cells x77)), (10, .fits)], [(3, .val (jI (bg2.length : Int))), (10, .row 4 ((v61 ++ [x77]).map NettingFlow.cells))]), ([], [(2, .idx (Int.toNat v60) (NettingFlow.cells x80))], []), ([], [(6, .idx (Int.toNat (wr64 ((wr64 ((bg2.length : Int) - 1)) - v60))) (NettingFlow.cells x77))], [(2, .val (jI (bg2.length : Int)))]), ([], [(7, .idx (Int.toNat (wr64 ((wr64 ((bg2.length : Int) - 1)) - v60))) (NettingFlow.cells x77)), (10, .fits)], [(3, .val (jI (bg2.length : Int))), (10, .row 6 ((v63 ++ [x77]).map NettingFlow.cells))]), j3] [some true, some false, some true] [] [4, 1, 6] [0, 1, 2, 7, 8, 9, 10, 11] (.norm, (f4n2S ba1 bg2 bb3 bf4 (wr64 (v60 + 1)) (v61 ++ [x77]) v62 (v63 ++ [x77]))) (ap (len_cv (xs := bg2) (c := NettingFlow.cells)) (ap h65 (ap (len_cv (xs := bg2) (c := NettingFlow.cells)) (ap (at_some h78).1 (ap (at_map NettingFlow.cells (at_some h78).2) (ap (fit_map (te := ti32) (xs := v61) (n := 1) (c := NettingFlow.cells) h79 rfl) (ap (app_cv (xs := v61) (ys := [x77]) (c := NettingFlow.cells)) (ap (at_some h81).1 (ap (at_map NettingFlow.cells (at_some h81).2) (ap (not_t h82) (ap (len_cv (xs := bg2) (c := NettingFlow.cells)) (ap (at_some h78).1 (ap (at_map NettingFlow.cells (at_some h78).2) (ap (not_f h83) (ap (len_cv (xs := bg2) (c := NettingFlow.cells)) (ap (at_some h78).1 (ap (at_map NettingFlow.cells (at_some h78).2) (ap (fit_map (te := ti32) (xs := v63) (n := 1) (c := NettingFlow.cells) h84 rfl) (ap (app_cv (xs := v63) (ys := [x77]) (c := NettingFlow.cells)) an))))))))))))))))))) (LoopQ.norm ⟨(wr64 (v60 + 1)), (v61 ++ [x77]), v62, (v63 ++ [x77]), rfl, h⟩)
      · obtain ⟨h85, h⟩ := req_cases h
        rcases cond_cases h with ⟨h86, h⟩ | ⟨h86, h⟩
        · exact rE cfg_ok [([], [], [(2, .val (jI (bg2.length : Int)))]), ([], [(7, .idx (Int.toNat (wr64 ((wr64 ((bg2.length : Int) - 1)) - v60))) (NettingFlow.cells x77)), (10, .fits)], [(3, .val (jI (bg2.length : Int))), (10, .row 4 ((v61 ++ [x77]).map NettingFlow.cells))]), ([], [(2, .idx (Int.toNat v60) (NettingFlow.cells x80))], []), ([], [(3, .idx (Int.toNat v60) (NettingFlow.cells x80)), (6, .fits)], [(6, .row 6 ((v62 ++ [x80]).map NettingFlow.cells))]), ([], [(6, .idx (Int.toNat (wr64 ((wr64 ((bg2.length : Int) - 1)) - v60))) (NettingFlow.cells x77))], [(2, .val (jI (bg2.length : Int)))]), j3] [some true, some true, some false] [] [4, 6, 2] [0, 1, 2, 7, 8, 9, 10, 11] (.norm, (f4n2S ba1 bg2 bb3 bf4 (wr64 (v60 + 1)) (v61 ++ [x77]) (v62 ++ [x80]) v63)) (ap (len_cv (xs := bg2) (c := NettingFlow.cells)) (ap h65 (ap (len_cv (xs := bg2) (c := NettingFlow.cells)) (ap (at_some h78).1 (ap (at_map NettingFlow.cells (at_some h78).2) (ap (fit_map (te := ti32) (xs := v61) (n := 1) (c := NettingFlow.cells) h79 rfl) (ap (app_cv (xs := v61) (ys := [x77]) (c := NettingFlow.cells)) (ap (at_some h81).1 (ap (at_map NettingFlow.cells (at_some h81).2) (ap (not_f h82) (ap (at_some h81).1 (ap (at_map NettingFlow.cells (at_some h81).2) (ap (fit_map (te := ti32) (xs := v62) (n := 1) (c := NettingFlow.cells) h85 rfl) (ap (app_cv (xs := v62) (ys := [x80]) (c := NettingFlow.cells)) (ap (len_cv (xs := bg2) (c := NettingFlow.cells)) (ap (at_some h78).1 (ap (at_map NettingFlow.cells (at_some h78).2) (ap (not_t h86) an)))))))))))))))))) (LoopQ.norm ⟨(wr64 (v60 + 1)), (v61 ++ [x77]), (v62 ++ [x80]), v63, rfl, h⟩)
        · obtain ⟨h87, h⟩ := req_cases h
          exact rE cfg_ok [([], [], [(2, .val (jI (bg2.length : Int)))]), ([], [(7, .idx (Int.toNat (wr64 ((wr64 ((bg2.length : Int) - 1)) - v60))) (NettingFlow.cells x77)), (10, .fits)], [(3, .val (jI (bg2.length : Int))), (10, .row 4 ((v61 ++ [x77]).map NettingFlow.cells))]), ([], [(2, .idx (Int.toNat v60) (NettingFlow.cells x80))], []), ([], [(3, .idx (Int.toNat v60) (NettingFlow.cells x80)), (6, .fits)], [(6, .row 6 ((v62 ++ [x80]).map NettingFlow.cells))]), ([], [(6, .idx (Int.toNat (wr64 ((wr64 ((bg2.length : Int) - 1)) - v60))) (NettingFlow.cells x77))], [(2, .val (jI (bg2.length : Int)))]), ([], [(7, .idx (Int.toNat (wr64 ((wr64 ((bg2.length : Int) - 1)) - v60))) (NettingFlow.cells x77)), (10, .fits)], [(3, .val (jI (bg2.length : Int))), (10, .row 8 ((v63 ++ [x77]).map NettingFlow.cells))]), j3] [some true, some true, some true] [] [4, 6, 8] [0, 1, 2, 7, 8, 9, 10, 11] (.norm, (f4n2S ba1 bg2 bb3 bf4 (wr64 (v60 + 1)) (v61 ++ [x77]) (v62 ++ [x80]) (v63 ++ [x77]))) (ap (len_cv (xs := bg2) (c := NettingFlow.cells)) (ap h65 (ap (len_cv (xs := bg2) (c := NettingFlow.cells)) (ap (at_some h78).1 (ap (at_map NettingFlow.cells (at_some h78).2) (ap (fit_map (te := ti32) (xs := v61) (n := 1) (c := NettingFlow.cells) h79 rfl) (ap (app_cv (xs := v61) (ys := [x77]) (c := NettingFlow.cells)) (ap (at_some h81).1 (ap (at_map NettingFlow.cells (at_some h81).2) (ap (not_f h82) (ap (at_some h81).1 (ap (at_map NettingFlow.cells (at_some h81).2) (ap (fit_map (te := ti32) (xs := v62) (n := 1) (c := NettingFlow.cells) h85 rfl) (ap (app_cv (xs := v62) (ys := [x80]) (c := NettingFlow.cells)) (ap (len_cv (xs := bg2) (c := NettingFlow.cells)) (ap (at_some h78).1 (ap (at_map NettingFlow.cells (at_some h78).2) (ap (not_f h86) (ap (len_cv (xs := bg2) (c := NettingFlow.cells)) (ap (at_some h78).1 (ap (at_map NettingFlow.cells (at_some h78).2) (ap (fit_map (te := ti32) (xs := v63) (n := 1) (c := NettingFlow.cells) h87 rfl) (ap (app_cv (xs := v63) (ys := [x77]) (c := NettingFlow.cells)) an))))))))))))))))))))))) (LoopQ.norm ⟨(wr64 (v60 + 1)), (v61 ++ [x77]), (v62 ++ [x80]), (v63 ++ [x77]), rfl, h⟩)
    · obtain rfl := some_inj h
      exact rK cfg_ok 1 [([], [], [(2, .val (jI (bg2.length : Int)))])] [some false] [] [0, 1, 2] [0, 1, 2, 7, 8, 9, 10] (.exit 0) ((f4n2E ba1 bg2 bb3 bf4 (.exit0 v61 v62 v63)).2) (ap (len_cv (xs := bg2) (c := NettingFlow.cells)) (ap h65 an)) (LoopQ.out rfl rfl)
noncomputable def f4n2L (ba1 : List NettingSet) (bg2 : List NettingFlow) (bb3 : ByteArray) (bf4 : Bool) : List NettingFlow → Int → (List NettingFlow) → (List NettingFlow) → (List NettingFlow) → Option f4n2O
  | [], v60, v61, v62, v63 =>
    some (.exit0 v61 v62 v63)
  | x0 :: rest, v60, v61, v62, v63 =>
    (at? bg2 (wr64 ((wr64 ((bg2.length : Int) - 1)) - v60))).bind fun x77 =>
    req (fit (v61.length + 1) 80) <|
    bif (seq x0.Set str_x) then
      bif (seq x77.Set str_x) then
        (f4n2L ba1 bg2 bb3 bf4 rest (v60 + 1) (v61 ++ [x77]) v62 v63)
      else
        req (fit (v63.length + 1) 80) <|
        (f4n2L ba1 bg2 bb3 bf4 rest (v60 + 1) (v61 ++ [x77]) v62 (v63 ++ [x77]))
    else
      req (fit (v62.length + 1) 80) <|
      bif (seq x77.Set str_x) then
        (f4n2L ba1 bg2 bb3 bf4 rest (v60 + 1) (v61 ++ [x77]) (v62 ++ [x0]) v63)
      else
        req (fit (v63.length + 1) 80) <|
        (f4n2L ba1 bg2 bb3 bf4 rest (v60 + 1) (v61 ++ [x77]) (v62 ++ [x0]) (v63 ++ [x77]))
theorem f4n2L_eq (ba1 : List NettingSet) (bg2 : List NettingFlow) (bb3 : ByteArray) (bf4 : Bool) : ∀ (rest : List NettingFlow) (f k : Nat) (v61 : List NettingFlow) (v62 : List NettingFlow) (v63 : List NettingFlow), bg2.drop k = rest → bg2.length ≤ maxLen → rest.length < f → f4n2 f ba1 bg2 bb3 bf4 (k : Int) v61 v62 v63 = f4n2L ba1 bg2 bb3 bf4 rest (k : Int) v61 v62 v63
  | _, 0, _, _, _, _, _, _, hf => absurd hf (Nat.not_lt_zero _)
  | [], f + 1, k, v61, v62, v63, hd, hm, hf => by
    have hk : ¬ ((k : Int) < (bg2.length : Int)) := by have := drop_nil hd; omega
    rw [f4n2, f4n2L]
    simp only [decide_eq_false hk, cond_false]
  | x0 :: rest, f + 1, k, v61, v62, v63, hd, hm, hf => by
    obtain ⟨hx, hlt, hd'⟩ := drop_cons hd
    have hk : (k : Int) < (bg2.length : Int) := by omega
    have hw : wr64 ((k : Int) + 1) = (k : Int) + 1 := wr64_of (by omega) (by unfold maxLen at hm; omega)
    have ih : ∀ (v61 : List NettingFlow) (v62 : List NettingFlow) (v63 : List NettingFlow), f4n2 f ba1 bg2 bb3 bf4 ((k : Int) + 1) v61 v62 v63 = f4n2L ba1 bg2 bb3 bf4 rest ((k : Int) + 1) v61 v62 v63 := fun v61 v62 v63 => f4n2L_eq ba1 bg2 bb3 bf4 rest f (k + 1) v61 v62 v63 hd' hm (by simpa using hf)
    rw [f4n2, f4n2L]
    simp only [decide_eq_true hk, cond_true, at_nat, hx, Option.bind_some, hw, ih]
theorem f4n2_run (ba1 : List NettingSet) (bg2 : List NettingFlow) (bb3 : ByteArray) (bf4 : Bool) (v61 : List NettingFlow) (v62 : List NettingFlow) (v63 : List NettingFlow) (hm : bg2.length ≤ maxLen) : f4n2 FUEL ba1 bg2 bb3 bf4 0 v61 v62 v63 = f4n2L ba1 bg2 bb3 bf4 bg2 0 v61 v62 v63 := f4n2L_eq ba1 bg2 bb3 bf4 bg2 FUEL 0 v61 v62 v63 List.drop_zero hm (lt_FUEL hm)
inductive f4n1O where
  | norm (v96 : List NettingFlow) (v97 : List NettingFlow) (v98 : List NettingFlow)
def f4n1E (ba1 : List NettingSet) (bg2 : List NettingFlow) (bb3 : ByteArray) (bf4 : Bool) : f4n1O → Ex × Tr × Hp
  | .norm v96 v97 v98 => (.norm, mkS [(0, (jL 3 NettingSet.cells ba1)), (1, (jL 6 NettingFlow.cells bg2)), (2, (jS bb3)), (7, (jB bf4)), (8, (.own 0)), (9, (.own 1)), (10, (.own 2))], [jR 6 NettingFlow.cells v96, jR 6 NettingFlow.cells v97, jR 6 NettingFlow.cells v98])
def f4n1S (ba1 : List NettingSet) (bg2 : List NettingFlow) (bb3 : ByteArray) (bf4 : Bool) : Tr × Hp := (mkS [(0, (jL 3 NettingSet.cells ba1)), (1, (jL 6 NettingFlow.cells bg2)), (2, (jS bb3)), (7, (jB bf4)), (8, (.pl (.sl .nil 0 []))), (9, (.pl (.sl .nil 0 []))), (10, (.pl (.sl .nil 0 [])))], [])
noncomputable def f4n1 (ba1 : List NettingSet) (bg2 : List NettingFlow) (bb3 : ByteArray) (bf4 : Bool) : Option f4n1O :=
  (f4n2 FUEL ba1 bg2 bb3 bf4 0 [] [] []).bind fun o91 => match o91 with
  | .exit0 v93 v94 v95 => some (.norm v93 v94 v95)
theorem f4n1_ok (ba1 : List NettingSet) (bg2 : List NettingFlow) (bb3 : ByteArray) (bf4 : Bool) {o : f4n1O} (h : (f4n1 ba1 bg2 bb3 bf4) = some o) : T Try.prog Try.f4.ntmps 0 (cL (dropC 4 c4)) (f4n1S ba1 bg2 bb3 bf4) (fun r => r = f4n1E ba1 bg2 bb3 bf4 o) := by
  unfold f4n1 at h
  refine rN cfg_ok 1 [j3] [] [.mat 8 6, .mat 9 6, .mat 10 6] [0, 1, 2] [0, 1, 2, 7, 8, 9, 10, 11] (f4n2S ba1 bg2 bb3 bf4 0 [] [] []) an ?_
  obtain ⟨o91, h92, h⟩ := bind_cases h
  cases o91 with
  | exit0 v93 v94 v95 =>
    obtain rfl := some_inj h
    exact T.last' (T.bl (i := 0) (by kernel_rfl) (by kernel_rfl) (f4n2_ok FUEL ba1 bg2 bb3 bf4 0 [] [] [] h92)) (tds := []) (m := [0, 1, 2]) (keep := [0, 1, 2, 7, 8, 9, 10]) (st2 := (f4n1E ba1 bg2 bb3 bf4 (.norm v93 v94 v95)).2) (by kernel_rfl) an rfl
inductive f4n0O where
  | ret (v145 : Bool)
def f4n0E (a1 : List NettingSet) (a2 : List NettingFlow) (a3 : ByteArray) : f4n0O → Ex × Tr × Hp
  | .ret v145 => (.ret, mkS [(6, (jB v145))], [])
def f4n0S (a1 : List NettingSet) (a2 : List NettingFlow) (a3 : ByteArray) : Tr × Hp := (initS [(jL 3 NettingSet.cells a1), (jL 6 NettingFlow.cells a2), (jS a3)] 0 .leaf, [])
noncomputable def f4n0 (a1 : List NettingSet) (a2 : List NettingFlow) (a3 : ByteArray) : Option f4n0O :=
  f11.bind fun x6 =>
  (f12 a1 a2).bind fun x12 =>
  bif x12 then
    some (.ret x6)
  else
    bif x6 then
      (f4n1 a1 a2 a3 x6).bind fun o99 => match o99 with
      | .norm v101 v102 v103 => (f14r1 a2).bind fun x108 =>
        (f16 a3 x108).bind fun x110 =>
        (f16 a3 v101).bind fun x114 =>
        (f13 a1 v102).bind fun x118 =>
        (f13 a1 v103).bind fun x122 =>
        bif (decide (x110.2 = x114.2)) then
          (f17 x110.1 x114.1).bind fun x139 =>
          bif x139 then
            bif (decide (x118.2 = x122.2)) then
              (f17 x118.1 x122.1).bind fun x143 =>
              some (.ret x143)
            else
              some (.ret false)
          else
            some (.ret false)
        else
          some (.ret false)
    else
      some (.ret x6)
theorem f4n0_ok (a1 : List NettingSet) (a2 : List NettingFlow) (a3 : ByteArray) {o : f4n0O} (h : (f4n0 a1 a2 a3) = some o) : T Try.prog Try.f4.ntmps 0 c4 (f4n0S a1 a2 a3) (fun r => r = f4n0E a1 a2 a3 o) := by
  unfold f4n0 at h
  obtain ⟨x6, h7, h⟩ := bind_cases h
  obtain ⟨x12, h13, h⟩ := bind_cases h
  rcases cond_cases h with ⟨h14, h⟩ | ⟨h14, h⟩
  · obtain rfl := some_inj h
    exact rK cfg_ok 3 [j3, ([], [jH 0 (jB x6)], []), ([(4, true), (5, true)], [jH 2 (jB x12), (6, .bool true)], []), j3] [none] [] [] [6] .ret ((f4n0E a1 a2 a3 (.ret x6)).2) (ap (f11_ok h7) (ap3 h14 (ap (f12_ok a1 a2 h13) an))) rfl
  · rcases cond_cases h with ⟨h15, h⟩ | ⟨h15, h⟩
    · refine rN cfg_ok 4 [j3, ([], [jH 0 (jB x6)], []), ([(4, false), (5, false)], [jH 2 (jB x12), (6, .bool false)], []), j3] [some false] [] [] [0, 1, 2, 7, 8, 9, 10] (f4n1S a1 a2 a3 x6) (ap (f11_ok h7) (ap3 h14 (ap (f12_ok a1 a2 h13) (ap (not_t h15) an)))) ?_
      obtain ⟨o99, h100, h⟩ := bind_cases h
      cases o99 with
      | norm v101 v102 v103 =>
        refine T.oneN (by kernel_rfl) (f4n1_ok a1 a2 a3 x6 h100) (st2 := (f4n1E a1 a2 a3 x6 (.norm v101 v102 v103)).2) rfl ?_
        obtain ⟨x108, h109, h⟩ := bind_cases h
        obtain ⟨x110, h111, h⟩ := bind_cases h
        obtain ⟨x114, h115, h⟩ := bind_cases h
        obtain ⟨x118, h119, h⟩ := bind_cases h
        obtain ⟨x122, h123, h⟩ := bind_cases h
        refine rN cfg_ok 4 [([], [(2, .call (.own 3) (jN 3 [jR 6 NettingFlow.cells x108])), jH 3 (.tup [(jL 6 NettingFlow.cells x110.1), (jI x110.2)])], []), ([], [jH 2 (.tup [(jL 6 NettingFlow.cells x114.1), (jI x114.2)])], []), ([], [jH 2 (.tup [(jL 6 NettingFlow.cells x118.1), (jI x118.2)])], []), ([], [jH 2 (.tup [(jL 6 NettingFlow.cells x122.1), (jI x122.2)])], [])] [] [] [] [7, 12, 13, 14, 15, 16, 17, 18, 19] (mkS [(7, (jB x6)), (12, (jL 6 NettingFlow.cells x110.1)), (13, (jI x110.2)), (14, (jL 6 NettingFlow.cells x114.1)), (15, (jI x114.2)), (16, (jL 6 NettingFlow.cells x118.1)), (17, (jI x118.2)), (18, (jL 6 NettingFlow.cells x122.1)), (19, (jI x122.2))], []) (ap (CallS.rn 3 [] (f14r1_ok a2 h109)) (ap (f16_ok a3 x108 h111) (ap (f16_ok a3 v101 h115) (ap (f13_ok a1 v102 h119) (ap (f13_ok a1 v103 h123) an))))) ?_
        rcases cond_cases h with ⟨h138, h⟩ | ⟨h138, h⟩
        · obtain ⟨x139, h140, h⟩ := bind_cases h
          rcases cond_cases h with ⟨h141, h⟩ | ⟨h141, h⟩
          · rcases cond_cases h with ⟨h142, h⟩ | ⟨h142, h⟩
            · obtain ⟨x143, h144, h⟩ := bind_cases h
              obtain rfl := some_inj h
              exact rE cfg_ok [(jT [2, 3, 4, 7, 8, 9, 12, 13, 14, 17, 18, 19], [(5, .bool true), jH 9 (jB x139), (10, .bool true), (15, .bool true), jH 19 (jB x143), (20, .bool true)], [])] [] [] [] [6] (.ret, (f4n0E a1 a2 a3 (.ret x143)).2) (ap4 h15 (ap4 h138 (ap4 h141 (ap4 h142 (ap (f17_ok x110.1 x114.1 h140) (ap (f17_ok x118.1 x122.1 h144) an)))))) rfl
            · obtain rfl := some_inj h
              exact rE cfg_ok [(jF [17, 18, 19] ++ jT [2, 3, 4, 7, 8, 9, 12, 13, 14], [(5, .bool true), jH 9 (jB x139), (10, .bool true), (15, .bool true), (20, .bool false)], [])] [] [] [] [6] (.ret, (f4n0E a1 a2 a3 (.ret false)).2) (ap4 h15 (ap4 h138 (ap4 h141 (ap4 h142 (ap (f17_ok x110.1 x114.1 h140) an))))) rfl
          · obtain rfl := some_inj h
            exact rE cfg_ok [(jF [12, 13, 14] ++ jT [2, 3, 4, 7, 8, 9], [(5, .bool true), jH 9 (jB x139), (10, .bool true), (15, .bool false)], [])] [] [] [] [6] (.ret, (f4n0E a1 a2 a3 (.ret false)).2) (ap4 h15 (ap4 h138 (ap4 h141 (ap (f17_ok x110.1 x114.1 h140) an)))) rfl
        · obtain rfl := some_inj h
          exact rE cfg_ok [(jF [7, 8, 9] ++ jT [2, 3, 4], [(5, .bool true), (10, .bool false)], [])] [] [] [] [6] (.ret, (f4n0E a1 a2 a3 (.ret false)).2) (ap4 h15 (ap4 h138 an)) rfl
    · obtain rfl := some_inj h
      exact rK cfg_ok 3 [j3, ([], [jH 0 (jB x6)], []), ([(4, false), (5, false)], [jH 2 (jB x12), (6, .bool false)], []), j3] [some true] [] [] [6] .ret ((f4n0E a1 a2 a3 (.ret x6)).2) (ap (f11_ok h7) (ap3 h14 (ap (f12_ok a1 a2 h13) (ap (not_f h15) an)))) rfl
noncomputable def f4 (a1 : List NettingSet) (a2 : List NettingFlow) (a3 : ByteArray) : Option Bool := (f4n0 a1 a2 a3).bind fun o => match o with
  | .ret v145 => some v145
theorem f4_ok (a1 : List NettingSet) (a2 : List NettingFlow) (a3 : ByteArray) {r : Bool} (h : (f4 a1 a2 a3) = some r) : CallS Try.prog false 4 [(jL 3 NettingSet.cells a1), (jL 6 NettingFlow.cells a2), (jS a3)] [] (jB r) [] := by
  unfold f4 at h
  obtain ⟨o, ho, h⟩ := bind_cases h
  cases o with
  | ret v145 =>
    obtain rfl := some_inj h
    exact CallS.plain cfg_ok (f := Try.f4) (c := c4) (by kernel_rfl) (by kernel_rfl) (by kernel_rfl) (by kernel_rfl) ((f4n0_ok a1 a2 a3 ho).mono fun r e => by subst e; exact ⟨.inl rfl, (jB v145), (jB v145), by kernel_rfl, by kernel_rfl, ((Wk.refl _) : Wk (jB v145) (jB v145))⟩)


end Go.Proofs.Ytkcafackfihmiaa
namespace Go.Proofs.Ytkcafackfihmiaa
set_option linter.unusedVariables false
set_option linter.unusedSimpArgs false
set_option maxRecDepth 100000
open Go.RowKit

noncomputable def c6 : Code := Try.f6.body.getD .skip



noncomputable def c7 : Code := Try.f7.body.getD .skip

end Go.Proofs.Ytkcafackfihmiaa
namespace Go.Proofs.Ytkcafackfihmiaa
set_option linter.unusedVariables false
set_option linter.unusedSimpArgs false
set_option maxRecDepth 100000
open Go.RowKit
end Go.Proofs.Ytkcafackfihmiaa
namespace Go.Proofs.Ytkcafackfihmiaa
set_option linter.unusedVariables false
set_option linter.unusedSimpArgs false
open Go.RowKit
section
variable {c : NettingFlow → NettingFlow → Int} (hc : ∀ x y, f55 x y = some (c x y)) (o : SWo fun x y => decide (c x y < 0))
abbrev st_lt (c : NettingFlow → NettingFlow → Int) : NettingFlow → NettingFlow → Bool := fun x y => decide (c x y < 0)
include hc o in
theorem st_ins_in (a b i : Int) : ∀ (n : Nat) (S P R : List NettingFlow) (x : NettingFlow) (f : Nat), S.length = n → n < f → P.length + n ≤ 1000000 → Sd (st_lt c) S →
    ∃ S', f81r1n2 f a b i ((P.length + n : Nat) : Int) (P ++ (S ++ x :: R)) = some (.exit2 (P ++ (S' ++ R))) ∧ Sd (st_lt c) S' ∧ Cl (st_lt c) (S ++ [x]) S' ∨ a ≠ (P.length : Int)
  | _, S, P, R, x, 0, _, h, _, _ => absurd h (Nat.not_lt_zero _)
  | n, S, P, R, x, f + 1, hn, hf, hb, hs => by
    by_cases ha : a = (P.length : Int)
    · subst ha
      rcases List.eq_nil_or_concat S with rfl | ⟨S0, y, rfl⟩
      · refine ⟨[x], .inl ⟨?_, by simp, Cl.refl _⟩⟩
        have : n = 0 := by simpa using hn.symm
        subst this
        rw [f81r1n2, decide_eq_false (by omega), cond_false]; simp
      · rw [List.concat_eq_append] at hn hs ⊢
        have hn' : n = S0.length + 1 := by simpa using hn.symm
        subst hn'
        have e1 : P ++ ((S0 ++ [y]) ++ x :: R) = (P ++ S0) ++ y :: x :: R := by simp
        have e2 : P ++ ((S0 ++ [y]) ++ x :: R) = ((P ++ S0) ++ [y]) ++ x :: R := by simp
        have k1 : wr64 (((P.length + (S0.length + 1) : Nat) : Int) - 1) = ((P.length + S0.length : Nat) : Int) := by rw [wrIn (by omega) (by omega)]; omega
        rw [f81r1n2, decide_eq_true (by omega), cond_true, k1, at_len (k := P.length + (S0.length + 1)) e2 (by simp <;> omega), at_len (k := P.length + S0.length) e1 (by simp)]
        simp only [Option.bind_some, hc]
        rw [show (Int.toNat ((P.length + (S0.length + 1) : Nat) : Int)) = P.length + (S0.length + 1) from rfl, show (Int.toNat ((P.length + S0.length : Nat) : Int)) = P.length + S0.length from rfl, set_len (k := P.length + (S0.length + 1)) (y := y) e2 (by simp <;> omega)]
        have e3 : ((P ++ S0) ++ [y]) ++ y :: R = (P ++ S0) ++ y :: y :: R := by simp
        rw [at_len (k := P.length + S0.length) e3 (by simp), set_len (k := P.length + S0.length) (y := x) e3 (by simp)]
        cases hlt : decide (c x y < 0) with
        | true =>
          have hs' := List.pairwise_append.1 hs
          rcases st_ins_in (P.length : Int) b i S0.length S0 P (y :: R) x f rfl (by omega) (by omega) hs'.1 with ⟨S', h | h⟩
          · obtain ⟨h1, h2, h3⟩ := h
            simp only [cond_true, Option.bind_some]
            rw [show (P ++ S0) ++ x :: y :: R = P ++ (S0 ++ x :: (y :: R)) by simp, h1]
            refine ⟨S' ++ [y], .inl ⟨by simp, h2.app (by simp) fun z hz w hw => ?_, ?_⟩⟩
            · rw [List.mem_singleton.1 hw]
              rcases List.mem_append.1 (h3.mem.1 hz) with hz | hz
              · exact hs'.2.2 z hz y (by simp)
              · rw [List.mem_singleton.1 hz]; exact o.asym hlt
            · have e := (Cl.refl (lt := st_lt c) S0).app (Cl.swap (lt := st_lt c) (u := [y]) (v := [x]) o (fun a ha b hb => by rw [List.mem_singleton.1 ha, List.mem_singleton.1 hb]; exact hlt))
              have e' := e.trans (by simpa using h3.app (Cl.refl (lt := st_lt c) [y]) : Cl (st_lt c) (S0 ++ ([x] ++ [y])) (S' ++ [y]))
              simpa using e'
          · exact absurd rfl h
        | false =>
          refine ⟨(S0 ++ [y]) ++ [x], .inl ⟨by simp, hs.app (by simp) fun z hz w hw => ?_, Cl.refl _⟩⟩
          rw [List.mem_singleton.1 hw]
          rcases List.mem_append.1 hz with hz | hz
          · exact o.nt hlt ((List.pairwise_append.1 hs).2.2 z hz y (by simp))
          · rw [List.mem_singleton.1 hz]; exact hlt
    · exact ⟨[], .inr ha⟩
include hc o in
theorem st_ins_out : ∀ (X S P R : List NettingFlow) (f : Nat), X.length < f → P.length + S.length + X.length ≤ 1000000 → Sd (st_lt c) S →
    ∃ S', f81r1n3 f (P.length : Int) ((P.length + S.length + X.length : Nat) : Int) ((P.length + S.length : Nat) : Int) (P ++ (S ++ (X ++ R))) = some (.exit0 (P ++ (S' ++ R))) ∧ Sd (st_lt c) S' ∧ Cl (st_lt c) (S ++ X) S'
  | _, S, P, R, 0, h, _, _ => absurd h (Nat.not_lt_zero _)
  | [], S, P, R, f + 1, _, _, hs => ⟨S, by rw [f81r1n3, decide_eq_false (by simp), cond_false]; simp, hs, by simpa using Cl.refl _⟩
  | x :: X, S, P, R, f + 1, hf, hb, hs => by
    simp only [List.length_cons] at hf hb
    rcases st_ins_in hc o (P.length : Int) ((P.length + S.length + (x :: X).length : Nat) : Int) ((P.length + S.length : Nat) : Int) S.length S P (X ++ R) x FUEL rfl (lt_FUEL (Nat.le_trans (by omega : S.length ≤ 1000000) (by unfold maxLen; decide))) (by omega) hs with ⟨S1, h | h⟩
    · obtain ⟨h1, h2, h3⟩ := h
      have hl := h3.len
      simp only [List.length_append, List.length_cons, List.length_nil] at hl
      obtain ⟨S', k1, k2, k3⟩ := st_ins_out X S1 P R f (by omega) (by omega) h2
      refine ⟨S', ?_, k2, ?_⟩
      · rw [f81r1n3, decide_eq_true (by simp only [List.length_cons]; omega), cond_true]
        unfold f81r1n1
        rw [show P ++ (S ++ (x :: X ++ R)) = P ++ (S ++ x :: (X ++ R)) by simp, h1]
        simp only [Option.bind_some]
        rw [show wr64 (((P.length + S.length : Nat) : Int) + 1) = ((P.length + S1.length : Nat) : Int) by rw [wrIn (by omega) (by omega)]; omega]
        rw [show ((P.length + S.length + (x :: X).length : Nat) : Int) = ((P.length + S1.length + X.length : Nat) : Int) by simp only [List.length_cons]; omega]
        exact k1
      · have := (h3.app (Cl.refl (lt := st_lt c) X)).trans k3
        simpa using this
    · exact absurd rfl h
include hc o in
theorem st_ins_ok (P X R : List NettingFlow) (hb : P.length + X.length ≤ 1000000) : f81r1 (P.length : Int) ((P.length + X.length : Nat) : Int) (P ++ (X ++ R)) = some (P ++ (sortS (st_lt c) X ++ R)) := by
  have main : f81r1n3 FUEL (P.length : Int) ((P.length + X.length : Nat) : Int) (wr64 ((P.length : Int) + 1)) (P ++ (X ++ R)) = some (.exit0 (P ++ (sortS (st_lt c) X ++ R))) := by
    rw [show wr64 ((P.length : Int) + 1) = ((P.length + 1 : Nat) : Int) by rw [wrIn (by omega) (by omega)]; omega]
    have hF : ∀ n : Nat, n ≤ 1000000 → n < FUEL := fun n hn => lt_FUEL (Nat.le_trans hn (by unfold maxLen; decide))
    cases X with
    | nil =>
      have : FUEL = (FUEL - 1) + 1 := by decide
      rw [this, f81r1n3, decide_eq_false (by simp <;> omega), cond_false]; rfl
    | cons x X =>
      simp only [List.length_cons] at hb
      obtain ⟨S', k1, k2, k3⟩ := st_ins_out hc o X [x] P R FUEL (hF _ (by omega)) (by simp <;> omega) (by simp)
      rw [sortS_of o k2 k3] at k1
      simp only [List.length_cons, List.length_nil, List.cons_append, List.nil_append] at k1 ⊢
      rw [show P.length + (X.length + 1) = P.length + (0 + 1) + X.length by omega, show P.length + 1 = P.length + (0 + 1) by omega]
      exact k1
  unfold f81r1 f81r1n0
  rw [main]; rfl
end
theorem st_swp_at : ∀ (X Y A M S : List NettingFlow) (a b i n : Nat) (f : Nat), X.length = Y.length → X.length < f → a + i = A.length → b + i = A.length + X.length + M.length → n = i + X.length → A.length + X.length + M.length + Y.length ≤ 1000000 →
    f90r1n1 f (a : Int) (b : Int) (n : Int) (i : Int) (A ++ (X ++ (M ++ (Y ++ S)))) = some (.exit0 (A ++ (Y ++ (M ++ (X ++ S)))))
  | _, _, _, _, _, _, _, _, _, 0, _, h, _, _, _, _ => absurd h (Nat.not_lt_zero _)
  | [], [], A, M, S, a, b, i, n, f + 1, _, _, _, _, hn, _ => by rw [f90r1n1, decide_eq_false (by simp at hn; omega), cond_false]
  | [], y :: Y, _, _, _, _, _, _, _, _ + 1, h, _, _, _, _, _ => absurd h (by simp)
  | x :: X, [], _, _, _, _, _, _, _, _ + 1, h, _, _, _, _, _ => absurd h (by simp)
  | x :: X, y :: Y, A, M, S, a, b, i, n, f + 1, h, hf, ha, hb, hn, hl => by
    simp only [List.length_cons] at h hf hb hn hl
    have e1 : A ++ (x :: X ++ (M ++ (y :: Y ++ S))) = A ++ x :: (X ++ (M ++ (y :: Y ++ S))) := by simp
    have e2 : A ++ (x :: X ++ (M ++ (y :: Y ++ S))) = (A ++ (x :: X ++ M)) ++ y :: (Y ++ S) := by simp
    have e3 : A ++ y :: (X ++ (M ++ (y :: Y ++ S))) = (A ++ (y :: X ++ M)) ++ y :: (Y ++ S) := by simp
    have k1 : wr64 ((a : Int) + (i : Int)) = ((a + i : Nat) : Int) := by rw [wrIn (by omega) (by omega)]; omega
    have k2 : wr64 ((b : Int) + (i : Int)) = ((b + i : Nat) : Int) := by rw [wrIn (by omega) (by omega)]; omega
    have k3 : wr64 ((i : Int) + 1) = ((i + 1 : Nat) : Int) := by rw [wrIn (by omega) (by omega)]; omega
    rw [f90r1n1, decide_eq_true (by omega), cond_true, k1, k2, k3, at_len e2 (by simp <;> omega), at_len e1 ha]
    simp only [Option.bind_some]
    rw [show (Int.toNat ((a + i : Nat) : Int)) = a + i from rfl, show (Int.toNat ((b + i : Nat) : Int)) = b + i from rfl, set_len (y := y) e1 ha, at_len e3 (by simp <;> omega), set_len (y := x) e3 (by simp <;> omega)]
    simp only [Option.bind_some]
    have ih := st_swp_at X Y (A ++ [y]) (M ++ [x]) S a b (i + 1) n f (by omega) (by omega) (by simp <;> omega) (by simp <;> omega) (by omega) (by simp <;> omega)
    rw [show (A ++ (y :: X ++ M)) ++ x :: (Y ++ S) = (A ++ [y]) ++ (X ++ ((M ++ [x]) ++ (Y ++ S))) by simp, ih]
    simp
theorem st_swp_ok (P X M Y S : List NettingFlow) {a b n : Nat} (h : X.length = Y.length) (ha : a = P.length) (hb : b = P.length + X.length + M.length) (hn : n = X.length) (hl : P.length + X.length + M.length + Y.length ≤ 1000000) :
    f90r1 (a : Int) (b : Int) (n : Int) (P ++ (X ++ (M ++ (Y ++ S)))) = some (P ++ (Y ++ (M ++ (X ++ S)))) := by
  have k := st_swp_at X Y P M S a b 0 n FUEL h (lt_FUEL (Nat.le_trans (by omega : X.length ≤ 1000000) (by unfold maxLen; decide))) (by omega) (by omega) (by omega) hl
  unfold f90r1 f90r1n0
  rw [show (0 : Int) = ((0 : Nat) : Int) from rfl, k]; rfl

theorem st_rot_at : ∀ (n : Nat) (P U V S : List NettingFlow) (f m : Nat), U.length + V.length ≤ n → n < f → 0 < U.length → 0 < V.length → m = P.length + U.length → P.length + U.length + V.length ≤ 1000000 →
    ∃ i l, f88r1n1 f (m : Int) (U.length : Int) (V.length : Int) (P ++ (U ++ (V ++ S))) = some (.exit0 i l) ∧ f90r1 (wr64 ((m : Int) - i)) (m : Int) i l = some (P ++ (V ++ (U ++ S)))
  | _, _, _, _, _, 0, _, _, h, _, _, _, _ => absurd h (Nat.not_lt_zero _)
  | 0, _, _, _, _, _ + 1, _, h, _, hu, _, _, _ => by omega
  | n + 1, P, U, V, S, f + 1, m, h, hf, hu, hv, hm, hl => by
    rw [f88r1n1]
    by_cases he : U.length = V.length
    · rw [decide_eq_true (by omega), cond_true]
      refine ⟨_, _, rfl, ?_⟩
      rw [show wr64 ((m : Int) - (U.length : Int)) = ((P.length : Nat) : Int) by rw [wrIn (by omega) (by omega)]; omega]
      have := st_swp_ok P U [] V S (a := P.length) (b := m) (n := U.length) he rfl (by simp <;> omega) rfl (by simp <;> omega)
      simpa using this
    · rw [decide_eq_false (by omega), cond_false]
      by_cases hlt : V.length < U.length
      · rw [decide_eq_true (by omega), cond_true]
        obtain ⟨U1, U2, rfl, hU1⟩ := cutL_ (l := U) (n := V.length) (by omega)
        simp only [List.length_append] at *
        rw [show wr64 ((m : Int) - ((U1.length + U2.length : Nat) : Int)) = ((P.length : Nat) : Int) by rw [wrIn (by omega) (by omega)]; omega]
        have k := st_swp_ok P U1 U2 V S (a := P.length) (b := m) (n := V.length) hU1 rfl (by omega) hU1.symm (by omega)
        rw [show P ++ ((U1 ++ U2) ++ (V ++ S)) = P ++ (U1 ++ (U2 ++ (V ++ S))) by simp, k]
        simp only [Option.bind_some]
        obtain ⟨i, l, q1, q2⟩ := st_rot_at n (P ++ V) U2 U1 S f m (by omega) (by omega) (by omega) (by omega) (by simp <;> omega) (by simp <;> omega)
        refine ⟨i, l, ?_, by rw [q2]; simp⟩
        rw [show wr64 (((U1.length + U2.length : Nat) : Int) - (V.length : Int)) = ((U2.length : Nat) : Int) by rw [wrIn (by omega) (by omega)]; omega, ← hU1]
        rw [show P ++ (V ++ (U2 ++ (U1 ++ S))) = (P ++ V) ++ (U2 ++ (U1 ++ S)) by simp]
        exact q1
      · rw [decide_eq_false (by omega), cond_false]
        obtain ⟨V1, V2, rfl, hV2⟩ := cutR_ (l := V) (n := U.length) (by omega)
        simp only [List.length_append] at *
        rw [show wr64 ((m : Int) - (U.length : Int)) = ((P.length : Nat) : Int) by rw [wrIn (by omega) (by omega)]; omega]
        rw [show wr64 (wr64 ((m : Int) + ((V1.length + V2.length : Nat) : Int)) - (U.length : Int)) = ((m + V1.length : Nat) : Int) by rw [wrIn (n := (m : Int) + ((V1.length + V2.length : Nat) : Int)) (by omega) (by omega), wrIn (by omega) (by omega)]; omega]
        have k := st_swp_ok P U V1 V2 S (a := P.length) (b := m + V1.length) (n := U.length) hV2.symm rfl (by omega) rfl (by omega)
        rw [show P ++ (U ++ ((V1 ++ V2) ++ S)) = P ++ (U ++ (V1 ++ (V2 ++ S))) by simp, k]
        simp only [Option.bind_some]
        obtain ⟨i, l, q1, q2⟩ := st_rot_at n P V2 V1 (U ++ S) f m (by omega) (by omega) (by omega) (by omega) (by omega) (by omega)
        refine ⟨i, l, ?_, by rw [q2]; simp⟩
        rw [show wr64 (((V1.length + V2.length : Nat) : Int) - (U.length : Int)) = ((V1.length : Nat) : Int) by rw [wrIn (by omega) (by omega)]; omega, ← hV2]
        exact q1
theorem st_rot_ok (P U V S : List NettingFlow) {a m b : Nat} (ha : a = P.length) (hm : m = P.length + U.length) (hb : b = P.length + U.length + V.length) (hu : 0 < U.length) (hv : 0 < V.length) (hl : P.length + U.length + V.length ≤ 1000000) :
    f88r1 (a : Int) (m : Int) (b : Int) (P ++ (U ++ (V ++ S))) = some (P ++ (V ++ (U ++ S))) := by
  obtain ⟨i, l, q1, q2⟩ := st_rot_at (U.length + V.length) P U V S FUEL m (Nat.le_refl _) (lt_FUEL (Nat.le_trans (by omega : U.length + V.length ≤ 1000000) (by unfold maxLen; decide))) hu hv hm hl
  unfold f88r1 f88r1n0
  rw [show wr64 ((m : Int) - (a : Int)) = ((U.length : Nat) : Int) by rw [wrIn (by omega) (by omega)]; omega, show wr64 ((b : Int) - (m : Int)) = ((V.length : Nat) : Int) by rw [wrIn (by omega) (by omega)]; omega, q1]
  simp only [Option.bind_some, q2]
end Go.Proofs.Ytkcafackfihmiaa
namespace Go.Proofs.Ytkcafackfihmiaa
set_option linter.unusedVariables false
set_option linter.unusedSimpArgs false
open Go.RowKit
abbrev st_self := Int → Int → Int → List NettingFlow → Option (List NettingFlow)
theorem st_half {a b : Nat} (h : a + b ≤ 1000000000) : wr64 (shrK .u64 (wru64 (wr64 ((a : Int) + (b : Int)))) 1) = (((a + b) / 2 : Nat) : Int) := by
  rw [show (a : Int) + (b : Int) = ((a + b : Nat) : Int) by omega]; exact half_eq h
section
variable {c : NettingFlow → NettingFlow → Int} (hc : ∀ x y, f55 x y = some (c x y)) (self : st_self)
include hc
theorem st_n3 {l : List NettingFlow} {x : NettingFlow} {a : Int} (hx : at? l a = some x) (hl : l.length ≤ 1000000) : ∀ (f lo hi : Nat), hi ≤ l.length → lo ≤ 1000000 → f82r1n3 self f a l (lo : Int) (hi : Int) = (bsN (pq (fun y => decide (c y x < 0)) l) f lo hi).map fun r => .exit0 (r : Int)
  | 0, lo, hi, _, _ => rfl
  | f + 1, lo, hi, h, h0 => by
    rw [f82r1n3, bsN]
    by_cases hlt : lo < hi
    · have hk : (lo + hi) / 2 < l.length := by omega
      rw [decide_eq_true hlt, decide_eq_true (by omega : (lo : Int) < (hi : Int)), st_half (by omega), at_in hk, hx]
      simp only [cond_true, Option.bind_some, hc]
      have ep : pq (fun y => decide (c y x < 0)) l ((lo + hi) / 2) = decide (c l[(lo + hi) / 2] x < 0) := by unfold pq; rw [List.getElem?_eq_getElem hk]
      rw [ep]
      cases decide (c l[(lo + hi) / 2] x < 0) with
      | true => rw [cond_true, cond_true, show wr64 ((((lo + hi) / 2 : Nat) : Int) + 1) = (((lo + hi) / 2 + 1 : Nat) : Int) by rw [wrIn (by omega) (by omega)]; omega]; exact st_n3 hx hl f _ _ h (by omega)
      | false => rw [cond_false, cond_false]; exact st_n3 hx hl f _ _ (by omega) h0
    · rw [decide_eq_false hlt, decide_eq_false (by omega : ¬ (lo : Int) < (hi : Int))]; rfl
theorem st_n8 {l : List NettingFlow} {x : NettingFlow} {a : Int} (hx : at? l a = some x) (hl : l.length ≤ 1000000) : ∀ (f lo hi : Nat), hi ≤ l.length → lo ≤ 1000000 → f82r1n8 self f a l (lo : Int) (hi : Int) = (bsN (pq (fun y => !decide (c x y < 0)) l) f lo hi).map fun r => .exit4 (r : Int)
  | 0, lo, hi, _, _ => rfl
  | f + 1, lo, hi, h, h0 => by
    rw [f82r1n8, bsN]
    by_cases hlt : lo < hi
    · have hk : (lo + hi) / 2 < l.length := by omega
      rw [decide_eq_true hlt, decide_eq_true (by omega : (lo : Int) < (hi : Int)), st_half (by omega), at_in hk, hx]
      simp only [cond_true, Option.bind_some, hc]
      have ep : pq (fun y => !decide (c x y < 0)) l ((lo + hi) / 2) = !decide (c x l[(lo + hi) / 2] < 0) := by unfold pq; rw [List.getElem?_eq_getElem hk]
      rw [ep]
      cases decide (c x l[(lo + hi) / 2] < 0) with
      | true => simp only [cond_true, Bool.not_true, cond_false]; exact st_n8 hx hl f _ _ (by omega) h0
      | false => simp only [cond_true, Bool.not_false, cond_false]; rw [show wr64 ((((lo + hi) / 2 : Nat) : Int) + 1) = (((lo + hi) / 2 + 1 : Nat) : Int) by rw [wrIn (by omega) (by omega)]; omega]; exact st_n8 hx hl f _ _ h (by omega)
    · rw [decide_eq_false hlt, decide_eq_false (by omega : ¬ (lo : Int) < (hi : Int))]; rfl
def st_pr (c : NettingFlow → NettingFlow → Int) (l : List NettingFlow) (n h : Nat) : Bool := match l[n - 1 - h]?, l[h]? with | some y, some x => !decide (c y x < 0) | _, _ => false
theorem st_n12 {l : List NettingFlow} {a m b : Nat} (hl : l.length ≤ 1000000) (hb : b ≤ l.length) (ham : a ≤ m) (hmb : m ≤ b) : ∀ (f lo hi : Nat), (∀ h, lo ≤ h → h < hi → h + 1 ≤ (a + b) / 2 + m ∧ (a + b) / 2 + m - 1 - h < l.length ∧ h < l.length) → lo ≤ 1000000 → hi ≤ 1000000 →
    f82r1n12 self f (a : Int) (m : Int) (b : Int) l (lo : Int) (hi : Int) = (bsN (st_pr c l ((a + b) / 2 + m)) f lo hi).map fun r => .exit8 (r : Int)
  | 0, lo, hi, _, _, _ => rfl
  | f + 1, lo, hi, h, h0, h00 => by
    rw [f82r1n12, bsN]
    by_cases hlt : lo < hi
    · obtain ⟨k1, k2, k3⟩ := h ((lo + hi) / 2) (by omega) (by omega)
      rw [decide_eq_true hlt, decide_eq_true (by omega : (lo : Int) < (hi : Int)), st_half (a := lo) (b := hi) (by omega), st_half (a := a) (b := b) (by omega), at_in k3]
      rw [wrIn (n := (((a + b) / 2 : Nat) : Int) + (m : Int)) (by omega) (by omega), wrIn (n := (((a + b) / 2 : Nat) : Int) + (m : Int) - 1) (by omega) (by omega), wrIn (by omega) (by omega)]
      rw [show (((a + b) / 2 : Nat) : Int) + (m : Int) - 1 - (((lo + hi) / 2 : Nat) : Int) = (((a + b) / 2 + m - 1 - (lo + hi) / 2 : Nat) : Int) by omega, at_in k2]
      simp only [cond_true, Option.bind_some, hc]
      have ep : st_pr c l ((a + b) / 2 + m) ((lo + hi) / 2) = !decide (c l[(a + b) / 2 + m - 1 - (lo + hi) / 2] l[(lo + hi) / 2] < 0) := by unfold st_pr; rw [List.getElem?_eq_getElem k3, List.getElem?_eq_getElem k2]
      rw [ep]
      cases decide (c l[(a + b) / 2 + m - 1 - (lo + hi) / 2] l[(lo + hi) / 2] < 0) with
      | true => simp only [cond_true, Bool.not_true, cond_false]; exact st_n12 hl hb ham hmb f _ _ (fun i hi1 hi2 => h i hi1 (by omega)) h0 (by omega)
      | false =>
        simp only [cond_true, Bool.not_false, cond_false]
        rw [show wr64 ((((lo + hi) / 2 : Nat) : Int) + 1) = (((lo + hi) / 2 + 1 : Nat) : Int) by rw [wrIn (by omega) (by omega)]; omega]
        exact st_n12 hl hb ham hmb f _ _ (fun i hi1 hi2 => h i (by omega) hi2) (by omega) h00
    · rw [decide_eq_false hlt, decide_eq_false (by omega : ¬ (lo : Int) < (hi : Int))]; rfl
omit hc
theorem st_n5 : ∀ (Z A R : List NettingFlow) (x : NettingFlow) (f i : Nat), Z.length < f → i = A.length + Z.length + 1 → i ≤ 1000000 → f82r1n5 self f (i : Int) (A.length : Int) (A ++ x :: (Z ++ R)) = some (.exit2 (A ++ (Z ++ x :: R)))
  | _, _, _, _, 0, _, h, _, _ => absurd h (Nat.not_lt_zero _)
  | [], A, R, x, f + 1, i, _, hi, hl => by
    simp only [List.length_nil] at hi
    rw [f82r1n5, wrIn (by omega) (by omega), decide_eq_false (by omega), cond_false]; rfl
  | z :: Z, A, R, x, f + 1, i, hf, hi, hl => by
    simp only [List.length_cons] at hf hi
    have e1 : A ++ x :: (z :: Z ++ R) = (A ++ [x]) ++ z :: (Z ++ R) := by simp
    have e2 : A ++ x :: (z :: Z ++ R) = A ++ x :: (z :: Z ++ R) := rfl
    have e3 : A ++ z :: (z :: Z ++ R) = (A ++ [z]) ++ z :: (Z ++ R) := by simp
    rw [f82r1n5, wrIn (n := (i : Int) - 1) (by omega) (by omega), decide_eq_true (by omega), cond_true, show wr64 ((A.length : Int) + 1) = ((A.length + 1 : Nat) : Int) by rw [wrIn (by omega) (by omega)]; omega]
    rw [at_len e1 (by simp), at_len e2 rfl]
    simp only [Option.bind_some]
    rw [show (Int.toNat (A.length : Int)) = A.length from rfl, show (Int.toNat ((A.length + 1 : Nat) : Int)) = A.length + 1 from rfl, set_len (y := z) e2 rfl, at_len e3 (by simp), set_len (y := x) e3 (by simp)]
    simp only [Option.bind_some]
    have ih := st_n5 Z (A ++ [z]) R x f i (by omega) (by simp <;> omega) hl
    rw [List.length_append] at ih
    simp only [List.length_cons, List.length_nil] at ih
    rw [show A.length + 1 = A.length + (0 + 1) by omega, ih]
    simp
theorem st_n10 : ∀ (n : Nat) (Z A R : List NettingFlow) (x : NettingFlow) (f : Nat), Z.length = n → n < f → A.length + n ≤ 1000000 → f82r1n10 self f (A.length : Int) ((A.length + n : Nat) : Int) (A ++ (Z ++ x :: R)) = some (.exit6 (A ++ x :: (Z ++ R)))
  | _, _, _, _, _, 0, _, h, _ => absurd h (Nat.not_lt_zero _)
  | n, Z, A, R, x, f + 1, hz, hf, hl => by
    rcases List.eq_nil_or_concat Z with rfl | ⟨Z0, z, rfl⟩
    · have : n = 0 := by simpa using hz.symm
      subst this
      rw [f82r1n10, decide_eq_false (by omega), cond_false]; rfl
    · rw [List.concat_eq_append] at hz ⊢
      have hz' : n = Z0.length + 1 := by simpa using hz.symm
      subst hz'
      have e1 : A ++ ((Z0 ++ [z]) ++ x :: R) = (A ++ Z0) ++ z :: (x :: R) := by simp
      have e2 : A ++ ((Z0 ++ [z]) ++ x :: R) = ((A ++ Z0) ++ [z]) ++ x :: R := by simp
      have e3 : ((A ++ Z0) ++ [z]) ++ z :: R = (A ++ Z0) ++ z :: (z :: R) := by simp
      rw [f82r1n10, decide_eq_true (by omega), cond_true, show wr64 (((A.length + (Z0.length + 1) : Nat) : Int) - 1) = ((A.length + Z0.length : Nat) : Int) by rw [wrIn (by omega) (by omega)]; omega]
      rw [at_len e1 (by simp), at_len e2 (by simp <;> omega)]
      simp only [Option.bind_some]
      rw [show (Int.toNat ((A.length + Z0.length : Nat) : Int)) = A.length + Z0.length from rfl, show (Int.toNat ((A.length + (Z0.length + 1) : Nat) : Int)) = A.length + (Z0.length + 1) from rfl, set_len (y := z) e2 (by simp <;> omega), at_len e3 (by simp), set_len (y := x) e3 (by simp)]
      simp only [Option.bind_some]
      rw [show (A ++ Z0) ++ x :: (z :: R) = A ++ (Z0 ++ x :: (z :: R)) by simp, st_n10 Z0.length Z0 A (z :: R) x f rfl (by omega) (by omega)]
      simp
end
section
variable {c : NettingFlow → NettingFlow → Int} (hc : ∀ x y, f55 x y = some (c x y)) (o : SWo (st_lt c)) (self : st_self)
include hc o
theorem st_one (P B S : List NettingFlow) (x : NettingFlow) (hb : Sd (st_lt c) B) (hl : P.length + 1 + B.length + S.length ≤ 500000) :
    f82r1n2 self (P.length : Int) ((P.length + 1 : Nat) : Int) ((P.length + 1 + B.length : Nat) : Int) (P ++ x :: (B ++ S)) = some (.ret (P ++ (sortS (st_lt c) (x :: B) ++ S))) := by
  have e0 : P ++ x :: (B ++ S) = (P ++ [x]) ++ (B ++ S) := by simp
  have hlen : (P ++ x :: (B ++ S)).length = P.length + 1 + B.length + S.length := by simp <;> omega
  have h3 := st_n3 hc self (l := P ++ x :: (B ++ S)) (a := (P.length : Int)) (at_len rfl rfl) (by omega) FUEL (P.length + 1) (P.length + 1 + B.length) (by omega) (by omega)
  obtain ⟨r, q1, q2, q3, q4, q5⟩ := bsN_ok (p := pq (fun y => decide (c y x < 0)) (P ++ x :: (B ++ S))) FUEL (P.length + 1) (P.length + 1 + B.length) (by omega) (lt_FUEL (Nat.le_trans (by omega : P.length + 1 + B.length - (P.length + 1) ≤ 1000000) (by unfold maxLen; decide))) fun i j a1 a2 a3 a4 => by
    rw [e0] at a4 ⊢
    exact pq_mono (X := P ++ [x]) (B := B) (R := S) (hb.imp fun {u w} huw hq => o.le_lt huw hq) i j (by simp <;> omega) a2 (by simp <;> omega) a4
  obtain ⟨B1, B2, rfl, hB1⟩ := cutL_ (l := B) (n := r - (P.length + 1)) (by omega)
  simp only [List.length_append] at *
  have hb' := List.pairwise_append.1 hb
  have f1 : ∀ y ∈ B1, decide (c y x < 0) = true := pq_seg (X := P ++ [x]) (R := B2 ++ S) fun i a1 a2 => by
    have := q4 i (by simp at a1; omega) (by simp at a2; omega)
    simpa using this
  have f2 : ∀ y ∈ B2, decide (c y x < 0) = false := pq_seg (X := P ++ [x] ++ B1) (R := S) fun i a1 a2 => by
    have := q5 i (by simp at a1; omega) (by simp at a2; omega)
    simpa using this
  unfold f82r1n2 f82r1n4
  rw [show wr64 (((P.length + 1 : Nat) : Int) - (P.length : Int)) = 1 by rw [wrIn (by omega) (by omega)]; omega, h3, q1]
  simp only [decide_true, cond_true, Option.map_some, Option.bind_some]
  have h5 := st_n5 self B1 P (B2 ++ S) x FUEL r (lt_FUEL (Nat.le_trans (by omega : B1.length ≤ 1000000) (by unfold maxLen; decide))) (by omega) (by omega)
  rw [show P ++ x :: (B1 ++ B2 ++ S) = P ++ x :: (B1 ++ (B2 ++ S)) by simp, h5]
  simp only [Option.bind_some]
  have hS : B1 ++ x :: B2 = sortS (st_lt c) (x :: (B1 ++ B2)) := by
    refine sortS_of o ?_ ?_
    · refine Sd.app hb'.1 (List.pairwise_cons.2 ⟨fun y hy => f2 y hy, hb'.2.1⟩) fun u hu w hw => ?_
      rcases List.mem_cons.1 hw with rfl | hw
      · exact o.asym (f1 u hu)
      · exact hb'.2.2 u hu w hw
    · have := (Cl.swap (lt := st_lt c) (u := [x]) (v := B1) o (fun a ha b hb => by rw [List.mem_singleton.1 ha]; exact f1 b hb)).app (Cl.refl (lt := st_lt c) B2)
      simpa using this
  rw [← hS]; simp
theorem st_last (P A S : List NettingFlow) (y : NettingFlow) (ha : Sd (st_lt c) A) (hl : P.length + A.length + 1 + S.length ≤ 500000) :
    f82r1n7 self (P.length : Int) ((P.length + A.length : Nat) : Int) ((P.length + A.length + 1 : Nat) : Int) (P ++ (A ++ y :: S)) = some (.ret (P ++ (sortS (st_lt c) (A ++ [y]) ++ S))) := by
  have hlen : (P ++ (A ++ y :: S)).length = P.length + A.length + 1 + S.length := by simp <;> omega
  have h3 := st_n8 hc self (l := P ++ (A ++ y :: S)) (x := y) (a := ((P.length + A.length : Nat) : Int)) (at_len (a := P ++ A) (b := S) (by simp) (by simp)) (by omega) FUEL P.length (P.length + A.length) (by omega) (by omega)
  obtain ⟨r, q1, q2, q3, q4, q5⟩ := bsN_ok (p := pq (fun z => !decide (c y z < 0)) (P ++ (A ++ y :: S))) FUEL P.length (P.length + A.length) (by omega) (lt_FUEL (Nat.le_trans (by omega : P.length + A.length - P.length ≤ 1000000) (by unfold maxLen; decide))) fun i j a1 a2 a3 a4 => by
    refine pq_mono (X := P) (B := A) (R := y :: S) (ha.imp fun {u w} huw hq => ?_) i j a1 a2 a3 a4
    simp only [Bool.not_eq_true'] at hq ⊢
    exact o.nt hq huw
  obtain ⟨A1, A2, rfl, hA1⟩ := cutL_ (l := A) (n := r - P.length) (by omega)
  simp only [List.length_append] at *
  have ha' := List.pairwise_append.1 ha
  have f1 : ∀ z ∈ A1, (!decide (c y z < 0)) = true := pq_seg (X := P) (R := A2 ++ y :: S) fun i a1 a2 => by
    have := q4 i a1 (by omega)
    simpa using this
  have f2 : ∀ z ∈ A2, (!decide (c y z < 0)) = false := pq_seg (X := P ++ A1) (R := y :: S) fun i a1 a2 => by
    have := q5 i (by simp at a1; omega) (by simp at a2; omega)
    simpa using this
  unfold f82r1n7 f82r1n9
  rw [show wr64 (((P.length + (A1.length + A2.length) + 1 : Nat) : Int) - ((P.length + (A1.length + A2.length) : Nat) : Int)) = 1 by rw [wrIn (by omega) (by omega)]; omega, h3, q1]
  simp only [decide_true, cond_true, Option.map_some, Option.bind_some]
  have h5 := st_n10 self A2.length A2 (P ++ A1) S y FUEL rfl (lt_FUEL (Nat.le_trans (by omega : A2.length ≤ 1000000) (by unfold maxLen; decide))) (by simp <;> omega)
  rw [List.length_append] at h5
  rw [show P ++ (A1 ++ A2 ++ y :: S) = (P ++ A1) ++ (A2 ++ y :: S) by simp, show P.length + (A1.length + A2.length) = P.length + A1.length + A2.length by omega, show r = P.length + A1.length by omega, h5]
  simp only [Option.bind_some]
  have hS : A1 ++ y :: A2 = sortS (st_lt c) ((A1 ++ A2) ++ [y]) := by
    refine sortS_of o ?_ ?_
    · refine Sd.app ha'.1 (List.pairwise_cons.2 ⟨fun z hz => ?_, ha'.2.1⟩) fun u hu w hw => ?_
      · have := f2 z hz
        simp only [Bool.not_eq_false'] at this
        exact o.asym this
      · rcases List.mem_cons.1 hw with rfl | hw
        · have := f1 u hu
          simpa using this
        · exact ha'.2.2 u hu w hw
    · have := (Cl.refl (lt := st_lt c) A1).app (Cl.swap (lt := st_lt c) (u := A2) (v := [y]) o (fun a ha b hb => by
        rw [List.mem_singleton.1 hb]
        have := f2 a ha
        simpa using this))
      simpa using this
  rw [← hS]; simp
end
end Go.Proofs.Ytkcafackfihmiaa
namespace Go.Proofs.Ytkcafackfihmiaa
set_option linter.unusedVariables false
set_option linter.unusedSimpArgs false
open Go.RowKit
section
variable {c : NettingFlow → NettingFlow → Int} (hc : ∀ x y, f55 x y = some (c x y)) (o : SWo (st_lt c))
theorem st_sdg {l : List NettingFlow} (h : Sd (st_lt c) l) {i j : Nat} {x y : NettingFlow} (hij : i ≤ j) (hx : l[i]? = some x) (hy : l[j]? = some y) (o : SWo (st_lt c)) : decide (c y x < 0) = false := by
  rcases Nat.lt_or_ge i j with hlt | hge
  · obtain ⟨h1, rfl⟩ := List.getElem?_eq_some_iff.1 hx
    obtain ⟨h2, rfl⟩ := List.getElem?_eq_some_iff.1 hy
    exact List.pairwise_iff_getElem.1 h i j h1 h2 hlt
  · have : i = j := by omega
    subst this
    rw [hx] at hy; obtain rfl := Option.some.inj hy
    exact o.irr x
include hc o in
theorem st_round (self : st_self) (K : Nat) (hs : ∀ (P A B S : List NettingFlow), 0 < A.length → 0 < B.length → A.length + B.length ≤ K → Sd (st_lt c) A → Sd (st_lt c) B → P.length + A.length + B.length + S.length ≤ 500000 →
      self (P.length : Int) ((P.length + A.length : Nat) : Int) ((P.length + A.length + B.length : Nat) : Int) (P ++ (A ++ (B ++ S))) = some (P ++ (sortS (st_lt c) (A ++ B) ++ S)))
    (P A B S : List NettingFlow) (ha0 : 1 < A.length) (hb0 : 1 < B.length) (hK : A.length + B.length ≤ 2 * K) (ha : Sd (st_lt c) A) (hb : Sd (st_lt c) B) (hl : P.length + A.length + B.length + S.length ≤ 500000) :
    f82r1n0 self (P.length : Int) ((P.length + A.length : Nat) : Int) ((P.length + A.length + B.length : Nat) : Int) (P ++ (A ++ (B ++ S))) = some (.norm (P ++ (sortS (st_lt c) (A ++ B) ++ S))) := by
  have hlen : (P ++ (A ++ (B ++ S))).length = P.length + A.length + B.length + S.length := by simp <;> omega
  -- the numbers
  obtain ⟨a, ea⟩ : ∃ a, a = P.length := ⟨_, rfl⟩
  obtain ⟨m, em⟩ : ∃ m, m = P.length + A.length := ⟨_, rfl⟩
  obtain ⟨b, eb⟩ : ∃ b, b = P.length + A.length + B.length := ⟨_, rfl⟩
  obtain ⟨mid, emid⟩ : ∃ mid, mid = (a + b) / 2 := ⟨_, rfl⟩
  obtain ⟨s0, r0, e11, hs0, hr0, hrm, hrmid, hsb, hsa, hse, hre⟩ : ∃ s0 r0 : Nat, f82r1n11 self (a : Int) (m : Int) (b : Int) (P ++ (A ++ (B ++ S))) = some (.norm (s0 : Int) (r0 : Int)) ∧ a ≤ s0 ∧ s0 ≤ r0 ∧ r0 ≤ m ∧ r0 ≤ mid ∧ mid + m ≤ b + s0 ∧ s0 ≤ m ∧ (s0 = a ∨ mid + m = b + s0) ∧ (r0 = m ∨ r0 = mid) := by
    unfold f82r1n11
    rw [st_half (by omega), ← emid]
    by_cases h : mid < m
    · rw [decide_eq_true (by omega), cond_true]
      refine ⟨mid + m - b, mid, ?_, by omega, by omega, by omega, by omega, by omega, by omega, by omega, by omega⟩
      rw [wrIn (n := (mid : Int) + (m : Int)) (by omega) (by omega), wrIn (by omega) (by omega)]
      congr 2; omega
    · rw [decide_eq_false (by omega), cond_false]
      exact ⟨a, m, rfl, by omega, by omega, by omega, by omega, by omega, by omega, by omega, by omega⟩
  -- where to cut
  have gA : ∀ i, a ≤ i → i < m → (P ++ (A ++ (B ++ S)))[i]? = A[i - a]? := fun i h1 h2 => by rw [get_seg (by omega) (by omega), ea]
  have gB : ∀ i, m ≤ i → i < b → (P ++ (A ++ (B ++ S)))[i]? = B[i - m]? := fun i h1 h2 => by
    rw [show P ++ (A ++ (B ++ S)) = (P ++ A) ++ (B ++ S) by simp, get_seg (by simp <;> omega) (by simp <;> omega), List.length_append, em]
  have h12 := st_n12 hc self (l := P ++ (A ++ (B ++ S))) (a := a) (m := m) (b := b) (by omega) (by omega) (by omega) (by omega) FUEL s0 r0 (fun h h1 h2 => ⟨by omega, by omega, by omega⟩) (by omega) (by omega)
  rw [← emid] at h12
  obtain ⟨s, q1, q2, q3, q4, q5⟩ := bsN_ok (p := st_pr c (P ++ (A ++ (B ++ S))) (mid + m)) FUEL s0 r0 hr0 (lt_FUEL (Nat.le_trans (by omega : r0 - s0 ≤ 1000000) (by unfold maxLen; decide))) fun i j a1 a2 a3 a4 => by
    unfold st_pr at a4 ⊢
    have iA : i - a < A.length := by omega
    have jA : j - a < A.length := by omega
    have iB : mid + m - 1 - i - m < B.length := by omega
    have jB : mid + m - 1 - j - m < B.length := by omega
    rw [gA j (by omega) (by omega), gB (mid + m - 1 - j) (by omega) (by omega), List.getElem?_eq_getElem jA, List.getElem?_eq_getElem jB] at a4
    rw [gA i (by omega) (by omega), gB (mid + m - 1 - i) (by omega) (by omega), List.getElem?_eq_getElem iA, List.getElem?_eq_getElem iB]
    simp only [Bool.not_eq_true'] at a4 ⊢
    have k1 := st_sdg ha (i := i - a) (j := j - a) (by omega) (List.getElem?_eq_getElem iA) (List.getElem?_eq_getElem jA) o
    have k2 := st_sdg hb (i := mid + m - 1 - j - m) (j := mid + m - 1 - i - m) (by omega) (List.getElem?_eq_getElem jB) (List.getElem?_eq_getElem iB) o
    exact o.nt (o.nt k2 a4) k1
  obtain ⟨A1, A2, eA, hA1⟩ := cutL_ (l := A) (n := s - a) (by omega)
  obtain ⟨B1, B2, eB, hB1⟩ := cutL_ (l := B) (n := mid - s) (by omega)
  have lA : A.length = A1.length + A2.length := by rw [eA]; simp
  have lB : B.length = B1.length + B2.length := by rw [eB]; simp
  have h1 : ∀ x ∈ A1, ∀ y ∈ B2, decide (c y x < 0) = false := by
    rcases List.eq_nil_or_concat A1 with e | ⟨A0, u, e⟩
    · rw [e]; simp
    · cases hB2 : B2 with
      | nil => simp
      | cons v B3 =>
        rw [List.concat_eq_append] at e
        have l1 : A1.length = A0.length + 1 := by rw [e]; simp
        have l2 : B2.length = B3.length + 1 := by rw [hB2]; simp
        have hp := q4 (s - 1) (by omega) (by omega)
        unfold st_pr at hp
        rw [gA (s - 1) (by omega) (by omega), gB (mid + m - 1 - (s - 1)) (by omega) (by omega)] at hp
        rw [get_len (l := A) (k := s - 1 - a) (x := u) (a := A0) (b := A2) (by rw [eA, e]; simp) (by omega), get_len (l := B) (k := mid + m - 1 - (s - 1) - m) (x := v) (a := B1) (b := B3) (by rw [eB, hB2]) (by omega)] at hp
        simp only [Bool.not_eq_true'] at hp
        intro x hx y hy
        have hx' : decide (c u x < 0) = false := by
          rw [e] at hx
          have hsA := List.pairwise_append.1 (by rw [eA, e] at ha; exact (List.pairwise_append.1 ha).1 : Sd (st_lt c) (A0 ++ [u]))
          rcases List.mem_append.1 hx with hx | hx
          · exact hsA.2.2 x hx u (by simp)
          · rw [List.mem_singleton.1 hx]; exact o.irr u
        have hy' : decide (c y v < 0) = false := by
          have hsB := List.pairwise_cons.1 (by rw [eB, hB2] at hb; exact (List.pairwise_append.1 hb).2.1 : Sd (st_lt c) (v :: B3))
          rcases List.mem_cons.1 hy with rfl | hy
          · exact o.irr _
          · exact hsB.1 y hy
        exact o.nt (o.nt hy' hp) hx'
  have h2 : ∀ x ∈ A2, ∀ y ∈ B1, decide (c y x < 0) = true := by
    rcases List.eq_nil_or_concat B1 with e | ⟨B0, v, e⟩
    · rw [e]; simp
    · cases hA2 : A2 with
      | nil => simp
      | cons u A3 =>
        rw [List.concat_eq_append] at e
        have l1 : B1.length = B0.length + 1 := by rw [e]; simp
        have l2 : A2.length = A3.length + 1 := by rw [hA2]; simp
        have hp := q5 s (by omega) (by omega)
        unfold st_pr at hp
        rw [gA s (by omega) (by omega), gB (mid + m - 1 - s) (by omega) (by omega)] at hp
        rw [get_len (l := A) (k := s - a) (x := u) (a := A1) (b := A3) (by rw [eA, hA2]) (by omega), get_len (l := B) (k := mid + m - 1 - s - m) (x := v) (a := B0) (b := B2) (by rw [eB, e]; simp) (by omega)] at hp
        simp only [Bool.not_eq_false'] at hp
        intro x hx y hy
        have hx' : decide (c x u < 0) = false := by
          have hsA := List.pairwise_cons.1 (by rw [eA, hA2] at ha; exact (List.pairwise_append.1 ha).2.1 : Sd (st_lt c) (u :: A3))
          rcases List.mem_cons.1 hx with rfl | hx
          · exact o.irr _
          · exact hsA.1 x hx
        have hy' : decide (c v y < 0) = false := by
          rw [e] at hy
          have hsB := List.pairwise_append.1 (by rw [eB, e] at hb; exact (List.pairwise_append.1 hb).1 : Sd (st_lt c) (B0 ++ [v]))
          rcases List.mem_append.1 hy with hy | hy
          · exact hsB.2.2 y hy v (by simp)
          · rw [List.mem_singleton.1 hy]; exact o.irr v
        exact o.lt_le (o.le_lt hy' hp) hx'
  have hcut := merge_cut o (a1 := A1) (a2 := A2) (b1 := B1) (b2 := B2) (by rw [← eA]; exact ha) (by rw [← eB]; exact hb) h1 h2
  rw [← eA, ← eB] at hcut
  have sA := List.pairwise_append.1 (by rw [← eA]; exact ha : Sd (st_lt c) (A1 ++ A2))
  have sB := List.pairwise_append.1 (by rw [← eB]; exact hb : Sd (st_lt c) (B1 ++ B2))
  -- the rotation
  have e_end : wr64 (wr64 ((mid : Int) + (m : Int)) - (s : Int)) = ((mid + m - s : Nat) : Int) := by rw [wrIn (n := (mid : Int) + (m : Int)) (by omega) (by omega), wrIn (by omega) (by omega)]; omega
  have h13 : f82r1n13 self (a : Int) (m : Int) (b : Int) (s : Int) (P ++ (A ++ (B ++ S))) = some (.norm (P ++ ((A1 ++ B1) ++ ((A2 ++ B2) ++ S)))) := by
    unfold f82r1n13 f82r1n14
    rw [st_half (by omega), ← emid, e_end]
    by_cases c1 : s < m
    · by_cases c2 : m < mid + m - s
      · rw [decide_eq_true (by omega : (s : Int) < (m : Int)), decide_eq_true (by omega : (m : Int) < ((mid + m - s : Nat) : Int))]
        simp only [cond_true, Option.bind_some]
        have k := st_rot_ok (P ++ A1) A2 B1 (B2 ++ S) (a := s) (m := m) (b := mid + m - s) (by simp <;> omega) (by simp <;> omega) (by simp <;> omega) (by omega) (by omega) (by simp <;> omega)
        rw [show P ++ (A ++ (B ++ S)) = (P ++ A1) ++ (A2 ++ (B1 ++ (B2 ++ S))) by rw [eA, eB]; simp, k]
        simp
      · rw [decide_eq_true (by omega : (s : Int) < (m : Int)), decide_eq_false (by omega : ¬ (m : Int) < ((mid + m - s : Nat) : Int))]
        have : B1 = [] := List.eq_nil_of_length_eq_zero (by omega)
        simp only [cond_true, cond_false, Option.bind_some]
        rw [eA, eB, this]; simp
    · rw [decide_eq_false (by omega : ¬ (s : Int) < (m : Int))]
      have : A2 = [] := List.eq_nil_of_length_eq_zero (by omega)
      simp only [cond_false, Option.bind_some]
      rw [eA, eB, this]; simp
  -- the left half
  have h15 : f82r1n15 self (a : Int) (b : Int) (s : Int) (m : Int) (P ++ ((A1 ++ B1) ++ ((A2 ++ B2) ++ S))) = some (.norm (P ++ (sortS (st_lt c) (A1 ++ B1) ++ ((A2 ++ B2) ++ S)))) := by
    unfold f82r1n15 f82r1n16
    rw [st_half (by omega), ← emid]
    by_cases c1 : a < s
    · by_cases c2 : s < mid
      · rw [decide_eq_true (by omega : (a : Int) < (s : Int)), decide_eq_true (by omega : (s : Int) < (mid : Int))]
        simp only [cond_true, Option.bind_some]
        have k := hs P A1 B1 ((A2 ++ B2) ++ S) (by omega) (by omega) (by omega) sA.1 sB.1 (by simp <;> omega)
        rw [show P.length = a by omega, show a + A1.length = s by omega, show s + B1.length = mid by omega] at k
        rw [show P ++ ((A1 ++ B1) ++ ((A2 ++ B2) ++ S)) = P ++ (A1 ++ (B1 ++ ((A2 ++ B2) ++ S))) by simp, k]
        rfl
      · rw [decide_eq_true (by omega : (a : Int) < (s : Int)), decide_eq_false (by omega : ¬ (s : Int) < (mid : Int))]
        have : B1 = [] := List.eq_nil_of_length_eq_zero (by omega)
        simp only [cond_true, cond_false, Option.bind_some]
        rw [this, List.append_nil, ← sortS_of o sA.1 (Cl.refl _)]
    · rw [decide_eq_false (by omega : ¬ (a : Int) < (s : Int))]
      have : A1 = [] := List.eq_nil_of_length_eq_zero (by omega)
      simp only [cond_false, Option.bind_some]
      rw [this, List.nil_append, ← sortS_of o sB.1 (Cl.refl _)]
  have lS1 : (sortS (st_lt c) (A1 ++ B1)).length = A1.length + B1.length := by rw [sortS_len o]; simp
  -- the right half
  have hfin : f82r1n17 self (b : Int) (a : Int) (m : Int) (s : Int) (P ++ (sortS (st_lt c) (A1 ++ B1) ++ ((A2 ++ B2) ++ S))) = some (.norm (decide (mid < mid + m - s) && decide (mid + m - s < b))) := by
    unfold f82r1n17
    rw [st_half (by omega), ← emid, e_end]
    by_cases c1 : mid < mid + m - s
    · rw [decide_eq_true (by omega : (mid : Int) < ((mid + m - s : Nat) : Int)), decide_eq_true c1]
      simp only [cond_true, Bool.true_and]
      congr 2
      exact decide_eq_decide.2 (by omega)
    · rw [decide_eq_false (by omega : ¬ (mid : Int) < ((mid + m - s : Nat) : Int)), decide_eq_false c1]; rfl
  have n1 : f82r1n1 self (a : Int) (m : Int) (b : Int) (P ++ (A ++ (B ++ S))) = some .norm := by
    unfold f82r1n1 f82r1n2
    rw [wrIn (n := (m : Int) - (a : Int)) (by omega) (by omega), decide_eq_false (by omega)]; rfl
  have n6 : f82r1n6 self (a : Int) (m : Int) (b : Int) (P ++ (A ++ (B ++ S))) = some .norm := by
    unfold f82r1n6 f82r1n7
    rw [wrIn (n := (b : Int) - (m : Int)) (by omega) (by omega), decide_eq_false (by omega)]; rfl
  unfold f82r1n0
  rw [← ea, show a + A.length = m by omega, show m + B.length = b by omega, n1]
  simp only [Option.bind_some, n6, e11, h12, q1, Option.map_some, h13, h15, hfin]
  rw [st_half (by omega), ← emid, e_end, hcut]
  by_cases c3 : mid < mid + m - s ∧ mid + m - s < b
  · rw [decide_eq_true c3.1, decide_eq_true c3.2]
    simp only [Bool.and_self, cond_true]
    have k := hs (P ++ sortS (st_lt c) (A1 ++ B1)) A2 B2 S (by omega) (by omega) (by omega) sA.2.1 sB.2.1 (by simp [lS1] <;> omega)
    rw [List.length_append, lS1, show P.length + (A1.length + B1.length) = mid by omega, show mid + A2.length = mid + m - s by omega, show mid + m - s + B2.length = b by omega] at k
    rw [show P ++ (sortS (st_lt c) (A1 ++ B1) ++ ((A2 ++ B2) ++ S)) = (P ++ sortS (st_lt c) (A1 ++ B1)) ++ (A2 ++ (B2 ++ S)) by simp, k]
    simp
  · have e1 : (decide (mid < mid + m - s) && decide (mid + m - s < b)) = false := by
      rw [Bool.and_eq_false_iff, decide_eq_false_iff_not, decide_eq_false_iff_not]
      omega
    rw [e1]
    have : sortS (st_lt c) (A2 ++ B2) = A2 ++ B2 := by
      rcases (by omega : A2.length = 0 ∨ B2.length = 0) with h | h
      · rw [List.eq_nil_of_length_eq_zero h, List.nil_append, ← sortS_of o sB.2.1 (Cl.refl _)]
      · rw [List.eq_nil_of_length_eq_zero h, List.append_nil, ← sortS_of o sA.2.1 (Cl.refl _)]
    rw [this]
    simp
include hc o in
theorem st_sym_ok : ∀ (k : Nat) (P A B S : List NettingFlow), 0 < A.length → 0 < B.length → A.length + B.length ≤ 2 ^ k → Sd (st_lt c) A → Sd (st_lt c) B → P.length + A.length + B.length + S.length ≤ 500000 →
    f82r1F k (P.length : Int) ((P.length + A.length : Nat) : Int) ((P.length + A.length + B.length : Nat) : Int) (P ++ (A ++ (B ++ S))) = some (P ++ (sortS (st_lt c) (A ++ B) ++ S))
  | 0, P, A, B, S, h1, h2, h3, _, _, _ => by simp at h3; omega
  | k + 1, P, A, B, S, h1, h2, h3, ha, hb, hl => by
    rw [f82r1F]
    by_cases hA : A.length = 1
    · obtain ⟨x, rfl⟩ := List.length_eq_one_iff.1 hA
      have := st_one hc o (f82r1F k) P B S x hb (by simp at hl; omega)
      unfold f82r1n0 f82r1n1
      simp only [List.length_cons, List.length_nil, List.cons_append, List.nil_append] at this ⊢
      rw [this]; rfl
    · by_cases hB : B.length = 1
      · obtain ⟨y, rfl⟩ := List.length_eq_one_iff.1 hB
        have := st_last hc o (f82r1F k) P A S y ha (by simp at hl; omega)
        have n1 : f82r1n1 (f82r1F k) (P.length : Int) ((P.length + A.length : Nat) : Int) ((P.length + A.length + 1 : Nat) : Int) (P ++ (A ++ y :: S)) = some .norm := by
          unfold f82r1n1 f82r1n2
          rw [wrIn (n := ((P.length + A.length : Nat) : Int) - (P.length : Int)) (by omega) (by simp at hl; omega), decide_eq_false (by omega)]; rfl
        unfold f82r1n0 f82r1n6
        simp only [List.length_cons, List.length_nil, List.cons_append, List.nil_append] at this ⊢
        rw [n1]
        simp only [Option.bind_some]
        rw [this]; rfl
      · rw [st_round hc o (f82r1F k) (2 ^ k) (fun P A B S a1 a2 a3 a4 a5 a6 => st_sym_ok k P A B S a1 a2 a3 a4 a5 a6) P A B S (by omega) (by omega) (by rw [Nat.pow_succ] at h3; omega) ha hb hl]
        rfl
include hc o in
theorem st_mrg (P A B S : List NettingFlow) (h1 : 0 < A.length) (h2 : 0 < B.length) (ha : Sd (st_lt c) A) (hb : Sd (st_lt c) B) (hl : P.length + A.length + B.length + S.length ≤ 500000) :
    f82r1 (P.length : Int) ((P.length + A.length : Nat) : Int) ((P.length + A.length + B.length : Nat) : Int) (P ++ (A ++ (B ++ S))) = some (P ++ (sortS (st_lt c) (A ++ B) ++ S)) :=
  st_sym_ok hc o 200 P A B S h1 h2 (Nat.le_trans (by omega : A.length + B.length ≤ 500000) (by decide)) ha hb hl
end
end Go.Proofs.Ytkcafackfihmiaa
namespace Go.Proofs.Ytkcafackfihmiaa
set_option linter.unusedVariables false
set_option linter.unusedSimpArgs false
open Go.RowKit
section
variable {c : NettingFlow → NettingFlow → Int} (hc : ∀ x y, f55 x y = some (c x y)) (o : SWo (st_lt c))
include hc o
theorem st_blocks : ∀ (f : Nat) (D R : List NettingFlow), R.length < f → D.length + R.length ≤ 500000 → D.length % 20 = 0 → Bl (st_lt c) 20 D →
    ∃ D' R', f69r1n1 f ((D.length + R.length : Nat) : Int) (D.length : Int) ((D.length + 20 : Nat) : Int) (D ++ R) = some (.exit0 (D'.length : Int) (D' ++ R')) ∧ D'.length % 20 = 0 ∧ Bl (st_lt c) 20 D' ∧ R'.length < 20 ∧ Cl (st_lt c) (D ++ R) (D' ++ R') ∧ D'.length + R'.length = D.length + R.length
  | 0, _, _, h, _, _, _ => absurd h (Nat.not_lt_zero _)
  | f + 1, D, R, hf, hl, hm, hD => by
    rw [f69r1n1]
    by_cases h : 20 ≤ R.length
    · obtain ⟨X, R1, rfl, hX⟩ := cutL_ (l := R) (n := 20) h
      simp only [List.length_append] at *
      have k := st_ins_ok hc o D X R1 (by omega)
      rw [hX] at k
      have lS : (sortS (st_lt c) X).length = 20 := by rw [sortS_len o, hX]
      rw [decide_eq_true (by omega : ((D.length + 20 : Nat) : Int) ≤ ((D.length + (X.length + R1.length) : Nat) : Int)), cond_true, show D ++ (X ++ R1) = D ++ (X ++ R1) from rfl, k]
      simp only [Option.bind_some]
      obtain ⟨D', R', q1, q2, q3, q4, q5, q6⟩ := st_blocks f (D ++ sortS (st_lt c) X) R1 (by omega) (by simp <;> omega) (by simp <;> omega) (hD.snoc hm (by decide) (sortS_sd o X) (by omega))
      rw [List.length_append, lS] at q1 q6
      refine ⟨D', R', ?_, q2, q3, q4, ?_, by omega⟩
      · rw [show wr64 (((D.length + 20 : Nat) : Int) + 20) = ((D.length + 20 + 20 : Nat) : Int) by rw [wrIn (by omega) (by omega)]; omega, show D ++ (sortS (st_lt c) X ++ R1) = (D ++ sortS (st_lt c) X) ++ R1 by simp, show D.length + (X.length + R1.length) = D.length + 20 + R1.length by omega]
        exact q1
      · have := (((Cl.refl (lt := st_lt c) D).app (sortS_cl o X)).app (Cl.refl (lt := st_lt c) R1)).trans q5
        simpa using this
    · rw [decide_eq_false (by omega : ¬ ((D.length + 20 : Nat) : Int) ≤ ((D.length + R.length : Nat) : Int)), cond_false]
      exact ⟨D, R, rfl, hm, hD, by omega, Cl.refl _, rfl⟩
theorem st_pairs (s : Nat) (hs : 0 < s) (hs1 : s ≤ 1000000) : ∀ (f : Nat) (D R : List NettingFlow), R.length < f → D.length + R.length ≤ 500000 → D.length % (2 * s) = 0 → Bl (st_lt c) (2 * s) D → Bl (st_lt c) s R →
    ∃ D' R', f69r1n3 f ((D.length + R.length : Nat) : Int) (s : Int) (D.length : Int) ((D.length + 2 * s : Nat) : Int) (D ++ R) = some (.exit4 (D'.length : Int) (D' ++ R')) ∧ D'.length % (2 * s) = 0 ∧ Bl (st_lt c) (2 * s) D' ∧ Bl (st_lt c) s R' ∧ R'.length < 2 * s ∧ Cl (st_lt c) (D ++ R) (D' ++ R') ∧ D'.length + R'.length = D.length + R.length
  | 0, _, _, h, _, _, _, _ => absurd h (Nat.not_lt_zero _)
  | f + 1, D, R, hf, hl, hm, hD, hR => by
    rw [f69r1n3]
    by_cases h : 2 * s ≤ R.length
    · obtain ⟨X, R1, rfl, hX, sX, hR1⟩ := hR.uncons (by omega)
      simp only [List.length_append] at *
      obtain ⟨Y, R2, rfl, hY, sY, hR2⟩ := hR1.uncons (by omega)
      simp only [List.length_append] at *
      have k := st_mrg hc o D X Y R2 (by omega) (by omega) sX sY (by omega)
      rw [hX, hY] at k
      have lS : (sortS (st_lt c) (X ++ Y)).length = 2 * s := by rw [sortS_len o, List.length_append]; omega
      rw [decide_eq_true (by omega : ((D.length + 2 * s : Nat) : Int) ≤ ((D.length + (X.length + (Y.length + R2.length)) : Nat) : Int)), cond_true, show wr64 ((D.length : Int) + (s : Int)) = ((D.length + s : Nat) : Int) by rw [wrIn (by omega) (by omega)]; omega, show D.length + 2 * s = D.length + s + s by omega, k]
      simp only [Option.bind_some]
      obtain ⟨D', R', q1, q2, q3, q4, q5, q6, q7⟩ := st_pairs s hs hs1 f (D ++ sortS (st_lt c) (X ++ Y)) R2 (by omega) (by simp [lS] <;> omega) (by rw [List.length_append, lS, Nat.add_mod_right]; exact hm) (hD.snoc hm (by omega) (sortS_sd o _) (by omega)) hR2
      rw [List.length_append, lS] at q1 q7
      refine ⟨D', R', ?_, q2, q3, q4, q5, ?_, by omega⟩
      · rw [show wr64 ((2 : Int) * (s : Int)) = ((2 * s : Nat) : Int) by rw [wrIn (by omega) (by omega)]; omega, show wr64 (((D.length + s + s : Nat) : Int) + ((2 * s : Nat) : Int)) = ((D.length + 2 * s + 2 * s : Nat) : Int) by rw [wrIn (by omega) (by omega)]; omega, show D.length + s + s = D.length + 2 * s by omega, show D ++ (sortS (st_lt c) (X ++ Y) ++ R2) = (D ++ sortS (st_lt c) (X ++ Y)) ++ R2 by simp, show D.length + (X.length + (Y.length + R2.length)) = D.length + 2 * s + R2.length by omega]
        exact q1
      · have := (((Cl.refl (lt := st_lt c) D).app (sortS_cl o (X ++ Y))).app (Cl.refl (lt := st_lt c) R2)).trans q6
        simpa using this
    · rw [decide_eq_false (by omega : ¬ ((D.length + 2 * s : Nat) : Int) ≤ ((D.length + R.length : Nat) : Int)), cond_false]
      exact ⟨D, R, rfl, hm, hD, hR, by omega, Cl.refl _, rfl⟩
theorem st_pass (s : Nat) (hs : 0 < s) (hs1 : s ≤ 1000000) (l : List NettingFlow) (hl : l.length ≤ 500000) (hb : Bl (st_lt c) s l) : ∃ l', f69r1n2 (l.length : Int) (s : Int) l = some (.norm l') ∧ Bl (st_lt c) (2 * s) l' ∧ Cl (st_lt c) l l' := by
  obtain ⟨D, R, q1, q2, q3, q4, q5, q6, q7⟩ := st_pairs hc o s hs hs1 FUEL [] l (lt_FUEL (Nat.le_trans (by omega : l.length ≤ 1000000) (by unfold maxLen; decide))) (by simpa using hl) (by simp) (.last List.Pairwise.nil (by simp)) hb
  simp only [List.length_nil, Nat.zero_add, List.nil_append] at q1 q6 q7
  unfold f69r1n2
  rw [show wr64 ((2 : Int) * (s : Int)) = ((2 * s : Nat) : Int) by rw [wrIn (by omega) (by omega)]; omega, show (0 : Int) = ((0 : Nat) : Int) from rfl, q1]
  simp only [Option.bind_some]
  rw [show wr64 ((D.length : Int) + (s : Int)) = ((D.length + s : Nat) : Int) by rw [wrIn (by omega) (by omega)]; omega]
  by_cases h : D.length + s < l.length
  · obtain ⟨X, Y, rfl, hX, sX, hY⟩ := q4.uncons (by omega)
    simp only [List.length_append] at *
    have sY := hY.whole (by omega) hs
    have k := st_mrg hc o D X Y [] (by omega) (by omega) sX sY (by simp <;> omega)
    rw [hX] at k
    rw [decide_eq_true (by omega), cond_true, show l.length = D.length + s + Y.length by omega, show D ++ (X ++ Y) = D ++ (X ++ (Y ++ [])) by simp, k]
    refine ⟨_, rfl, ?_, ?_⟩
    · rw [List.append_nil]
      exact q3.snoc q2 (by omega) (sortS_sd o _) (by rw [sortS_len o, List.length_append]; omega)
    · rw [List.append_nil]
      exact q6.trans ((Cl.refl _).app (sortS_cl o _))
  · rw [decide_eq_false (by omega), cond_false]
    exact ⟨_, rfl, q3.snoc q2 (by omega) (q4.whole (by omega) hs) (by omega), q6⟩
theorem st_passes : ∀ (n f s : Nat) (l : List NettingFlow), l.length - s ≤ n → n < f → 0 < s → s ≤ 1000000 → l.length ≤ 500000 → Bl (st_lt c) s l → ∃ l', f69r1n4 f (l.length : Int) (s : Int) l = some (.exit2 l') ∧ Sd (st_lt c) l' ∧ Cl (st_lt c) l l'
  | _, 0, _, _, _, h, _, _, _, _ => absurd h (Nat.not_lt_zero _)
  | n, f + 1, s, l, hn, hf, hs, hs1, hl, hb => by
    rw [f69r1n4]
    by_cases h : s < l.length
    · obtain ⟨l1, k1, k2, k3⟩ := st_pass hc o s hs hs1 l hl hb
      have hlen := k3.len
      obtain ⟨l', q1, q2, q3⟩ := st_passes (n - 1) f (2 * s) l1 (by omega) (by omega) (by omega) (by omega) (by omega) k2
      rw [decide_eq_true (by omega), cond_true, k1]
      simp only [Option.bind_some]
      rw [show wr64 ((s : Int) * 2) = ((2 * s : Nat) : Int) by rw [wrIn (by omega) (by omega)]; omega, ← hlen, q1]
      exact ⟨l', rfl, q2, k3.trans q3⟩
    · rw [decide_eq_false (by omega), cond_false]
      exact ⟨l, rfl, hb.whole (by omega) hs, Cl.refl _⟩
theorem st_sorted (l : List NettingFlow) (hl : l.length ≤ 500000) : f54r1 l = some (sortS (st_lt c) l) := by
  obtain ⟨D, R, q1, q2, q3, q4, q5, q6⟩ := st_blocks hc o FUEL [] l (lt_FUEL (Nat.le_trans (by omega : l.length ≤ 1000000) (by unfold maxLen; decide))) (by simpa using hl) (by simp) (.last List.Pairwise.nil (by simp))
  simp only [List.length_nil, Nat.zero_add, List.nil_append] at q1 q5 q6
  have k := st_ins_ok hc o D R [] (by omega)
  simp only [List.append_nil] at k
  rw [q6] at k
  have hb : Bl (st_lt c) 20 (D ++ sortS (st_lt c) R) := q3.snoc q2 (by decide) (sortS_sd o R) (by rw [sortS_len o]; omega)
  have hcl : Cl (st_lt c) l (D ++ sortS (st_lt c) R) := q5.trans ((Cl.refl _).app (sortS_cl o R))
  have hlen := hcl.len
  obtain ⟨l', k1, k2, k3⟩ := st_passes hc o (D ++ sortS (st_lt c) R).length FUEL 20 (D ++ sortS (st_lt c) R) (by omega) (lt_FUEL (Nat.le_trans (by omega : (D ++ sortS (st_lt c) R).length ≤ 1000000) (by unfold maxLen; decide))) (by decide) (by decide) (by omega) hb
  have e : f69r1 (l.length : Int) l = some l' := by
    unfold f69r1 f69r1n0
    rw [show (0 : Int) = ((0 : Nat) : Int) from rfl, show (20 : Int) = ((20 : Nat) : Int) from rfl, q1]
    simp only [Option.bind_some, k]
    rw [← hlen, k1]; rfl
  unfold f54r1 f54r1n0
  rw [e]
  simp only [Option.bind_some]
  rw [sortS_of o k2 (hcl.trans k3)]
end
end Go.Proofs.Ytkcafackfihmiaa
namespace Go.Proofs.Ytkcafackfihmiaa
set_option linter.unusedVariables false
set_option linter.unusedSimpArgs false
open Go.RowKit
abbrev NF := NettingFlow
abbrev NS := NettingSet

theorem f59_eq (c : Int) : f59 c = some (ltrI c) := by
  unfold f59 f59n0 ltrI
  cases decide (97 ≤ c) <;> cases decide (c ≤ 122) <;> cases decide (65 ≤ c) <;> cases decide (c ≤ 90) <;> rfl
theorem f36n2_eq {s : ByteArray} {k : Int} {b : UInt8} (h : at? s.data.toList k = some b) : f36n2 s k = some (bif chB b then .norm else .ret) := by
  have h3 : f36n3 s b k = some (.norm (!(chB b))) := by
    unfold f36n3 chB othI
    rw [f59_eq, ltNot, ltNot]
    simp only [Option.bind_some]
    cases ltrI b.toNat <;> cases decide ((48 : Int) ≤ (b.toNat : Int)) <;> cases decide ((b.toNat : Int) ≤ 57) <;> cases decide ((b.toNat : Int) = 95) <;> cases decide ((b.toNat : Int) = 45) <;> rfl
  unfold f36n2
  rw [h]
  simp only [Option.bind_some, h3]
  cases chB b <;> rfl
theorem f36n4_at (s : ByteArray) (hs : s.data.toList.length ≤ 1000) : ∀ (r : List UInt8) (f k : Nat), s.data.toList.drop k = r → r.length < f → f36n4 f s (k : Int) = some (bif r.all chB then .exit0 else .ret)
  | _, 0, _, _, h => absurd h (Nat.not_lt_zero _)
  | [], f + 1, k, hd, _ => by
    have := drop_nil hd
    rw [f36n4, sizeList, decide_eq_false (by omega), cond_false]; rfl
  | b :: r, f + 1, k, hd, hf => by
    obtain ⟨h1, h2, h3⟩ := dropAt hd
    rw [f36n4, sizeList, decide_eq_true (by omega), cond_true, f36n2_eq h1, List.all_cons]
    cases chB b with
    | false => rfl
    | true =>
      simp only [cond_true, Option.bind_some, Bool.true_and]
      rw [wrSucc (by omega)]
      exact f36n4_at s hs r f (k + 1) h3 (by simpa using hf)
theorem f36_eq (s : ByteArray) : f36 s = some (nmB s) := by
  unfold f36 f36n0 nmB
  rw [sizeList]
  by_cases hs : s.data.toList.length ≤ 40
  · have h1 : f36n1 s = some (bif s.data.toList.all chB then .norm else .ret) := by
      unfold f36n1
      have := f36n4_at s (by omega) s.data.toList FUEL 0 List.drop_zero (fuelSmall (by omega))
      rw [show ((0 : Nat) : Int) = 0 from rfl] at this
      rw [this]
      cases s.data.toList.all chB <;> rfl
    rw [h1]
    generalize s.data.toList = l at hs
    rw [decide_eq_false (by omega : ¬ (40 : Int) < (l.length : Int))]
    cases l with
    | nil => rfl
    | cons b r =>
      have h0 : at? (b :: r) 0 = some b := rfl
      rw [decide_eq_false (by simp; omega : ¬ (((b :: r).length : Nat) : Int) < 1), h0]
      simp only [cond_false, Option.bind_some, f59_eq, isNm, decide_eq_true hs, Bool.true_and, List.all_cons, chB]
      cases ltrI b.toNat <;> cases othI b.toNat <;> cases r.all chB <;> rfl
  · rw [decide_eq_false (by omega : ¬ ((s.data.toList.length : Nat) : Int) < 1), decide_eq_true (by omega : (40 : Int) < ((s.data.toList.length : Nat) : Int))]
    have : isNm s.data.toList = false := by
      generalize s.data.toList = l at hs
      cases l with
      | nil => rfl
      | cons b r => simp only [isNm, decide_eq_false hs, Bool.false_and]
    rw [this]; rfl

theorem f62_eq (a : Int) : f62 a = some false := by unfold f62 f62n0; simp
theorem f63_eq (a : ByteArray) : f63 a = some false := by unfold f63 f63n0; simp [seq_refl]
theorem f41_eq (a b : Int) : f41 a b = some (cmpI a b) := by
  unfold f41 f41n0 cmpI
  rw [f62_eq, f62_eq]
  simp only [Option.bind_some, cond_false]
  cases decide (a < b) <;> cases decide (b < a) <;> rfl
theorem f42_eq (a b : ByteArray) : f42 a b = some (cmpB a b) := by
  unfold f42 f42n0 cmpB
  rw [f63_eq, f63_eq]
  simp only [Option.bind_some, cond_false]
  cases slt a b <;> cases seq a b <;> rfl
theorem f40_eq (x y z : Int) : f40 [x, y, z] = some (cmpOr x (cmpOr y z)) := by
  unfold f40 f40n0 f40n1 cmpOr
  rw [f40n2_run [x, y, z] (maxSmall (by simp))]
  by_cases hx : x = 0
  · by_cases hy : y = 0
    · by_cases hz : z = 0
      · subst hx hy hz; rfl
      · subst hx hy; simp only [f40n2L, decide_eq_false hz, decide_true, cond_true, cond_false, Option.bind_some]
    · subst hx; simp only [f40n2L, decide_eq_false hy, decide_true, cond_true, cond_false, Option.bind_some]
  · simp only [f40n2L, decide_eq_false hx, cond_false, Option.bind_some]
def cO (a b : NF) : Int := cmpOr (cmpI a.Date b.Date) (cmpOr (cmpB a.Set b.Set) (cmpB a.Ccy b.Ccy))
theorem cO_cmp : Cmp cO := (Cmp.int NettingFlow.Date).lex ((Cmp.str NettingFlow.Set).lex (Cmp.str NettingFlow.Ccy))
theorem f55_eq (a b : NF) : f55 a b = some (cO a b) := by
  unfold f55 f55n0
  rw [f41_eq, f42_eq, f42_eq]
  simp only [Option.bind_some, f40_eq]
  rfl
theorem cmpOr_zero {a b : Int} : cmpOr a b = 0 ↔ a = 0 ∧ b = 0 := by
  unfold cmpOr
  by_cases h : a = 0
  · rw [decide_eq_true h]; simp [h]
  · rw [decide_eq_false h]; simp [h]
theorem cO_zero {a b : NF} : cO a b = 0 ↔ a.Date = b.Date ∧ a.Set = b.Set ∧ a.Ccy = b.Ccy := by
  unfold cO
  rw [cmpOr_zero, cmpOr_zero, cmpI_zero, cmpB_zero, cmpB_zero]
abbrev ltO : NF → NF → Bool := fun x y => decide (cO x y < 0)
theorem swo_O : SWo ltO := cO_cmp.swo
def sortO (l : List NF) : List NF := sortS ltO l
theorem f34_eq {l : List NF} (h : l.length ≤ 500000) : f34r1 l = some (sortO l) := by
  unfold f34r1 f34r1n0
  rw [st_sorted f55_eq swo_O l h]; rfl

def namesB (x : NF) : Bool := (seq x.Set str_x || nmB x.Set) && (nmB x.Ccy && (nmB x.From && (nmB x.To && !(seq x.From x.To))))
def goodF (x : NF) : Bool := namesB x && (decide (0 ≤ x.Date) && (decide (x.Date ≤ 99999) && (decide (1 ≤ x.Amount) && decide (x.Amount ≤ 1125899906842624))))
theorem f57_eq (x : NF) : f57 x = some (goodF x) := by
  have h1 : f57n1 x = some (.norm (namesB x)) := by
    unfold f57n1 namesB
    rw [f36_eq, f36_eq, f36_eq, f36_eq]
    cases seq x.Set str_x <;> cases nmB x.Set <;> cases nmB x.Ccy <;> cases nmB x.From <;> cases nmB x.To <;> cases seq x.From x.To <;> rfl
  unfold f57 f57n0 goodF
  rw [h1]
  cases namesB x <;> cases decide (0 ≤ x.Date) <;> cases decide (x.Date ≤ 99999) <;> cases decide (1 ≤ x.Amount) <;> cases decide (x.Amount ≤ 1125899906842624) <;> rfl
theorem f70n2L_eq (bg : List NF) : ∀ (l : List NF) (v : Int), 0 ≤ v → ∃ o, f70_56n2L bg l v = some o ∧ (l.all goodF = true → o = .exit0) ∧ (l.all goodF = false → ∃ w, 0 ≤ w ∧ o = .ret w)
  | [], v, _ => ⟨.exit0, rfl, fun _ => rfl, fun h => by cases h⟩
  | x :: r, v, hv => by
    have e56 : f56 x = some (!(goodF x)) := by unfold f56 f56n0; rw [f57_eq]; rfl
    obtain ⟨o, h1, h2, h3⟩ := f70n2L_eq bg r (v + 1) (by omega)
    rw [f70_56n2L, e56, List.all_cons]
    simp only [Option.bind_some]
    cases goodF x with
    | true => exact ⟨o, h1, by simpa using h2, by simpa using h3⟩
    | false => exact ⟨.ret v, rfl, fun h => by simp at h, fun _ => ⟨v, hv, rfl⟩⟩
def listB (l : List NF) : Bool := decide (l.length ≤ 500) && l.all goodF
theorem f35_eq {l : List NF} (hm : l.length ≤ maxLen) : f35 l = some (bif listB l then 0 else 8) := by
  have hc : f58_56 l = some (!(l.all goodF)) := by
    obtain ⟨o, h1, h2, h3⟩ := f70n2L_eq l l 0 (by omega)
    unfold f58_56 f58_56n0 f70_56 f70_56n0 f70_56n1
    rw [f70_56n2_run l hm, h1]
    cases ha : l.all goodF with
    | true => rw [h2 ha]; rfl
    | false =>
      obtain ⟨w, hw, e⟩ := h3 ha
      rw [e]
      simp only [Option.bind_some]
      rw [decide_eq_true hw]; rfl
  unfold f35 f35n0 listB
  rw [ltNot, show decide ((l.length : Int) ≤ 500) = decide (l.length ≤ 500) by congr 1; apply propext; omega, hc]
  cases decide (l.length ≤ 500) <;> cases l.all goodF <;> rfl
def goodS (x : NS) : Bool := nmB x.Name && (nmB x.First && (nmB x.Second && slt x.First x.Second))
def ordS : Option NS → NS → Bool
  | none, _ => true
  | some y, x => slt y.Name x.Name
def okS : Option NS → List NS → Bool
  | _, [] => true
  | p, x :: r => goodS x && (ordS p x && okS (some x) r)
theorem f23n2_eq {s pre r : List NS} {x : NS} (h : s = pre ++ x :: r) (hl : s.length ≤ 1000) : f23n2 s ((pre.length : Nat) : Int) = some (bif goodS x && ordS pre.getLast? x then .norm else .ret) := by
  have h3 : f23n3 s ((pre.length : Nat) : Int) x = some (.norm (goodS x)) := by
    unfold f23n3 goodS
    rw [f36_eq, f36_eq, f36_eq]
    cases nmB x.Name <;> cases nmB x.First <;> cases nmB x.Second <;> rfl
  have h4 : f23n4 s ((pre.length : Nat) : Int) (goodS x) x = some (.norm (!(goodS x && ordS pre.getLast? x))) := by
    unfold f23n4
    rcases List.eq_nil_or_concat pre with rfl | ⟨q, y, rfl⟩
    · simp only [List.length_nil, Int.natCast_zero, List.getLast?_nil, ordS]
      rw [decide_eq_false (by omega : ¬ (0 : Int) < 0)]
      cases goodS x <;> rfl
    · rw [List.concat_eq_append] at h ⊢
      have hq : q.length + 1 ≤ 1000 := by rw [h] at hl; simp at hl; omega
      rw [decide_eq_true (by simp : (0 : Int) < (((q ++ [y]).length : Nat) : Int)), show wr64 ((((q ++ [y]).length : Nat) : Int) - 1) = ((q.length : Nat) : Int) by rw [wrIn (by simp <;> omega) (by simp <;> omega)]; simp, at_len (k := q.length) (a := q) (x := y) (b := x :: r) (by rw [h]; simp) rfl, List.getLast?_concat]
      simp only [cond_true, Option.bind_some, ordS]
      cases goodS x <;> cases slt y.Name x.Name <;> rfl
  unfold f23n2
  rw [at_len h rfl]
  simp only [Option.bind_some, h3, h4]
  cases goodS x && ordS pre.getLast? x <;> rfl
theorem f23n5_at {s : List NS} (hl : s.length ≤ 1000) : ∀ (r pre : List NS) (f : Nat), s = pre ++ r → r.length < f → f23n5 f s ((pre.length : Nat) : Int) = some (bif okS pre.getLast? r then .exit0 else .ret)
  | _, _, 0, _, h => absurd h (Nat.not_lt_zero _)
  | [], pre, f + 1, h, _ => by rw [f23n5, decide_eq_false (by rw [h]; simp), cond_false]; rfl
  | x :: r, pre, f + 1, h, hf => by
    have hp : pre.length < s.length := by rw [h]; simp
    have ih := f23n5_at hl r (pre ++ [x]) f (by rw [h]; simp) (by simpa using hf)
    rw [List.length_append, List.getLast?_concat] at ih
    rw [f23n5, decide_eq_true (by omega), cond_true, f23n2_eq h hl, okS]
    cases goodS x with
    | false => rfl
    | true =>
      cases ordS pre.getLast? x with
      | false => rfl
      | true =>
        simp only [Bool.and_self, cond_true, Option.bind_some, Bool.true_and]
        rw [wrSucc (by omega)]
        exact ih
def setsB (s : List NS) : Bool := decide (s.length ≤ 64) && okS none s
theorem f23_eq (s : List NS) : f23 s = some (bif setsB s then 0 else 8) := by
  unfold f23 f23n0 setsB
  rw [ltNot, show decide ((s.length : Int) ≤ 64) = decide (s.length ≤ 64) by congr 1; apply propext; omega]
  by_cases hl : s.length ≤ 64
  · have h1 : f23n1 s = some (bif okS none s then .norm else .ret) := by
      unfold f23n1
      have := f23n5_at (s := s) (by omega) s [] FUEL rfl (fuelSmall (by omega))
      rw [show (((([] : List NS).length : Nat)) : Int) = 0 from rfl, List.getLast?_nil] at this
      rw [this]
      cases okS none s <;> rfl
    rw [h1, decide_eq_true hl]
    cases okS none s <;> rfl
  · rw [decide_eq_false hl]; rfl
abbrev SSrt (l : List NS) : Prop := l.Pairwise fun a b => slt a.Name b.Name = true
theorem okS_some : ∀ {l : List NS} {p : NS}, okS (some p) l = true → (p :: l).Pairwise (fun a b => slt a.Name b.Name = true) ∧ ∀ x ∈ l, goodS x = true
  | [], p, _ => by simp
  | y :: r, p, h => by
    rw [okS, ordS, Bool.and_eq_true, Bool.and_eq_true] at h
    obtain ⟨h1, h2, h3⟩ := h
    obtain ⟨h4, h5⟩ := okS_some h3
    refine ⟨List.pairwise_cons.2 ⟨fun z hz => ?_, h4⟩, fun z hz => ?_⟩
    · rcases List.mem_cons.1 hz with rfl | hz
      · exact h2
      · exact slt_trans h2 ((List.pairwise_cons.1 h4).1 z hz)
    · rcases List.mem_cons.1 hz with rfl | hz
      · exact h1
      · exact h5 z hz
theorem sets_ok {s : List NS} (h : setsB s = true) : s.length ≤ 64 ∧ SSrt s ∧ ∀ x ∈ s, goodS x = true := by
  unfold setsB at h
  rw [Bool.and_eq_true, decide_eq_true_eq] at h
  refine ⟨h.1, ?_⟩
  cases s with
  | nil => simp
  | cons y r =>
    have := h.2
    rw [okS, Bool.and_eq_true, Bool.and_eq_true] at this
    obtain ⟨h1, _, h3⟩ := this
    obtain ⟨h4, h5⟩ := okS_some h3
    exact ⟨h4, fun z hz => by
      rcases List.mem_cons.1 hz with rfl | hz
      · exact h1
      · exact h5 z hz⟩

def agr (n : ByteArray) : List NS → Option NS
  | [] => none
  | x :: r => bif seq x.Name n then some x else agr n r
theorem agr_none {n : ByteArray} : ∀ {l : List NS}, (∀ x ∈ l, x.Name ≠ n) → agr n l = none
  | [], _ => rfl
  | x :: r, h => by rw [agr, seqF (h x List.mem_cons_self), cond_false, agr_none fun y hy => h y (List.mem_cons_of_mem _ hy)]
theorem agr_app {n : ByteArray} : ∀ {pre post : List NS}, (∀ x ∈ pre, x.Name ≠ n) → agr n (pre ++ post) = agr n post
  | [], _, _ => rfl
  | x :: r, post, h => by rw [List.cons_append, agr, seqF (h x List.mem_cons_self), cond_false, agr_app fun y hy => h y (List.mem_cons_of_mem _ hy)]
theorem agr_mem {n : ByteArray} {x : NS} : ∀ {l : List NS}, agr n l = some x → x ∈ l ∧ x.Name = n
  | y :: r, h => by
    rw [agr] at h
    cases k : seq y.Name n with
    | true => rw [k] at h; obtain rfl := Option.some.inj h; exact ⟨List.mem_cons_self, seq_iff.1 k⟩
    | false =>
      rw [k] at h
      obtain ⟨h1, h2⟩ := agr_mem h
      exact ⟨List.mem_cons_of_mem _ h1, h2⟩
theorem f66_eq (x : NS) (n : ByteArray) : f66 x n = some (cmpB x.Name n) := by unfold f66 f66n0; rw [f42_eq]; rfl
theorem f65n1_eq {l : List NS} (n : ByteArray) (hl : l.length ≤ 1000000) : ∀ (f lo hi : Nat), hi ≤ l.length → lo ≤ 1000000 → f65_66n1 f l n (lo : Int) (hi : Int) = (bsN (pq (fun y => decide (cmpB y.Name n < 0)) l) f lo hi).map fun r => .exit0 (r : Int)
  | 0, lo, hi, _, _ => rfl
  | f + 1, lo, hi, h, h0 => by
    rw [f65_66n1, bsN]
    by_cases hlt : lo < hi
    · have hk : (lo + hi) / 2 < l.length := by omega
      rw [decide_eq_true hlt, decide_eq_true (by omega : (lo : Int) < (hi : Int)), st_half (by omega), at_in hk]
      simp only [cond_true, Option.bind_some, f66_eq]
      have ep : pq (fun y => decide (cmpB y.Name n < 0)) l ((lo + hi) / 2) = decide (cmpB l[(lo + hi) / 2].Name n < 0) := by unfold pq; rw [List.getElem?_eq_getElem hk]
      rw [ep]
      cases decide (cmpB l[(lo + hi) / 2].Name n < 0) with
      | true => rw [cond_true, cond_true, show wr64 ((((lo + hi) / 2 : Nat) : Int) + 1) = (((lo + hi) / 2 + 1 : Nat) : Int) by rw [wrIn (by omega) (by omega)]; omega]; exact f65n1_eq n hl f _ _ h (by omega)
      | false => rw [cond_false, cond_false]; exact f65n1_eq n hl f _ _ (by omega) h0
    · rw [decide_eq_false hlt, decide_eq_false (by omega : ¬ (lo : Int) < (hi : Int))]; rfl
def noS : NS := ⟨str_x, str_x, str_x⟩
def agrE (s : List NS) (n : ByteArray) : NS × Bool := match agr n s with | some x => (x, true) | none => (noS, false)
theorem f46_eq {s : List NS} (hs : SSrt s) (hl : s.length ≤ 1000) (n : ByteArray) : f46 s n = some (agrE s n) := by
  obtain ⟨r, q1, q2, q3, q4, q5⟩ := bsN_ok (p := pq (fun y => decide (cmpB y.Name n < 0)) s) FUEL 0 s.length (by omega) (fuelSmall (by omega)) fun i j a1 a2 a3 a4 => by
    have := pq_mono (X := []) (B := s) (R := []) (q := fun y => decide (cmpB y.Name n < 0)) (hs.imp fun {u w} huw hq => by
      rw [decide_eq_true_eq, cmpB_neg] at *
      exact slt_trans huw hq) i j (by simp) a2 (by simpa using a3) (by simpa using a4)
    simpa using this
  have h1 : f65_66n1 FUEL s n 0 (s.length : Int) = some (.exit0 (r : Int)) := by
    have := f65n1_eq (l := s) n (by omega) FUEL 0 s.length (Nat.le_refl _) (by omega)
    rw [q1] at this
    exact this
  obtain ⟨s1, s2, rfl, hs1⟩ := cutL_ (l := s) (n := r) q3
  rw [List.length_append] at q5
  have f1 : ∀ y ∈ s1, decide (cmpB y.Name n < 0) = true := pq_seg (X := []) (R := s2) fun i a1 a2 => by
    have := q4 i (by omega) (by simpa [hs1] using a2)
    simpa using this
  have f2 : ∀ y ∈ s2, decide (cmpB y.Name n < 0) = false := pq_seg (X := s1) (R := []) fun i a1 a2 => by
    have := q5 i (by omega) a2
    simpa using this
  have hn1 : ∀ y ∈ s1, y.Name ≠ n := fun y hy => sltNe (cmpB_neg.1 (of_decide_eq_true (f1 y hy)))
  have h65 : f65_66 (s1 ++ s2) n = some ((r : Int), match s2 with | [] => false | y :: _ => decide (cmpB y.Name n = 0)) := by
    unfold f65_66 f65_66n0
    rw [h1]
    simp only [Option.bind_some]
    cases s2 with
    | nil => rw [decide_eq_false (by rw [List.append_nil]; omega)]; rfl
    | cons y t =>
      rw [decide_eq_true (by simp; omega), at_len (k := r) (a := s1) (x := y) (b := t) rfl hs1.symm]
      simp only [cond_true, Option.bind_some, f66_eq]
  unfold f46 f46n0 agrE
  rw [h65, agr_app hn1]
  simp only [Option.bind_some]
  cases s2 with
  | nil => rfl
  | cons y t =>
    by_cases hk : cmpB y.Name n = 0
    · simp only [decide_eq_true hk, cond_true]
      rw [at_len (k := r) (a := s1) (x := y) (b := t) rfl hs1.symm, agr, seq_iff.2 (cmpB_zero.1 hk)]; rfl
    · simp only [decide_eq_false hk, cond_false]
      have hs' := List.pairwise_cons.1 (List.pairwise_append.1 hs).2.1
      have hy : slt n y.Name = true := cmpB_pos.1 (by have := of_decide_eq_false (f2 y List.mem_cons_self); omega)
      rw [agr_none fun z hz => ?_]
      · rfl
      · rcases List.mem_cons.1 hz with rfl | hz
        · exact (sltNe hy).symm
        · exact (sltNe (slt_trans hy (hs'.1 z hz))).symm

def fitsS (s : List NS) (x : NF) : Bool := seq x.Set str_x || (match agr x.Set s with | some y => (seq y.First x.From && seq y.Second x.To) || (seq y.First x.To && seq y.Second x.From) | none => false)
theorem f21w_eq {s : List NS} (hs : SSrt s) (hl : s.length ≤ 1000) (bg : List NF) : ∀ (l : List NF) (v : Int), f21n2L s bg l v = some (bif l.all (fitsS s) then .exit0 else .ret)
  | [], v => rfl
  | x :: r, v => by
    rw [f21n2L, f46_eq hs hl, f21w_eq hs hl bg r, List.all_cons, fitsS, agrE]
    simp only [Option.bind_some]
    cases seq x.Set str_x with
    | true => rfl
    | false =>
      cases h : agr x.Set s with
      | none => rfl
      | some y =>
        have hn : seq y.Name x.Set = true := seq_iff.2 (agr_mem h).2
        simp only [cond_false, cond_true, NettingSet.eqb, hn, Bool.true_and, Bool.false_or]
        cases seq y.First x.From <;> cases seq y.Second x.To <;> cases seq y.First x.To <;> cases seq y.Second x.From <;> cases r.all (fitsS s) <;> rfl
def checkN (s : List NS) (l : List NF) : Bool := setsB s && (listB l && l.all (fitsS s))
theorem f21_eq (s : List NS) {l : List NF} (hm : l.length ≤ maxLen) : f21 s l = some (bif checkN s l then 0 else 8) := by
  unfold f21 f21n0 checkN
  rw [f23_eq, f35_eq hm]
  cases hs : setsB s with
  | false => rfl
  | true =>
    obtain ⟨h1, h2, h3⟩ := sets_ok hs
    cases listB l with
    | false => rfl
    | true =>
      have h4 : f21n1 s l = some (bif l.all (fitsS s) then .norm else .ret) := by
        unfold f21n1
        rw [f21n2_run s l hm, f21w_eq h2 (by omega)]
        cases l.all (fitsS s) <;> rfl
      simp only [cond_true, Option.bind_some, decide_true, h4, Bool.true_and]
      cases l.all (fitsS s) <;> rfl
structure OkN (s : List NS) (l : List NF) : Prop where
  ss : SSrt s
  sl : s.length ≤ 64
  sg : ∀ x ∈ s, goodS x = true
  len : l.length ≤ 500
  good : ∀ x ∈ l, goodF x = true
  fits : ∀ x ∈ l, fitsS s x = true
theorem checkN_iff {s : List NS} {l : List NF} : checkN s l = true → OkN s l := by
  unfold checkN listB
  simp only [Bool.and_eq_true, decide_eq_true_eq, List.all_eq_true]
  rintro ⟨h1, ⟨h2, h3⟩, h4⟩
  obtain ⟨k1, k2, k3⟩ := sets_ok h1
  exact ⟨k2, k1, k3, h2, h3, h4⟩
theorem alive_t : f11 = some true := rfl
end Go.Proofs.Ytkcafackfihmiaa
namespace Go.Proofs.Ytkcafackfihmiaa
set_option linter.unusedVariables false
set_option linter.unusedSimpArgs false
open Go.RowKit
theorem key_iff (a b : Key_) : Key_.eqb a b = true ↔ a = b := ⟨Key_.eqb_eq, fun h => by subst h; simp [Key_.eqb, seq_refl]⟩
abbrev KM := List (Key_ × Int)
def gK (k : Key_) (m : KM) : Int := mGet Key_.eqb 0 k m

def sF (w : NF → Int) : List NF → Int
  | [] => 0
  | x :: r => w x + sF w r
theorem sF_perm {w : NF → Int} {a b : List NF} (h : a.Perm b) : sF w a = sF w b := by
  induction h with
  | nil => rfl
  | cons x _ ih => rw [sF, sF, ih]
  | swap x y l => simp only [sF]; omega
  | trans _ _ i1 i2 => exact i1.trans i2
theorem sF_bound (w : NF → Int) (b : Int) : ∀ l : List NF, (∀ x ∈ l, -b ≤ w x ∧ w x ≤ b) → -(b * l.length) ≤ sF w l ∧ sF w l ≤ b * l.length
  | [], _ => by simp [sF]
  | x :: r, h => by
    have h1 := h x List.mem_cons_self
    have h2 := sF_bound w b r fun y hy => h y (List.mem_cons_of_mem _ hy)
    simp only [sF, List.length_cons, Int.natCast_add, Int.mul_add]
    simp only [Int.natCast_one, Int.mul_one]
    omega
theorem goodF_amt {x : NF} (h : goodF x = true) : 1 ≤ x.Amount ∧ x.Amount ≤ 1125899906842624 := by
  unfold goodF at h
  simp only [Bool.and_eq_true, decide_eq_true_eq] at h
  exact h.2.2.2
section
variable (of : NF → Key_) (sel : NF → Bool)
def sgn (x : NF) : Int := bif slt x.From x.To then x.Amount else -x.Amount
def addN : List NF → KM → KM
  | [], m => m
  | x :: r, m => bif sel x then addN r (mPut Key_.eqb (of x) (gK (of x) m + sgn x) m) else addN r m
def restN : List NF → List NF
  | [] => []
  | x :: r => bif sel x then restN r else x :: restN r
def wK (k : Key_) (x : NF) : Int := bif sel x && Key_.eqb (of x) k then sgn x else 0
theorem sgn_bd {x : NF} (h : goodF x = true) : -1125899906842624 ≤ sgn x ∧ sgn x ≤ 1125899906842624 := by
  have := goodF_amt h
  unfold sgn
  cases slt x.From x.To <;> simp only [cond_true, cond_false] <;> omega
theorem addN_get (k : Key_) : ∀ (l : List NF) (m : KM), gK k (addN of sel l m) = gK k m + sF (wK of sel k) l
  | [], m => by simp [addN, sF]
  | x :: r, m => by
    rw [addN, sF, wK]
    cases hs : sel x with
    | false => simp only [cond_false, Bool.false_and]; rw [addN_get k r m]; omega
    | true =>
      simp only [cond_true, Bool.true_and]
      rw [addN_get k r]
      unfold gK
      rw [mgetPut key_iff]
      cases hk : Key_.eqb k (of x) with
      | true =>
        have := (key_iff _ _).1 hk; subst this
        rw [eRefl key_iff]; simp only [cond_true]; omega
      | false =>
        rw [eF key_iff (a := of x) (b := k) fun e => by rw [e, eRefl key_iff] at hk; cases hk]
        simp only [cond_false]; omega
theorem addN_nd : ∀ (l : List NF) {m : KM}, ndK m → ndK (addN of sel l m)
  | [], m, h => h
  | x :: r, m, h => by
    rw [addN]
    cases sel x with
    | false => exact addN_nd r h
    | true => exact addN_nd r (mputNd key_iff h)
theorem addN_len : ∀ (l : List NF) (m : KM), (addN of sel l m).length ≤ m.length + (l.filter sel).length
  | [], m => by simp [addN]
  | x :: r, m => by
    rw [addN, List.filter_cons]
    cases sel x with
    | false => simpa using addN_len r m
    | true =>
      have h1 := addN_len r (mPut Key_.eqb (of x) (gK (of x) m + sgn x) m)
      have h2 := mputLen (E := Key_.eqb) (of x) (gK (of x) m + sgn x) m
      simp only [cond_true, if_true, List.length_cons]
      omega
theorem addN_key {k : Key_} : ∀ {l : List NF} {m : KM}, (∃ e ∈ addN of sel l m, e.1 = k) → (∃ e ∈ m, e.1 = k) ∨ ∃ x ∈ l, sel x = true ∧ of x = k
  | [], m, h => .inl h
  | x :: r, m, h => by
    rw [addN] at h
    cases hs : sel x with
    | false =>
      rw [hs, cond_false] at h
      rcases addN_key h with h | ⟨y, h1, h2⟩
      · exact .inl h
      · exact .inr ⟨y, List.mem_cons_of_mem _ h1, h2⟩
    | true =>
      rw [hs, cond_true] at h
      rcases addN_key h with h | ⟨y, h1, h2⟩
      · rcases mputKeys key_iff h with e | h
        · exact .inr ⟨x, List.mem_cons_self, hs, e.symm⟩
        · exact .inl h
      · exact .inr ⟨y, List.mem_cons_of_mem _ h1, h2⟩
theorem restN_eq : ∀ l : List NF, restN sel l = l.filter fun x => !sel x
  | [] => rfl
  | x :: r => by
    rw [restN, List.filter_cons, restN_eq r]
    cases sel x <;> rfl
end
theorem addN_bd {of : NF → Key_} {sel : NF → Bool} (k : Key_) {l : List NF} (hg : ∀ x ∈ l, goodF x = true) (hl : l.length ≤ 500) : -562949953421312000 ≤ sF (wK of sel k) l ∧ sF (wK of sel k) l ≤ 562949953421312000 := by
  have := sF_bound (wK of sel k) 1125899906842624 l fun x hx => by
    have := sgn_bd (hg x hx)
    unfold wK
    cases sel x && Key_.eqb (of x) k <;> simp only [cond_true, cond_false] <;> omega
  omega

def kP (x : NF) : Key_ := ⟨x.Date, x.Set, x.Ccy⟩
def selP (x : NF) : Bool := !(seq x.Set str_x)
def sumsP (l : List NF) : KM := addN kP selP l []
theorem gK_bd {of : NF → Key_} {sel : NF → Bool} {pre : List NF} (hg : ∀ x ∈ pre, goodF x = true) (hl : pre.length ≤ 500) (k : Key_) : -562949953421312000 ≤ gK k (addN of sel pre []) ∧ gK k (addN of sel pre []) ≤ 562949953421312000 := by
  rw [addN_get]
  have := addN_bd (of := of) (sel := sel) k hg hl
  have e : gK k [] = 0 := rfl
  omega
theorem addN_app (of : NF → Key_) (sel : NF → Bool) : ∀ (a b : List NF) (m : KM), addN of sel (a ++ b) m = addN of sel b (addN of sel a m)
  | [], b, m => rfl
  | x :: a, b, m => by
    rw [List.cons_append, addN, addN]
    cases sel x with
    | false => exact addN_app of sel a b m
    | true => exact addN_app of sel a b _
theorem restN_app (sel : NF → Bool) (a b : List NF) : restN sel (a ++ b) = restN sel a ++ restN sel b := by
  rw [restN_eq, restN_eq, restN_eq, List.filter_append]
theorem restN_len (sel : NF → Bool) (l : List NF) : (restN sel l).length ≤ l.length := by
  rw [restN_eq]; exact List.length_filter_le _ _
theorem f32n2L_eq (s : List NS) {bg : List NF} (hg : ∀ x ∈ bg, goodF x = true) (hl : bg.length ≤ 500) : ∀ (l pre : List NF) (v : Int), bg = pre ++ l → f32r1n2L s bg l v (restN selP pre) (addN kP selP pre []) = some (.exit0 (restN selP bg) (sumsP bg))
  | [], pre, v, h => by rw [List.append_nil] at h; subst h; rfl
  | x :: r, pre, v, h => by
    have ih := f32n2L_eq s hg hl r (pre ++ [x]) (v + 1) (by rw [h]; simp)
    have hx : goodF x = true := hg x (by rw [h]; simp)
    have hp : ∀ y ∈ pre, goodF y = true := fun y hy => hg y (by rw [h]; simp [hy])
    have hpl : pre.length + 1 ≤ 500 := by rw [h] at hl; simp at hl; omega
    have hb := gK_bd (of := kP) (sel := selP) hp (by omega) (kP x)
    have ha := goodF_amt hx
    have hr := restN_len selP pre
    rw [addN_app, restN_app, addN, restN] at ih
    have e33 : f33 x = some (kP x, selP x) := rfl
    rw [f32r1n2L, e33]
    simp only [Option.bind_some]
    cases hs : selP x with
    | false =>
      rw [hs] at ih
      simp only [cond_false, restN, addN] at ih ⊢
      rw [req, fitSmall (by omega) (by omega), cond_true]
      exact ih
    | true =>
      rw [hs] at ih
      simp only [cond_true, restN, addN, List.append_nil] at ih ⊢
      unfold sgn at ih
      unfold gK at ih hb
      cases hlt : slt x.From x.To with
      | true =>
        rw [hlt, cond_true] at ih
        rw [cond_true, wrIn (by omega) (by omega)]
        exact ih
      | false =>
        rw [hlt, cond_false] at ih
        rw [cond_false, wrIn (n := mGet Key_.eqb 0 (kP x) (addN kP selP pre []) - x.Amount) (by omega) (by omega)]
        rw [show mGet Key_.eqb 0 (kP x) (addN kP selP pre []) - x.Amount = mGet Key_.eqb 0 (kP x) (addN kP selP pre []) + -x.Amount by omega]
        exact ih
def mk1 (k : Key_) (a b : ByteArray) (n : Int) : NF := bif decide (n < 0) then ⟨k.date, k.set, k.ccy, b, a, -n⟩ else ⟨k.date, k.set, k.ccy, a, b, n⟩
theorem f37_eq {k : Key_} {a b : ByteArray} {n : Int} (h1 : -4611686018427387904 ≤ n) : f37 k a b n = some (mk1 k a b n, !decide (n = 0)) := by
  unfold f37 f37n0 mk1
  rw [show wr64 (0 - n) = wr64 (-n) by rw [Int.zero_sub]]
  by_cases h : n < 0
  · rw [decide_eq_true h, cond_true, cond_true, wrIn (by omega) (by omega)]; rfl
  · rw [decide_eq_false h]; rfl
def agrD (s : List NS) (n : ByteArray) : NS := (agr n s).getD noS
def mkP (s : List NS) (e : Key_ × Int) : NF := mk1 e.1 (agrD s e.1.set).First (agrD s e.1.set).Second e.2
def okAmt (n : Int) : Bool := decide (-1125899906842624 ≤ n) && decide (n ≤ 1125899906842624)
def made (mk : Key_ × Int → NF) (p : KM) : List NF := (p.filter fun e => !decide (e.2 = 0)).map mk
theorem made_cons (mk : Key_ × Int → NF) (e : Key_ × Int) (p : KM) : made mk (e :: p) = (bif decide (e.2 = 0) then [] else [mk e]) ++ made mk p := by
  unfold made
  rw [List.filter_cons]
  cases decide (e.2 = 0) <;> simp
theorem made_len (mk : Key_ × Int → NF) (p : KM) : (made mk p).length ≤ p.length := by
  unfold made; rw [List.length_map]; exact List.length_filter_le _ _
theorem mx_eq {n : Int} (h1 : -4611686018427387904 ≤ n) (h2 : n ≤ 4611686018427387904) : decide ((1125899906842624 : Int) < mxI n (wr64 (0 - n))) = !okAmt n := by
  rw [wrIn (n := 0 - n) (by omega) (by omega)]
  unfold okAmt
  have e : mxI n (0 - n) = if 0 ≤ n then n else -n := by
    unfold mxI
    by_cases h : 0 ≤ n
    · rw [if_pos h, decide_eq_false (by omega)]; rfl
    · rw [if_neg h, decide_eq_true (by omega), cond_true]; omega
  rw [e, ← Bool.decide_and, ← decide_not]
  apply decide_eq_decide.2
  split <;> omega
theorem f32n4_eq {s : List NS} (hs : SSrt s) (hl : s.length ≤ 1000) (rest : List NF) (bi : KM) : ∀ (p : KM) (o : List NF), (∀ e ∈ p, -562949953421312000 ≤ e.2 ∧ e.2 ≤ 562949953421312000) → o.length + p.length ≤ 1000 →
    f32r1n4 s rest bi p o = some (bif p.all (fun e => okAmt e.2) then .exit2 (o ++ made (mkP s) p) else .ret)
  | [], o, _, _ => by simp [f32r1n4, made]
  | e :: p, o, hb, hn => by
    simp only [List.length_cons] at hn
    have he := hb e List.mem_cons_self
    have ih := fun o' => f32n4_eq hs hl rest bi p o' fun x hx => hb x (List.mem_cons_of_mem _ hx)
    rw [f32r1n4, mx_eq (by omega) (by omega), List.all_cons, f46_eq hs hl]
    cases okAmt e.2 with
    | false => rfl
    | true =>
      simp only [Bool.not_true, cond_false, Option.bind_some, Bool.true_and]
      have e1 : (agrE s e.1.set).1 = agrD s e.1.set := by unfold agrD agrE; cases agr e.1.set s <;> rfl
      rw [e1, f37_eq (by omega), made_cons]
      simp only [Option.bind_some]
      cases h0 : decide (e.2 = 0) with
      | true => simp only [Bool.not_true, cond_false, cond_true, List.nil_append]; exact ih o (by omega)
      | false =>
        simp only [Bool.not_false, cond_true, cond_false]
        rw [req, fitSmall (by omega) (by omega), cond_true]
        have := ih (o ++ [mkP s e]) (by simp; omega)
        simpa [mkP] using this
theorem made_key (mk : Key_ × Int → NF) (hk : ∀ e, kP (mk e) = e.1) {m : KM} (h : ndK m) : (made mk m).Pairwise fun x y => eqv ltO x y = false := by
  unfold made
  rw [List.pairwise_map]
  refine (h.sublist List.filter_sublist).imp fun {a b} hab => ?_
  cases e : eqv ltO (mk a) (mk b) with
  | false => rfl
  | true =>
    obtain ⟨h1, h2, h3⟩ := cO_zero.1 (cO_cmp.eqv.1 e)
    exact absurd (by rw [← hk a, ← hk b]; unfold kP; rw [h1, h2, h3]) hab
theorem made_perm (mk : Key_ × Int → NF) {p m : KM} (h : p.Perm m) : (made mk p).Perm (made mk m) := (h.filter _).map _
theorem mk1_key (k : Key_) (a b : ByteArray) (n : Int) : kP (mk1 k a b n) = k := by
  unfold mk1
  cases decide (n < 0) <;> rfl
theorem sums_bd {of : NF → Key_} {sel : NF → Bool} {l : List NF} (hg : ∀ x ∈ l, goodF x = true) (hl : l.length ≤ 500) : ∀ e ∈ addN of sel l [], -562949953421312000 ≤ e.2 ∧ e.2 ≤ 562949953421312000 := fun e he => by
  have h1 := mgetMem key_iff (z := (0 : Int)) (k := e.1) (v := e.2) (addN_nd of sel l List.Pairwise.nil) he
  have := gK_bd (of := of) (sel := sel) hg hl e.1
  unfold gK at this
  rw [h1] at this
  exact this
def okSums (l : List NF) : Bool := (sumsP l).all fun e => okAmt e.2
def madeP (s : List NS) (l : List NF) : List NF := sortO (made (mkP s) (sumsP l))
theorem f32_eq {s : List NS} {l : List NF} (h : OkN s l) : f32r1 s l = some (bif okSums l then (0, restN selP l, madeP s l) else (14, [], [])) := by
  have hlen : (sumsP l).length ≤ 500 := by
    have := addN_len kP selP l []
    have := List.length_filter_le selP l
    have := h.len
    unfold sumsP
    simp only [List.length_nil] at *
    omega
  have h1 : f32r1n1 s l = some (.norm (restN selP l) (sumsP l)) := by
    unfold f32r1n1
    rw [f32r1n2_run s l [] [] (maxSmall (by have := h.len; omega))]
    have := f32n2L_eq s h.good h.len l [] 0 rfl
    have this' : f32r1n2L s l l 0 [] [] = _ := this
    rw [this']; rfl
  have h3 : ∀ p, p.Perm (sumsP l) → f32r1n3 s (restN selP l) (sumsP l) p = some (bif okSums l then .norm (made (mkP s) p) else .ret) := fun p hp => by
    unfold f32r1n3
    rw [f32n4_eq h.ss (by have := h.sl; omega) _ _ p [] (fun e he => sums_bd h.good h.len e (hp.mem_iff.1 he)) (by rw [hp.length_eq]; simp; omega), hp.all_eq]
    unfold okSums
    cases (sumsP l).all fun e => okAmt e.2 <;> rfl
  unfold f32r1 f32r1n0
  rw [h1]
  simp only [Option.bind_some]
  cases ho : okSums l with
  | false =>
    rw [anyOrder_of (o := f32r1n0O.ret 14 [] []) fun p hp => ?_]
    · rfl
    · rw [h3 p hp, ho]; rfl
  | true =>
    rw [anyOrder_of (o := f32r1n0O.ret 0 (restN selP l) (madeP s l)) fun p hp => ?_]
    · rfl
    · have hp2 := made_perm (mkP s) hp
      rw [h3 p hp, ho]
      simp only [cond_true, Option.bind_some]
      rw [f34_eq (by have := made_len (mkP s) p; rw [hp.length_eq] at this; omega)]
      simp only [Option.bind_some]
      have : sortO (made (mkP s) p) = madeP s l := sort_perm hp2 (made_key (mkP s) (fun e => mk1_key _ _ _ _) (addN_nd kP selP l List.Pairwise.nil)) swo_O
      rw [this]
def pairsS (s : List NS) (l : List NF) : List NF × Int := bif checkN s l then bif okSums l then (sortO (restN selP l ++ madeP s l), 0) else ([], 14) else ([], 8)
theorem madeP_len (s : List NS) (l : List NF) : (madeP s l).length ≤ (l.filter selP).length := by
  unfold madeP sortO
  rw [sortS_len swo_O]
  refine Nat.le_trans (made_len _ _) ?_
  have := addN_len kP selP l []
  show (addN kP selP l []).length ≤ _
  simpa using this
theorem rest_made (s : List NS) (l : List NF) : (restN selP l).length + (madeP s l).length ≤ l.length := by
  have h1 := madeP_len s l
  rw [restN_eq]
  have : (l.filter fun x => !selP x).length + (l.filter selP).length = l.length := by
    induction l with
    | nil => rfl
    | cons x r ih =>
      rw [List.filter_cons, List.filter_cons]
      have := ih (madeP_len s r)
      cases selP x <;> simp <;> omega
  omega
theorem f13_eq (s : List NS) {l : List NF} (hm : l.length ≤ maxLen) : f13 s l = some (pairsS s l) := by
  unfold f13 f13n0 pairsS
  rw [f21_eq s hm]
  cases hc : checkN s l with
  | false => rfl
  | true =>
    have h := checkN_iff hc
    simp only [cond_true, Option.bind_some, decide_true, f32_eq h]
    cases okSums l with
    | false => rfl
    | true =>
      have hl := h.len
      have hrm := rest_made s l
      have h1 : f13n1 (0, restN selP l, madeP s l) = some (.norm (restN selP l ++ madeP s l)) := by
        unfold f13n1
        cases hp : madeP s l with
        | nil => simp
        | cons y t =>
          rw [hp] at hrm
          simp only [List.isEmpty_cons, cond_false]
          rw [req, fitSmall (by omega) (by omega), cond_true]
      simp only [cond_true, decide_true, h1, Option.bind_some]
      rw [f34_eq (by rw [List.length_append]; omega)]; rfl
end Go.Proofs.Ytkcafackfihmiaa
namespace Go.Proofs.Ytkcafackfihmiaa
set_option linter.unusedVariables false
set_option linter.unusedSimpArgs false
open Go.RowKit


theorem f14_eq {l : List NF} (hl : l.length ≤ 1000000) : f14r1 l = some l := by
  unfold f14r1 f14r1n0
  cases h : l with
  | nil => rfl
  | cons x r =>
    rw [h] at hl
    rw [req, fitSmall hl (by omega)]; rfl
theorem f12_eq (s : List NS) (l : List NF) : ∃ b, f12 s l = some b ∧ (b = false → s.length ≤ 80 ∧ l.length ≤ 520) := by
  unfold f12 f12n0
  by_cases h : (80 : Int) < (s.length : Int)
  · rw [decide_eq_true h]; exact ⟨true, rfl, fun h => by cases h⟩
  · rw [decide_eq_false h]
    refine ⟨_, rfl, fun k => ?_⟩
    have := of_decide_eq_false k
    omega
end Go.Proofs.Ytkcafackfihmiaa
namespace Go.Proofs.Ytkcafackfihmiaa
set_option linter.unusedVariables false
set_option linter.unusedSimpArgs false
open Go.RowKit
section
variable {s : List NS} {l : List NF} (h : OkN s l)
include h
omit h in
omit h in
omit h in
omit h in
end
theorem stay {x : List NF} {y : List NF} (hx : Sd ltO x) (hy : y.Perm (x.filter selP)) (hn : y.Pairwise fun a b => eqv ltO a b = false) : sortO (restN selP x ++ y) = x := by
  have sel_eq : ∀ {k z : NF}, eqv ltO k z = true → selP z = selP k := fun {k z} e => by
    obtain ⟨_, h2, _⟩ := cO_zero.1 (cO_cmp.eqv.1 e)
    unfold selP; rw [h2]
  refine (sortS_of swo_O hx ⟨?_, fun k => ?_⟩).symm
  · rw [restN_eq]
    have := (List.filter_append_perm selP x).symm
    refine this.trans (List.perm_append_comm.trans ((List.Perm.refl _).append hy.symm))
  · rw [List.filter_append, restN_eq, List.filter_filter]
    cases hk : selP k with
    | false =>
      have e1 : y.filter (eqv ltO k) = [] := List.filter_eq_nil_iff.2 fun z hz e => by
        have := (List.mem_filter.1 (hy.mem_iff.1 hz)).2
        rw [sel_eq e, hk] at this; cases this
      rw [e1, List.append_nil]
      refine List.filter_congr fun z hz => ?_
      cases e : eqv ltO k z with
      | false => rfl
      | true => rw [sel_eq e, hk]; rfl
    | true =>
      have e1 : x.filter (fun a => eqv ltO k a && !selP a) = [] := List.filter_eq_nil_iff.2 fun z hz e => by
        rw [Bool.and_eq_true] at e
        rw [sel_eq e.1, hk] at e; cases e.2
      rw [e1, List.nil_append]
      have e2 : x.filter (eqv ltO k) = (x.filter selP).filter (eqv ltO k) := by
        rw [List.filter_filter]
        refine List.filter_congr fun z hz => ?_
        cases e : eqv ltO k z with
        | false => rfl
        | true => rw [sel_eq e, hk]; rfl
      rw [e2]
      exact (Cl.of_perm hy.symm hn swo_O).2 k
section
variable {s : List NS} {l : List NF} (h : OkN s l)
include h
end
end Go.Proofs.Ytkcafackfihmiaa
namespace Go.Proofs.Ytkcafackfihmiaa
set_option linter.unusedVariables false
set_option linter.unusedSimpArgs false
open Go.RowKit
theorem eqb_refl (x : NF) : NettingFlow.eqb x x = true := by unfold NettingFlow.eqb; simp [seq_refl]
theorem f17n2L_same (a b : List NF) : ∀ (l pre : List NF), b = pre ++ l → f17n2L a b l ((pre.length : Nat) : Int) = some .exit0
  | [], pre, _ => rfl
  | x :: r, pre, h => by
    have ih := f17n2L_same a b r (pre ++ [x]) (by rw [h]; simp)
    rw [List.length_append, show (((pre.length + [x].length : Nat)) : Int) = (pre.length : Int) + 1 from by simp] at ih
    rw [f17n2L, at_len (a := pre) (x := x) (b := r) h rfl]
    simp only [Option.bind_some, eqb_refl, cond_true]
    exact ih
theorem f17_same {a b : List NF} (h : a = b) (hl : a.length ≤ 1000000) : f17 a b = some true := by
  subst h
  have : f17n1 a a = some .norm := by
    unfold f17n1
    rw [f17n2_run a a (maxSmall hl)]
    have := f17n2L_same a a a [] rfl
    have this' : f17n2L a a a 0 = _ := this
    rw [this']; rfl
  unfold f17 f17n0
  rw [this, decide_eq_true rfl]; rfl



end Go.Proofs.Ytkcafackfihmiaa
namespace Go.Proofs.Ytkcafackfihmiaa
set_option linter.unusedVariables false
set_option linter.unusedSimpArgs false
open Go.RowKit
def kT (x : NF) : Key_ := ⟨x.Date, x.To, x.Ccy⟩
def kF (x : NF) : Key_ := ⟨x.Date, x.From, x.Ccy⟩
def putF (x : NF) (m : KM) : KM := mPut Key_.eqb (kF x) (gK (kF x) m - x.Amount) m
def putT (x : NF) (m : KM) : KM := mPut Key_.eqb (kT x) (gK (kT x) m + x.Amount) m
def addH : List NF → KM → KM
  | [], m => m
  | x :: r, m => addH r (putT x (putF x m))
def wH (k : Key_) (x : NF) : Int := (bif Key_.eqb k (kT x) then x.Amount else 0) - (bif Key_.eqb k (kF x) then x.Amount else 0)
theorem gK_put (k q : Key_) (v : Int) (m : KM) : gK q (mPut Key_.eqb k v m) = bif Key_.eqb q k then v else gK q m := by unfold gK; exact mgetPut key_iff _ _ _ _ m
theorem gK_F (k : Key_) (x : NF) (m : KM) : gK k (putF x m) = gK k m - (bif Key_.eqb k (kF x) then x.Amount else 0) := by
  unfold putF
  rw [gK_put]
  cases h : Key_.eqb k (kF x) with
  | true => rw [(key_iff _ _).1 h]; rfl
  | false => simp
theorem gK_T (k : Key_) (x : NF) (m : KM) : gK k (putT x m) = gK k m + (bif Key_.eqb k (kT x) then x.Amount else 0) := by
  unfold putT
  rw [gK_put]
  cases h : Key_.eqb k (kT x) with
  | true => rw [(key_iff _ _).1 h]; rfl
  | false => simp
theorem addH_get (k : Key_) : ∀ (l : List NF) (m : KM), gK k (addH l m) = gK k m + sF (wH k) l
  | [], m => by simp [addH, sF]
  | x :: r, m => by rw [addH, addH_get k r, gK_T, gK_F, sF, wH]; omega
theorem addH_nd : ∀ (l : List NF) {m : KM}, ndK m → ndK (addH l m)
  | [], m, h => h
  | x :: r, m, h => addH_nd r (mputNd key_iff (mputNd key_iff h))
theorem addH_len : ∀ (l : List NF) (m : KM), (addH l m).length ≤ m.length + 2 * l.length
  | [], m => by simp [addH]
  | x :: r, m => by
    have h1 := addH_len r (putT x (putF x m))
    have h2 := mputLen (E := Key_.eqb) (kT x) (gK (kT x) (putF x m) + x.Amount) (putF x m)
    have h3 := mputLen (E := Key_.eqb) (kF x) (gK (kF x) m - x.Amount) m
    rw [addH]
    unfold putT putF at *
    simp only [List.length_cons]
    omega
theorem addH_key {k : Key_} : ∀ {l : List NF} {m : KM}, (∃ e ∈ addH l m, e.1 = k) → (∃ e ∈ m, e.1 = k) ∨ ∃ x ∈ l, kT x = k ∨ kF x = k
  | [], m, h => .inl h
  | x :: r, m, h => by
    rw [addH] at h
    rcases addH_key h with h | ⟨y, h1, h2⟩
    · rcases mputKeys key_iff h with e | h
      · exact .inr ⟨x, List.mem_cons_self, .inl e.symm⟩
      · rcases mputKeys key_iff h with e | h
        · exact .inr ⟨x, List.mem_cons_self, .inr e.symm⟩
        · exact .inl h
    · exact .inr ⟨y, List.mem_cons_of_mem _ h1, h2⟩
theorem addH_keep {k : Key_} : ∀ {l : List NF} {m : KM}, (∃ e ∈ m, e.1 = k) → ∃ e ∈ addH l m, e.1 = k
  | [], m, h => h
  | x :: r, m, h => addH_keep (l := r) (mputKeep key_iff (mputKeep key_iff h))
theorem addH_has {k : Key_} {x : NF} (hk : kT x = k ∨ kF x = k) : ∀ {l : List NF} {m : KM}, x ∈ l → ∃ e ∈ addH l m, e.1 = k
  | y :: r, m, h => by
    rw [addH]
    rcases List.mem_cons.1 h with rfl | h
    · refine addH_keep ?_
      rcases hk with rfl | rfl
      · exact mputHas key_iff _ _ _
      · exact mputKeep key_iff (mputHas key_iff _ _ _)
    · exact addH_has hk h
theorem addH_app : ∀ (a b : List NF) (m : KM), addH (a ++ b) m = addH b (addH a m)
  | [], b, m => rfl
  | x :: a, b, m => by rw [List.cons_append, addH, addH]; exact addH_app a b _
theorem wH_bd {k : Key_} {l : List NF} (hg : ∀ x ∈ l, goodF x = true) (hl : l.length ≤ 500) : -562949953421312000 ≤ sF (wH k) l ∧ sF (wH k) l ≤ 562949953421312000 := by
  have := sF_bound (wH k) 1125899906842624 l fun x hx => by
    have := goodF_amt (hg x hx)
    unfold wH
    cases Key_.eqb k (kT x) <;> cases Key_.eqb k (kF x) <;> simp only [cond_true, cond_false] <;> omega
  omega
def sumsH (l : List NF) : KM := addH l []
theorem gH_bd {l : List NF} (hg : ∀ x ∈ l, goodF x = true) (hl : l.length ≤ 500) (k : Key_) : -562949953421312000 ≤ gK k (sumsH l) ∧ gK k (sumsH l) ≤ 562949953421312000 := by
  unfold sumsH
  rw [addH_get]
  have := wH_bd (k := k) hg hl
  have e : gK k [] = 0 := rfl
  omega
theorem sumsH_mem {l : List NF} {e : Key_ × Int} (he : e ∈ sumsH l) : gK e.1 (sumsH l) = e.2 :=
  mgetMem key_iff (z := (0 : Int)) (k := e.1) (v := e.2) (addH_nd l List.Pairwise.nil) he
theorem sumsH_bd {l : List NF} (hg : ∀ x ∈ l, goodF x = true) (hl : l.length ≤ 500) : ∀ e ∈ sumsH l, -562949953421312000 ≤ e.2 ∧ e.2 ≤ 562949953421312000 := fun e he => by
  have := gH_bd hg hl e.1
  rw [sumsH_mem he] at this
  exact this
theorem f16w_eq (hub : ByteArray) {bg : List NF} (hg : ∀ x ∈ bg, goodF x = true) (hl : bg.length ≤ 500) : ∀ (l pre : List NF) (v : Int), bg = pre ++ l → f16n2L hub bg l v (addH pre []) = some (.exit0 (sumsH bg))
  | [], pre, v, h => by rw [List.append_nil] at h; subst h; rfl
  | x :: r, pre, v, h => by
    have ih := f16w_eq hub hg hl r (pre ++ [x]) (v + 1) (by rw [h]; simp)
    have hx : goodF x = true := hg x (by rw [h]; simp)
    have hp : ∀ y ∈ pre, goodF y = true := fun y hy => hg y (by rw [h]; simp [hy])
    have hpl : pre.length + 1 ≤ 500 := by rw [h] at hl; simp at hl; omega
    have ha := goodF_amt hx
    have hb1 := gH_bd hp (by omega) (kF x)
    have hb2 := gH_bd hp (by omega) (kT x)
    rw [addH_app, addH] at ih
    unfold sumsH at hb1 hb2
    have e1 : wr64 (mGet Key_.eqb 0 (Key_.mk x.Date x.From x.Ccy) (addH pre []) - x.Amount) = gK (kF x) (addH pre []) - x.Amount := by
      show wr64 (gK (kF x) (addH pre []) - x.Amount) = _
      rw [wrIn (by omega) (by omega)]
    have e2 : wr64 (mGet Key_.eqb 0 (Key_.mk x.Date x.To x.Ccy) (putF x (addH pre [])) + x.Amount) = gK (kT x) (putF x (addH pre [])) + x.Amount := by
      show wr64 (gK (kT x) (putF x (addH pre [])) + x.Amount) = _
      have := gK_F (kT x) x (addH pre [])
      rw [this]
      cases Key_.eqb (kT x) (kF x) <;> simp only [cond_true, cond_false] <;> rw [wrIn (by omega) (by omega)]
    rw [f16n2L, e1]
    show f16n2L hub bg r (v + 1) (mPut Key_.eqb (Key_.mk x.Date x.To x.Ccy) (wr64 (mGet Key_.eqb 0 (Key_.mk x.Date x.To x.Ccy) (putF x (addH pre [])) + x.Amount)) (putF x (addH pre []))) = _
    rw [e2]
    exact ih

def shr (hub : ByteArray) (e : Key_ × Int) : Share_ := ⟨e.1.set, mk1 ⟨e.1.date, str_x, e.1.ccy⟩ hub e.1.set e.2⟩
def selH (hub : ByteArray) (e : Key_ × Int) : Bool := !(seq e.1.set hub) && !(decide (e.2 = 0))
def okH (hub : ByteArray) (p : KM) : Bool := p.all fun e => seq e.1.set hub || okAmt e.2
def madeH (hub : ByteArray) (p : KM) : List Share_ := (p.filter (selH hub)).map (shr hub)
theorem madeH_cons (hub : ByteArray) (e : Key_ × Int) (p : KM) : madeH hub (e :: p) = (bif selH hub e then [shr hub e] else []) ++ madeH hub p := by
  unfold madeH
  rw [List.filter_cons]
  cases selH hub e <;> simp
theorem f16n4_eq (hub : ByteArray) (bi : KM) : ∀ (p : KM) (o : List Share_), (∀ e ∈ p, -562949953421312000 ≤ e.2 ∧ e.2 ≤ 562949953421312000) → o.length + p.length ≤ 10000 →
    f16n4 hub bi p o = some (bif okH hub p then .exit2 (o ++ madeH hub p) else .ret)
  | [], o, _, _ => by simp [f16n4, madeH, okH]
  | e :: p, o, hb, hn => by
    simp only [List.length_cons] at hn
    have he := hb e List.mem_cons_self
    have ih := fun o' => f16n4_eq hub bi p o' fun x hx => hb x (List.mem_cons_of_mem _ hx)
    unfold okH at ih ⊢
    rw [f16n4, mx_eq (by omega) (by omega), List.all_cons, madeH_cons]
    unfold selH
    cases seq e.1.set hub with
    | true => simp only [cond_true, Bool.true_or, Bool.true_and, Bool.not_true, Bool.false_and, cond_false, List.nil_append]; exact ih o (by omega)
    | false =>
      cases okAmt e.2 with
      | false => rfl
      | true =>
        simp only [Bool.not_true, cond_false, Option.bind_some, Bool.true_and, Bool.false_or, Bool.not_false]
        rw [f37_eq (by omega)]
        simp only [Option.bind_some]
        cases h0 : decide (e.2 = 0) with
        | true => simp only [Bool.not_true, cond_false, List.nil_append]; exact ih o (by omega)
        | false =>
          simp only [Bool.not_false, cond_true]
          rw [req, fitSmall (by omega) (by omega), cond_true]
          have := ih (o ++ [shr hub e]) (by simp; omega)
          simpa [shr] using this
def cS (a b : Share_) : Int := cmpOr (cmpI a.flow.Date b.flow.Date) (cmpOr (cmpB a.flow.Ccy b.flow.Ccy) (cmpB a.party b.party))
theorem cS_cmp : Cmp cS := (Cmp.int fun x : Share_ => x.flow.Date).lex ((Cmp.str fun x : Share_ => x.flow.Ccy).lex (Cmp.str Share_.party))
theorem f39_eq (a b : Share_) : f39 a b = some (cS a b) := by
  unfold f39 f39n0
  rw [f41_eq, f42_eq, f42_eq]
  simp only [Option.bind_some, f40_eq]
  rfl
theorem cS_zero {a b : Share_} : cS a b = 0 ↔ a.flow.Date = b.flow.Date ∧ a.flow.Ccy = b.flow.Ccy ∧ a.party = b.party := by
  unfold cS
  rw [cmpOr_zero, cmpOr_zero, cmpI_zero, cmpB_zero, cmpB_zero]
abbrev ltS : Share_ → Share_ → Bool := fun x y => decide (cS x y < 0)
theorem swo_S : SWo ltS := cS_cmp.swo
theorem sortL_S {a b : List Share_} (hp : b.Perm a) (hn : a.Pairwise fun x y => eqv ltS x y = false) : sortL cS b = sortS ltS a :=
  sortS_of swo_S (sortL_sorted cS_cmp.SWO b) (Cl.of_perm ((sortL_perm cS_cmp.SWO b).trans hp) hn swo_S)
theorem mk1_fields (k : Key_) (a b : ByteArray) (n : Int) : (mk1 k a b n).Date = k.date ∧ (mk1 k a b n).Set = k.set ∧ (mk1 k a b n).Ccy = k.ccy := by
  unfold mk1
  cases decide (n < 0) <;> exact ⟨rfl, rfl, rfl⟩
theorem madeH_key (hub : ByteArray) {m : KM} (h : ndK m) : (madeH hub m).Pairwise fun x y => eqv ltS x y = false := by
  unfold madeH
  rw [List.pairwise_map]
  refine (h.sublist List.filter_sublist).imp fun {a b} hab => ?_
  cases e : eqv ltS (shr hub a) (shr hub b) with
  | false => rfl
  | true =>
    obtain ⟨h1, h2, h3⟩ := cS_zero.1 (cS_cmp.eqv.1 e)
    unfold shr at h1 h2 h3
    simp only [mk1_fields] at h1 h2 h3
    refine absurd ?_ hab
    obtain ⟨⟨d, p, c⟩, n⟩ := a
    obtain ⟨⟨d', p', c'⟩, n'⟩ := b
    simp only at h1 h2 h3
    rw [h1, h2, h3]
theorem madeH_len (hub : ByteArray) (p : KM) : (madeH hub p).length ≤ p.length := by
  unfold madeH; rw [List.length_map]; exact List.length_filter_le _ _
theorem f16u_eq (bm : List Share_) : ∀ (l : List Share_) (v : Int) (o : List NF), o.length + l.length ≤ 10000 → f16n6L bm l v o = some (.exit4 (o ++ l.map Share_.flow))
  | [], v, o, _ => by simp [f16n6L]
  | x :: r, v, o, h => by
    simp only [List.length_cons] at h
    rw [f16n6L, req, fitSmall (by omega) (by omega), cond_true, f16u_eq bm r (v + 1) (o ++ [x.flow]) (by simp; omega)]
    simp
def hubM (hub : ByteArray) (m : KM) : List NF × Int := bif okH hub m then bif decide (500 < (madeH hub m).length) then ([], 4) else ((sortS ltS (madeH hub m)).map Share_.flow, 0) else ([], 14)
def hubS (hub : ByteArray) (l : List NF) : List NF × Int := bif listB l then bif nmB hub then hubM hub (sumsH l) else ([], 2) else ([], 8)
theorem listB_iff {l : List NF} (h : listB l = true) : l.length ≤ 500 ∧ ∀ x ∈ l, goodF x = true := by
  unfold listB at h
  rwa [Bool.and_eq_true, decide_eq_true_eq, List.all_eq_true] at h
theorem f16_eq (hub : ByteArray) {l : List NF} (hm : l.length ≤ maxLen) : f16 hub l = some (hubS hub l) := by
  unfold f16 f16n0 hubS
  rw [f35_eq hm]
  cases hc : listB l with
  | false => rfl
  | true =>
    obtain ⟨hl, hg⟩ := listB_iff hc
    simp only [cond_true, Option.bind_some, decide_true, f36_eq]
    cases nmB hub with
    | false => rfl
    | true =>
      have h1 : f16n1 hub l = some (.norm (sumsH l)) := by
        unfold f16n1
        rw [f16n2_run hub l [] (maxSmall (by omega))]
        have := f16w_eq hub hg hl l [] 0 rfl
        have this' : f16n2L hub l l 0 [] = _ := this
        rw [this']; rfl
      have hlen : (sumsH l).length ≤ 1000 := by
        have := addH_len l []
        unfold sumsH
        simp only [List.length_nil] at this
        omega
      have h3 : ∀ p, p.Perm (sumsH l) → f16n3 hub (sumsH l) p = some (bif okH hub (sumsH l) then .norm (madeH hub p) else .ret) := fun p hp => by
        unfold f16n3
        rw [f16n4_eq hub _ p [] (fun e he => sumsH_bd hg hl e (hp.mem_iff.1 he)) (by rw [hp.length_eq]; simp; omega)]
        unfold okH
        rw [hp.all_eq]
        cases (sumsH l).all fun e => seq e.1.set hub || okAmt e.2 <;> rfl
      have hn := madeH_len hub (sumsH l)
      unfold hubM
      simp only [cond_true, h1, Option.bind_some]
      cases ho : okH hub (sumsH l) with
      | false =>
        rw [anyOrder_of (o := f16n0O.ret 14 []) fun p hp => ?_]
        · rfl
        · rw [h3 p hp, ho]; rfl
      | true =>
        rw [anyOrder_of (o := bif decide (500 < (madeH hub (sumsH l)).length) then f16n0O.ret 4 [] else f16n0O.ret 0 ((sortS ltS (madeH hub (sumsH l))).map Share_.flow)) fun p hp => ?_]
        · cases decide (500 < (madeH hub (sumsH l)).length) <;> rfl
        · have hp2 : (madeH hub p).Perm (madeH hub (sumsH l)) := (hp.filter _).map _
          rw [h3 p hp, ho]
          simp only [cond_true, Option.bind_some]
          rw [hp2.length_eq, show decide ((500 : Int) < (((madeH hub (sumsH l)).length : Nat) : Int)) = decide (500 < (madeH hub (sumsH l)).length) by congr 1; apply propext; omega]
          by_cases h5 : 500 < (madeH hub (sumsH l)).length
          · rw [decide_eq_true h5]; rfl
          · rw [decide_eq_false h5, cond_false, cond_false, so38_39_val f39_eq cS_cmp.SWO (by rw [hp2.length_eq]; omega)]
            have e := sortL_S hp2 (madeH_key hub (addH_nd l List.Pairwise.nil))
            have hsl : (sortS ltS (madeH hub (sumsH l))).length ≤ 1000 := by rw [sortS_len swo_S]; omega
            simp only [Option.bind_some]
            have e' : sortL cS (madeH hub p) = sortS ltS (madeH hub (sumsH l)) := e
            rw [e']
            unfold f16n5
            rw [f16n6_run (sortS ltS (madeH hub (sumsH l))) [] (maxSmall (by omega)), f16u_eq _ _ 0 [] (by simp; omega)]
            rfl
end Go.Proofs.Ytkcafackfihmiaa
namespace Go.Proofs.Ytkcafackfihmiaa
set_option linter.unusedVariables false
set_option linter.unusedSimpArgs false
open Go.RowKit
theorem nodup_perm {α : Type} : ∀ {a b : List α}, a.Pairwise (fun x y => x ≠ y) → b.Pairwise (fun x y => x ≠ y) → (∀ x, x ∈ a ↔ x ∈ b) → a.Perm b
  | [], b, _, _, h => by
    cases b with
    | nil => exact .refl _
    | cons y r => exact absurd ((h y).2 List.mem_cons_self) List.not_mem_nil
  | x :: a, b, ha, hb, h => by
    obtain ⟨b1, b2, rfl⟩ := List.append_of_mem ((h x).1 List.mem_cons_self)
    have hx := List.pairwise_cons.1 ha
    have hb' := List.pairwise_append.1 hb
    have hb2 := List.pairwise_cons.1 hb'.2.1
    have hn : (b1 ++ b2).Pairwise fun x y => x ≠ y := List.pairwise_append.2 ⟨hb'.1, hb2.2, fun u hu v hv => hb'.2.2 u hu v (List.mem_cons_of_mem _ hv)⟩
    have ih := nodup_perm hx.2 hn fun y => by
      constructor
      · intro hy
        have := (h y).1 (List.mem_cons_of_mem _ hy)
        rcases List.mem_append.1 this with k | k
        · exact List.mem_append_left _ k
        · rcases List.mem_cons.1 k with rfl | k
          · exact absurd rfl (hx.1 y hy)
          · exact List.mem_append_right _ k
      · intro hy
        have hm : y ∈ b1 ++ x :: b2 := by
          rcases List.mem_append.1 hy with k | k
          · exact List.mem_append_left _ k
          · exact List.mem_append_right _ (List.mem_cons_of_mem _ k)
        rcases List.mem_cons.1 ((h y).2 hm) with rfl | k
        · rcases List.mem_append.1 hy with k | k
          · exact absurd rfl (hb'.2.2 y k y List.mem_cons_self)
          · exact absurd rfl (hb2.1 y k)
        · exact k
    exact (ih.cons x).trans List.perm_middle.symm
theorem km_perm {a b : KM} (ha : ndK a) (hb : ndK b) (h : ∀ k, gK k a = gK k b) (hk : ∀ k, (∃ e ∈ a, e.1 = k) ↔ ∃ e ∈ b, e.1 = k) : a.Perm b := by
  have one : ∀ {a b : KM}, ndK a → ndK b → (∀ k, gK k a = gK k b) → (∀ k, (∃ e ∈ a, e.1 = k) → ∃ e ∈ b, e.1 = k) → ∀ x, x ∈ a → x ∈ b := fun {a b} ha hb h hk x hx => by
    obtain ⟨e, h1, h2⟩ := hk x.1 ⟨x, hx, rfl⟩
    have e1 := mgetMem key_iff (z := (0 : Int)) (k := x.1) (v := x.2) ha hx
    have e2 := mgetMem key_iff (z := (0 : Int)) (k := e.1) (v := e.2) hb h1
    have e3 := h x.1
    unfold gK at e3
    rw [h2] at e2
    rw [e1, e2] at e3
    have : e = x := Prod.ext h2 e3.symm
    rw [← this]; exact h1
  exact nodup_perm (ha.imp fun k e => k (by rw [e])) (hb.imp fun k e => k (by rw [e])) fun x => ⟨one ha hb h (fun k => (hk k).1) x, one hb ha (fun k => (h k).symm) (fun k => (hk k).2) x⟩
theorem sumsH_perm {a b : List NF} (h : a.Perm b) : (sumsH a).Perm (sumsH b) := by
  have one : ∀ {a b : List NF}, a.Perm b → ∀ k, (∃ e ∈ sumsH a, e.1 = k) → ∃ e ∈ sumsH b, e.1 = k := fun {a b} h k he => by
    rcases addH_key he with ⟨e, h1, _⟩ | ⟨x, h1, h2⟩
    · cases h1
    · exact addH_has h2 (h.mem_iff.1 h1)
  refine km_perm (addH_nd a List.Pairwise.nil) (addH_nd b List.Pairwise.nil) (fun k => ?_) fun k => ⟨one h k, one h.symm k⟩
  unfold sumsH
  rw [addH_get, addH_get, sF_perm h]
theorem addN_keep {of : NF → Key_} {sel : NF → Bool} {k : Key_} : ∀ {l : List NF} {m : KM}, (∃ e ∈ m, e.1 = k) → ∃ e ∈ addN of sel l m, e.1 = k
  | [], m, h => h
  | x :: r, m, h => by
    rw [addN]
    cases sel x with
    | false => exact addN_keep (l := r) h
    | true => exact addN_keep (l := r) (mputKeep key_iff h)
theorem addN_has {of : NF → Key_} {sel : NF → Bool} {x : NF} (hs : sel x = true) : ∀ {l : List NF} {m : KM}, x ∈ l → ∃ e ∈ addN of sel l m, e.1 = of x
  | y :: r, m, h => by
    rw [addN]
    rcases List.mem_cons.1 h with rfl | h
    · rw [hs]; exact addN_keep (mputHas key_iff _ _ _)
    · cases sel y with
      | false => exact addN_has hs h
      | true => exact addN_has hs h
theorem sumsP_perm {a b : List NF} (h : a.Perm b) : (sumsP a).Perm (sumsP b) := by
  have one : ∀ {a b : List NF}, a.Perm b → ∀ k, (∃ e ∈ sumsP a, e.1 = k) → ∃ e ∈ sumsP b, e.1 = k := fun {a b} h k he => by
    rcases addN_key (of := kP) (sel := selP) he with ⟨e, h1, _⟩ | ⟨x, h1, h2, h3⟩
    · cases h1
    · obtain ⟨e, k1, k2⟩ := addN_has (of := kP) (m := []) h2 (h.mem_iff.1 h1)
      exact ⟨e, k1, k2.trans h3⟩
  refine km_perm (addN_nd kP selP a List.Pairwise.nil) (addN_nd kP selP b List.Pairwise.nil) (fun k => ?_) fun k => ⟨one h k, one h.symm k⟩
  unfold sumsP
  rw [addN_get, addN_get, sF_perm h]
theorem listB_perm {a b : List NF} (h : a.Perm b) : listB a = listB b := by
  unfold listB
  rw [h.length_eq, h.all_eq]
theorem hubM_perm (hub : ByteArray) {a b : KM} (h : a.Perm b) (hb : ndK b) : hubM hub a = hubM hub b := by
  have h1 : (madeH hub a).Perm (madeH hub b) := (h.filter _).map _
  unfold hubM okH
  rw [h.all_eq, h1.length_eq, sort_perm h1 (madeH_key hub hb) swo_S]
theorem hubS_perm (hub : ByteArray) {a b : List NF} (h : a.Perm b) : hubS hub a = hubS hub b := by
  unfold hubS
  rw [listB_perm h, hubM_perm hub (sumsH_perm h) (addH_nd b List.Pairwise.nil)]
theorem rest_nil {l : List NF} (h : ∀ x ∈ l, selP x = true) : restN selP l = [] := by
  rw [restN_eq]
  refine List.filter_eq_nil_iff.2 fun x hx => ?_
  rw [h x hx]; simp
theorem pairsS_perm (s : List NS) {a b : List NF} (h : a.Perm b) (ha : ∀ x ∈ a, selP x = true) : pairsS s a = pairsS s b := by
  have hp := sumsP_perm h
  have h1 : madeP s a = madeP s b := sort_perm (made_perm (mkP s) hp) (made_key (mkP s) (fun e => mk1_key _ _ _ _) (addN_nd kP selP b List.Pairwise.nil)) swo_O
  unfold pairsS checkN okSums
  rw [listB_perm h, h.all_eq, hp.all_eq, h1, rest_nil ha, rest_nil fun x hx => ha x (h.mem_iff.2 hx)]

theorem pairsS_len (s : List NS) (l : List NF) : (pairsS s l).1.length ≤ l.length := by
  unfold pairsS
  cases checkN s l with
  | false => simp
  | true =>
    cases okSums l with
    | false => simp
    | true =>
      show (sortO (restN selP l ++ madeP s l)).length ≤ _
      unfold sortO
      rw [sortS_len swo_O, List.length_append]
      exact rest_made s l
theorem hubS_len (hub : ByteArray) (l : List NF) : (hubS hub l).1.length ≤ 500 := by
  unfold hubS
  cases listB l with
  | false => simp
  | true =>
    cases nmB hub with
    | false => simp
    | true =>
      show (hubM hub (sumsH l)).1.length ≤ 500
      unfold hubM
      cases okH hub (sumsH l) with
      | false => simp
      | true =>
        by_cases h : 500 < (madeH hub (sumsH l)).length
        · rw [decide_eq_true h]; simp
        · rw [decide_eq_false h]
          show ((sortS ltS (madeH hub (sumsH l))).map Share_.flow).length ≤ 500
          rw [List.length_map, sortS_len swo_S]; omega
theorem f4w_eq (s : List NS) (hub : ByteArray) (b : Bool) {bg : List NF} (hl : bg.length ≤ 1000) : ∀ (l pre : List NF), bg = pre ++ l →
    f4n2L s bg hub b l ((pre.length : Nat) : Int) (bg.reverse.take pre.length) (pre.filter selP) ((bg.reverse.take pre.length).filter selP) = some (.exit0 bg.reverse (bg.filter selP) (bg.reverse.filter selP))
  | [], pre, h => by
    rw [List.append_nil] at h; subst h
    rw [f4n2L, List.take_of_length_le (by simp)]
  | x :: r, pre, h => by
    have ih := f4w_eq s hub b hl r (pre ++ [x]) (by rw [h]; simp)
    have hlt : pre.length < bg.length := by rw [h]; simp
    have hr : pre.length < bg.reverse.length := by simpa using hlt
    have hk : bg.length - 1 - pre.length < bg.length := by omega
    have ha : at? bg (wr64 (wr64 ((bg.length : Int) - 1) - ((pre.length : Nat) : Int))) = some bg.reverse[pre.length] := by
      rw [wrIn (n := (bg.length : Int) - 1) (by omega) (by omega), wrIn (by omega) (by omega), show (bg.length : Int) - 1 - ((pre.length : Nat) : Int) = ((bg.length - 1 - pre.length : Nat) : Int) by omega, at_in hk, List.getElem_reverse]
    have et : bg.reverse.take (pre.length + 1) = bg.reverse.take pre.length ++ [bg.reverse[pre.length]] := (List.take_append_getElem hr).symm
    rw [List.length_append, show pre.length + [x].length = pre.length + 1 from rfl, et, List.filter_append, List.filter_append] at ih
    have l1 : (bg.reverse.take pre.length).length ≤ 1000 := by rw [List.length_take]; omega
    have l2 : ((bg.reverse.take pre.length).filter selP).length ≤ 1000 := Nat.le_trans (List.length_filter_le _ _) l1
    have l3 : (pre.filter selP).length ≤ 1000 := Nat.le_trans (List.length_filter_le _ _) (by omega)
    generalize bg.reverse[pre.length] = y at *
    rw [f4n2L, ha]
    simp only [Option.bind_some]
    rw [req, fitSmall (by omega) (by omega), cond_true]
    have es : ∀ z : NF, seq z.Set str_x = !selP z := fun z => by unfold selP; simp
    rw [es x, es y]
    rw [show (((pre.length + 1 : Nat)) : Int) = (pre.length : Int) + 1 from by omega] at ih
    cases hx : selP x with
    | false =>
      cases hy : selP y with
      | false =>
        simp only [List.filter_cons, hx, hy, Bool.not_false, cond_true, List.filter_nil, Bool.false_eq_true, if_false, List.append_nil] at ih ⊢
        exact ih
      | true =>
        simp only [List.filter_cons, hx, hy, Bool.not_false, Bool.not_true, cond_true, cond_false, List.filter_nil, Bool.false_eq_true, if_false, if_true, List.append_nil] at ih ⊢
        rw [req, fitSmall (by omega) (by omega), cond_true]
        exact ih
    | true =>
      cases hy : selP y with
      | false =>
        simp only [List.filter_cons, hx, hy, Bool.not_false, Bool.not_true, cond_true, cond_false, List.filter_nil, Bool.false_eq_true, if_false, if_true, List.append_nil] at ih ⊢
        rw [req, fitSmall (by omega) (by omega), cond_true]
        exact ih
      | true =>
        simp only [List.filter_cons, hx, hy, Bool.not_true, cond_false, List.filter_nil, if_true] at ih ⊢
        rw [req, fitSmall (by omega) (by omega), cond_true, req, fitSmall (by omega) (by omega), cond_true]
        exact ih
theorem lawOrder (s : List NettingSet) (l : List NettingFlow) (hub : ByteArray) (_ : s.length ≤ maxLen ∧ ∀ x ∈ s, NettingSet.ok x) (hm : l.length ≤ maxLen ∧ ∀ x ∈ l, NettingFlow.ok x) (_ : hub.size ≤ maxLen) : f4 s l hub = some true := by
  unfold f4 f4n0
  rw [alive_t]
  obtain ⟨b, h1, h2⟩ := f12_eq s l
  rw [h1]
  simp only [Option.bind_some]
  cases b with
  | true => rfl
  | false =>
    obtain ⟨h3, h4⟩ := h2 rfl
    have k1 : f4n1 s l hub true = some (.norm l.reverse (l.filter selP) (l.reverse.filter selP)) := by
      unfold f4n1
      rw [f4n2_run s l hub true [] [] [] hm.1]
      have := f4w_eq s hub true (bg := l) (by omega) l [] rfl
      have this' : f4n2L s l hub true l 0 [] [] [] = _ := this
      rw [this']; rfl
    have p1 : l.reverse.Perm l := List.reverse_perm l
    have p2 : (l.filter selP).Perm (l.reverse.filter selP) := (p1.filter selP).symm
    have n1 : (l.filter selP).length ≤ 520 := Nat.le_trans (List.length_filter_le _ _) h4
    have n2 : (l.reverse.filter selP).length ≤ 520 := by rw [← p2.length_eq]; exact n1
    have e1 : hubS hub l.reverse = hubS hub l := hubS_perm hub p1
    have e2 : pairsS s (l.filter selP) = pairsS s (l.reverse.filter selP) := pairsS_perm s p2 fun x hx => (List.mem_filter.1 hx).2
    have m1 := hubS_len hub l
    have m2 := pairsS_len s (l.reverse.filter selP)
    simp only [cond_false, cond_true, k1, Option.bind_some]
    rw [f14_eq (by omega)]
    simp only [Option.bind_some]
    rw [f16_eq hub hm.1, f16_eq hub (by rw [List.length_reverse]; exact hm.1), f13_eq s (maxSmall (by omega)), f13_eq s (maxSmall (by omega)), e1, e2]
    simp only [Option.bind_some, decide_true, cond_true]
    rw [f17_same rfl (by omega)]
    simp only [Option.bind_some, cond_true]
    rw [f17_same rfl (by omega)]
    rfl
end Go.Proofs.Ytkcafackfihmiaa
