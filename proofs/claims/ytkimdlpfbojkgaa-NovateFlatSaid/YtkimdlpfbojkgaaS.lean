/- The law NovateSum, walked. -/
import Derived.Test.YtkimdlpfbojkgaaY
namespace Go.Proofs.Ytkimdlpfbojkgaa
open Go.RowKit
/-- A trade between the two. -/
def pairB (a b : ByteArray) (x : Trade) : Bool :=
  (decide (x.b.data.toList = a.data.toList) && decide (x.s.data.toList = b.data.toList)) || (decide (x.b.data.toList = b.data.toList) && decide (x.s.data.toList = a.data.toList))
def pt (a b : ByteArray) (l : List Trade) : List Trade := l.filter (pairB a b)
section
variable {a b p : ByteArray} {l : List Trade} {k : Nat} {x : Trade}
theorem pt_no (hx : l[k]? = some x) (h : pairB a b x = false) : pt a b (l.take (k + 1)) = pt a b (l.take k) := by
  unfold pt; rw [take_at hx, List.filter_append]; simp [h]
theorem pt_yes (hx : l[k]? = some x) (h : pairB a b x = true) : pt a b (l.take (k + 1)) = pt a b (l.take k) ++ [x] := by
  unfold pt; rw [take_at hx, List.filter_append]; simp [h]
theorem or_both {c : Int} (h : (!decide (c = 0) || !decide (c = 0)) = true) : ¬ c = 0 := by
  intro hc; rw [hc] at h; simp at h
theorem posL_bd (l : List Trade) (y q : ByteArray) : -419430400 ≤ (posL (legsC l) y q).1 ∧ (posL (legsC l) y q).1 ≤ 419430400 ∧ -225179981368524800 ≤ (posL (legsC l) y q).2 ∧ (posL (legsC l) y q).2 ≤ 225179981368524800 := by
  have h : ∀ k : Nat, k ≤ (legsC l).length → -((k : Int) * 1048576) ≤ (posL ((legsC l).take k) y q).1 ∧ (posL ((legsC l).take k) y q).1 ≤ (k : Int) * 1048576 ∧ -((k : Int) * 562949953421312) ≤ (posL ((legsC l).take k) y q).2 ∧ (posL ((legsC l).take k) y q).2 ≤ (k : Int) * 562949953421312 := by
    intro k
    induction k with
    | zero => intro _; simp [posL]
    | succ k ih =>
      intro hk
      obtain ⟨h1, h2, h3, h4⟩ := ih (by omega)
      have hx : (legsC l)[k]? = some ((legsC l)[k]'(by omega)) := List.getElem?_eq_getElem (by omega)
      obtain ⟨b1, b2, b3, b4⟩ := legsC_bd hx
      rw [posL_snoc hx]
      generalize posL ((legsC l).take k) y q = z at h1 h2 h3 h4 ⊢
      generalize (legsC l)[k]'(by omega) = g at b1 b2 b3 b4 ⊢
      unfold addLeg
      split
      · by_cases hb : g.b.data.toList = y.data.toList
        · simp only [if_pos hb]
          split
          · (try simp only); omega
          · (try simp only); omega
        · simp only [if_neg hb]
          split
          · (try simp only); omega
          · (try simp only); omega
      · omega
  have h2 := h _ (Nat.le_refl _)
  rw [List.take_length] at h2
  have := legsC_len l
  omega
/-- A trade of the two, neither of them the house. -/
def pairP (a b : ByteArray) (x : Trade) : Prop := pairB a b x = true ∧ ¬ x.b.data.toList = house.data.toList ∧ ¬ x.s.data.toList = house.data.toList
theorem sum_fold (hab : ¬ a.data.toList = b.data.toList) : ∀ (d : List (Trade × Nat)) (u v : Int × Int), (∀ z ∈ d, pairP a b z.1) → u.1 = -v.1 → u.2 = -v.2 →
    ((d.flatMap fun z => legs1 z.2 z.1).foldl (addLeg a p) u).1 = -((d.flatMap fun z => legs1 z.2 z.1).foldl (addLeg b p) v).1 ∧
    ((d.flatMap fun z => legs1 z.2 z.1).foldl (addLeg a p) u).2 = -((d.flatMap fun z => legs1 z.2 z.1).foldl (addLeg b p) v).2
  | [], _, _, _, h1, h2 => ⟨h1, h2⟩
  | z :: d, u, v, hd, h1, h2 => by
    rw [List.flatMap_cons, List.foldl_append, List.foldl_append]
    obtain ⟨hp, hb, hs⟩ := hd z List.mem_cons_self
    have hba : ¬ b.data.toList = a.data.toList := fun h => hab h.symm
    have key : (legs1 z.2 z.1).foldl (addLeg a p) u = (if z.1.p.data.toList = p.data.toList then if z.1.b.data.toList = a.data.toList then (u.1 + z.1.q, u.2 + z.1.q * z.1.r) else (u.1 - z.1.q, u.2 - z.1.q * z.1.r) else u) ∧
        (legs1 z.2 z.1).foldl (addLeg b p) v = (if z.1.p.data.toList = p.data.toList then if z.1.b.data.toList = a.data.toList then (v.1 - z.1.q, v.2 - z.1.q * z.1.r) else (v.1 + z.1.q, v.2 + z.1.q * z.1.r) else v) := by
      unfold pairB at hp
      rw [Bool.or_eq_true] at hp
      simp only [legs1, List.foldl_cons, List.foldl_nil, addLeg]
      by_cases hq : z.1.p.data.toList = p.data.toList
      · simp only [if_pos hq]
        rcases hp with hp | hp
        · have e1 := of_decide_eq_true (and_l hp)
          have e2 := of_decide_eq_true (and_r hp)
          have n1 : ¬ house.data.toList = a.data.toList := fun h => hb (e1.trans h.symm)
          have n2 : ¬ house.data.toList = b.data.toList := fun h => hs (e2.trans h.symm)
          rw [if_pos e1]
          have f1 : ¬ z.1.b.data.toList = b.data.toList := fun h => hab (e1.symm.trans h)
          have f2 : ¬ z.1.s.data.toList = a.data.toList := fun h => hba (e2.symm.trans h)
          simp only [if_pos e1, if_pos e2, if_neg n1, if_neg n2, if_neg f1, if_neg f2, and_self]
        · have e1 := of_decide_eq_true (and_l hp)
          have e2 := of_decide_eq_true (and_r hp)
          have n1 : ¬ house.data.toList = b.data.toList := fun h => hb (e1.trans h.symm)
          have n2 : ¬ house.data.toList = a.data.toList := fun h => hs (e2.trans h.symm)
          have f1 : ¬ z.1.b.data.toList = a.data.toList := fun h => hba (e1.symm.trans h)
          have f2 : ¬ z.1.s.data.toList = b.data.toList := fun h => hab (e2.symm.trans h)
          simp only [if_pos e1, if_pos e2, if_neg n1, if_neg n2, if_neg f1, if_neg f2, and_self]
      · simp only [if_neg hq, and_self]
    rw [key.1, key.2]
    refine sum_fold hab d _ _ (fun z hz => hd z (List.mem_cons_of_mem _ hz)) ?_ ?_
    · split
      · split <;> simp only <;> omega
      · exact h1
    · split
      · split <;> simp only <;> omega
      · exact h2
theorem sum_plain (hab : ¬ a.data.toList = b.data.toList) (h0 : chk (pt a b l) = 0) : (posL (legsC (pt a b l)) a p).1 = -(posL (legsC (pt a b l)) b p).1 ∧ (posL (legsC (pt a b l)) a p).2 = -(posL (legsC (pt a b l)) b p).2 := by
  have hc := chk_ok h0
  unfold legsC posL
  rw [if_pos hc, legs_done]
  refine sum_fold hab _ _ _ (fun z hz => ?_) rfl rfl
  have hz1 : z.1 ∈ pt a b l := by
    unfold doneT at hz
    obtain ⟨h1, _⟩ := List.mem_filter.1 hz
    obtain ⟨_, _, h3⟩ := List.mem_zipIdx h1
    rw [h3]; exact List.getElem_mem _
  have hr : rightB z.1 = true := List.all_eq_true.1 (and_r hc) _ hz1
  have ht := and_l hr
  unfold termsB at ht
  have h5 := and_l (and_l (and_l (and_l (and_l (and_l ht)))))
  refine ⟨(List.mem_filter.1 hz1).2, ?_, ?_⟩
  · have := and_l h5
    unfold partyB at this
    exact of_decide_eq_false (not_t (and_l this))
  · have := and_r h5
    unfold partyB at this
    exact of_decide_eq_false (not_t (and_l this))
end
theorem sz_22 : (Try.prog.info? 22).map (·.size) = some 1 := by kernel_rfl
set_option maxHeartbeats 1000000 in
set_option maxRecDepth 20000 in
theorem sum_law (A : Option Addr) (c : Nat) (l : List Trade) (a b p : ByteArray) (w : World) (hs : SlB 0 w.heap.size w A c 8 Trade.cells l) :
    Calls Try.prog 4 #[Value.agg #[Value.slice A l.length c], Value.string a, Value.string b, Value.string p] w fun e w' => e = .returned (.bool (true)) ∧ Below w.heap.size w w' := by
  have hcm : l.length ≤ 9223372036854775807 := by have := hs.1; have := hs.2.1; simp only [maxLen] at this; omega
  have M0 := Mem.start w []
  have M1 := M0.see (Ro.sl 0 w.heap.size A c 8 Trade.cells l) (hs) (Nat.le_refl _)
  refine enter (args := [Value.agg #[Value.slice A l.length c], Value.string a, Value.string b, Value.string p]) Try.func4 rfl (n := 120) rfl rfl fun T2 hT3 => ?_
  refine c_seq fun K4 hK5 => ?_
  refine c_reg ?_
  refine snew (cs := #[Value.slice A l.length c]) M1 rfl (x_box (v := Value.agg #[Value.slice A l.length c]) (ev_tmp rfl rfl)) fun b6 w7 M8 => ?_
  refine st rfl (x_assign (v := Value.bool false) rfl) ?_
  refine s_nil ?_
  refine hK5 _ _ ?_
  refine c_seq fun K9 hK10 => ?_
  refine c_reg ?_
  refine sC rfl (x_callL (xs := []) (vs := []) (cap := []) ent_11 rfl trivial) (alive_c _) ?_
  rintro _ w11 ⟨rfl, hb13⟩
  refine ⟨_, rfl, ?_⟩
  have M12 := M8.call hb13
  refine st rfl (x_assign (v := Value.bool true) (ev_tmp rfl rfl)) ?_
  refine s_nil ?_
  refine hK10 _ _ ?_
  refine c_seq fun K14 hK15 => ?_
  refine c_seq fun K16 hK17 => ?_
  refine c_reg ?_
  refine st rfl (x_fieldv (b := b6) (o := 0) (q := 0) fa_24_0 (ev_tmp rfl rfl) rfl) ?_
  refine st rfl (x_load1 (v := Value.slice A l.length c) Try.underlying22 rfl (ev_tmp rfl rfl) (M12.cell (i := 0) (o := 0) rfl rfl)) ?_
  refine st rfl (x_lensl (n := l.length) Try.underlying22 (ev_tmp rfl rfl)) ?_
  refine st rfl (x_gtr (p := (l.length : Int)) (q := 220) (ev_tmp rfl rfl) rfl) ?_
  refine st rfl (x_move (v := Value.bool (decide ((220 : Int) < (l.length : Int)))) (ev_tmp rfl rfl)) ?_
  refine s_meet4 fun K18 hK19 => ?_
  have J20 : ∀ jk, K18 (fr 120 ([(28, Value.bool ((decide ((220 : Int) < (l.length : Int))) || (decide (a.data.toList = b.data.toList)))), (1, Value.string a), (2, Value.string b), (3, Value.string p), (4, Value.pointer (some ⟨b6, 0, none⟩)), (8, Value.bool false), (9, Value.bool true), (24, Value.bool (decide ((220 : Int) < (l.length : Int))))] ++ jk)) w11 := by
    intro jk
    refine hK19 _ _ ?_
    clear hK19
    refine st rfl (x_move (v := Value.bool ((decide ((220 : Int) < (l.length : Int))) || (decide (a.data.toList = b.data.toList)))) (ev_tmp rfl rfl)) ?_
    refine s_meet3 fun K23 hK24 => ?_
    have J25 : ∀ jk, K23 (fr 120 ([(32, Value.bool (((decide ((220 : Int) < (l.length : Int))) || (decide (a.data.toList = b.data.toList))) || false)), (1, Value.string a), (2, Value.string b), (3, Value.string p), (4, Value.pointer (some ⟨b6, 0, none⟩)), (8, Value.bool false), (9, Value.bool true), (29, Value.bool ((decide ((220 : Int) < (l.length : Int))) || (decide (a.data.toList = b.data.toList))))] ++ jk)) w11 := by
      intro jk
      refine hK24 _ _ ?_
      clear hK24
      refine s_nil ?_
      refine hK17 _ _ ?_
      refine c_cond (b := ((decide ((220 : Int) < (l.length : Int))) || (decide (a.data.toList = b.data.toList))) || false) (ev_tmp rfl rfl) (fun h29 => ?_) (fun h29 => ?_)
      · have h30 : (((decide ((220 : Int) < (l.length : Int))) || (decide (a.data.toList = b.data.toList))) || false) = true := h29
        refine c_seq fun K31 hK32 => ?_
        refine c_reg ?_
        refine st rfl (x_move (v := Value.bool true) (ev_tmp rfl rfl)) ?_
        refine st rfl (x_assign (v := Value.bool true) (ev_tmp rfl rfl)) ?_
        refine s_nil ?_
        refine hK32 _ _ ?_
        refine c_ret ?_
        refine hT3 _ _ ?_
        refine r1 rfl (ev_tmp (v := Value.bool true) rfl rfl) ?_
        exact ⟨rfl, M12.below⟩
      · have h33 : ¬ ((220 : Int) < (l.length : Int)) := of_decide_eq_false (or_l (or_l h29))
        have h34 : ¬ (a.data.toList = b.data.toList) := of_decide_eq_false (or_r (or_l h29))
        have hlen : l.length ≤ 220 := by omega
        have hab : ¬ a.data.toList = b.data.toList := of_decide_eq_false (or_r (or_l h29))
        refine c_skip ?_
        refine hK15 _ _ ?_
        refine c_seq fun K35 hK36 => ?_
        refine c_reg ?_
        refine snew (cs := #[Value.slice none 0 0]) M12 rfl (x_allocz z_24) fun b37 w38 M39 => ?_
        refine s_nil ?_
        refine hK36 _ _ ?_
        refine c_seq fun K40 hK41 => ?_
        refine c_seq fun K42 hK43 => ?_
        refine c_reg ?_
        refine st rfl (x_assign (v := Value.int .i64 0) rfl) ?_
        refine s_nil ?_
        refine hK43 _ _ ?_
        refine c_block ?_
        have M44 := M39.nilRow 34 8
        refine c_loopH (live := [(1, Value.string a), (2, Value.string b), (3, Value.string p), (4, Value.pointer (some ⟨b6, 0, none⟩)), (8, Value.bool false), (9, Value.bool true), (10, Value.pointer (some ⟨b37, 0, none⟩)), (11, Value.int .i64 0)]) ⟨rfl, rfl, rfl, rfl, rfl, rfl, rfl, rfl, trivial⟩ (fun mm ll w1 => ∃ (k : Nat) (A2 : Option Addr) (c2 : Nat) (jk : List (Nat × Value)), mm = l.length - k ∧ ll = [(1, Value.string a), (2, Value.string b), (3, Value.string p), (4, Value.pointer (some ⟨b6, 0, none⟩)), (8, Value.bool false), (9, Value.bool true), (10, Value.pointer (some ⟨b37, 0, none⟩)), (11, Value.int .i64 (k : Int))] ++ jk ∧ Mem w [] w1 [Own.row 34 8 (Value.slice A2 ((pt a b (l.take k)).length) c2) ((pt a b (l.take k)).length) ((pt a b (l.take k)).flatMap Trade.cells), Own.cells b37 24 #[Value.slice A2 ((pt a b (l.take k)).length) c2], Own.cells b6 24 #[Value.slice A l.length c]] [Ro.sl 0 w.heap.size A c 8 Trade.cells l] ∧ (k ≤ l.length) ∧ ((pt a b (l.take k)).length ≤ k)) ⟨0, none, 0, _, rfl, rfl, M44, (by omega), (by simp [pt])⟩ fun mm ll w1 hI45 => ?_
        obtain ⟨k, A2, c2, jk, rfl, rfl, M47, hk, hll⟩ := hI45
        obtain ⟨w46, rfl⟩ : ∃ x, x = w1 := ⟨_, rfl⟩
        refine c_seq fun K48 hK49 => ?_
        refine c_seq fun K50 hK51 => ?_
        refine c_reg ?_
        refine st rfl (x_move (v := Value.int .i64 (k : Int)) (ev_tmp rfl rfl)) ?_
        refine st rfl (x_fieldv (b := b6) (o := 0) (q := 0) fa_24_0 (ev_tmp rfl rfl) rfl) ?_
        refine st rfl (x_load1 (v := Value.slice A l.length c) Try.underlying22 rfl (ev_tmp rfl rfl) (M47.cell (i := 2) (o := 0) rfl rfl)) ?_
        refine st rfl (x_lensl (n := l.length) Try.underlying22 (ev_tmp rfl rfl)) ?_
        refine st rfl (x_lss (p := (k : Int)) (q := (l.length : Int)) (ev_tmp rfl rfl) (ev_tmp rfl rfl)) ?_
        refine s_nil ?_
        refine hK51 _ _ ?_
        refine c_cond (b := decide ((k : Int) < (l.length : Int))) (ev_tmp rfl rfl) (fun h52 => ?_) (fun h52 => ?_)
        · have h53 : (k : Int) < (l.length : Int) := of_decide_eq_true h52
          obtain ⟨x, hx⟩ : ∃ x, l[k]? = some x := ⟨_, List.getElem?_eq_getElem (by omega)⟩
          refine c_skip ?_
          refine hK49 _ _ ?_
          refine c_seq fun K54 hK55 => ?_
          refine c_block ?_
          refine c_seq fun K56 hK57 => ?_
          refine c_reg ?_
          refine st rfl (x_fieldv (b := b6) (o := 0) (q := 0) fa_24_0 (ev_tmp rfl rfl) rfl) ?_
          refine st rfl (x_load1 (v := Value.slice A l.length c) Try.underlying22 rfl (ev_tmp rfl rfl) (M47.cell (i := 2) (o := 0) rfl rfl)) ?_
          refine st rfl (x_move (v := Value.int .i64 (k : Int)) (ev_tmp rfl rfl)) ?_
          obtain ⟨g58, o59, hA60⟩ := M47.roat (i := 0) rfl hx
          refine st rfl (x_elemA (b := g58) (o := o59) (k := k) ea_22 (ev_tmp rfl rfl) hA60 (ev_tmp rfl rfl) rfl (by omega)) ?_
          refine st rfl (x_loadw (cs := [Value.string x.b, Value.string x.s, Value.string x.p, Value.int .i64 x.q, Value.int .i64 x.r, Value.bool x.bo, Value.bool x.so, Value.int .u8 x.st]) Try.underlying34 rfl sz_34 (ev_tmp rfl rfl) (M47.rorange (i := 0) rfl hA60 hx (f := 0) ⟨rfl, rfl, rfl, rfl, rfl, rfl, rfl, rfl, trivial⟩)) ?_
          refine snew (cs := #[Value.string ByteArray.empty, Value.string ByteArray.empty, Value.string ByteArray.empty, Value.int .i64 0, Value.int .i64 0, Value.bool false, Value.bool false, Value.int .u8 0]) M47 rfl (x_allocz z_34) fun b63 w65 M66 => ?_
          refine sset (i := 0) (L' := [Own.cells b63 34 #[Value.string x.b, Value.string x.s, Value.string x.p, Value.int .i64 x.q, Value.int .i64 x.r, Value.bool x.bo, Value.bool x.so, Value.int .u8 x.st], Own.row 34 8 (Value.slice A2 ((pt a b (l.take k)).length) c2) ((pt a b (l.take k)).length) ((pt a b (l.take k)).flatMap Trade.cells), Own.cells b37 24 #[Value.slice A2 ((pt a b (l.take k)).length) c2], Own.cells b6 24 #[Value.slice A l.length c]]) M66 rfl rfl (x_storew (cs := [Value.string x.b, Value.string x.s, Value.string x.p, Value.int .i64 x.q, Value.int .i64 x.r, Value.bool x.bo, Value.bool x.so, Value.int .u8 x.st]) sz_34 (ev_tmp rfl rfl) (ev_tmp rfl rfl) (M66.cells_at (i := 0) rfl) rfl ⟨rfl, rfl, rfl, rfl, rfl, rfl, rfl, rfl, trivial⟩) fun w67 M68 => ?_
          refine s_nil ?_
          refine hK57 _ _ ?_
          refine c_seq fun K69 hK70 => ?_
          refine c_reg ?_
          refine st rfl (x_fieldv (b := b63) (o := 0) (q := 0) fa_34_0 (ev_tmp rfl rfl) rfl) ?_
          refine st rfl (x_load1 (v := Value.string x.b) Try.underlying9 rfl (ev_tmp rfl rfl) (M68.cell (i := 0) (o := 0) rfl rfl)) ?_
          refine st rfl (x_move (v := Value.string a) (ev_tmp rfl rfl)) ?_
          refine st rfl (x_eqs (p := x.b) (q := a) (ev_tmp rfl rfl) (ev_tmp rfl rfl)) ?_
          refine st rfl (x_move (v := Value.bool (decide (x.b.data.toList = a.data.toList))) (ev_tmp rfl rfl)) ?_
          refine s_meet5 fun K71 hK72 => ?_
          have J73 : ∀ jk, K71 (fr 120 ([(55, Value.bool ((decide (x.b.data.toList = a.data.toList)) && (decide (x.s.data.toList = b.data.toList)))), (1, Value.string a), (2, Value.string b), (3, Value.string p), (4, Value.pointer (some ⟨b6, 0, none⟩)), (8, Value.bool false), (9, Value.bool true), (10, Value.pointer (some ⟨b37, 0, none⟩)), (11, Value.int .i64 (k : Int)), (12, Value.pointer (some ⟨b63, 0, none⟩)), (50, Value.bool (decide (x.b.data.toList = a.data.toList)))] ++ jk)) w67 := by
            intro jk
            refine hK72 _ _ ?_
            clear hK72
            refine st rfl (x_move (v := Value.bool ((decide (x.b.data.toList = a.data.toList)) && (decide (x.s.data.toList = b.data.toList)))) (ev_tmp rfl rfl)) ?_
            refine s_meet11 fun K76 hK77 => ?_
            have J78 : ∀ jk, K76 (fr 120 ([(67, Value.bool (((decide (x.b.data.toList = a.data.toList)) && (decide (x.s.data.toList = b.data.toList))) || ((decide (x.b.data.toList = b.data.toList)) && (decide (x.s.data.toList = a.data.toList))))), (1, Value.string a), (2, Value.string b), (3, Value.string p), (4, Value.pointer (some ⟨b6, 0, none⟩)), (8, Value.bool false), (9, Value.bool true), (10, Value.pointer (some ⟨b37, 0, none⟩)), (11, Value.int .i64 (k : Int)), (12, Value.pointer (some ⟨b63, 0, none⟩)), (56, Value.bool ((decide (x.b.data.toList = a.data.toList)) && (decide (x.s.data.toList = b.data.toList))))] ++ jk)) w67 := by
              intro jk
              refine hK77 _ _ ?_
              clear hK77
              refine s_nil ?_
              refine hK70 _ _ ?_
              refine c_cond (b := ((decide (x.b.data.toList = a.data.toList)) && (decide (x.s.data.toList = b.data.toList))) || ((decide (x.b.data.toList = b.data.toList)) && (decide (x.s.data.toList = a.data.toList)))) (ev_tmp rfl rfl) (fun h86 => ?_) (fun h86 => ?_)
              · have h87 : (((decide (x.b.data.toList = a.data.toList)) && (decide (x.s.data.toList = b.data.toList))) || ((decide (x.b.data.toList = b.data.toList)) && (decide (x.s.data.toList = a.data.toList)))) = true := h86
                refine c_reg ?_
                refine st rfl (x_fieldv (b := b37) (o := 0) (q := 0) fa_24_0 (ev_tmp rfl rfl) rfl) ?_
                refine st rfl (x_load1 (v := Value.slice A2 ((pt a b (l.take k)).length) c2) Try.underlying22 rfl (ev_tmp rfl rfl) (M68.cell (i := 2) (o := 0) rfl rfl)) ?_
                refine st rfl (x_loadw (cs := [Value.string x.b, Value.string x.s, Value.string x.p, Value.int .i64 x.q, Value.int .i64 x.r, Value.bool x.bo, Value.bool x.so, Value.int .u8 x.st]) Try.underlying34 rfl sz_34 (ev_tmp rfl rfl) (M68.range (i := 0) rfl ⟨rfl, rfl, rfl, rfl, rfl, rfl, rfl, rfl, trivial⟩)) ?_
                refine snews (cs := #[Value.string x.b, Value.string x.s, Value.string x.p, Value.int .i64 x.q, Value.int .i64 x.r, Value.bool x.bo, Value.bool x.so, Value.int .u8 x.st]) M68 rfl (x_buildSliceL (ps := [(0, .tmp 70)]) (vs := [(0, Value.agg #[Value.string x.b, Value.string x.s, Value.string x.p, Value.int .i64 x.q, Value.int .i64 x.r, Value.bool x.bo, Value.bool x.so, Value.int .u8 x.st])]) (cs := #[Value.string x.b, Value.string x.s, Value.string x.p, Value.int .i64 x.q, Value.int .i64 x.r, Value.bool x.bo, Value.bool x.so, Value.int .u8 x.st]) Try.underlying22 ⟨⟨rfl, (ev_tmp rfl rfl)⟩, trivial⟩ (by kernel_rfl)) fun b88 w89 M90 => ?_
                refine sapp (k := 2) (news := [Value.string x.b, Value.string x.s, Value.string x.p, Value.int .i64 x.q, Value.int .i64 x.r, Value.bool x.bo, Value.bool x.so, Value.int .u8 x.st]) M90 rfl app_22 rfl (ev_tmp rfl rfl) (ev_tmp rfl rfl) rfl (M90.block_news (i := 0) rfl) (oneL_all ⟨rfl, rfl, rfl, rfl, rfl, rfl, rfl, rfl, trivial⟩) (by simp only [maxLen]; omega) (by omega) fun A91 c92 w93 M94 => ?_
                refine st rfl (x_fieldv (b := b37) (o := 0) (q := 0) fa_24_0 (ev_tmp rfl rfl) rfl) ?_
                refine sset1 (o := 0) (v := Value.slice A91 ((pt a b (l.take k)).length + 1) c92) (i := 3) (L' := [Own.cells b88 34 #[Value.string x.b, Value.string x.s, Value.string x.p, Value.int .i64 x.q, Value.int .i64 x.r, Value.bool x.bo, Value.bool x.so, Value.int .u8 x.st], Own.cells b63 34 #[Value.string x.b, Value.string x.s, Value.string x.p, Value.int .i64 x.q, Value.int .i64 x.r, Value.bool x.bo, Value.bool x.so, Value.int .u8 x.st], Own.row 34 8 (Value.slice A91 ((pt a b (l.take k)).length + 1) c92) ((pt a b (l.take k)).length + 1) (((pt a b (l.take k)).flatMap Trade.cells) ++ [Value.string x.b, Value.string x.s, Value.string x.p, Value.int .i64 x.q, Value.int .i64 x.r, Value.bool x.bo, Value.bool x.so, Value.int .u8 x.st]), Own.cells b37 24 #[Value.slice A91 ((pt a b (l.take k)).length + 1) c92], Own.cells b6 24 #[Value.slice A l.length c]]) M94 rfl rfl (x_store1 (v := Value.slice A91 ((pt a b (l.take k)).length + 1) c92) sz_22 rfl rfl (ev_tmp rfl rfl) (ev_tmp rfl rfl) (M94.cell (i := 3) (o := 0) rfl rfl) (M94.free (i := 3) rfl)) fun w95 M96 => ?_
                refine s_nil ?_
                refine hK55 _ _ ?_
                refine c_reg ?_
                refine st rfl (x_move (v := Value.int .i64 (k : Int)) (ev_tmp rfl rfl)) ?_
                have hw97 : IntKind.i64.wrap ((k : Int) + 1) = (k : Int) + 1 := w64 (by rfl) (by omega) (by omega)
                refine st rfl (x_add_eq (p := (k : Int)) (q := 1) (ev_tmp rfl rfl) rfl hw97) ?_
                refine st rfl (x_assign (v := Value.int .i64 ((k : Int) + 1)) (ev_tmp rfl rfl)) ?_
                refine s_nil ?_
                have hpt : pt a b (l.take (k + 1)) = pt a b (l.take k) ++ [x] := pt_yes hx h86
                have hn : (pt a b (l.take (k + 1))).length = (pt a b (l.take k)).length + 1 := by rw [hpt, List.length_append]; rfl
                have hxs : (pt a b (l.take (k + 1))).flatMap Trade.cells = (pt a b (l.take k)).flatMap Trade.cells ++ [Value.string x.b, Value.string x.s, Value.string x.p, Value.int .i64 x.q, Value.int .i64 x.r, Value.bool x.bo, Value.bool x.so, Value.int .u8 x.st] := by rw [hpt]; exact (flat_snoc _ _).symm
                have M98 : Mem w [] w95 [Own.cells b88 34 #[Value.string x.b, Value.string x.s, Value.string x.p, Value.int .i64 x.q, Value.int .i64 x.r, Value.bool x.bo, Value.bool x.so, Value.int .u8 x.st], Own.cells b63 34 #[Value.string x.b, Value.string x.s, Value.string x.p, Value.int .i64 x.q, Value.int .i64 x.r, Value.bool x.bo, Value.bool x.so, Value.int .u8 x.st], Own.row 34 8 (Value.slice A91 ((pt a b (l.take (k + 1))).length) c92) ((pt a b (l.take (k + 1))).length) ((pt a b (l.take (k + 1))).flatMap Trade.cells), Own.cells b37 24 #[Value.slice A91 ((pt a b (l.take (k + 1))).length) c92], Own.cells b6 24 #[Value.slice A l.length c]] [Ro.sl 0 w.heap.size A c 8 Trade.cells l] := by rw [hn, hxs]; exact M96
                exact ⟨_, _, (by omega : l.length - (k + 1) < l.length - k), fr_held (live := [(1, Value.string a), (2, Value.string b), (3, Value.string p), (4, Value.pointer (some ⟨b6, 0, none⟩)), (8, Value.bool false), (9, Value.bool true), (10, Value.pointer (some ⟨b37, 0, none⟩)), (11, Value.int .i64 (((k + 1) : Nat) : Int))]) ⟨rfl, rfl, rfl, rfl, rfl, rfl, rfl, (congrArg (Value.int .i64) (by omega)), trivial⟩, (k + 1), A91, c92, _, rfl, rfl, (M98.dropL 2), (by omega), (by omega)⟩
              · have h99 : ((decide (x.b.data.toList = a.data.toList)) && (decide (x.s.data.toList = b.data.toList))) = false := or_l h86
                have h100 : ((decide (x.b.data.toList = b.data.toList)) && (decide (x.s.data.toList = a.data.toList))) = false := or_r h86
                refine c_skip ?_
                refine hK55 _ _ ?_
                refine c_reg ?_
                refine st rfl (x_move (v := Value.int .i64 (k : Int)) (ev_tmp rfl rfl)) ?_
                have hw101 : IntKind.i64.wrap ((k : Int) + 1) = (k : Int) + 1 := w64 (by rfl) (by omega) (by omega)
                refine st rfl (x_add_eq (p := (k : Int)) (q := 1) (ev_tmp rfl rfl) rfl hw101) ?_
                refine st rfl (x_assign (v := Value.int .i64 ((k : Int) + 1)) (ev_tmp rfl rfl)) ?_
                refine s_nil ?_
                have hpt : pt a b (l.take (k + 1)) = pt a b (l.take k) := pt_no hx h86
                have hn : (pt a b (l.take (k + 1))).length = (pt a b (l.take k)).length := by rw [hpt]
                have hxs : (pt a b (l.take (k + 1))).flatMap Trade.cells = (pt a b (l.take k)).flatMap Trade.cells := by rw [hpt]
                have M102 : Mem w [] w67 [Own.cells b63 34 #[Value.string x.b, Value.string x.s, Value.string x.p, Value.int .i64 x.q, Value.int .i64 x.r, Value.bool x.bo, Value.bool x.so, Value.int .u8 x.st], Own.row 34 8 (Value.slice A2 ((pt a b (l.take (k + 1))).length) c2) ((pt a b (l.take (k + 1))).length) ((pt a b (l.take (k + 1))).flatMap Trade.cells), Own.cells b37 24 #[Value.slice A2 ((pt a b (l.take (k + 1))).length) c2], Own.cells b6 24 #[Value.slice A l.length c]] [Ro.sl 0 w.heap.size A c 8 Trade.cells l] := by rw [hn, hxs]; exact M68
                exact ⟨_, _, (by omega : l.length - (k + 1) < l.length - k), fr_held (live := [(1, Value.string a), (2, Value.string b), (3, Value.string p), (4, Value.pointer (some ⟨b6, 0, none⟩)), (8, Value.bool false), (9, Value.bool true), (10, Value.pointer (some ⟨b37, 0, none⟩)), (11, Value.int .i64 (((k + 1) : Nat) : Int))]) ⟨rfl, rfl, rfl, rfl, rfl, rfl, rfl, (congrArg (Value.int .i64) (by omega)), trivial⟩, (k + 1), A2, c2, _, rfl, rfl, (M102.dropL 1), (by omega), (by omega)⟩
            clear hK77
            rcases bcase ((decide (x.b.data.toList = a.data.toList)) && (decide (x.s.data.toList = b.data.toList))) with hg79 | hg79
            · have h80 : ((decide (x.b.data.toList = a.data.toList)) && (decide (x.s.data.toList = b.data.toList))) = false := hg79
              refine gt rfl rfl rfl (congrArg Value.bool hg79) (x_fieldv (b := b63) (o := 0) (q := 0) fa_34_0 (ev_tmp rfl rfl) rfl) ?_
              refine gt rfl rfl rfl (congrArg Value.bool hg79) (x_load1 (v := Value.string x.b) Try.underlying9 rfl (ev_tmp rfl rfl) (M68.cell (i := 0) (o := 0) rfl rfl)) ?_
              refine gt rfl rfl rfl (congrArg Value.bool hg79) (x_move (v := Value.string b) (ev_tmp rfl rfl)) ?_
              refine gt rfl rfl rfl (congrArg Value.bool hg79) (x_eqs (p := x.b) (q := b) (ev_tmp rfl rfl) (ev_tmp rfl rfl)) ?_
              refine gt rfl rfl rfl (congrArg Value.bool hg79) (x_move (v := Value.bool (decide (x.b.data.toList = b.data.toList))) (ev_tmp rfl rfl)) ?_
              refine s_meet5 fun K81 hK82 => ?_
              have J83 : ∀ jk, K81 (fr 120 ([(66, Value.bool ((decide (x.b.data.toList = b.data.toList)) && (decide (x.s.data.toList = a.data.toList)))), (1, Value.string a), (2, Value.string b), (3, Value.string p), (4, Value.pointer (some ⟨b6, 0, none⟩)), (8, Value.bool false), (9, Value.bool true), (10, Value.pointer (some ⟨b37, 0, none⟩)), (11, Value.int .i64 (k : Int)), (12, Value.pointer (some ⟨b63, 0, none⟩)), (56, Value.bool ((decide (x.b.data.toList = a.data.toList)) && (decide (x.s.data.toList = b.data.toList)))), (61, Value.bool (decide (x.b.data.toList = b.data.toList)))] ++ jk)) w67 := by
                intro jk
                refine hK82 _ _ ?_
                clear hK82
                refine st rfl (x_pick_f (v := Value.bool ((decide (x.b.data.toList = b.data.toList)) && (decide (x.s.data.toList = a.data.toList)))) (ev_tmp rfl (congrArg Value.bool hg79)) (ev_tmp rfl rfl)) ?_
                refine s_nil ?_
                exact j_to J78 ⟨(congrArg Value.bool (or_f hg79)), rfl, rfl, rfl, rfl, rfl, rfl, rfl, rfl, rfl, rfl, trivial⟩
              clear hK82
              rcases bcase (decide (x.b.data.toList = b.data.toList)) with hg84 | hg84
              · refine gf (b' := false) rfl rfl rfl (congrArg Value.bool hg84) rfl ?_
                refine gf (b' := false) rfl rfl rfl (congrArg Value.bool hg84) rfl ?_
                refine gf (b' := false) rfl rfl rfl (congrArg Value.bool hg84) rfl ?_
                refine gf (b' := false) rfl rfl rfl (congrArg Value.bool hg84) rfl ?_
                refine gt rfl rfl rfl (congrArg Value.bool hg79) (x_pick_f (v := Value.bool false) (ev_tmp rfl (congrArg Value.bool hg84)) rfl) ?_
                refine s_nil ?_
                exact j_to J83 ⟨(congrArg Value.bool (and_f hg84)), rfl, rfl, rfl, rfl, rfl, rfl, rfl, rfl, rfl, rfl, rfl, trivial⟩
              · have h85 : x.b.data.toList = b.data.toList := of_decide_eq_true hg84
                refine gt rfl rfl rfl (congrArg Value.bool hg84) (x_fieldv (b := b63) (o := 0) (q := 1) fa_34_1 (ev_tmp rfl rfl) rfl) ?_
                refine gt rfl rfl rfl (congrArg Value.bool hg84) (x_load1 (v := Value.string x.s) Try.underlying9 rfl (ev_tmp rfl rfl) (M68.cell (i := 0) (o := 1) rfl rfl)) ?_
                refine gt rfl rfl rfl (congrArg Value.bool hg84) (x_move (v := Value.string a) (ev_tmp rfl rfl)) ?_
                refine gt rfl rfl rfl (congrArg Value.bool hg84) (x_eqs (p := x.s) (q := a) (ev_tmp rfl rfl) (ev_tmp rfl rfl)) ?_
                refine gt rfl rfl rfl (congrArg Value.bool hg79) (x_pick_t (v := Value.bool (decide (x.s.data.toList = a.data.toList))) (ev_tmp rfl (congrArg Value.bool hg84)) (ev_tmp rfl rfl)) ?_
                refine s_nil ?_
                exact j_to J83 ⟨(congrArg Value.bool (and_t hg84)), rfl, rfl, rfl, rfl, rfl, rfl, rfl, rfl, rfl, rfl, rfl, trivial⟩
            · refine gf (b' := true) rfl rfl rfl (congrArg Value.bool hg79) rfl ?_
              refine gf (b' := true) rfl rfl rfl (congrArg Value.bool hg79) rfl ?_
              refine gf (b' := true) rfl rfl rfl (congrArg Value.bool hg79) rfl ?_
              refine gf (b' := true) rfl rfl rfl (congrArg Value.bool hg79) rfl ?_
              refine gf (b' := true) rfl rfl rfl (congrArg Value.bool hg79) rfl ?_
              refine gu rfl rfl rfl rfl ?_
              refine gu rfl rfl rfl rfl ?_
              refine gu rfl rfl rfl rfl ?_
              refine gu rfl rfl rfl rfl ?_
              refine gf (b' := true) rfl rfl rfl (congrArg Value.bool hg79) rfl ?_
              refine st rfl (x_pick_t (v := Value.bool true) (ev_tmp rfl (congrArg Value.bool hg79)) rfl) ?_
              refine s_nil ?_
              exact j_to J78 ⟨(congrArg Value.bool (or_t hg79)), rfl, rfl, rfl, rfl, rfl, rfl, rfl, rfl, rfl, rfl, trivial⟩
          clear hK72
          rcases bcase (decide (x.b.data.toList = a.data.toList)) with hg74 | hg74
          · refine gf (b' := false) rfl rfl rfl (congrArg Value.bool hg74) rfl ?_
            refine gf (b' := false) rfl rfl rfl (congrArg Value.bool hg74) rfl ?_
            refine gf (b' := false) rfl rfl rfl (congrArg Value.bool hg74) rfl ?_
            refine gf (b' := false) rfl rfl rfl (congrArg Value.bool hg74) rfl ?_
            refine st rfl (x_pick_f (v := Value.bool false) (ev_tmp rfl (congrArg Value.bool hg74)) rfl) ?_
            refine s_nil ?_
            exact j_to J73 ⟨(congrArg Value.bool (and_f hg74)), rfl, rfl, rfl, rfl, rfl, rfl, rfl, rfl, rfl, rfl, trivial⟩
          · have h75 : x.b.data.toList = a.data.toList := of_decide_eq_true hg74
            refine gt rfl rfl rfl (congrArg Value.bool hg74) (x_fieldv (b := b63) (o := 0) (q := 1) fa_34_1 (ev_tmp rfl rfl) rfl) ?_
            refine gt rfl rfl rfl (congrArg Value.bool hg74) (x_load1 (v := Value.string x.s) Try.underlying9 rfl (ev_tmp rfl rfl) (M68.cell (i := 0) (o := 1) rfl rfl)) ?_
            refine gt rfl rfl rfl (congrArg Value.bool hg74) (x_move (v := Value.string b) (ev_tmp rfl rfl)) ?_
            refine gt rfl rfl rfl (congrArg Value.bool hg74) (x_eqs (p := x.s) (q := b) (ev_tmp rfl rfl) (ev_tmp rfl rfl)) ?_
            refine st rfl (x_pick_t (v := Value.bool (decide (x.s.data.toList = b.data.toList))) (ev_tmp rfl (congrArg Value.bool hg74)) (ev_tmp rfl rfl)) ?_
            refine s_nil ?_
            exact j_to J73 ⟨(congrArg Value.bool (and_t hg74)), rfl, rfl, rfl, rfl, rfl, rfl, rfl, rfl, rfl, rfl, trivial⟩
        · have h103 : ¬ ((k : Int) < (l.length : Int)) := of_decide_eq_false h52
          refine c_exit ?_
          refine xb_here ?_
          refine hK41 _ _ ?_
          refine c_seq fun K104 hK105 => ?_
          refine c_reg ?_
          refine st rfl (x_loadw (cs := [Value.slice A2 ((pt a b (l.take k)).length) c2]) Try.underlying24 rfl sz_24 (ev_tmp rfl rfl) (M47.range (i := 1) rfl ⟨rfl, trivial⟩)) ?_
          refine st rfl (x_move (v := Value.string a) (ev_tmp rfl rfl)) ?_
          refine st rfl (x_move (v := Value.string p) (ev_tmp rfl rfl)) ?_
          refine sC rfl (x_callL (xs := [.tmp 75, .tmp 76, .tmp 77]) (vs := [Value.agg #[Value.slice A2 ((pt a b (l.take k)).length) c2], Value.string a, Value.string p]) (cap := []) ent_14 rfl ⟨(ev_tmp rfl rfl), (ev_tmp rfl rfl), (ev_tmp rfl rfl), trivial⟩) (position_c _ _ (pt a b (l.take k)) a p _ (M47.rowsl (i := 0) rfl rfl Trade.len)) ?_
          rintro _ w106 ⟨rfl, hb108⟩
          refine ⟨_, rfl, ?_⟩
          have M107 := M47.call hb108
          refine st rfl (x_move (v := Value.tuple #[Value.int .i64 ((posL (legsC (pt a b (l.take k))) a p).1), Value.int .i64 ((posL (legsC (pt a b (l.take k))) a p).2), Value.int .i64 (chk (pt a b (l.take k)))]) (ev_tmp rfl rfl)) ?_
          refine st rfl (x_extract (v := Value.int .i64 ((posL (legsC (pt a b (l.take k))) a p).1)) (ev_tmp rfl rfl) rfl) ?_
          refine st rfl (x_extract (v := Value.int .i64 ((posL (legsC (pt a b (l.take k))) a p).2)) (ev_tmp rfl rfl) rfl) ?_
          refine st rfl (x_extract (v := Value.int .i64 (chk (pt a b (l.take k)))) (ev_tmp rfl rfl) rfl) ?_
          refine st rfl (x_assign (v := Value.int .i64 ((posL (legsC (pt a b (l.take k))) a p).1)) (ev_tmp rfl rfl)) ?_
          refine st rfl (x_assign (v := Value.int .i64 ((posL (legsC (pt a b (l.take k))) a p).2)) (ev_tmp rfl rfl)) ?_
          refine st rfl (x_assign (v := Value.int .i64 (chk (pt a b (l.take k)))) (ev_tmp rfl rfl)) ?_
          refine s_nil ?_
          refine hK105 _ _ ?_
          refine c_seq fun K109 hK110 => ?_
          refine c_reg ?_
          refine st rfl (x_loadw (cs := [Value.slice A2 ((pt a b (l.take k)).length) c2]) Try.underlying24 rfl sz_24 (ev_tmp rfl rfl) (M107.range (i := 1) rfl ⟨rfl, trivial⟩)) ?_
          refine st rfl (x_move (v := Value.string b) (ev_tmp rfl rfl)) ?_
          refine st rfl (x_move (v := Value.string p) (ev_tmp rfl rfl)) ?_
          refine sC rfl (x_callL (xs := [.tmp 83, .tmp 84, .tmp 85]) (vs := [Value.agg #[Value.slice A2 ((pt a b (l.take k)).length) c2], Value.string b, Value.string p]) (cap := []) ent_14 rfl ⟨(ev_tmp rfl rfl), (ev_tmp rfl rfl), (ev_tmp rfl rfl), trivial⟩) (position_c _ _ (pt a b (l.take k)) b p _ (M107.rowsl (i := 0) rfl rfl Trade.len)) ?_
          rintro _ w111 ⟨rfl, hb113⟩
          refine ⟨_, rfl, ?_⟩
          have M112 := M107.call hb113
          refine st rfl (x_move (v := Value.tuple #[Value.int .i64 ((posL (legsC (pt a b (l.take k))) b p).1), Value.int .i64 ((posL (legsC (pt a b (l.take k))) b p).2), Value.int .i64 (chk (pt a b (l.take k)))]) (ev_tmp rfl rfl)) ?_
          refine st rfl (x_extract (v := Value.int .i64 ((posL (legsC (pt a b (l.take k))) b p).1)) (ev_tmp rfl rfl) rfl) ?_
          refine st rfl (x_extract (v := Value.int .i64 ((posL (legsC (pt a b (l.take k))) b p).2)) (ev_tmp rfl rfl) rfl) ?_
          refine st rfl (x_extract (v := Value.int .i64 (chk (pt a b (l.take k)))) (ev_tmp rfl rfl) rfl) ?_
          refine st rfl (x_assign (v := Value.int .i64 ((posL (legsC (pt a b (l.take k))) b p).1)) (ev_tmp rfl rfl)) ?_
          refine st rfl (x_assign (v := Value.int .i64 ((posL (legsC (pt a b (l.take k))) b p).2)) (ev_tmp rfl rfl)) ?_
          refine st rfl (x_assign (v := Value.int .i64 (chk (pt a b (l.take k)))) (ev_tmp rfl rfl)) ?_
          refine s_nil ?_
          refine hK110 _ _ ?_
          refine c_seq fun K114 hK115 => ?_
          refine c_seq fun K116 hK117 => ?_
          refine c_reg ?_
          refine st rfl (x_move (v := Value.int .i64 (chk (pt a b (l.take k)))) (ev_tmp rfl rfl)) ?_
          refine st rfl (x_neq (p := (chk (pt a b (l.take k)))) (q := 0) (ev_tmp rfl rfl) rfl) ?_
          refine st rfl (x_move (v := Value.bool (!(decide (chk (pt a b (l.take k)) = 0)))) (ev_tmp rfl rfl)) ?_
          refine s_meet3 fun K118 hK119 => ?_
          have J120 : ∀ jk, K118 (fr 120 ([(95, Value.bool ((!(decide (chk (pt a b (l.take k)) = 0))) || (!(decide (chk (pt a b (l.take k)) = 0))))), (8, Value.bool false), (9, Value.bool true), (10, Value.pointer (some ⟨b37, 0, none⟩)), (13, Value.int .i64 ((posL (legsC (pt a b (l.take k))) a p).1)), (14, Value.int .i64 ((posL (legsC (pt a b (l.take k))) a p).2)), (15, Value.int .i64 (chk (pt a b (l.take k)))), (16, Value.int .i64 ((posL (legsC (pt a b (l.take k))) b p).1)), (17, Value.int .i64 ((posL (legsC (pt a b (l.take k))) b p).2)), (18, Value.int .i64 (chk (pt a b (l.take k)))), (92, Value.bool (!(decide (chk (pt a b (l.take k)) = 0))))] ++ jk)) w111 := by
            intro jk
            refine hK119 _ _ ?_
            clear hK119
            refine s_nil ?_
            refine hK117 _ _ ?_
            refine c_cond (b := (!(decide (chk (pt a b (l.take k)) = 0))) || (!(decide (chk (pt a b (l.take k)) = 0)))) (ev_tmp rfl rfl) (fun h123 => ?_) (fun h123 => ?_)
            · have h124 : ((!(decide (chk (pt a b (l.take k)) = 0))) || (!(decide (chk (pt a b (l.take k)) = 0)))) = true := h123
              have hne : ¬ chk (pt a b (l.take k)) = 0 := or_both h123
              refine c_seq fun K125 hK126 => ?_
              refine c_reg ?_
              refine st rfl (x_move (v := Value.bool true) (ev_tmp rfl rfl)) ?_
              refine st rfl (x_move (v := Value.bool true) (ev_tmp rfl rfl)) ?_
              refine gt rfl rfl rfl rfl (x_move (v := Value.int .i64 (chk (pt a b (l.take k)))) (ev_tmp rfl rfl)) ?_
              refine gt rfl rfl rfl rfl (x_move (v := Value.int .i64 (chk (pt a b (l.take k)))) (ev_tmp rfl rfl)) ?_
              refine gt rfl rfl rfl rfl (x_eql (p := (chk (pt a b (l.take k)))) (q := (chk (pt a b (l.take k)))) (ev_tmp rfl rfl) (ev_tmp rfl rfl)) ?_
              refine st rfl (x_pick_t (v := Value.bool (decide (chk (pt a b (l.take k)) = chk (pt a b (l.take k))))) (ev_tmp rfl rfl) (ev_tmp rfl rfl)) ?_
              refine st rfl (x_move (v := Value.bool (decide (chk (pt a b (l.take k)) = chk (pt a b (l.take k))))) (ev_tmp rfl rfl)) ?_
              have hg134 : (decide (chk (pt a b (l.take k)) = chk (pt a b (l.take k)))) = true := same_t _
              refine gt rfl rfl rfl (congrArg Value.bool hg134) (x_loadw (cs := [Value.slice A2 ((pt a b (l.take k)).length) c2]) Try.underlying24 rfl sz_24 (ev_tmp rfl rfl) (M112.range (i := 1) rfl ⟨rfl, trivial⟩)) ?_
              refine gC rfl rfl rfl (congrArg Value.bool hg134) (x_callL (xs := [.tmp 103]) (vs := [Value.agg #[Value.slice A2 ((pt a b (l.take k)).length) c2]]) (cap := []) ent_13 rfl ⟨(ev_tmp rfl rfl), trivial⟩) (check_c _ _ (pt a b (l.take k)) _ (M112.rowsl (i := 0) rfl rfl Trade.len)) ?_
              rintro _ w135 ⟨rfl, hb137⟩
              refine ⟨_, rfl, ?_⟩
              have M136 := M112.call hb137
              refine gt rfl rfl rfl (congrArg Value.bool hg134) (x_eql (p := (chk (pt a b (l.take k)))) (q := 8) (ev_tmp rfl rfl) rfl) ?_
              refine st rfl (x_pick_t (v := Value.bool (decide (chk (pt a b (l.take k)) = 8))) (ev_tmp rfl (congrArg Value.bool hg134)) (ev_tmp rfl rfl)) ?_
              refine st rfl (x_assign (v := Value.bool (decide (chk (pt a b (l.take k)) = 8))) (ev_tmp rfl rfl)) ?_
              refine s_nil ?_
              refine hK126 _ _ ?_
              refine c_ret ?_
              refine hT3 _ _ ?_
              refine r1 rfl (ev_tmp (v := Value.bool (decide (chk (pt a b (l.take k)) = 8))) rfl rfl) ?_
              exact ⟨ret_bool (decide_eq_true (chk_8 hne)), M136.below⟩
            · have h138 : chk (pt a b (l.take k)) = 0 := of_decide_eq_true (not_f (or_l h123))
              have h139 : chk (pt a b (l.take k)) = 0 := of_decide_eq_true (not_f (or_r h123))
              have h0 : chk (pt a b (l.take k)) = 0 := of_decide_eq_true (not_f (or_r h123))
              obtain ⟨ha1, ha2, ha3, ha4⟩ := posL_bd (pt a b (l.take k)) a p
              obtain ⟨hb1, hb2, hb3, hb4⟩ := posL_bd (pt a b (l.take k)) b p
              obtain ⟨hs1, hs2⟩ := sum_plain (p := p) hab h0
              refine c_skip ?_
              refine hK115 _ _ ?_
              refine c_seq fun K140 hK141 => ?_
              refine c_reg ?_
              refine st rfl (x_move (v := Value.bool true) (ev_tmp rfl rfl)) ?_
              refine st rfl (x_move (v := Value.bool true) (ev_tmp rfl rfl)) ?_
              refine gt rfl rfl rfl rfl (x_move (v := Value.int .i64 ((posL (legsC (pt a b (l.take k))) a p).1)) (ev_tmp rfl rfl)) ?_
              refine gt rfl rfl rfl rfl (x_move (v := Value.int .i64 ((posL (legsC (pt a b (l.take k))) b p).1)) (ev_tmp rfl rfl)) ?_
              have hw146 : IntKind.i64.wrap (-((posL (legsC (pt a b (l.take k))) b p).1)) = -((posL (legsC (pt a b (l.take k))) b p).1) := w64 rfl (by omega) (by omega)
              refine gt rfl rfl rfl rfl (x_neg_eq (p := ((posL (legsC (pt a b (l.take k))) b p).1)) (ev_tmp rfl rfl) hw146) ?_
              refine gt rfl rfl rfl rfl (x_eql (p := ((posL (legsC (pt a b (l.take k))) a p).1)) (q := (-((posL (legsC (pt a b (l.take k))) b p).1))) (ev_tmp rfl rfl) (ev_tmp rfl rfl)) ?_
              refine st rfl (x_pick_t (v := Value.bool (decide ((posL (legsC (pt a b (l.take k))) a p).1 = -((posL (legsC (pt a b (l.take k))) b p).1)))) (ev_tmp rfl rfl) (ev_tmp rfl rfl)) ?_
              refine st rfl (x_move (v := Value.bool (decide ((posL (legsC (pt a b (l.take k))) a p).1 = -((posL (legsC (pt a b (l.take k))) b p).1)))) (ev_tmp rfl rfl)) ?_
              refine s_meet5 fun K147 hK148 => ?_
              have J149 : ∀ jk, K147 (fr 120 ([(119, Value.bool ((decide ((posL (legsC (pt a b (l.take k))) a p).1 = -((posL (legsC (pt a b (l.take k))) b p).1))) && (decide ((posL (legsC (pt a b (l.take k))) a p).2 = -((posL (legsC (pt a b (l.take k))) b p).2))))), (8, Value.bool false), (114, Value.bool (decide ((posL (legsC (pt a b (l.take k))) a p).1 = -((posL (legsC (pt a b (l.take k))) b p).1))))] ++ jk)) w111 := by
                intro jk
                refine hK148 _ _ ?_
                clear hK148
                refine st rfl (x_assign (v := Value.bool ((decide ((posL (legsC (pt a b (l.take k))) a p).1 = -((posL (legsC (pt a b (l.take k))) b p).1))) && (decide ((posL (legsC (pt a b (l.take k))) a p).2 = -((posL (legsC (pt a b (l.take k))) b p).2))))) (ev_tmp rfl rfl)) ?_
                refine s_nil ?_
                refine hK141 _ _ ?_
                refine c_ret ?_
                refine hT3 _ _ ?_
                refine r1 rfl (ev_tmp (v := Value.bool ((decide ((posL (legsC (pt a b (l.take k))) a p).1 = -((posL (legsC (pt a b (l.take k))) b p).1))) && (decide ((posL (legsC (pt a b (l.take k))) a p).2 = -((posL (legsC (pt a b (l.take k))) b p).2))))) rfl rfl) ?_
                exact ⟨ret_bool (Bool.and_eq_true_iff.2 ⟨decide_eq_true hs1, decide_eq_true hs2⟩), M112.below⟩
              clear hK148
              rcases bcase (decide ((posL (legsC (pt a b (l.take k))) a p).1 = -((posL (legsC (pt a b (l.take k))) b p).1))) with hg150 | hg150
              · refine gf (b' := false) rfl rfl rfl (congrArg Value.bool hg150) rfl ?_
                refine gf (b' := false) rfl rfl rfl (congrArg Value.bool hg150) rfl ?_
                refine gf (b' := false) rfl rfl rfl (congrArg Value.bool hg150) rfl ?_
                refine gf (b' := false) rfl rfl rfl (congrArg Value.bool hg150) rfl ?_
                refine st rfl (x_pick_f (v := Value.bool false) (ev_tmp rfl (congrArg Value.bool hg150)) rfl) ?_
                refine s_nil ?_
                exact j_to J149 ⟨(congrArg Value.bool (and_f hg150)), rfl, rfl, trivial⟩
              · have h151 : (posL (legsC (pt a b (l.take k))) a p).1 = -((posL (legsC (pt a b (l.take k))) b p).1) := of_decide_eq_true hg150
                refine gt rfl rfl rfl (congrArg Value.bool hg150) (x_move (v := Value.int .i64 ((posL (legsC (pt a b (l.take k))) a p).2)) (ev_tmp rfl rfl)) ?_
                refine gt rfl rfl rfl (congrArg Value.bool hg150) (x_move (v := Value.int .i64 ((posL (legsC (pt a b (l.take k))) b p).2)) (ev_tmp rfl rfl)) ?_
                have hw152 : IntKind.i64.wrap (-((posL (legsC (pt a b (l.take k))) b p).2)) = -((posL (legsC (pt a b (l.take k))) b p).2) := w64 rfl (by omega) (by omega)
                refine gt rfl rfl rfl (congrArg Value.bool hg150) (x_neg_eq (p := ((posL (legsC (pt a b (l.take k))) b p).2)) (ev_tmp rfl rfl) hw152) ?_
                refine gt rfl rfl rfl (congrArg Value.bool hg150) (x_eql (p := ((posL (legsC (pt a b (l.take k))) a p).2)) (q := (-((posL (legsC (pt a b (l.take k))) b p).2))) (ev_tmp rfl rfl) (ev_tmp rfl rfl)) ?_
                refine st rfl (x_pick_t (v := Value.bool (decide ((posL (legsC (pt a b (l.take k))) a p).2 = -((posL (legsC (pt a b (l.take k))) b p).2)))) (ev_tmp rfl (congrArg Value.bool hg150)) (ev_tmp rfl rfl)) ?_
                refine s_nil ?_
                exact j_to J149 ⟨(congrArg Value.bool (and_t hg150)), rfl, rfl, trivial⟩
          clear hK119
          rcases bcase (!(decide (chk (pt a b (l.take k)) = 0))) with hg121 | hg121
          · have h122 : chk (pt a b (l.take k)) = 0 := of_decide_eq_true (not_f hg121)
            refine gt rfl rfl rfl (congrArg Value.bool hg121) (x_move (v := Value.int .i64 (chk (pt a b (l.take k)))) (ev_tmp rfl rfl)) ?_
            refine gt rfl rfl rfl (congrArg Value.bool hg121) (x_neq (p := (chk (pt a b (l.take k)))) (q := 0) (ev_tmp rfl rfl) rfl) ?_
            refine st rfl (x_pick_f (v := Value.bool (!(decide (chk (pt a b (l.take k)) = 0)))) (ev_tmp rfl (congrArg Value.bool hg121)) (ev_tmp rfl rfl)) ?_
            refine s_nil ?_
            exact j_to J120 ⟨(congrArg Value.bool (or_f hg121)), rfl, rfl, rfl, rfl, rfl, rfl, rfl, rfl, rfl, rfl, trivial⟩
          · refine gf (b' := true) rfl rfl rfl (congrArg Value.bool hg121) rfl ?_
            refine gf (b' := true) rfl rfl rfl (congrArg Value.bool hg121) rfl ?_
            refine st rfl (x_pick_t (v := Value.bool true) (ev_tmp rfl (congrArg Value.bool hg121)) rfl) ?_
            refine s_nil ?_
            exact j_to J120 ⟨(congrArg Value.bool (or_t hg121)), rfl, rfl, rfl, rfl, rfl, rfl, rfl, rfl, rfl, rfl, trivial⟩
    clear hK24
    rcases bcase ((decide ((220 : Int) < (l.length : Int))) || (decide (a.data.toList = b.data.toList))) with hg26 | hg26
    · have h27 : ¬ ((220 : Int) < (l.length : Int)) := of_decide_eq_false (or_l hg26)
      have h28 : ¬ (a.data.toList = b.data.toList) := of_decide_eq_false (or_r hg26)
      refine gt rfl rfl rfl (congrArg Value.bool hg26) (x_move (v := Value.bool true) (ev_tmp rfl rfl)) ?_
      refine gt rfl rfl rfl (congrArg Value.bool hg26) (x_not (b := true) (ev_tmp rfl rfl)) ?_
      refine st rfl (x_pick_f (v := Value.bool false) (ev_tmp rfl (congrArg Value.bool hg26)) (ev_tmp rfl rfl)) ?_
      refine s_nil ?_
      exact j_to J25 ⟨(congrArg Value.bool (or_f hg26)), rfl, rfl, rfl, rfl, rfl, rfl, rfl, trivial⟩
    · refine gf (b' := true) rfl rfl rfl (congrArg Value.bool hg26) rfl ?_
      refine gf (b' := true) rfl rfl rfl (congrArg Value.bool hg26) rfl ?_
      refine st rfl (x_pick_t (v := Value.bool true) (ev_tmp rfl (congrArg Value.bool hg26)) rfl) ?_
      refine s_nil ?_
      exact j_to J25 ⟨(congrArg Value.bool (or_t hg26)), rfl, rfl, rfl, rfl, rfl, rfl, rfl, trivial⟩
  clear hK19
  rcases bcase (decide ((220 : Int) < (l.length : Int))) with hg21 | hg21
  · have h22 : ¬ ((220 : Int) < (l.length : Int)) := of_decide_eq_false hg21
    refine gt rfl rfl rfl (congrArg Value.bool hg21) (x_move (v := Value.string a) (ev_tmp rfl rfl)) ?_
    refine gt rfl rfl rfl (congrArg Value.bool hg21) (x_move (v := Value.string b) (ev_tmp rfl rfl)) ?_
    refine gt rfl rfl rfl (congrArg Value.bool hg21) (x_eqs (p := a) (q := b) (ev_tmp rfl rfl) (ev_tmp rfl rfl)) ?_
    refine st rfl (x_pick_f (v := Value.bool (decide (a.data.toList = b.data.toList))) (ev_tmp rfl (congrArg Value.bool hg21)) (ev_tmp rfl rfl)) ?_
    refine s_nil ?_
    exact j_to J20 ⟨(congrArg Value.bool (or_f hg21)), rfl, rfl, rfl, rfl, rfl, rfl, rfl, trivial⟩
  · refine gf (b' := true) rfl rfl rfl (congrArg Value.bool hg21) rfl ?_
    refine gf (b' := true) rfl rfl rfl (congrArg Value.bool hg21) rfl ?_
    refine gf (b' := true) rfl rfl rfl (congrArg Value.bool hg21) rfl ?_
    refine st rfl (x_pick_t (v := Value.bool true) (ev_tmp rfl (congrArg Value.bool hg21)) rfl) ?_
    refine s_nil ?_
    exact j_to J20 ⟨(congrArg Value.bool (or_t hg21)), rfl, rfl, rfl, rfl, rfl, rfl, rfl, trivial⟩

end Go.Proofs.Ytkimdlpfbojkgaa
