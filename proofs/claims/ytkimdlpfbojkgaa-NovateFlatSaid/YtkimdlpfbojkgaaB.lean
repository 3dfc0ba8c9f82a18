/- Contracts: parties, terms, trades. -/
import Derived.Test.YtkimdlpfbojkgaaA
namespace Go.Proofs.Ytkimdlpfbojkgaa
open Go.RowKit
theorem terms1 (t : Trade) (h : (((!partyB t.b.data.toList || !partyB t.s.data.toList) || decide (t.b.data.toList = t.s.data.toList)) || !nameB t.p.data.toList) = true) : false = termsB t := by
  unfold termsB
  rw [Bool.or_eq_true, Bool.or_eq_true, Bool.or_eq_true] at h
  rcases h with ((h | h) | h) | h <;> simp [h] <;> simp_all
theorem terms2 (t : Trade) (h : (((!partyB t.b.data.toList || !partyB t.s.data.toList) || decide (t.b.data.toList = t.s.data.toList)) || !nameB t.p.data.toList) = false) :
    (((decide ((1 : Int) ≤ t.q) && decide (t.q ≤ 1048576)) && decide ((-536870912 : Int) ≤ t.r)) && decide (t.r ≤ 536870912)) = termsB t := by
  have h1 := not_f (or_l (or_l (or_l h)))
  have h2 := not_f (or_r (or_l (or_l h)))
  have h3 := or_r (or_l h)
  have h4 := not_f (or_r h)
  unfold termsB
  rw [h1, h2, h3, h4]; simp
set_option maxHeartbeats 1000000 in
set_option maxRecDepth 20000 in
theorem party_c (s : ByteArray) (w : World) :
    Calls Try.prog 49 #[Value.string s] w fun e w' => e = .returned (.bool (partyB s.data.toList)) ∧ w = w' := by
  have M0 := Mem.start w []
  refine enter (args := [Value.string s]) Try.func49 rfl (n := 9) rfl rfl fun T1 hT2 => ?_
  refine c_seq fun K3 hK4 => ?_
  refine c_reg ?_
  refine st rfl (x_assign (v := Value.bool false) rfl) ?_
  refine s_nil ?_
  refine hK4 _ _ ?_
  refine c_seq fun K5 hK6 => ?_
  refine c_reg ?_
  refine st rfl (x_move (v := Value.string s) (ev_tmp rfl rfl)) ?_
  refine st rfl (x_nes (p := s) (q := (⟨#[104, 111, 117, 115, 101]⟩ : ByteArray)) (ev_tmp rfl rfl) rfl) ?_
  refine st rfl (x_move (v := Value.bool (!(decide (s.data.toList = (⟨#[104, 111, 117, 115, 101]⟩ : ByteArray).data.toList)))) (ev_tmp rfl rfl)) ?_
  refine s_meet3 fun K7 hK8 => ?_
  have J9 : ∀ jk, K7 (fr 9 ([(8, Value.bool ((!(decide (s.data.toList = (⟨#[104, 111, 117, 115, 101]⟩ : ByteArray).data.toList))) && (nameB s.data.toList))), (2, Value.bool false), (5, Value.bool (!(decide (s.data.toList = (⟨#[104, 111, 117, 115, 101]⟩ : ByteArray).data.toList))))] ++ jk)) w := by
    intro jk
    refine hK8 _ _ ?_
    clear hK8
    refine st rfl (x_assign (v := Value.bool ((!(decide (s.data.toList = (⟨#[104, 111, 117, 115, 101]⟩ : ByteArray).data.toList))) && (nameB s.data.toList))) (ev_tmp rfl rfl)) ?_
    refine s_nil ?_
    refine hK6 _ _ ?_
    refine c_ret ?_
    refine hT2 _ _ ?_
    refine r1 rfl (ev_tmp (v := Value.bool ((!(decide (s.data.toList = (⟨#[104, 111, 117, 115, 101]⟩ : ByteArray).data.toList))) && (nameB s.data.toList))) rfl rfl) ?_
    exact ⟨rfl, rfl⟩
  clear hK8
  rcases bcase (!(decide (s.data.toList = (⟨#[104, 111, 117, 115, 101]⟩ : ByteArray).data.toList))) with hg10 | hg10
  · refine gf (b' := false) rfl rfl rfl (congrArg Value.bool hg10) rfl ?_
    refine gf (b' := false) rfl rfl rfl (congrArg Value.bool hg10) rfl ?_
    refine st rfl (x_pick_f (v := Value.bool false) (ev_tmp rfl (congrArg Value.bool hg10)) rfl) ?_
    refine s_nil ?_
    exact j_to J9 ⟨(congrArg Value.bool (and_f hg10)), rfl, rfl, trivial⟩
  · have h11 : ¬ (s.data.toList = (⟨#[104, 111, 117, 115, 101]⟩ : ByteArray).data.toList) := of_decide_eq_false (not_t hg10)
    refine gt rfl rfl rfl (congrArg Value.bool hg10) (x_move (v := Value.string s) (ev_tmp rfl rfl)) ?_
    refine gC rfl rfl rfl (congrArg Value.bool hg10) (x_callL (xs := [.tmp 6]) (vs := [Value.string s]) (cap := []) ent_50 rfl ⟨(ev_tmp rfl rfl), trivial⟩) (name_c s _) ?_
    rintro _ _ ⟨rfl, rfl⟩
    refine ⟨_, rfl, ?_⟩
    refine st rfl (x_pick_t (v := Value.bool (nameB s.data.toList)) (ev_tmp rfl (congrArg Value.bool hg10)) (ev_tmp rfl rfl)) ?_
    refine s_nil ?_
    exact j_to J9 ⟨(congrArg Value.bool (and_t hg10)), rfl, rfl, trivial⟩

set_option maxHeartbeats 1000000 in
set_option maxRecDepth 20000 in
theorem party_r (s : ByteArray) (w : World) :
    Calls Try.prog 55 #[Value.string s] w fun e w' => e = .returned (.bool (partyB s.data.toList)) ∧ w = w' := by
  have M0 := Mem.start w []
  refine enter (args := [Value.string s]) Try.func55 rfl (n := 9) rfl rfl fun T1 hT2 => ?_
  refine c_seq fun K3 hK4 => ?_
  refine c_reg ?_
  refine st rfl (x_assign (v := Value.bool false) rfl) ?_
  refine s_nil ?_
  refine hK4 _ _ ?_
  refine c_seq fun K5 hK6 => ?_
  refine c_reg ?_
  refine st rfl (x_move (v := Value.string s) (ev_tmp rfl rfl)) ?_
  refine sC rfl (x_callL (xs := [.tmp 3]) (vs := [Value.string s]) (cap := []) ent_56 rfl ⟨(ev_tmp rfl rfl), trivial⟩) (name_r s _) ?_
  rintro _ _ ⟨rfl, rfl⟩
  refine ⟨_, rfl, ?_⟩
  refine st rfl (x_move (v := Value.bool (nameB s.data.toList)) (ev_tmp rfl rfl)) ?_
  refine s_meet3 fun K7 hK8 => ?_
  have J9 : ∀ jk, K7 (fr 9 ([(8, Value.bool ((nameB s.data.toList) && (!(decide (s.data.toList = (⟨#[104, 111, 117, 115, 101]⟩ : ByteArray).data.toList))))), (2, Value.bool false), (5, Value.bool (nameB s.data.toList))] ++ jk)) w := by
    intro jk
    refine hK8 _ _ ?_
    clear hK8
    refine st rfl (x_assign (v := Value.bool ((nameB s.data.toList) && (!(decide (s.data.toList = (⟨#[104, 111, 117, 115, 101]⟩ : ByteArray).data.toList))))) (ev_tmp rfl rfl)) ?_
    refine s_nil ?_
    refine hK6 _ _ ?_
    refine c_ret ?_
    refine hT2 _ _ ?_
    refine r1 rfl (ev_tmp (v := Value.bool ((nameB s.data.toList) && (!(decide (s.data.toList = (⟨#[104, 111, 117, 115, 101]⟩ : ByteArray).data.toList))))) rfl rfl) ?_
    exact ⟨ret_bool (Bool.and_comm _ _), rfl⟩
  clear hK8
  rcases bcase (nameB s.data.toList) with hg10 | hg10
  · refine gf (b' := false) rfl rfl rfl (congrArg Value.bool hg10) rfl ?_
    refine gf (b' := false) rfl rfl rfl (congrArg Value.bool hg10) rfl ?_
    refine st rfl (x_pick_f (v := Value.bool false) (ev_tmp rfl (congrArg Value.bool hg10)) rfl) ?_
    refine s_nil ?_
    exact j_to J9 ⟨(congrArg Value.bool (and_f hg10)), rfl, rfl, trivial⟩
  · have h11 : nameB s.data.toList = true := hg10
    refine gt rfl rfl rfl (congrArg Value.bool hg10) (x_move (v := Value.string s) (ev_tmp rfl rfl)) ?_
    refine gt rfl rfl rfl (congrArg Value.bool hg10) (x_nes (p := s) (q := (⟨#[104, 111, 117, 115, 101]⟩ : ByteArray)) (ev_tmp rfl rfl) rfl) ?_
    refine st rfl (x_pick_t (v := Value.bool (!(decide (s.data.toList = (⟨#[104, 111, 117, 115, 101]⟩ : ByteArray).data.toList)))) (ev_tmp rfl (congrArg Value.bool hg10)) (ev_tmp rfl rfl)) ?_
    refine s_nil ?_
    exact j_to J9 ⟨(congrArg Value.bool (and_t hg10)), rfl, rfl, trivial⟩

set_option maxHeartbeats 1000000 in
set_option maxRecDepth 20000 in
theorem agreed_c (t : Trade) (w : World) :
    Calls Try.prog 35 #[Value.agg #[Value.string t.b, Value.string t.s, Value.string t.p, Value.int .i64 t.q, Value.int .i64 t.r, Value.bool t.bo, Value.bool t.so, Value.int .u8 t.st]] w fun e w' => e = .returned (.bool (termsB t)) ∧ Below w.heap.size w w' := by
  have M0 := Mem.start w []
  refine enter (args := [Value.agg #[Value.string t.b, Value.string t.s, Value.string t.p, Value.int .i64 t.q, Value.int .i64 t.r, Value.bool t.bo, Value.bool t.so, Value.int .u8 t.st]]) Try.func35 rfl (n := 45) rfl rfl fun T1 hT2 => ?_
  refine c_seq fun K3 hK4 => ?_
  refine c_reg ?_
  refine snew (cs := #[Value.string t.b, Value.string t.s, Value.string t.p, Value.int .i64 t.q, Value.int .i64 t.r, Value.bool t.bo, Value.bool t.so, Value.int .u8 t.st]) M0 rfl (x_box (v := Value.agg #[Value.string t.b, Value.string t.s, Value.string t.p, Value.int .i64 t.q, Value.int .i64 t.r, Value.bool t.bo, Value.bool t.so, Value.int .u8 t.st]) (ev_tmp rfl rfl)) fun b5 w6 M7 => ?_
  refine st rfl (x_assign (v := Value.bool false) rfl) ?_
  refine s_nil ?_
  refine hK4 _ _ ?_
  refine c_seq fun K8 hK9 => ?_
  refine c_reg ?_
  refine st rfl (x_fieldv (b := b5) (o := 0) (q := 0) fa_34_0 (ev_tmp rfl rfl) rfl) ?_
  refine st rfl (x_load1 (v := Value.string t.b) Try.underlying9 rfl (ev_tmp rfl rfl) (M7.cell (i := 0) (o := 0) rfl rfl)) ?_
  refine sC rfl (x_callL (xs := [.tmp 5]) (vs := [Value.string t.b]) (cap := []) ent_49 rfl ⟨(ev_tmp rfl rfl), trivial⟩) (party_c t.b _) ?_
  rintro _ _ ⟨rfl, rfl⟩
  refine ⟨_, rfl, ?_⟩
  refine st rfl (x_move (v := Value.bool (partyB t.b.data.toList)) (ev_tmp rfl rfl)) ?_
  refine s_meet4 fun K10 hK11 => ?_
  have J12 : ∀ jk, K10 (fr 45 ([(11, Value.bool ((partyB t.b.data.toList) && (partyB t.s.data.toList))), (1, Value.pointer (some ⟨b5, 0, none⟩)), (2, Value.bool false), (7, Value.bool (partyB t.b.data.toList))] ++ jk)) w6 := by
    intro jk
    refine hK11 _ _ ?_
    clear hK11
    refine st rfl (x_move (v := Value.bool ((partyB t.b.data.toList) && (partyB t.s.data.toList))) (ev_tmp rfl rfl)) ?_
    refine s_meet6 fun K15 hK16 => ?_
    have J17 : ∀ jk, K15 (fr 45 ([(18, Value.bool (((partyB t.b.data.toList) && (partyB t.s.data.toList)) && (!(decide (t.b.data.toList = t.s.data.toList))))), (1, Value.pointer (some ⟨b5, 0, none⟩)), (2, Value.bool false), (12, Value.bool ((partyB t.b.data.toList) && (partyB t.s.data.toList)))] ++ jk)) w6 := by
      intro jk
      refine hK16 _ _ ?_
      clear hK16
      refine st rfl (x_move (v := Value.bool (((partyB t.b.data.toList) && (partyB t.s.data.toList)) && (!(decide (t.b.data.toList = t.s.data.toList))))) (ev_tmp rfl rfl)) ?_
      refine s_meet4 fun K21 hK22 => ?_
      have J23 : ∀ jk, K21 (fr 45 ([(23, Value.bool ((((partyB t.b.data.toList) && (partyB t.s.data.toList)) && (!(decide (t.b.data.toList = t.s.data.toList)))) && (nameB t.p.data.toList))), (1, Value.pointer (some ⟨b5, 0, none⟩)), (2, Value.bool false), (19, Value.bool (((partyB t.b.data.toList) && (partyB t.s.data.toList)) && (!(decide (t.b.data.toList = t.s.data.toList)))))] ++ jk)) w6 := by
        intro jk
        refine hK22 _ _ ?_
        clear hK22
        refine st rfl (x_assign (v := Value.bool ((((partyB t.b.data.toList) && (partyB t.s.data.toList)) && (!(decide (t.b.data.toList = t.s.data.toList)))) && (nameB t.p.data.toList))) (ev_tmp rfl rfl)) ?_
        refine s_nil ?_
        refine hK9 _ _ ?_
        refine c_seq fun K28 hK29 => ?_
        refine c_reg ?_
        refine st rfl (x_move (v := Value.bool ((((partyB t.b.data.toList) && (partyB t.s.data.toList)) && (!(decide (t.b.data.toList = t.s.data.toList)))) && (nameB t.p.data.toList))) (ev_tmp rfl rfl)) ?_
        refine st rfl (x_move (v := Value.bool ((((partyB t.b.data.toList) && (partyB t.s.data.toList)) && (!(decide (t.b.data.toList = t.s.data.toList)))) && (nameB t.p.data.toList))) (ev_tmp rfl rfl)) ?_
        refine s_meet4 fun K30 hK31 => ?_
        have J32 : ∀ jk, K30 (fr 45 ([(29, Value.bool (((((partyB t.b.data.toList) && (partyB t.s.data.toList)) && (!(decide (t.b.data.toList = t.s.data.toList)))) && (nameB t.p.data.toList)) && (decide ((1 : Int) ≤ t.q)))), (1, Value.pointer (some ⟨b5, 0, none⟩)), (2, Value.bool false), (25, Value.bool ((((partyB t.b.data.toList) && (partyB t.s.data.toList)) && (!(decide (t.b.data.toList = t.s.data.toList)))) && (nameB t.p.data.toList)))] ++ jk)) w6 := by
          intro jk
          refine hK31 _ _ ?_
          clear hK31
          refine st rfl (x_move (v := Value.bool (((((partyB t.b.data.toList) && (partyB t.s.data.toList)) && (!(decide (t.b.data.toList = t.s.data.toList)))) && (nameB t.p.data.toList)) && (decide ((1 : Int) ≤ t.q)))) (ev_tmp rfl rfl)) ?_
          refine s_meet4 fun K38 hK39 => ?_
          have J40 : ∀ jk, K38 (fr 45 ([(34, Value.bool ((((((partyB t.b.data.toList) && (partyB t.s.data.toList)) && (!(decide (t.b.data.toList = t.s.data.toList)))) && (nameB t.p.data.toList)) && (decide ((1 : Int) ≤ t.q))) && (decide (t.q ≤ 1048576)))), (1, Value.pointer (some ⟨b5, 0, none⟩)), (2, Value.bool false), (30, Value.bool (((((partyB t.b.data.toList) && (partyB t.s.data.toList)) && (!(decide (t.b.data.toList = t.s.data.toList)))) && (nameB t.p.data.toList)) && (decide ((1 : Int) ≤ t.q))))] ++ jk)) w6 := by
            intro jk
            refine hK39 _ _ ?_
            clear hK39
            refine st rfl (x_move (v := Value.bool ((((((partyB t.b.data.toList) && (partyB t.s.data.toList)) && (!(decide (t.b.data.toList = t.s.data.toList)))) && (nameB t.p.data.toList)) && (decide ((1 : Int) ≤ t.q))) && (decide (t.q ≤ 1048576)))) (ev_tmp rfl rfl)) ?_
            refine s_meet4 fun K47 hK48 => ?_
            have J49 : ∀ jk, K47 (fr 45 ([(39, Value.bool (((((((partyB t.b.data.toList) && (partyB t.s.data.toList)) && (!(decide (t.b.data.toList = t.s.data.toList)))) && (nameB t.p.data.toList)) && (decide ((1 : Int) ≤ t.q))) && (decide (t.q ≤ 1048576))) && (decide ((-536870912 : Int) ≤ t.r)))), (1, Value.pointer (some ⟨b5, 0, none⟩)), (2, Value.bool false), (35, Value.bool ((((((partyB t.b.data.toList) && (partyB t.s.data.toList)) && (!(decide (t.b.data.toList = t.s.data.toList)))) && (nameB t.p.data.toList)) && (decide ((1 : Int) ≤ t.q))) && (decide (t.q ≤ 1048576))))] ++ jk)) w6 := by
              intro jk
              refine hK48 _ _ ?_
              clear hK48
              refine st rfl (x_move (v := Value.bool (((((((partyB t.b.data.toList) && (partyB t.s.data.toList)) && (!(decide (t.b.data.toList = t.s.data.toList)))) && (nameB t.p.data.toList)) && (decide ((1 : Int) ≤ t.q))) && (decide (t.q ≤ 1048576))) && (decide ((-536870912 : Int) ≤ t.r)))) (ev_tmp rfl rfl)) ?_
              refine s_meet4 fun K57 hK58 => ?_
              have J59 : ∀ jk, K57 (fr 45 ([(44, Value.bool ((((((((partyB t.b.data.toList) && (partyB t.s.data.toList)) && (!(decide (t.b.data.toList = t.s.data.toList)))) && (nameB t.p.data.toList)) && (decide ((1 : Int) ≤ t.q))) && (decide (t.q ≤ 1048576))) && (decide ((-536870912 : Int) ≤ t.r))) && (decide (t.r ≤ 536870912)))), (2, Value.bool false), (40, Value.bool (((((((partyB t.b.data.toList) && (partyB t.s.data.toList)) && (!(decide (t.b.data.toList = t.s.data.toList)))) && (nameB t.p.data.toList)) && (decide ((1 : Int) ≤ t.q))) && (decide (t.q ≤ 1048576))) && (decide ((-536870912 : Int) ≤ t.r))))] ++ jk)) w6 := by
                intro jk
                refine hK58 _ _ ?_
                clear hK58
                refine st rfl (x_assign (v := Value.bool ((((((((partyB t.b.data.toList) && (partyB t.s.data.toList)) && (!(decide (t.b.data.toList = t.s.data.toList)))) && (nameB t.p.data.toList)) && (decide ((1 : Int) ≤ t.q))) && (decide (t.q ≤ 1048576))) && (decide ((-536870912 : Int) ≤ t.r))) && (decide (t.r ≤ 536870912)))) (ev_tmp rfl rfl)) ?_
                refine s_nil ?_
                refine hK29 _ _ ?_
                refine c_ret ?_
                refine hT2 _ _ ?_
                refine r1 rfl (ev_tmp (v := Value.bool ((((((((partyB t.b.data.toList) && (partyB t.s.data.toList)) && (!(decide (t.b.data.toList = t.s.data.toList)))) && (nameB t.p.data.toList)) && (decide ((1 : Int) ≤ t.q))) && (decide (t.q ≤ 1048576))) && (decide ((-536870912 : Int) ≤ t.r))) && (decide (t.r ≤ 536870912)))) rfl rfl) ?_
                exact ⟨rfl, M7.below⟩
              clear hK58
              rcases bcase (((((((partyB t.b.data.toList) && (partyB t.s.data.toList)) && (!(decide (t.b.data.toList = t.s.data.toList)))) && (nameB t.p.data.toList)) && (decide ((1 : Int) ≤ t.q))) && (decide (t.q ≤ 1048576))) && (decide ((-536870912 : Int) ≤ t.r))) with hg60 | hg60
              · refine gf (b' := false) rfl rfl rfl (congrArg Value.bool hg60) rfl ?_
                refine gf (b' := false) rfl rfl rfl (congrArg Value.bool hg60) rfl ?_
                refine gf (b' := false) rfl rfl rfl (congrArg Value.bool hg60) rfl ?_
                refine st rfl (x_pick_f (v := Value.bool false) (ev_tmp rfl (congrArg Value.bool hg60)) rfl) ?_
                refine s_nil ?_
                exact j_to J59 ⟨(congrArg Value.bool (and_f hg60)), rfl, rfl, trivial⟩
              · have h61 : partyB t.b.data.toList = true := and_l (and_l (and_l (and_l (and_l (and_l hg60)))))
                have h62 : partyB t.s.data.toList = true := and_r (and_l (and_l (and_l (and_l (and_l hg60)))))
                have h63 : ¬ (t.b.data.toList = t.s.data.toList) := of_decide_eq_false (not_t (and_r (and_l (and_l (and_l (and_l hg60))))))
                have h64 : nameB t.p.data.toList = true := and_r (and_l (and_l (and_l hg60)))
                have h65 : (1 : Int) ≤ t.q := of_decide_eq_true (and_r (and_l (and_l hg60)))
                have h66 : t.q ≤ 1048576 := of_decide_eq_true (and_r (and_l hg60))
                have h67 : (-536870912 : Int) ≤ t.r := of_decide_eq_true (and_r hg60)
                refine gt rfl rfl rfl (congrArg Value.bool hg60) (x_fieldv (b := b5) (o := 0) (q := 4) fa_34_4 (ev_tmp rfl rfl) rfl) ?_
                refine gt rfl rfl rfl (congrArg Value.bool hg60) (x_load1 (v := Value.int .i64 t.r) Try.underlying3 rfl (ev_tmp rfl rfl) (M7.cell (i := 0) (o := 4) rfl rfl)) ?_
                refine gt rfl rfl rfl (congrArg Value.bool hg60) (x_leq (p := t.r) (q := 536870912) (ev_tmp rfl rfl) rfl) ?_
                refine st rfl (x_pick_t (v := Value.bool (decide (t.r ≤ 536870912))) (ev_tmp rfl (congrArg Value.bool hg60)) (ev_tmp rfl rfl)) ?_
                refine s_nil ?_
                exact j_to J59 ⟨(congrArg Value.bool (and_t hg60)), rfl, rfl, trivial⟩
            clear hK48
            rcases bcase ((((((partyB t.b.data.toList) && (partyB t.s.data.toList)) && (!(decide (t.b.data.toList = t.s.data.toList)))) && (nameB t.p.data.toList)) && (decide ((1 : Int) ≤ t.q))) && (decide (t.q ≤ 1048576))) with hg50 | hg50
            · refine gf (b' := false) rfl rfl rfl (congrArg Value.bool hg50) rfl ?_
              refine gf (b' := false) rfl rfl rfl (congrArg Value.bool hg50) rfl ?_
              refine gf (b' := false) rfl rfl rfl (congrArg Value.bool hg50) rfl ?_
              refine st rfl (x_pick_f (v := Value.bool false) (ev_tmp rfl (congrArg Value.bool hg50)) rfl) ?_
              refine s_nil ?_
              exact j_to J49 ⟨(congrArg Value.bool (and_f hg50)), rfl, rfl, rfl, trivial⟩
            · have h51 : partyB t.b.data.toList = true := and_l (and_l (and_l (and_l (and_l hg50))))
              have h52 : partyB t.s.data.toList = true := and_r (and_l (and_l (and_l (and_l hg50))))
              have h53 : ¬ (t.b.data.toList = t.s.data.toList) := of_decide_eq_false (not_t (and_r (and_l (and_l (and_l hg50)))))
              have h54 : nameB t.p.data.toList = true := and_r (and_l (and_l hg50))
              have h55 : (1 : Int) ≤ t.q := of_decide_eq_true (and_r (and_l hg50))
              have h56 : t.q ≤ 1048576 := of_decide_eq_true (and_r hg50)
              refine gt rfl rfl rfl (congrArg Value.bool hg50) (x_fieldv (b := b5) (o := 0) (q := 4) fa_34_4 (ev_tmp rfl rfl) rfl) ?_
              refine gt rfl rfl rfl (congrArg Value.bool hg50) (x_load1 (v := Value.int .i64 t.r) Try.underlying3 rfl (ev_tmp rfl rfl) (M7.cell (i := 0) (o := 4) rfl rfl)) ?_
              refine gt rfl rfl rfl (congrArg Value.bool hg50) (x_geq (p := t.r) (q := (-536870912)) (ev_tmp rfl rfl) rfl) ?_
              refine st rfl (x_pick_t (v := Value.bool (decide ((-536870912 : Int) ≤ t.r))) (ev_tmp rfl (congrArg Value.bool hg50)) (ev_tmp rfl rfl)) ?_
              refine s_nil ?_
              exact j_to J49 ⟨(congrArg Value.bool (and_t hg50)), rfl, rfl, rfl, trivial⟩
          clear hK39
          rcases bcase (((((partyB t.b.data.toList) && (partyB t.s.data.toList)) && (!(decide (t.b.data.toList = t.s.data.toList)))) && (nameB t.p.data.toList)) && (decide ((1 : Int) ≤ t.q))) with hg41 | hg41
          · refine gf (b' := false) rfl rfl rfl (congrArg Value.bool hg41) rfl ?_
            refine gf (b' := false) rfl rfl rfl (congrArg Value.bool hg41) rfl ?_
            refine gf (b' := false) rfl rfl rfl (congrArg Value.bool hg41) rfl ?_
            refine st rfl (x_pick_f (v := Value.bool false) (ev_tmp rfl (congrArg Value.bool hg41)) rfl) ?_
            refine s_nil ?_
            exact j_to J40 ⟨(congrArg Value.bool (and_f hg41)), rfl, rfl, rfl, trivial⟩
          · have h42 : partyB t.b.data.toList = true := and_l (and_l (and_l (and_l hg41)))
            have h43 : partyB t.s.data.toList = true := and_r (and_l (and_l (and_l hg41)))
            have h44 : ¬ (t.b.data.toList = t.s.data.toList) := of_decide_eq_false (not_t (and_r (and_l (and_l hg41))))
            have h45 : nameB t.p.data.toList = true := and_r (and_l hg41)
            have h46 : (1 : Int) ≤ t.q := of_decide_eq_true (and_r hg41)
            refine gt rfl rfl rfl (congrArg Value.bool hg41) (x_fieldv (b := b5) (o := 0) (q := 3) fa_34_3 (ev_tmp rfl rfl) rfl) ?_
            refine gt rfl rfl rfl (congrArg Value.bool hg41) (x_load1 (v := Value.int .i64 t.q) Try.underlying3 rfl (ev_tmp rfl rfl) (M7.cell (i := 0) (o := 3) rfl rfl)) ?_
            refine gt rfl rfl rfl (congrArg Value.bool hg41) (x_leq (p := t.q) (q := 1048576) (ev_tmp rfl rfl) rfl) ?_
            refine st rfl (x_pick_t (v := Value.bool (decide (t.q ≤ 1048576))) (ev_tmp rfl (congrArg Value.bool hg41)) (ev_tmp rfl rfl)) ?_
            refine s_nil ?_
            exact j_to J40 ⟨(congrArg Value.bool (and_t hg41)), rfl, rfl, rfl, trivial⟩
        clear hK31
        rcases bcase ((((partyB t.b.data.toList) && (partyB t.s.data.toList)) && (!(decide (t.b.data.toList = t.s.data.toList)))) && (nameB t.p.data.toList)) with hg33 | hg33
        · refine gf (b' := false) rfl rfl rfl (congrArg Value.bool hg33) rfl ?_
          refine gf (b' := false) rfl rfl rfl (congrArg Value.bool hg33) rfl ?_
          refine gf (b' := false) rfl rfl rfl (congrArg Value.bool hg33) rfl ?_
          refine st rfl (x_pick_f (v := Value.bool false) (ev_tmp rfl (congrArg Value.bool hg33)) rfl) ?_
          refine s_nil ?_
          exact j_to J32 ⟨(congrArg Value.bool (and_f hg33)), rfl, rfl, rfl, trivial⟩
        · have h34 : partyB t.b.data.toList = true := and_l (and_l (and_l hg33))
          have h35 : partyB t.s.data.toList = true := and_r (and_l (and_l hg33))
          have h36 : ¬ (t.b.data.toList = t.s.data.toList) := of_decide_eq_false (not_t (and_r (and_l hg33)))
          have h37 : nameB t.p.data.toList = true := and_r hg33
          refine gt rfl rfl rfl (congrArg Value.bool hg33) (x_fieldv (b := b5) (o := 0) (q := 3) fa_34_3 (ev_tmp rfl rfl) rfl) ?_
          refine gt rfl rfl rfl (congrArg Value.bool hg33) (x_load1 (v := Value.int .i64 t.q) Try.underlying3 rfl (ev_tmp rfl rfl) (M7.cell (i := 0) (o := 3) rfl rfl)) ?_
          refine gt rfl rfl rfl (congrArg Value.bool hg33) (x_geq (p := t.q) (q := 1) (ev_tmp rfl rfl) rfl) ?_
          refine st rfl (x_pick_t (v := Value.bool (decide ((1 : Int) ≤ t.q))) (ev_tmp rfl (congrArg Value.bool hg33)) (ev_tmp rfl rfl)) ?_
          refine s_nil ?_
          exact j_to J32 ⟨(congrArg Value.bool (and_t hg33)), rfl, rfl, rfl, trivial⟩
      clear hK22
      rcases bcase (((partyB t.b.data.toList) && (partyB t.s.data.toList)) && (!(decide (t.b.data.toList = t.s.data.toList)))) with hg24 | hg24
      · refine gf (b' := false) rfl rfl rfl (congrArg Value.bool hg24) rfl ?_
        refine gf (b' := false) rfl rfl rfl (congrArg Value.bool hg24) rfl ?_
        refine gf (b' := false) rfl rfl rfl (congrArg Value.bool hg24) rfl ?_
        refine st rfl (x_pick_f (v := Value.bool false) (ev_tmp rfl (congrArg Value.bool hg24)) rfl) ?_
        refine s_nil ?_
        exact j_to J23 ⟨(congrArg Value.bool (and_f hg24)), rfl, rfl, rfl, trivial⟩
      · have h25 : partyB t.b.data.toList = true := and_l (and_l hg24)
        have h26 : partyB t.s.data.toList = true := and_r (and_l hg24)
        have h27 : ¬ (t.b.data.toList = t.s.data.toList) := of_decide_eq_false (not_t (and_r hg24))
        refine gt rfl rfl rfl (congrArg Value.bool hg24) (x_fieldv (b := b5) (o := 0) (q := 2) fa_34_2 (ev_tmp rfl rfl) rfl) ?_
        refine gt rfl rfl rfl (congrArg Value.bool hg24) (x_load1 (v := Value.string t.p) Try.underlying9 rfl (ev_tmp rfl rfl) (M7.cell (i := 0) (o := 2) rfl rfl)) ?_
        refine gC rfl rfl rfl (congrArg Value.bool hg24) (x_callL (xs := [.tmp 21]) (vs := [Value.string t.p]) (cap := []) ent_50 rfl ⟨(ev_tmp rfl rfl), trivial⟩) (name_c t.p _) ?_
        rintro _ _ ⟨rfl, rfl⟩
        refine ⟨_, rfl, ?_⟩
        refine st rfl (x_pick_t (v := Value.bool (nameB t.p.data.toList)) (ev_tmp rfl (congrArg Value.bool hg24)) (ev_tmp rfl rfl)) ?_
        refine s_nil ?_
        exact j_to J23 ⟨(congrArg Value.bool (and_t hg24)), rfl, rfl, rfl, trivial⟩
    clear hK16
    rcases bcase ((partyB t.b.data.toList) && (partyB t.s.data.toList)) with hg18 | hg18
    · refine gf (b' := false) rfl rfl rfl (congrArg Value.bool hg18) rfl ?_
      refine gf (b' := false) rfl rfl rfl (congrArg Value.bool hg18) rfl ?_
      refine gf (b' := false) rfl rfl rfl (congrArg Value.bool hg18) rfl ?_
      refine gf (b' := false) rfl rfl rfl (congrArg Value.bool hg18) rfl ?_
      refine gf (b' := false) rfl rfl rfl (congrArg Value.bool hg18) rfl ?_
      refine st rfl (x_pick_f (v := Value.bool false) (ev_tmp rfl (congrArg Value.bool hg18)) rfl) ?_
      refine s_nil ?_
      exact j_to J17 ⟨(congrArg Value.bool (and_f hg18)), rfl, rfl, rfl, trivial⟩
    · have h19 : partyB t.b.data.toList = true := and_l hg18
      have h20 : partyB t.s.data.toList = true := and_r hg18
      refine gt rfl rfl rfl (congrArg Value.bool hg18) (x_fieldv (b := b5) (o := 0) (q := 0) fa_34_0 (ev_tmp rfl rfl) rfl) ?_
      refine gt rfl rfl rfl (congrArg Value.bool hg18) (x_load1 (v := Value.string t.b) Try.underlying9 rfl (ev_tmp rfl rfl) (M7.cell (i := 0) (o := 0) rfl rfl)) ?_
      refine gt rfl rfl rfl (congrArg Value.bool hg18) (x_fieldv (b := b5) (o := 0) (q := 1) fa_34_1 (ev_tmp rfl rfl) rfl) ?_
      refine gt rfl rfl rfl (congrArg Value.bool hg18) (x_load1 (v := Value.string t.s) Try.underlying9 rfl (ev_tmp rfl rfl) (M7.cell (i := 0) (o := 1) rfl rfl)) ?_
      refine gt rfl rfl rfl (congrArg Value.bool hg18) (x_nes (p := t.b) (q := t.s) (ev_tmp rfl rfl) (ev_tmp rfl rfl)) ?_
      refine st rfl (x_pick_t (v := Value.bool (!(decide (t.b.data.toList = t.s.data.toList)))) (ev_tmp rfl (congrArg Value.bool hg18)) (ev_tmp rfl rfl)) ?_
      refine s_nil ?_
      exact j_to J17 ⟨(congrArg Value.bool (and_t hg18)), rfl, rfl, rfl, trivial⟩
  clear hK11
  rcases bcase (partyB t.b.data.toList) with hg13 | hg13
  · refine gf (b' := false) rfl rfl rfl (congrArg Value.bool hg13) rfl ?_
    refine gf (b' := false) rfl rfl rfl (congrArg Value.bool hg13) rfl ?_
    refine gf (b' := false) rfl rfl rfl (congrArg Value.bool hg13) rfl ?_
    refine st rfl (x_pick_f (v := Value.bool false) (ev_tmp rfl (congrArg Value.bool hg13)) rfl) ?_
    refine s_nil ?_
    exact j_to J12 ⟨(congrArg Value.bool (and_f hg13)), rfl, rfl, rfl, trivial⟩
  · have h14 : partyB t.b.data.toList = true := hg13
    refine gt rfl rfl rfl (congrArg Value.bool hg13) (x_fieldv (b := b5) (o := 0) (q := 1) fa_34_1 (ev_tmp rfl rfl) rfl) ?_
    refine gt rfl rfl rfl (congrArg Value.bool hg13) (x_load1 (v := Value.string t.s) Try.underlying9 rfl (ev_tmp rfl rfl) (M7.cell (i := 0) (o := 1) rfl rfl)) ?_
    refine gC rfl rfl rfl (congrArg Value.bool hg13) (x_callL (xs := [.tmp 9]) (vs := [Value.string t.s]) (cap := []) ent_49 rfl ⟨(ev_tmp rfl rfl), trivial⟩) (party_c t.s _) ?_
    rintro _ _ ⟨rfl, rfl⟩
    refine ⟨_, rfl, ?_⟩
    refine st rfl (x_pick_t (v := Value.bool (partyB t.s.data.toList)) (ev_tmp rfl (congrArg Value.bool hg13)) (ev_tmp rfl rfl)) ?_
    refine s_nil ?_
    exact j_to J12 ⟨(congrArg Value.bool (and_t hg13)), rfl, rfl, rfl, trivial⟩

set_option maxHeartbeats 1000000 in
set_option maxRecDepth 20000 in
theorem terms_r (t : Trade) (w : World) :
    Calls Try.prog 51 #[Value.agg #[Value.string t.b, Value.string t.s, Value.string t.p, Value.int .i64 t.q, Value.int .i64 t.r, Value.bool t.bo, Value.bool t.so, Value.int .u8 t.st]] w fun e w' => e = .returned (.bool (termsB t)) ∧ Below w.heap.size w w' := by
  have M0 := Mem.start w []
  refine enter (args := [Value.agg #[Value.string t.b, Value.string t.s, Value.string t.p, Value.int .i64 t.q, Value.int .i64 t.r, Value.bool t.bo, Value.bool t.so, Value.int .u8 t.st]]) Try.func51 rfl (n := 44) rfl rfl fun T1 hT2 => ?_
  refine c_seq fun K3 hK4 => ?_
  refine c_reg ?_
  refine snew (cs := #[Value.string t.b, Value.string t.s, Value.string t.p, Value.int .i64 t.q, Value.int .i64 t.r, Value.bool t.bo, Value.bool t.so, Value.int .u8 t.st]) M0 rfl (x_box (v := Value.agg #[Value.string t.b, Value.string t.s, Value.string t.p, Value.int .i64 t.q, Value.int .i64 t.r, Value.bool t.bo, Value.bool t.so, Value.int .u8 t.st]) (ev_tmp rfl rfl)) fun b5 w6 M7 => ?_
  refine st rfl (x_assign (v := Value.bool false) rfl) ?_
  refine s_nil ?_
  refine hK4 _ _ ?_
  refine c_seq fun K8 hK9 => ?_
  refine c_seq fun K10 hK11 => ?_
  refine c_reg ?_
  refine st rfl (x_fieldv (b := b5) (o := 0) (q := 0) fa_34_0 (ev_tmp rfl rfl) rfl) ?_
  refine st rfl (x_load1 (v := Value.string t.b) Try.underlying9 rfl (ev_tmp rfl rfl) (M7.cell (i := 0) (o := 0) rfl rfl)) ?_
  refine sC rfl (x_callL (xs := [.tmp 4]) (vs := [Value.string t.b]) (cap := []) ent_55 rfl ⟨(ev_tmp rfl rfl), trivial⟩) (party_r t.b _) ?_
  rintro _ _ ⟨rfl, rfl⟩
  refine ⟨_, rfl, ?_⟩
  refine st rfl (x_not (b := (partyB t.b.data.toList)) (ev_tmp rfl rfl)) ?_
  refine st rfl (x_move (v := Value.bool (!(partyB t.b.data.toList))) (ev_tmp rfl rfl)) ?_
  refine s_meet5 fun K12 hK13 => ?_
  have J14 : ∀ jk, K12 (fr 44 ([(12, Value.bool ((!(partyB t.b.data.toList)) || (!(partyB t.s.data.toList)))), (1, Value.pointer (some ⟨b5, 0, none⟩)), (2, Value.bool false), (7, Value.bool (!(partyB t.b.data.toList)))] ++ jk)) w6 := by
    intro jk
    refine hK13 _ _ ?_
    clear hK13
    refine st rfl (x_move (v := Value.bool ((!(partyB t.b.data.toList)) || (!(partyB t.s.data.toList)))) (ev_tmp rfl rfl)) ?_
    refine s_meet6 fun K17 hK18 => ?_
    have J19 : ∀ jk, K17 (fr 44 ([(19, Value.bool (((!(partyB t.b.data.toList)) || (!(partyB t.s.data.toList))) || (decide (t.b.data.toList = t.s.data.toList)))), (1, Value.pointer (some ⟨b5, 0, none⟩)), (2, Value.bool false), (13, Value.bool ((!(partyB t.b.data.toList)) || (!(partyB t.s.data.toList))))] ++ jk)) w6 := by
      intro jk
      refine hK18 _ _ ?_
      clear hK18
      refine st rfl (x_move (v := Value.bool (((!(partyB t.b.data.toList)) || (!(partyB t.s.data.toList))) || (decide (t.b.data.toList = t.s.data.toList)))) (ev_tmp rfl rfl)) ?_
      refine s_meet5 fun K23 hK24 => ?_
      have J25 : ∀ jk, K23 (fr 44 ([(25, Value.bool ((((!(partyB t.b.data.toList)) || (!(partyB t.s.data.toList))) || (decide (t.b.data.toList = t.s.data.toList))) || (!(nameB t.p.data.toList)))), (1, Value.pointer (some ⟨b5, 0, none⟩)), (2, Value.bool false), (20, Value.bool (((!(partyB t.b.data.toList)) || (!(partyB t.s.data.toList))) || (decide (t.b.data.toList = t.s.data.toList))))] ++ jk)) w6 := by
        intro jk
        refine hK24 _ _ ?_
        clear hK24
        refine s_nil ?_
        refine hK11 _ _ ?_
        refine c_cond (b := (((!(partyB t.b.data.toList)) || (!(partyB t.s.data.toList))) || (decide (t.b.data.toList = t.s.data.toList))) || (!(nameB t.p.data.toList))) (ev_tmp rfl rfl) (fun h30 => ?_) (fun h30 => ?_)
        · have h31 : ((((!(partyB t.b.data.toList)) || (!(partyB t.s.data.toList))) || (decide (t.b.data.toList = t.s.data.toList))) || (!(nameB t.p.data.toList))) = true := h30
          refine c_seq fun K32 hK33 => ?_
          refine c_reg ?_
          refine st rfl (x_assign (v := Value.bool false) rfl) ?_
          refine s_nil ?_
          refine hK33 _ _ ?_
          refine c_ret ?_
          refine hT2 _ _ ?_
          refine r1 rfl (ev_tmp (v := Value.bool false) rfl rfl) ?_
          exact ⟨ret_bool (terms1 t h30), M7.below⟩
        · have h34 : partyB t.b.data.toList = true := not_f (or_l (or_l (or_l h30)))
          have h35 : partyB t.s.data.toList = true := not_f (or_r (or_l (or_l h30)))
          have h36 : ¬ (t.b.data.toList = t.s.data.toList) := of_decide_eq_false (or_r (or_l h30))
          have h37 : nameB t.p.data.toList = true := not_f (or_r h30)
          refine c_skip ?_
          refine hK9 _ _ ?_
          refine c_seq fun K38 hK39 => ?_
          refine c_reg ?_
          refine st rfl (x_fieldv (b := b5) (o := 0) (q := 3) fa_34_3 (ev_tmp rfl rfl) rfl) ?_
          refine st rfl (x_load1 (v := Value.int .i64 t.q) Try.underlying3 rfl (ev_tmp rfl rfl) (M7.cell (i := 0) (o := 3) rfl rfl)) ?_
          refine st rfl (x_geq (p := t.q) (q := 1) (ev_tmp rfl rfl) rfl) ?_
          refine st rfl (x_move (v := Value.bool (decide ((1 : Int) ≤ t.q))) (ev_tmp rfl rfl)) ?_
          refine s_meet4 fun K40 hK41 => ?_
          have J42 : ∀ jk, K40 (fr 44 ([(33, Value.bool ((decide ((1 : Int) ≤ t.q)) && (decide (t.q ≤ 1048576)))), (1, Value.pointer (some ⟨b5, 0, none⟩)), (2, Value.bool false), (29, Value.bool (decide ((1 : Int) ≤ t.q)))] ++ jk)) w6 := by
            intro jk
            refine hK41 _ _ ?_
            clear hK41
            refine st rfl (x_move (v := Value.bool ((decide ((1 : Int) ≤ t.q)) && (decide (t.q ≤ 1048576)))) (ev_tmp rfl rfl)) ?_
            refine s_meet4 fun K45 hK46 => ?_
            have J47 : ∀ jk, K45 (fr 44 ([(38, Value.bool (((decide ((1 : Int) ≤ t.q)) && (decide (t.q ≤ 1048576))) && (decide ((-536870912 : Int) ≤ t.r)))), (1, Value.pointer (some ⟨b5, 0, none⟩)), (2, Value.bool false), (34, Value.bool ((decide ((1 : Int) ≤ t.q)) && (decide (t.q ≤ 1048576))))] ++ jk)) w6 := by
              intro jk
              refine hK46 _ _ ?_
              clear hK46
              refine st rfl (x_move (v := Value.bool (((decide ((1 : Int) ≤ t.q)) && (decide (t.q ≤ 1048576))) && (decide ((-536870912 : Int) ≤ t.r)))) (ev_tmp rfl rfl)) ?_
              refine s_meet4 fun K51 hK52 => ?_
              have J53 : ∀ jk, K51 (fr 44 ([(43, Value.bool ((((decide ((1 : Int) ≤ t.q)) && (decide (t.q ≤ 1048576))) && (decide ((-536870912 : Int) ≤ t.r))) && (decide (t.r ≤ 536870912)))), (2, Value.bool false), (39, Value.bool (((decide ((1 : Int) ≤ t.q)) && (decide (t.q ≤ 1048576))) && (decide ((-536870912 : Int) ≤ t.r))))] ++ jk)) w6 := by
                intro jk
                refine hK52 _ _ ?_
                clear hK52
                refine st rfl (x_assign (v := Value.bool ((((decide ((1 : Int) ≤ t.q)) && (decide (t.q ≤ 1048576))) && (decide ((-536870912 : Int) ≤ t.r))) && (decide (t.r ≤ 536870912)))) (ev_tmp rfl rfl)) ?_
                refine s_nil ?_
                refine hK39 _ _ ?_
                refine c_ret ?_
                refine hT2 _ _ ?_
                refine r1 rfl (ev_tmp (v := Value.bool ((((decide ((1 : Int) ≤ t.q)) && (decide (t.q ≤ 1048576))) && (decide ((-536870912 : Int) ≤ t.r))) && (decide (t.r ≤ 536870912)))) rfl rfl) ?_
                exact ⟨ret_bool (terms2 t h30), M7.below⟩
              clear hK52
              rcases bcase (((decide ((1 : Int) ≤ t.q)) && (decide (t.q ≤ 1048576))) && (decide ((-536870912 : Int) ≤ t.r))) with hg54 | hg54
              · refine gf (b' := false) rfl rfl rfl (congrArg Value.bool hg54) rfl ?_
                refine gf (b' := false) rfl rfl rfl (congrArg Value.bool hg54) rfl ?_
                refine gf (b' := false) rfl rfl rfl (congrArg Value.bool hg54) rfl ?_
                refine st rfl (x_pick_f (v := Value.bool false) (ev_tmp rfl (congrArg Value.bool hg54)) rfl) ?_
                refine s_nil ?_
                exact j_to J53 ⟨(congrArg Value.bool (and_f hg54)), rfl, rfl, trivial⟩
              · have h55 : (1 : Int) ≤ t.q := of_decide_eq_true (and_l (and_l hg54))
                have h56 : t.q ≤ 1048576 := of_decide_eq_true (and_r (and_l hg54))
                have h57 : (-536870912 : Int) ≤ t.r := of_decide_eq_true (and_r hg54)
                refine gt rfl rfl rfl (congrArg Value.bool hg54) (x_fieldv (b := b5) (o := 0) (q := 4) fa_34_4 (ev_tmp rfl rfl) rfl) ?_
                refine gt rfl rfl rfl (congrArg Value.bool hg54) (x_load1 (v := Value.int .i64 t.r) Try.underlying3 rfl (ev_tmp rfl rfl) (M7.cell (i := 0) (o := 4) rfl rfl)) ?_
                refine gt rfl rfl rfl (congrArg Value.bool hg54) (x_leq (p := t.r) (q := 536870912) (ev_tmp rfl rfl) rfl) ?_
                refine st rfl (x_pick_t (v := Value.bool (decide (t.r ≤ 536870912))) (ev_tmp rfl (congrArg Value.bool hg54)) (ev_tmp rfl rfl)) ?_
                refine s_nil ?_
                exact j_to J53 ⟨(congrArg Value.bool (and_t hg54)), rfl, rfl, trivial⟩
            clear hK46
            rcases bcase ((decide ((1 : Int) ≤ t.q)) && (decide (t.q ≤ 1048576))) with hg48 | hg48
            · refine gf (b' := false) rfl rfl rfl (congrArg Value.bool hg48) rfl ?_
              refine gf (b' := false) rfl rfl rfl (congrArg Value.bool hg48) rfl ?_
              refine gf (b' := false) rfl rfl rfl (congrArg Value.bool hg48) rfl ?_
              refine st rfl (x_pick_f (v := Value.bool false) (ev_tmp rfl (congrArg Value.bool hg48)) rfl) ?_
              refine s_nil ?_
              exact j_to J47 ⟨(congrArg Value.bool (and_f hg48)), rfl, rfl, rfl, trivial⟩
            · have h49 : (1 : Int) ≤ t.q := of_decide_eq_true (and_l hg48)
              have h50 : t.q ≤ 1048576 := of_decide_eq_true (and_r hg48)
              refine gt rfl rfl rfl (congrArg Value.bool hg48) (x_fieldv (b := b5) (o := 0) (q := 4) fa_34_4 (ev_tmp rfl rfl) rfl) ?_
              refine gt rfl rfl rfl (congrArg Value.bool hg48) (x_load1 (v := Value.int .i64 t.r) Try.underlying3 rfl (ev_tmp rfl rfl) (M7.cell (i := 0) (o := 4) rfl rfl)) ?_
              refine gt rfl rfl rfl (congrArg Value.bool hg48) (x_geq (p := t.r) (q := (-536870912)) (ev_tmp rfl rfl) rfl) ?_
              refine st rfl (x_pick_t (v := Value.bool (decide ((-536870912 : Int) ≤ t.r))) (ev_tmp rfl (congrArg Value.bool hg48)) (ev_tmp rfl rfl)) ?_
              refine s_nil ?_
              exact j_to J47 ⟨(congrArg Value.bool (and_t hg48)), rfl, rfl, rfl, trivial⟩
          clear hK41
          rcases bcase (decide ((1 : Int) ≤ t.q)) with hg43 | hg43
          · refine gf (b' := false) rfl rfl rfl (congrArg Value.bool hg43) rfl ?_
            refine gf (b' := false) rfl rfl rfl (congrArg Value.bool hg43) rfl ?_
            refine gf (b' := false) rfl rfl rfl (congrArg Value.bool hg43) rfl ?_
            refine st rfl (x_pick_f (v := Value.bool false) (ev_tmp rfl (congrArg Value.bool hg43)) rfl) ?_
            refine s_nil ?_
            exact j_to J42 ⟨(congrArg Value.bool (and_f hg43)), rfl, rfl, rfl, trivial⟩
          · have h44 : (1 : Int) ≤ t.q := of_decide_eq_true hg43
            refine gt rfl rfl rfl (congrArg Value.bool hg43) (x_fieldv (b := b5) (o := 0) (q := 3) fa_34_3 (ev_tmp rfl rfl) rfl) ?_
            refine gt rfl rfl rfl (congrArg Value.bool hg43) (x_load1 (v := Value.int .i64 t.q) Try.underlying3 rfl (ev_tmp rfl rfl) (M7.cell (i := 0) (o := 3) rfl rfl)) ?_
            refine gt rfl rfl rfl (congrArg Value.bool hg43) (x_leq (p := t.q) (q := 1048576) (ev_tmp rfl rfl) rfl) ?_
            refine st rfl (x_pick_t (v := Value.bool (decide (t.q ≤ 1048576))) (ev_tmp rfl (congrArg Value.bool hg43)) (ev_tmp rfl rfl)) ?_
            refine s_nil ?_
            exact j_to J42 ⟨(congrArg Value.bool (and_t hg43)), rfl, rfl, rfl, trivial⟩
      clear hK24
      rcases bcase (((!(partyB t.b.data.toList)) || (!(partyB t.s.data.toList))) || (decide (t.b.data.toList = t.s.data.toList))) with hg26 | hg26
      · have h27 : partyB t.b.data.toList = true := not_f (or_l (or_l hg26))
        have h28 : partyB t.s.data.toList = true := not_f (or_r (or_l hg26))
        have h29 : ¬ (t.b.data.toList = t.s.data.toList) := of_decide_eq_false (or_r hg26)
        refine gt rfl rfl rfl (congrArg Value.bool hg26) (x_fieldv (b := b5) (o := 0) (q := 2) fa_34_2 (ev_tmp rfl rfl) rfl) ?_
        refine gt rfl rfl rfl (congrArg Value.bool hg26) (x_load1 (v := Value.string t.p) Try.underlying9 rfl (ev_tmp rfl rfl) (M7.cell (i := 0) (o := 2) rfl rfl)) ?_
        refine gC rfl rfl rfl (congrArg Value.bool hg26) (x_callL (xs := [.tmp 22]) (vs := [Value.string t.p]) (cap := []) ent_56 rfl ⟨(ev_tmp rfl rfl), trivial⟩) (name_r t.p _) ?_
        rintro _ _ ⟨rfl, rfl⟩
        refine ⟨_, rfl, ?_⟩
        refine gt rfl rfl rfl (congrArg Value.bool hg26) (x_not (b := (nameB t.p.data.toList)) (ev_tmp rfl rfl)) ?_
        refine st rfl (x_pick_f (v := Value.bool (!(nameB t.p.data.toList))) (ev_tmp rfl (congrArg Value.bool hg26)) (ev_tmp rfl rfl)) ?_
        refine s_nil ?_
        exact j_to J25 ⟨(congrArg Value.bool (or_f hg26)), rfl, rfl, rfl, trivial⟩
      · refine gf (b' := true) rfl rfl rfl (congrArg Value.bool hg26) rfl ?_
        refine gf (b' := true) rfl rfl rfl (congrArg Value.bool hg26) rfl ?_
        refine gf (b' := true) rfl rfl rfl (congrArg Value.bool hg26) rfl ?_
        refine gf (b' := true) rfl rfl rfl (congrArg Value.bool hg26) rfl ?_
        refine st rfl (x_pick_t (v := Value.bool true) (ev_tmp rfl (congrArg Value.bool hg26)) rfl) ?_
        refine s_nil ?_
        exact j_to J25 ⟨(congrArg Value.bool (or_t hg26)), rfl, rfl, rfl, trivial⟩
    clear hK18
    rcases bcase ((!(partyB t.b.data.toList)) || (!(partyB t.s.data.toList))) with hg20 | hg20
    · have h21 : partyB t.b.data.toList = true := not_f (or_l hg20)
      have h22 : partyB t.s.data.toList = true := not_f (or_r hg20)
      refine gt rfl rfl rfl (congrArg Value.bool hg20) (x_fieldv (b := b5) (o := 0) (q := 0) fa_34_0 (ev_tmp rfl rfl) rfl) ?_
      refine gt rfl rfl rfl (congrArg Value.bool hg20) (x_load1 (v := Value.string t.b) Try.underlying9 rfl (ev_tmp rfl rfl) (M7.cell (i := 0) (o := 0) rfl rfl)) ?_
      refine gt rfl rfl rfl (congrArg Value.bool hg20) (x_fieldv (b := b5) (o := 0) (q := 1) fa_34_1 (ev_tmp rfl rfl) rfl) ?_
      refine gt rfl rfl rfl (congrArg Value.bool hg20) (x_load1 (v := Value.string t.s) Try.underlying9 rfl (ev_tmp rfl rfl) (M7.cell (i := 0) (o := 1) rfl rfl)) ?_
      refine gt rfl rfl rfl (congrArg Value.bool hg20) (x_eqs (p := t.b) (q := t.s) (ev_tmp rfl rfl) (ev_tmp rfl rfl)) ?_
      refine st rfl (x_pick_f (v := Value.bool (decide (t.b.data.toList = t.s.data.toList))) (ev_tmp rfl (congrArg Value.bool hg20)) (ev_tmp rfl rfl)) ?_
      refine s_nil ?_
      exact j_to J19 ⟨(congrArg Value.bool (or_f hg20)), rfl, rfl, rfl, trivial⟩
    · refine gf (b' := true) rfl rfl rfl (congrArg Value.bool hg20) rfl ?_
      refine gf (b' := true) rfl rfl rfl (congrArg Value.bool hg20) rfl ?_
      refine gf (b' := true) rfl rfl rfl (congrArg Value.bool hg20) rfl ?_
      refine gf (b' := true) rfl rfl rfl (congrArg Value.bool hg20) rfl ?_
      refine gf (b' := true) rfl rfl rfl (congrArg Value.bool hg20) rfl ?_
      refine st rfl (x_pick_t (v := Value.bool true) (ev_tmp rfl (congrArg Value.bool hg20)) rfl) ?_
      refine s_nil ?_
      exact j_to J19 ⟨(congrArg Value.bool (or_t hg20)), rfl, rfl, rfl, trivial⟩
  clear hK13
  rcases bcase (!(partyB t.b.data.toList)) with hg15 | hg15
  · have h16 : partyB t.b.data.toList = true := not_f hg15
    refine gt rfl rfl rfl (congrArg Value.bool hg15) (x_fieldv (b := b5) (o := 0) (q := 1) fa_34_1 (ev_tmp rfl rfl) rfl) ?_
    refine gt rfl rfl rfl (congrArg Value.bool hg15) (x_load1 (v := Value.string t.s) Try.underlying9 rfl (ev_tmp rfl rfl) (M7.cell (i := 0) (o := 1) rfl rfl)) ?_
    refine gC rfl rfl rfl (congrArg Value.bool hg15) (x_callL (xs := [.tmp 9]) (vs := [Value.string t.s]) (cap := []) ent_55 rfl ⟨(ev_tmp rfl rfl), trivial⟩) (party_r t.s _) ?_
    rintro _ _ ⟨rfl, rfl⟩
    refine ⟨_, rfl, ?_⟩
    refine gt rfl rfl rfl (congrArg Value.bool hg15) (x_not (b := (partyB t.s.data.toList)) (ev_tmp rfl rfl)) ?_
    refine st rfl (x_pick_f (v := Value.bool (!(partyB t.s.data.toList))) (ev_tmp rfl (congrArg Value.bool hg15)) (ev_tmp rfl rfl)) ?_
    refine s_nil ?_
    exact j_to J14 ⟨(congrArg Value.bool (or_f hg15)), rfl, rfl, rfl, trivial⟩
  · refine gf (b' := true) rfl rfl rfl (congrArg Value.bool hg15) rfl ?_
    refine gf (b' := true) rfl rfl rfl (congrArg Value.bool hg15) rfl ?_
    refine gf (b' := true) rfl rfl rfl (congrArg Value.bool hg15) rfl ?_
    refine gf (b' := true) rfl rfl rfl (congrArg Value.bool hg15) rfl ?_
    refine st rfl (x_pick_t (v := Value.bool true) (ev_tmp rfl (congrArg Value.bool hg15)) rfl) ?_
    refine s_nil ?_
    exact j_to J14 ⟨(congrArg Value.bool (or_t hg15)), rfl, rfl, rfl, trivial⟩

set_option maxHeartbeats 1000000 in
set_option maxRecDepth 20000 in
theorem valid_c (t : Trade) (w : World) :
    Calls Try.prog 33 #[Value.agg #[Value.string t.b, Value.string t.s, Value.string t.p, Value.int .i64 t.q, Value.int .i64 t.r, Value.bool t.bo, Value.bool t.so, Value.int .u8 t.st]] w fun e w' => e = .returned (.bool (rightB t)) ∧ Below w.heap.size w w' := by
  have M0 := Mem.start w []
  refine enter (args := [Value.agg #[Value.string t.b, Value.string t.s, Value.string t.p, Value.int .i64 t.q, Value.int .i64 t.r, Value.bool t.bo, Value.bool t.so, Value.int .u8 t.st]]) Try.func33 rfl (n := 29) rfl rfl fun T1 hT2 => ?_
  refine c_seq fun K3 hK4 => ?_
  refine c_reg ?_
  refine snew (cs := #[Value.string t.b, Value.string t.s, Value.string t.p, Value.int .i64 t.q, Value.int .i64 t.r, Value.bool t.bo, Value.bool t.so, Value.int .u8 t.st]) M0 rfl (x_box (v := Value.agg #[Value.string t.b, Value.string t.s, Value.string t.p, Value.int .i64 t.q, Value.int .i64 t.r, Value.bool t.bo, Value.bool t.so, Value.int .u8 t.st]) (ev_tmp rfl rfl)) fun b5 w6 M7 => ?_
  refine st rfl (x_assign (v := Value.bool false) rfl) ?_
  refine s_nil ?_
  refine hK4 _ _ ?_
  refine c_seq fun K8 hK9 => ?_
  refine c_reg ?_
  refine st rfl (x_fieldv (b := b5) (o := 0) (q := 5) fa_34_5 (ev_tmp rfl rfl) rfl) ?_
  refine st rfl (x_load1 (v := Value.bool t.bo) Try.underlying4 rfl (ev_tmp rfl rfl) (M7.cell (i := 0) (o := 5) rfl rfl)) ?_
  refine st rfl (x_move (v := Value.bool t.bo) (ev_tmp rfl rfl)) ?_
  refine s_meet3 fun K10 hK11 => ?_
  have J12 : ∀ jk, K10 (fr 29 ([(9, Value.bool (t.bo && t.so)), (1, Value.pointer (some ⟨b5, 0, none⟩)), (2, Value.bool false), (6, Value.bool t.bo)] ++ jk)) w6 := by
    intro jk
    refine hK11 _ _ ?_
    clear hK11
    refine st rfl (x_assign (v := Value.bool (t.bo && t.so)) (ev_tmp rfl rfl)) ?_
    refine s_nil ?_
    refine hK9 _ _ ?_
    refine c_seq fun K15 hK16 => ?_
    refine c_seq fun K17 hK18 => ?_
    refine c_reg ?_
    refine st rfl (x_fieldv (b := b5) (o := 0) (q := 7) fa_34_7 (ev_tmp rfl rfl) rfl) ?_
    refine st rfl (x_load1 (v := Value.int .u8 t.st) Try.underlying5 rfl (ev_tmp rfl rfl) (M7.cell (i := 0) (o := 7) rfl rfl)) ?_
    refine s_nil ?_
    refine hK18 _ _ ?_
    refine c_block ?_
    refine c_seq fun K19 hK20 => ?_
    refine c_seq fun K21 hK22 => ?_
    refine c_reg ?_
    refine st rfl (x_eql (p := t.st) (q := 0) (ev_tmp rfl rfl) rfl) ?_
    refine st rfl (x_assign (v := Value.bool (decide (t.st = 0))) (ev_tmp rfl rfl)) ?_
    refine s_nil ?_
    refine hK22 _ _ ?_
    refine c_cond (b := decide (t.st = 0)) (ev_tmp rfl rfl) (fun h23 => ?_) (fun h23 => ?_)
    · have h24 : t.st = 0 := of_decide_eq_true h23
      refine c_skip ?_
      refine hK20 _ _ ?_
      refine c_cond (b := decide (t.st = 0)) (ev_tmp rfl rfl) (fun h25 => ?_) (fun h25 => ?_)
      · have h26 : t.st = 0 := of_decide_eq_true h25
        refine c_seq fun K27 hK28 => ?_
        refine c_reg ?_
        refine st rfl (x_loadw (cs := [Value.string t.b, Value.string t.s, Value.string t.p, Value.int .i64 t.q, Value.int .i64 t.r, Value.bool t.bo, Value.bool t.so, Value.int .u8 t.st]) Try.underlying34 rfl sz_34 (ev_tmp rfl rfl) (M7.range (i := 0) rfl ⟨rfl, rfl, rfl, rfl, rfl, rfl, rfl, rfl, trivial⟩)) ?_
        refine sC rfl (x_callL (xs := [.tmp 15]) (vs := [Value.agg #[Value.string t.b, Value.string t.s, Value.string t.p, Value.int .i64 t.q, Value.int .i64 t.r, Value.bool t.bo, Value.bool t.so, Value.int .u8 t.st]]) (cap := []) ent_35 rfl ⟨(ev_tmp rfl rfl), trivial⟩) (agreed_c t _) ?_
        rintro _ w29 ⟨rfl, hb31⟩
        refine ⟨_, rfl, ?_⟩
        have M30 := M7.call hb31
        refine st rfl (x_move (v := Value.bool (termsB t)) (ev_tmp rfl rfl)) ?_
        refine s_meet3 fun K32 hK33 => ?_
        have J34 : ∀ jk, K32 (fr 29 ([(20, Value.bool ((termsB t) && (!(t.bo && t.so)))), (1, Value.pointer (some ⟨b5, 0, none⟩)), (2, Value.bool false), (3, Value.bool (t.bo && t.so)), (11, Value.int .u8 t.st), (17, Value.bool (termsB t))] ++ jk)) w29 := by
          intro jk
          refine hK33 _ _ ?_
          clear hK33
          refine st rfl (x_assign (v := Value.bool ((termsB t) && (!(t.bo && t.so)))) (ev_tmp rfl rfl)) ?_
          refine s_nil ?_
          refine hK28 _ _ ?_
          refine c_ret ?_
          refine hT2 _ _ ?_
          refine r1 rfl (ev_tmp (v := Value.bool ((termsB t) && (!(t.bo && t.so)))) rfl rfl) ?_
          exact ⟨ret_bool (by unfold rightB; simp_all), M30.below⟩
        clear hK33
        rcases bcase (termsB t) with hg35 | hg35
        · refine gf (b' := false) rfl rfl rfl (congrArg Value.bool hg35) rfl ?_
          refine gf (b' := false) rfl rfl rfl (congrArg Value.bool hg35) rfl ?_
          refine st rfl (x_pick_f (v := Value.bool false) (ev_tmp rfl (congrArg Value.bool hg35)) rfl) ?_
          refine s_nil ?_
          exact j_to J34 ⟨(congrArg Value.bool (and_f hg35)), rfl, rfl, rfl, rfl, rfl, trivial⟩
        · have h36 : termsB t = true := hg35
          refine gt rfl rfl rfl (congrArg Value.bool hg35) (x_move (v := Value.bool (t.bo && t.so)) (ev_tmp rfl rfl)) ?_
          refine gt rfl rfl rfl (congrArg Value.bool hg35) (x_not (b := (t.bo && t.so)) (ev_tmp rfl rfl)) ?_
          refine st rfl (x_pick_t (v := Value.bool (!(t.bo && t.so))) (ev_tmp rfl (congrArg Value.bool hg35)) (ev_tmp rfl rfl)) ?_
          refine s_nil ?_
          exact j_to J34 ⟨(congrArg Value.bool (and_t hg35)), rfl, rfl, rfl, rfl, rfl, trivial⟩
      · have h37 : ¬ (t.st = 0) := of_decide_eq_false h25
        refine c_seq fun K38 hK39 => ?_
        refine c_seq fun K40 hK41 => ?_
        refine c_reg ?_
        refine st rfl (x_eql (p := t.st) (q := 1) (ev_tmp rfl rfl) rfl) ?_
        refine st rfl (x_assign (v := Value.bool (decide (t.st = 1))) (ev_tmp rfl rfl)) ?_
        refine s_nil ?_
        refine hK41 _ _ ?_
        refine c_cond (b := decide (t.st = 1)) (ev_tmp rfl rfl) (fun h42 => ?_) (fun h42 => ?_)
        · have h43 : t.st = 1 := of_decide_eq_true h42
          refine c_skip ?_
          refine hK39 _ _ ?_
          refine c_cond (b := decide (t.st = 1)) (ev_tmp rfl rfl) (fun h44 => ?_) (fun h44 => ?_)
          · have h45 : t.st = 1 := of_decide_eq_true h44
            refine c_seq fun K46 hK47 => ?_
            refine c_reg ?_
            refine st rfl (x_loadw (cs := [Value.string t.b, Value.string t.s, Value.string t.p, Value.int .i64 t.q, Value.int .i64 t.r, Value.bool t.bo, Value.bool t.so, Value.int .u8 t.st]) Try.underlying34 rfl sz_34 (ev_tmp rfl rfl) (M7.range (i := 0) rfl ⟨rfl, rfl, rfl, rfl, rfl, rfl, rfl, rfl, trivial⟩)) ?_
            refine sC rfl (x_callL (xs := [.tmp 24]) (vs := [Value.agg #[Value.string t.b, Value.string t.s, Value.string t.p, Value.int .i64 t.q, Value.int .i64 t.r, Value.bool t.bo, Value.bool t.so, Value.int .u8 t.st]]) (cap := []) ent_35 rfl ⟨(ev_tmp rfl rfl), trivial⟩) (agreed_c t _) ?_
            rintro _ w48 ⟨rfl, hb50⟩
            refine ⟨_, rfl, ?_⟩
            have M49 := M7.call hb50
            refine st rfl (x_move (v := Value.bool (termsB t)) (ev_tmp rfl rfl)) ?_
            refine s_meet2 fun K51 hK52 => ?_
            have J53 : ∀ jk, K51 (fr 29 ([(28, Value.bool ((termsB t) && (t.bo && t.so))), (2, Value.bool false), (26, Value.bool (termsB t))] ++ jk)) w48 := by
              intro jk
              refine hK52 _ _ ?_
              clear hK52
              refine st rfl (x_assign (v := Value.bool ((termsB t) && (t.bo && t.so))) (ev_tmp rfl rfl)) ?_
              refine s_nil ?_
              refine hK47 _ _ ?_
              refine c_ret ?_
              refine hT2 _ _ ?_
              refine r1 rfl (ev_tmp (v := Value.bool ((termsB t) && (t.bo && t.so))) rfl rfl) ?_
              exact ⟨ret_bool (by unfold rightB; simp_all), M49.below⟩
            clear hK52
            rcases bcase (termsB t) with hg54 | hg54
            · refine gf (b' := false) rfl rfl rfl (congrArg Value.bool hg54) rfl ?_
              refine st rfl (x_pick_f (v := Value.bool false) (ev_tmp rfl (congrArg Value.bool hg54)) rfl) ?_
              refine s_nil ?_
              exact j_to J53 ⟨(congrArg Value.bool (and_f hg54)), rfl, rfl, trivial⟩
            · have h55 : termsB t = true := hg54
              refine gt rfl rfl rfl (congrArg Value.bool hg54) (x_move (v := Value.bool (t.bo && t.so)) (ev_tmp rfl rfl)) ?_
              refine st rfl (x_pick_t (v := Value.bool (t.bo && t.so)) (ev_tmp rfl (congrArg Value.bool hg54)) (ev_tmp rfl rfl)) ?_
              refine s_nil ?_
              exact j_to J53 ⟨(congrArg Value.bool (and_t hg54)), rfl, rfl, trivial⟩
          · have h56 : ¬ (t.st = 1) := of_decide_eq_false h44
            refine c_skip ?_
            refine hK16 _ _ ?_
            refine c_seq fun K57 hK58 => ?_
            refine c_reg ?_
            refine st rfl (x_assign (v := Value.bool false) rfl) ?_
            refine s_nil ?_
            refine hK58 _ _ ?_
            refine c_ret ?_
            refine hT2 _ _ ?_
            refine r1 rfl (ev_tmp (v := Value.bool false) rfl rfl) ?_
            exact ⟨ret_bool (by unfold rightB; simp_all), M7.below⟩
        · have h59 : ¬ (t.st = 1) := of_decide_eq_false h42
          refine c_reg ?_
          refine st rfl (x_eql (p := t.st) (q := 3) (ev_tmp rfl rfl) rfl) ?_
          refine st rfl (x_assign (v := Value.bool (decide (t.st = 3))) (ev_tmp rfl rfl)) ?_
          refine s_nil ?_
          refine hK39 _ _ ?_
          refine c_cond (b := decide (t.st = 3)) (ev_tmp rfl rfl) (fun h60 => ?_) (fun h60 => ?_)
          · have h61 : t.st = 3 := of_decide_eq_true h60
            refine c_seq fun K62 hK63 => ?_
            refine c_reg ?_
            refine st rfl (x_loadw (cs := [Value.string t.b, Value.string t.s, Value.string t.p, Value.int .i64 t.q, Value.int .i64 t.r, Value.bool t.bo, Value.bool t.so, Value.int .u8 t.st]) Try.underlying34 rfl sz_34 (ev_tmp rfl rfl) (M7.range (i := 0) rfl ⟨rfl, rfl, rfl, rfl, rfl, rfl, rfl, rfl, trivial⟩)) ?_
            refine sC rfl (x_callL (xs := [.tmp 24]) (vs := [Value.agg #[Value.string t.b, Value.string t.s, Value.string t.p, Value.int .i64 t.q, Value.int .i64 t.r, Value.bool t.bo, Value.bool t.so, Value.int .u8 t.st]]) (cap := []) ent_35 rfl ⟨(ev_tmp rfl rfl), trivial⟩) (agreed_c t _) ?_
            rintro _ w64 ⟨rfl, hb66⟩
            refine ⟨_, rfl, ?_⟩
            have M65 := M7.call hb66
            refine st rfl (x_move (v := Value.bool (termsB t)) (ev_tmp rfl rfl)) ?_
            refine s_meet2 fun K67 hK68 => ?_
            have J69 : ∀ jk, K67 (fr 29 ([(28, Value.bool ((termsB t) && (t.bo && t.so))), (2, Value.bool false), (26, Value.bool (termsB t))] ++ jk)) w64 := by
              intro jk
              refine hK68 _ _ ?_
              clear hK68
              refine st rfl (x_assign (v := Value.bool ((termsB t) && (t.bo && t.so))) (ev_tmp rfl rfl)) ?_
              refine s_nil ?_
              refine hK63 _ _ ?_
              refine c_ret ?_
              refine hT2 _ _ ?_
              refine r1 rfl (ev_tmp (v := Value.bool ((termsB t) && (t.bo && t.so))) rfl rfl) ?_
              exact ⟨ret_bool (by unfold rightB; simp_all), M65.below⟩
            clear hK68
            rcases bcase (termsB t) with hg70 | hg70
            · refine gf (b' := false) rfl rfl rfl (congrArg Value.bool hg70) rfl ?_
              refine st rfl (x_pick_f (v := Value.bool false) (ev_tmp rfl (congrArg Value.bool hg70)) rfl) ?_
              refine s_nil ?_
              exact j_to J69 ⟨(congrArg Value.bool (and_f hg70)), rfl, rfl, trivial⟩
            · have h71 : termsB t = true := hg70
              refine gt rfl rfl rfl (congrArg Value.bool hg70) (x_move (v := Value.bool (t.bo && t.so)) (ev_tmp rfl rfl)) ?_
              refine st rfl (x_pick_t (v := Value.bool (t.bo && t.so)) (ev_tmp rfl (congrArg Value.bool hg70)) (ev_tmp rfl rfl)) ?_
              refine s_nil ?_
              exact j_to J69 ⟨(congrArg Value.bool (and_t hg70)), rfl, rfl, trivial⟩
          · have h72 : ¬ (t.st = 3) := of_decide_eq_false h60
            refine c_skip ?_
            refine hK16 _ _ ?_
            refine c_seq fun K73 hK74 => ?_
            refine c_reg ?_
            refine st rfl (x_assign (v := Value.bool false) rfl) ?_
            refine s_nil ?_
            refine hK74 _ _ ?_
            refine c_ret ?_
            refine hT2 _ _ ?_
            refine r1 rfl (ev_tmp (v := Value.bool false) rfl rfl) ?_
            exact ⟨ret_bool (by unfold rightB; simp_all), M7.below⟩
    · have h75 : ¬ (t.st = 0) := of_decide_eq_false h23
      refine c_reg ?_
      refine st rfl (x_eql (p := t.st) (q := 2) (ev_tmp rfl rfl) rfl) ?_
      refine st rfl (x_assign (v := Value.bool (decide (t.st = 2))) (ev_tmp rfl rfl)) ?_
      refine s_nil ?_
      refine hK20 _ _ ?_
      refine c_cond (b := decide (t.st = 2)) (ev_tmp rfl rfl) (fun h76 => ?_) (fun h76 => ?_)
      · have h77 : t.st = 2 := of_decide_eq_true h76
        refine c_seq fun K78 hK79 => ?_
        refine c_reg ?_
        refine st rfl (x_loadw (cs := [Value.string t.b, Value.string t.s, Value.string t.p, Value.int .i64 t.q, Value.int .i64 t.r, Value.bool t.bo, Value.bool t.so, Value.int .u8 t.st]) Try.underlying34 rfl sz_34 (ev_tmp rfl rfl) (M7.range (i := 0) rfl ⟨rfl, rfl, rfl, rfl, rfl, rfl, rfl, rfl, trivial⟩)) ?_
        refine sC rfl (x_callL (xs := [.tmp 15]) (vs := [Value.agg #[Value.string t.b, Value.string t.s, Value.string t.p, Value.int .i64 t.q, Value.int .i64 t.r, Value.bool t.bo, Value.bool t.so, Value.int .u8 t.st]]) (cap := []) ent_35 rfl ⟨(ev_tmp rfl rfl), trivial⟩) (agreed_c t _) ?_
        rintro _ w80 ⟨rfl, hb82⟩
        refine ⟨_, rfl, ?_⟩
        have M81 := M7.call hb82
        refine st rfl (x_move (v := Value.bool (termsB t)) (ev_tmp rfl rfl)) ?_
        refine s_meet3 fun K83 hK84 => ?_
        have J85 : ∀ jk, K83 (fr 29 ([(20, Value.bool ((termsB t) && (!(t.bo && t.so)))), (1, Value.pointer (some ⟨b5, 0, none⟩)), (2, Value.bool false), (3, Value.bool (t.bo && t.so)), (11, Value.int .u8 t.st), (17, Value.bool (termsB t))] ++ jk)) w80 := by
          intro jk
          refine hK84 _ _ ?_
          clear hK84
          refine st rfl (x_assign (v := Value.bool ((termsB t) && (!(t.bo && t.so)))) (ev_tmp rfl rfl)) ?_
          refine s_nil ?_
          refine hK79 _ _ ?_
          refine c_ret ?_
          refine hT2 _ _ ?_
          refine r1 rfl (ev_tmp (v := Value.bool ((termsB t) && (!(t.bo && t.so)))) rfl rfl) ?_
          exact ⟨ret_bool (by unfold rightB; simp_all), M81.below⟩
        clear hK84
        rcases bcase (termsB t) with hg86 | hg86
        · refine gf (b' := false) rfl rfl rfl (congrArg Value.bool hg86) rfl ?_
          refine gf (b' := false) rfl rfl rfl (congrArg Value.bool hg86) rfl ?_
          refine st rfl (x_pick_f (v := Value.bool false) (ev_tmp rfl (congrArg Value.bool hg86)) rfl) ?_
          refine s_nil ?_
          exact j_to J85 ⟨(congrArg Value.bool (and_f hg86)), rfl, rfl, rfl, rfl, rfl, trivial⟩
        · have h87 : termsB t = true := hg86
          refine gt rfl rfl rfl (congrArg Value.bool hg86) (x_move (v := Value.bool (t.bo && t.so)) (ev_tmp rfl rfl)) ?_
          refine gt rfl rfl rfl (congrArg Value.bool hg86) (x_not (b := (t.bo && t.so)) (ev_tmp rfl rfl)) ?_
          refine st rfl (x_pick_t (v := Value.bool (!(t.bo && t.so))) (ev_tmp rfl (congrArg Value.bool hg86)) (ev_tmp rfl rfl)) ?_
          refine s_nil ?_
          exact j_to J85 ⟨(congrArg Value.bool (and_t hg86)), rfl, rfl, rfl, rfl, rfl, trivial⟩
      · have h88 : ¬ (t.st = 2) := of_decide_eq_false h76
        refine c_seq fun K89 hK90 => ?_
        refine c_seq fun K91 hK92 => ?_
        refine c_reg ?_
        refine st rfl (x_eql (p := t.st) (q := 1) (ev_tmp rfl rfl) rfl) ?_
        refine st rfl (x_assign (v := Value.bool (decide (t.st = 1))) (ev_tmp rfl rfl)) ?_
        refine s_nil ?_
        refine hK92 _ _ ?_
        refine c_cond (b := decide (t.st = 1)) (ev_tmp rfl rfl) (fun h93 => ?_) (fun h93 => ?_)
        · have h94 : t.st = 1 := of_decide_eq_true h93
          refine c_skip ?_
          refine hK90 _ _ ?_
          refine c_cond (b := decide (t.st = 1)) (ev_tmp rfl rfl) (fun h95 => ?_) (fun h95 => ?_)
          · have h96 : t.st = 1 := of_decide_eq_true h95
            refine c_seq fun K97 hK98 => ?_
            refine c_reg ?_
            refine st rfl (x_loadw (cs := [Value.string t.b, Value.string t.s, Value.string t.p, Value.int .i64 t.q, Value.int .i64 t.r, Value.bool t.bo, Value.bool t.so, Value.int .u8 t.st]) Try.underlying34 rfl sz_34 (ev_tmp rfl rfl) (M7.range (i := 0) rfl ⟨rfl, rfl, rfl, rfl, rfl, rfl, rfl, rfl, trivial⟩)) ?_
            refine sC rfl (x_callL (xs := [.tmp 24]) (vs := [Value.agg #[Value.string t.b, Value.string t.s, Value.string t.p, Value.int .i64 t.q, Value.int .i64 t.r, Value.bool t.bo, Value.bool t.so, Value.int .u8 t.st]]) (cap := []) ent_35 rfl ⟨(ev_tmp rfl rfl), trivial⟩) (agreed_c t _) ?_
            rintro _ w99 ⟨rfl, hb101⟩
            refine ⟨_, rfl, ?_⟩
            have M100 := M7.call hb101
            refine st rfl (x_move (v := Value.bool (termsB t)) (ev_tmp rfl rfl)) ?_
            refine s_meet2 fun K102 hK103 => ?_
            have J104 : ∀ jk, K102 (fr 29 ([(28, Value.bool ((termsB t) && (t.bo && t.so))), (2, Value.bool false), (26, Value.bool (termsB t))] ++ jk)) w99 := by
              intro jk
              refine hK103 _ _ ?_
              clear hK103
              refine st rfl (x_assign (v := Value.bool ((termsB t) && (t.bo && t.so))) (ev_tmp rfl rfl)) ?_
              refine s_nil ?_
              refine hK98 _ _ ?_
              refine c_ret ?_
              refine hT2 _ _ ?_
              refine r1 rfl (ev_tmp (v := Value.bool ((termsB t) && (t.bo && t.so))) rfl rfl) ?_
              exact ⟨ret_bool (by unfold rightB; simp_all), M100.below⟩
            clear hK103
            rcases bcase (termsB t) with hg105 | hg105
            · refine gf (b' := false) rfl rfl rfl (congrArg Value.bool hg105) rfl ?_
              refine st rfl (x_pick_f (v := Value.bool false) (ev_tmp rfl (congrArg Value.bool hg105)) rfl) ?_
              refine s_nil ?_
              exact j_to J104 ⟨(congrArg Value.bool (and_f hg105)), rfl, rfl, trivial⟩
            · have h106 : termsB t = true := hg105
              refine gt rfl rfl rfl (congrArg Value.bool hg105) (x_move (v := Value.bool (t.bo && t.so)) (ev_tmp rfl rfl)) ?_
              refine st rfl (x_pick_t (v := Value.bool (t.bo && t.so)) (ev_tmp rfl (congrArg Value.bool hg105)) (ev_tmp rfl rfl)) ?_
              refine s_nil ?_
              exact j_to J104 ⟨(congrArg Value.bool (and_t hg105)), rfl, rfl, trivial⟩
          · have h107 : ¬ (t.st = 1) := of_decide_eq_false h95
            refine c_skip ?_
            refine hK16 _ _ ?_
            refine c_seq fun K108 hK109 => ?_
            refine c_reg ?_
            refine st rfl (x_assign (v := Value.bool false) rfl) ?_
            refine s_nil ?_
            refine hK109 _ _ ?_
            refine c_ret ?_
            refine hT2 _ _ ?_
            refine r1 rfl (ev_tmp (v := Value.bool false) rfl rfl) ?_
            exact ⟨ret_bool (by unfold rightB; simp_all), M7.below⟩
        · have h110 : ¬ (t.st = 1) := of_decide_eq_false h93
          refine c_reg ?_
          refine st rfl (x_eql (p := t.st) (q := 3) (ev_tmp rfl rfl) rfl) ?_
          refine st rfl (x_assign (v := Value.bool (decide (t.st = 3))) (ev_tmp rfl rfl)) ?_
          refine s_nil ?_
          refine hK90 _ _ ?_
          refine c_cond (b := decide (t.st = 3)) (ev_tmp rfl rfl) (fun h111 => ?_) (fun h111 => ?_)
          · have h112 : t.st = 3 := of_decide_eq_true h111
            refine c_seq fun K113 hK114 => ?_
            refine c_reg ?_
            refine st rfl (x_loadw (cs := [Value.string t.b, Value.string t.s, Value.string t.p, Value.int .i64 t.q, Value.int .i64 t.r, Value.bool t.bo, Value.bool t.so, Value.int .u8 t.st]) Try.underlying34 rfl sz_34 (ev_tmp rfl rfl) (M7.range (i := 0) rfl ⟨rfl, rfl, rfl, rfl, rfl, rfl, rfl, rfl, trivial⟩)) ?_
            refine sC rfl (x_callL (xs := [.tmp 24]) (vs := [Value.agg #[Value.string t.b, Value.string t.s, Value.string t.p, Value.int .i64 t.q, Value.int .i64 t.r, Value.bool t.bo, Value.bool t.so, Value.int .u8 t.st]]) (cap := []) ent_35 rfl ⟨(ev_tmp rfl rfl), trivial⟩) (agreed_c t _) ?_
            rintro _ w115 ⟨rfl, hb117⟩
            refine ⟨_, rfl, ?_⟩
            have M116 := M7.call hb117
            refine st rfl (x_move (v := Value.bool (termsB t)) (ev_tmp rfl rfl)) ?_
            refine s_meet2 fun K118 hK119 => ?_
            have J120 : ∀ jk, K118 (fr 29 ([(28, Value.bool ((termsB t) && (t.bo && t.so))), (2, Value.bool false), (26, Value.bool (termsB t))] ++ jk)) w115 := by
              intro jk
              refine hK119 _ _ ?_
              clear hK119
              refine st rfl (x_assign (v := Value.bool ((termsB t) && (t.bo && t.so))) (ev_tmp rfl rfl)) ?_
              refine s_nil ?_
              refine hK114 _ _ ?_
              refine c_ret ?_
              refine hT2 _ _ ?_
              refine r1 rfl (ev_tmp (v := Value.bool ((termsB t) && (t.bo && t.so))) rfl rfl) ?_
              exact ⟨ret_bool (by unfold rightB; simp_all), M116.below⟩
            clear hK119
            rcases bcase (termsB t) with hg121 | hg121
            · refine gf (b' := false) rfl rfl rfl (congrArg Value.bool hg121) rfl ?_
              refine st rfl (x_pick_f (v := Value.bool false) (ev_tmp rfl (congrArg Value.bool hg121)) rfl) ?_
              refine s_nil ?_
              exact j_to J120 ⟨(congrArg Value.bool (and_f hg121)), rfl, rfl, trivial⟩
            · have h122 : termsB t = true := hg121
              refine gt rfl rfl rfl (congrArg Value.bool hg121) (x_move (v := Value.bool (t.bo && t.so)) (ev_tmp rfl rfl)) ?_
              refine st rfl (x_pick_t (v := Value.bool (t.bo && t.so)) (ev_tmp rfl (congrArg Value.bool hg121)) (ev_tmp rfl rfl)) ?_
              refine s_nil ?_
              exact j_to J120 ⟨(congrArg Value.bool (and_t hg121)), rfl, rfl, trivial⟩
          · have h123 : ¬ (t.st = 3) := of_decide_eq_false h111
            refine c_skip ?_
            refine hK16 _ _ ?_
            refine c_seq fun K124 hK125 => ?_
            refine c_reg ?_
            refine st rfl (x_assign (v := Value.bool false) rfl) ?_
            refine s_nil ?_
            refine hK125 _ _ ?_
            refine c_ret ?_
            refine hT2 _ _ ?_
            refine r1 rfl (ev_tmp (v := Value.bool false) rfl rfl) ?_
            exact ⟨ret_bool (by unfold rightB; simp_all), M7.below⟩
  clear hK11
  rcases bcase (t.bo) with hg13 | hg13
  · refine gf (b' := false) rfl rfl rfl (congrArg Value.bool hg13) rfl ?_
    refine gf (b' := false) rfl rfl rfl (congrArg Value.bool hg13) rfl ?_
    refine st rfl (x_pick_f (v := Value.bool false) (ev_tmp rfl (congrArg Value.bool hg13)) rfl) ?_
    refine s_nil ?_
    exact j_to J12 ⟨(congrArg Value.bool (and_f hg13)), rfl, rfl, rfl, trivial⟩
  · have h14 : t.bo = true := hg13
    refine gt rfl rfl rfl (congrArg Value.bool hg13) (x_fieldv (b := b5) (o := 0) (q := 6) fa_34_6 (ev_tmp rfl rfl) rfl) ?_
    refine gt rfl rfl rfl (congrArg Value.bool hg13) (x_load1 (v := Value.bool t.so) Try.underlying4 rfl (ev_tmp rfl rfl) (M7.cell (i := 0) (o := 6) rfl rfl)) ?_
    refine st rfl (x_pick_t (v := Value.bool t.so) (ev_tmp rfl (congrArg Value.bool hg13)) (ev_tmp rfl rfl)) ?_
    refine s_nil ?_
    exact j_to J12 ⟨(congrArg Value.bool (and_t hg13)), rfl, rfl, rfl, trivial⟩

set_option maxHeartbeats 1000000 in
set_option maxRecDepth 20000 in
theorem right_r (t : Trade) (w : World) :
    Calls Try.prog 47 #[Value.agg #[Value.string t.b, Value.string t.s, Value.string t.p, Value.int .i64 t.q, Value.int .i64 t.r, Value.bool t.bo, Value.bool t.so, Value.int .u8 t.st]] w fun e w' => e = .returned (.bool (rightB t)) ∧ Below w.heap.size w w' := by
  have M0 := Mem.start w []
  refine enter (args := [Value.agg #[Value.string t.b, Value.string t.s, Value.string t.p, Value.int .i64 t.q, Value.int .i64 t.r, Value.bool t.bo, Value.bool t.so, Value.int .u8 t.st]]) Try.func47 rfl (n := 28) rfl rfl fun T1 hT2 => ?_
  refine c_seq fun K3 hK4 => ?_
  refine c_reg ?_
  refine snew (cs := #[Value.string t.b, Value.string t.s, Value.string t.p, Value.int .i64 t.q, Value.int .i64 t.r, Value.bool t.bo, Value.bool t.so, Value.int .u8 t.st]) M0 rfl (x_box (v := Value.agg #[Value.string t.b, Value.string t.s, Value.string t.p, Value.int .i64 t.q, Value.int .i64 t.r, Value.bool t.bo, Value.bool t.so, Value.int .u8 t.st]) (ev_tmp rfl rfl)) fun b5 w6 M7 => ?_
  refine st rfl (x_assign (v := Value.bool false) rfl) ?_
  refine s_nil ?_
  refine hK4 _ _ ?_
  refine c_seq fun K8 hK9 => ?_
  refine c_seq fun K10 hK11 => ?_
  refine c_reg ?_
  refine st rfl (x_loadw (cs := [Value.string t.b, Value.string t.s, Value.string t.p, Value.int .i64 t.q, Value.int .i64 t.r, Value.bool t.bo, Value.bool t.so, Value.int .u8 t.st]) Try.underlying34 rfl sz_34 (ev_tmp rfl rfl) (M7.range (i := 0) rfl ⟨rfl, rfl, rfl, rfl, rfl, rfl, rfl, rfl, trivial⟩)) ?_
  refine sC rfl (x_callL (xs := [.tmp 3]) (vs := [Value.agg #[Value.string t.b, Value.string t.s, Value.string t.p, Value.int .i64 t.q, Value.int .i64 t.r, Value.bool t.bo, Value.bool t.so, Value.int .u8 t.st]]) (cap := []) ent_51 rfl ⟨(ev_tmp rfl rfl), trivial⟩) (terms_r t _) ?_
  rintro _ w12 ⟨rfl, hb14⟩
  refine ⟨_, rfl, ?_⟩
  have M13 := M7.call hb14
  refine st rfl (x_not (b := (termsB t)) (ev_tmp rfl rfl)) ?_
  refine s_nil ?_
  refine hK11 _ _ ?_
  refine c_cond (b := !(termsB t)) (ev_tmp rfl rfl) (fun h15 => ?_) (fun h15 => ?_)
  · have h16 : termsB t = false := not_t h15
    refine c_seq fun K17 hK18 => ?_
    refine c_reg ?_
    refine st rfl (x_assign (v := Value.bool false) rfl) ?_
    refine s_nil ?_
    refine hK18 _ _ ?_
    refine c_ret ?_
    refine hT2 _ _ ?_
    refine r1 rfl (ev_tmp (v := Value.bool false) rfl rfl) ?_
    exact ⟨ret_bool (by unfold rightB; simp_all), M13.below⟩
  · have h19 : termsB t = true := not_f h15
    refine c_skip ?_
    refine hK9 _ _ ?_
    refine c_seq fun K20 hK21 => ?_
    refine c_seq fun K22 hK23 => ?_
    refine c_reg ?_
    refine st rfl (x_fieldv (b := b5) (o := 0) (q := 5) fa_34_5 (ev_tmp rfl rfl) rfl) ?_
    refine st rfl (x_load1 (v := Value.bool t.bo) Try.underlying4 rfl (ev_tmp rfl rfl) (M13.cell (i := 0) (o := 5) rfl rfl)) ?_
    refine st rfl (x_move (v := Value.bool t.bo) (ev_tmp rfl rfl)) ?_
    refine s_meet3 fun K24 hK25 => ?_
    have J26 : ∀ jk, K24 (fr 28 ([(11, Value.bool (t.bo && t.so)), (1, Value.pointer (some ⟨b5, 0, none⟩)), (2, Value.bool false), (8, Value.bool t.bo)] ++ jk)) w12 := by
      intro jk
      refine hK25 _ _ ?_
      clear hK25
      refine s_nil ?_
      refine hK23 _ _ ?_
      refine c_cond (b := t.bo && t.so) (ev_tmp rfl rfl) (fun h29 => ?_) (fun h29 => ?_)
      · have h30 : t.bo = true := and_l h29
        have h31 : t.so = true := and_r h29
        refine c_seq fun K32 hK33 => ?_
        refine c_reg ?_
        refine st rfl (x_fieldv (b := b5) (o := 0) (q := 7) fa_34_7 (ev_tmp rfl rfl) rfl) ?_
        refine st rfl (x_load1 (v := Value.int .u8 t.st) Try.underlying5 rfl (ev_tmp rfl rfl) (M13.cell (i := 0) (o := 7) rfl rfl)) ?_
        refine st rfl (x_eql (p := t.st) (q := 1) (ev_tmp rfl rfl) rfl) ?_
        refine st rfl (x_move (v := Value.bool (decide (t.st = 1))) (ev_tmp rfl rfl)) ?_
        refine s_meet4 fun K34 hK35 => ?_
        have J36 : ∀ jk, K34 (fr 28 ([(19, Value.bool ((decide (t.st = 1)) || (decide (t.st = 3)))), (1, Value.pointer (some ⟨b5, 0, none⟩)), (2, Value.bool false), (15, Value.bool (decide (t.st = 1)))] ++ jk)) w12 := by
          intro jk
          refine hK35 _ _ ?_
          clear hK35
          refine st rfl (x_assign (v := Value.bool ((decide (t.st = 1)) || (decide (t.st = 3)))) (ev_tmp rfl rfl)) ?_
          refine s_nil ?_
          refine hK33 _ _ ?_
          refine c_ret ?_
          refine hT2 _ _ ?_
          refine r1 rfl (ev_tmp (v := Value.bool ((decide (t.st = 1)) || (decide (t.st = 3)))) rfl rfl) ?_
          exact ⟨ret_bool (by unfold rightB; simp_all), M13.below⟩
        clear hK35
        rcases bcase (decide (t.st = 1)) with hg37 | hg37
        · have h38 : ¬ (t.st = 1) := of_decide_eq_false hg37
          refine gt rfl rfl rfl (congrArg Value.bool hg37) (x_fieldv (b := b5) (o := 0) (q := 7) fa_34_7 (ev_tmp rfl rfl) rfl) ?_
          refine gt rfl rfl rfl (congrArg Value.bool hg37) (x_load1 (v := Value.int .u8 t.st) Try.underlying5 rfl (ev_tmp rfl rfl) (M13.cell (i := 0) (o := 7) rfl rfl)) ?_
          refine gt rfl rfl rfl (congrArg Value.bool hg37) (x_eql (p := t.st) (q := 3) (ev_tmp rfl rfl) rfl) ?_
          refine st rfl (x_pick_f (v := Value.bool (decide (t.st = 3))) (ev_tmp rfl (congrArg Value.bool hg37)) (ev_tmp rfl rfl)) ?_
          refine s_nil ?_
          exact j_to J36 ⟨(congrArg Value.bool (or_f hg37)), rfl, rfl, rfl, trivial⟩
        · refine gf (b' := true) rfl rfl rfl (congrArg Value.bool hg37) rfl ?_
          refine gf (b' := true) rfl rfl rfl (congrArg Value.bool hg37) rfl ?_
          refine gf (b' := true) rfl rfl rfl (congrArg Value.bool hg37) rfl ?_
          refine st rfl (x_pick_t (v := Value.bool true) (ev_tmp rfl (congrArg Value.bool hg37)) rfl) ?_
          refine s_nil ?_
          exact j_to J36 ⟨(congrArg Value.bool (or_t hg37)), rfl, rfl, rfl, trivial⟩
      · have h39 : (t.bo && t.so) = false := h29
        refine c_skip ?_
        refine hK21 _ _ ?_
        refine c_seq fun K40 hK41 => ?_
        refine c_reg ?_
        refine st rfl (x_fieldv (b := b5) (o := 0) (q := 7) fa_34_7 (ev_tmp rfl rfl) rfl) ?_
        refine st rfl (x_load1 (v := Value.int .u8 t.st) Try.underlying5 rfl (ev_tmp rfl rfl) (M13.cell (i := 0) (o := 7) rfl rfl)) ?_
        refine st rfl (x_eql (p := t.st) (q := 0) (ev_tmp rfl rfl) rfl) ?_
        refine st rfl (x_move (v := Value.bool (decide (t.st = 0))) (ev_tmp rfl rfl)) ?_
        refine s_meet4 fun K42 hK43 => ?_
        have J44 : ∀ jk, K42 (fr 28 ([(27, Value.bool ((decide (t.st = 0)) || (decide (t.st = 2)))), (2, Value.bool false), (23, Value.bool (decide (t.st = 0)))] ++ jk)) w12 := by
          intro jk
          refine hK43 _ _ ?_
          clear hK43
          refine st rfl (x_assign (v := Value.bool ((decide (t.st = 0)) || (decide (t.st = 2)))) (ev_tmp rfl rfl)) ?_
          refine s_nil ?_
          refine hK41 _ _ ?_
          refine c_ret ?_
          refine hT2 _ _ ?_
          refine r1 rfl (ev_tmp (v := Value.bool ((decide (t.st = 0)) || (decide (t.st = 2)))) rfl rfl) ?_
          exact ⟨ret_bool (by unfold rightB; simp_all), M13.below⟩
        clear hK43
        rcases bcase (decide (t.st = 0)) with hg45 | hg45
        · have h46 : ¬ (t.st = 0) := of_decide_eq_false hg45
          refine gt rfl rfl rfl (congrArg Value.bool hg45) (x_fieldv (b := b5) (o := 0) (q := 7) fa_34_7 (ev_tmp rfl rfl) rfl) ?_
          refine gt rfl rfl rfl (congrArg Value.bool hg45) (x_load1 (v := Value.int .u8 t.st) Try.underlying5 rfl (ev_tmp rfl rfl) (M13.cell (i := 0) (o := 7) rfl rfl)) ?_
          refine gt rfl rfl rfl (congrArg Value.bool hg45) (x_eql (p := t.st) (q := 2) (ev_tmp rfl rfl) rfl) ?_
          refine st rfl (x_pick_f (v := Value.bool (decide (t.st = 2))) (ev_tmp rfl (congrArg Value.bool hg45)) (ev_tmp rfl rfl)) ?_
          refine s_nil ?_
          exact j_to J44 ⟨(congrArg Value.bool (or_f hg45)), rfl, rfl, trivial⟩
        · refine gf (b' := true) rfl rfl rfl (congrArg Value.bool hg45) rfl ?_
          refine gf (b' := true) rfl rfl rfl (congrArg Value.bool hg45) rfl ?_
          refine gf (b' := true) rfl rfl rfl (congrArg Value.bool hg45) rfl ?_
          refine st rfl (x_pick_t (v := Value.bool true) (ev_tmp rfl (congrArg Value.bool hg45)) rfl) ?_
          refine s_nil ?_
          exact j_to J44 ⟨(congrArg Value.bool (or_t hg45)), rfl, rfl, trivial⟩
    clear hK25
    rcases bcase (t.bo) with hg27 | hg27
    · refine gf (b' := false) rfl rfl rfl (congrArg Value.bool hg27) rfl ?_
      refine gf (b' := false) rfl rfl rfl (congrArg Value.bool hg27) rfl ?_
      refine st rfl (x_pick_f (v := Value.bool false) (ev_tmp rfl (congrArg Value.bool hg27)) rfl) ?_
      refine s_nil ?_
      exact j_to J26 ⟨(congrArg Value.bool (and_f hg27)), rfl, rfl, rfl, trivial⟩
    · have h28 : t.bo = true := hg27
      refine gt rfl rfl rfl (congrArg Value.bool hg27) (x_fieldv (b := b5) (o := 0) (q := 6) fa_34_6 (ev_tmp rfl rfl) rfl) ?_
      refine gt rfl rfl rfl (congrArg Value.bool hg27) (x_load1 (v := Value.bool t.so) Try.underlying4 rfl (ev_tmp rfl rfl) (M13.cell (i := 0) (o := 6) rfl rfl)) ?_
      refine st rfl (x_pick_t (v := Value.bool t.so) (ev_tmp rfl (congrArg Value.bool hg27)) (ev_tmp rfl rfl)) ?_
      refine s_nil ?_
      exact j_to J26 ⟨(congrArg Value.bool (and_t hg27)), rfl, rfl, rfl, trivial⟩

set_option maxHeartbeats 1000000 in
set_option maxRecDepth 20000 in
theorem bad_c (t : Trade) (w : World) :
    Calls Try.prog 32 #[Value.agg #[Value.string t.b, Value.string t.s, Value.string t.p, Value.int .i64 t.q, Value.int .i64 t.r, Value.bool t.bo, Value.bool t.so, Value.int .u8 t.st]] w fun e w' => e = .returned (.bool (!rightB t)) ∧ Below w.heap.size w w' := by
  have M0 := Mem.start w []
  refine enter (args := [Value.agg #[Value.string t.b, Value.string t.s, Value.string t.p, Value.int .i64 t.q, Value.int .i64 t.r, Value.bool t.bo, Value.bool t.so, Value.int .u8 t.st]]) Try.func32 rfl (n := 6) rfl rfl fun T1 hT2 => ?_
  refine c_seq fun K3 hK4 => ?_
  refine c_reg ?_
  refine snew (cs := #[Value.string t.b, Value.string t.s, Value.string t.p, Value.int .i64 t.q, Value.int .i64 t.r, Value.bool t.bo, Value.bool t.so, Value.int .u8 t.st]) M0 rfl (x_box (v := Value.agg #[Value.string t.b, Value.string t.s, Value.string t.p, Value.int .i64 t.q, Value.int .i64 t.r, Value.bool t.bo, Value.bool t.so, Value.int .u8 t.st]) (ev_tmp rfl rfl)) fun b5 w6 M7 => ?_
  refine st rfl (x_assign (v := Value.bool false) rfl) ?_
  refine s_nil ?_
  refine hK4 _ _ ?_
  refine c_seq fun K8 hK9 => ?_
  refine c_reg ?_
  refine st rfl (x_loadw (cs := [Value.string t.b, Value.string t.s, Value.string t.p, Value.int .i64 t.q, Value.int .i64 t.r, Value.bool t.bo, Value.bool t.so, Value.int .u8 t.st]) Try.underlying34 rfl sz_34 (ev_tmp rfl rfl) (M7.range (i := 0) rfl ⟨rfl, rfl, rfl, rfl, rfl, rfl, rfl, rfl, trivial⟩)) ?_
  refine sC rfl (x_callL (xs := [.tmp 3]) (vs := [Value.agg #[Value.string t.b, Value.string t.s, Value.string t.p, Value.int .i64 t.q, Value.int .i64 t.r, Value.bool t.bo, Value.bool t.so, Value.int .u8 t.st]]) (cap := []) ent_33 rfl ⟨(ev_tmp rfl rfl), trivial⟩) (valid_c t _) ?_
  rintro _ w10 ⟨rfl, hb12⟩
  refine ⟨_, rfl, ?_⟩
  have M11 := M7.call hb12
  refine st rfl (x_not (b := (rightB t)) (ev_tmp rfl rfl)) ?_
  refine st rfl (x_assign (v := Value.bool (!(rightB t))) (ev_tmp rfl rfl)) ?_
  refine s_nil ?_
  refine hK9 _ _ ?_
  refine c_ret ?_
  refine hT2 _ _ ?_
  refine r1 rfl (ev_tmp (v := Value.bool (!(rightB t))) rfl rfl) ?_
  exact ⟨rfl, M11.below⟩

end Go.Proofs.Ytkimdlpfbojkgaa
