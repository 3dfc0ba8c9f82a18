/- Contracts: names. -/
import Derived.Test.YtkimdlpfbojkgaaF
import Derived.Test.YtkimdlpfbojkgaaV
namespace Go.Proofs.Ytkimdlpfbojkgaa
open Go.RowKit
theorem letB_eq (c : Int) : (decide ((97 : Int) ≤ c) && decide (c ≤ 122) || decide ((65 : Int) ≤ c) && decide (c ≤ 90)) = letB c := by
  unfold letB; rw [Bool.eq_iff_iff]; simp
theorem take_snoc (s : ByteArray) (k : Nat) (h : k < s.size) : s.data.toList.take (k + 1) = s.data.toList.take k ++ [s.data.toList.getD k 0] := by
  rw [List.take_succ_eq_append_getElem (by simpa using h), List.getD_eq_getElem?_getD, List.getElem?_eq_getElem (by simpa using h)]; rfl
theorem len_list (s : ByteArray) : s.data.toList.length = s.size := rfl
theorem all_bad (s : ByteArray) (k : Nat) (h : k < s.size) (p : UInt8 → Bool) (hp : p (s.data.toList.getD k 0) = false) : s.data.toList.all p = false := by
  rw [List.all_eq_false]
  refine ⟨s.data.toList.getD k 0, ?_, by rw [hp]; simp⟩
  rw [List.getD_eq_getElem?_getD, List.getElem?_eq_getElem (by simpa using h)]
  exact List.getElem_mem _
theorem nb_len (s : ByteArray) (h : (s.size : Int) < 1 ∨ (40 : Int) < s.size) : false = nameB s.data.toList := by
  unfold nameB
  rcases h with h | h
  · have : decide (1 ≤ s.data.toList.length) = false := decide_eq_false (by rw [len_list]; omega)
    rw [this]; rfl
  · have : decide (s.data.toList.length ≤ 40) = false := decide_eq_false (by rw [len_list]; omega)
    rw [this]; simp
theorem nb_at (s : ByteArray) (k : Nat) (h : k < s.size) (ho : okB ((s.data.toList.getD k 0).toNat : Int) = false) : false = nameB s.data.toList := by
  unfold nameB
  rw [all_bad s k h _ ho]; simp
theorem nb_first (s : ByteArray) (ho : letB ((s.data.toList.getD 0 0).toNat : Int) = false) : false = nameB s.data.toList := by
  unfold nameB
  rw [ho]; simp
theorem nb1 (s : ByteArray) (h : ((decide ((s.size : Int) < 1) || decide ((40 : Int) < (s.size : Int))) || !letB ((s.data.toList.getD 0 0).toNat : Int)) = true) : false = nameB s.data.toList := by
  rw [Bool.or_eq_true, Bool.or_eq_true] at h
  rcases h with (h | h) | h
  · exact nb_len s (.inl (of_decide_eq_true h))
  · exact nb_len s (.inr (of_decide_eq_true h))
  · exact nb_first s (not_t h)
theorem nr1 (s : ByteArray) (h : (decide ((s.size : Int) < 1) || decide ((40 : Int) < (s.size : Int))) = true) : false = nameB s.data.toList := by
  rw [Bool.or_eq_true] at h
  rcases h with h | h
  · exact nb_len s (.inl (of_decide_eq_true h))
  · exact nb_len s (.inr (of_decide_eq_true h))
theorem tst_c (c : Int) : ((((!letB c) && (decide (c < 48) || decide ((57 : Int) < c))) && !decide (c = 95)) && !decide (c = 45)) = !okB c := by
  unfold okB; generalize letB c = b; cases b <;> rw [Bool.eq_iff_iff] <;> simp <;> omega
theorem tst_r (c k : Int) : (!((decide ((97 : Int) ≤ c) && decide (c ≤ 122)) || (decide ((65 : Int) ≤ c) && decide (c ≤ 90))) && ((!(((decide ((48 : Int) ≤ c) && decide (c ≤ 57)) || decide (c = 95)) || decide (c = 45))) || decide (k = 0))) = ((!okB c) || (decide (k = 0) && !letB c)) := by
  unfold okB letB; rw [Bool.eq_iff_iff]; simp; omega
theorem snoc_ok (s : ByteArray) (k : Nat) (h : k < s.size) (ha : (s.data.toList.take k).all (fun c => okB (c.toNat : Int)) = true) (ho : okB ((s.data.toList.getD k 0).toNat : Int) = true) :
    (s.data.toList.take (k + 1)).all (fun c => okB (c.toNat : Int)) = true := by
  rw [take_snoc s k h, List.all_append, ha, List.all_cons, ho]; rfl
theorem nb_good (s : ByteArray) (k : Nat) (hk : ¬ ((k : Int) < (s.size : Int))) (h1 : ¬ ((s.size : Int) < 1)) (h2 : ¬ ((40 : Int) < (s.size : Int))) (hf : letB ((s.data.toList.getD 0 0).toNat : Int) = true)
    (ha : (s.data.toList.take k).all (fun c => okB (c.toNat : Int)) = true) : true = nameB s.data.toList := by
  rw [List.take_of_length_le (by rw [len_list]; omega)] at ha
  unfold nameB
  rw [ha, hf, len_list]
  simp; omega
theorem nr_bad (s : ByteArray) (k : Nat) (h : k < s.size) (ht : (!((decide ((97 : Int) ≤ ((s.data.toList.getD k 0).toNat : Int)) && decide (((s.data.toList.getD k 0).toNat : Int) ≤ 122)) || (decide ((65 : Int) ≤ ((s.data.toList.getD k 0).toNat : Int)) && decide (((s.data.toList.getD k 0).toNat : Int) ≤ 90))) && ((!(((decide ((48 : Int) ≤ ((s.data.toList.getD k 0).toNat : Int)) && decide (((s.data.toList.getD k 0).toNat : Int) ≤ 57)) || decide (((s.data.toList.getD k 0).toNat : Int) = 95)) || decide (((s.data.toList.getD k 0).toNat : Int) = 45))) || decide ((k : Int) = 0))) = true) : false = nameB s.data.toList := by
  rw [tst_r, Bool.or_eq_true] at ht
  rcases ht with ht | ht
  · exact nb_at s k h (not_t ht)
  · have h0 : (k : Int) = 0 := of_decide_eq_true (and_l ht)
    have h0 : k = 0 := by omega
    subst h0
    exact nb_first s (not_t (and_r ht))
theorem nr_ok {c k : Int} (ht : (!((decide ((97 : Int) ≤ c) && decide (c ≤ 122)) || (decide ((65 : Int) ≤ c) && decide (c ≤ 90))) && ((!(((decide ((48 : Int) ≤ c) && decide (c ≤ 57)) || decide (c = 95)) || decide (c = 45))) || decide (k = 0))) = false) : okB c = true := by
  rw [tst_r] at ht
  exact not_f (or_l ht)
theorem nr_first (s : ByteArray) (k : Nat) (hf : 0 < k → letB ((s.data.toList.getD 0 0).toNat : Int) = true) (ht : (!((decide ((97 : Int) ≤ ((s.data.toList.getD k 0).toNat : Int)) && decide (((s.data.toList.getD k 0).toNat : Int) ≤ 122)) || (decide ((65 : Int) ≤ ((s.data.toList.getD k 0).toNat : Int)) && decide (((s.data.toList.getD k 0).toNat : Int) ≤ 90))) && ((!(((decide ((48 : Int) ≤ ((s.data.toList.getD k 0).toNat : Int)) && decide (((s.data.toList.getD k 0).toNat : Int) ≤ 57)) || decide (((s.data.toList.getD k 0).toNat : Int) = 95)) || decide (((s.data.toList.getD k 0).toNat : Int) = 45))) || decide ((k : Int) = 0))) = false) : letB ((s.data.toList.getD 0 0).toNat : Int) = true := by
  by_cases h0 : k = 0
  · subst h0
    rw [tst_r] at ht
    have := or_r ht
    simpa using this
  · exact hf (by omega)
set_option maxHeartbeats 1000000 in
set_option maxRecDepth 20000 in
theorem letter_c (c : Int) (w : World) :
    Calls Try.prog 54 #[Value.int .u8 c] w fun e w' => e = .returned (.bool (letB c)) ∧ w = w' := by
  have M0 := Mem.start w []
  refine enter (args := [Value.int .u8 c]) Try.func54 rfl (n := 17) rfl rfl fun T1 hT2 => ?_
  refine c_seq fun K3 hK4 => ?_
  refine c_reg ?_
  refine st rfl (x_assign (v := Value.bool false) rfl) ?_
  refine s_nil ?_
  refine hK4 _ _ ?_
  refine c_seq fun K5 hK6 => ?_
  refine c_reg ?_
  refine st rfl (x_move (v := Value.int .u8 c) (ev_tmp rfl rfl)) ?_
  refine st rfl (x_geq (p := c) (q := 97) (ev_tmp rfl rfl) rfl) ?_
  refine st rfl (x_move (v := Value.bool (decide ((97 : Int) ≤ c))) (ev_tmp rfl rfl)) ?_
  refine s_meet3 fun K7 hK8 => ?_
  have J9 : ∀ jk, K7 (fr 17 ([(8, Value.bool ((decide ((97 : Int) ≤ c)) && (decide (c ≤ 122)))), (0, Value.int .u8 c), (2, Value.bool false), (5, Value.bool (decide ((97 : Int) ≤ c)))] ++ jk)) w := by
    intro jk
    refine hK8 _ _ ?_
    clear hK8
    refine st rfl (x_move (v := Value.bool ((decide ((97 : Int) ≤ c)) && (decide (c ≤ 122)))) (ev_tmp rfl rfl)) ?_
    refine s_meet7 fun K12 hK13 => ?_
    have J14 : ∀ jk, K12 (fr 17 ([(16, Value.bool (((decide ((97 : Int) ≤ c)) && (decide (c ≤ 122))) || ((decide ((65 : Int) ≤ c)) && (decide (c ≤ 90))))), (2, Value.bool false), (9, Value.bool ((decide ((97 : Int) ≤ c)) && (decide (c ≤ 122))))] ++ jk)) w := by
      intro jk
      refine hK13 _ _ ?_
      clear hK13
      refine st rfl (x_assign (v := Value.bool (((decide ((97 : Int) ≤ c)) && (decide (c ≤ 122))) || ((decide ((65 : Int) ≤ c)) && (decide (c ≤ 90))))) (ev_tmp rfl rfl)) ?_
      refine s_nil ?_
      refine hK6 _ _ ?_
      refine c_ret ?_
      refine hT2 _ _ ?_
      refine r1 rfl (ev_tmp (v := Value.bool (((decide ((97 : Int) ≤ c)) && (decide (c ≤ 122))) || ((decide ((65 : Int) ≤ c)) && (decide (c ≤ 90))))) rfl rfl) ?_
      exact ⟨ret_bool (letB_eq c), rfl⟩
    clear hK13
    rcases bcase ((decide ((97 : Int) ≤ c)) && (decide (c ≤ 122))) with hg15 | hg15
    · have h16 : ((decide ((97 : Int) ≤ c)) && (decide (c ≤ 122))) = false := hg15
      refine gt rfl rfl rfl (congrArg Value.bool hg15) (x_move (v := Value.int .u8 c) (ev_tmp rfl rfl)) ?_
      refine gt rfl rfl rfl (congrArg Value.bool hg15) (x_geq (p := c) (q := 65) (ev_tmp rfl rfl) rfl) ?_
      refine gt rfl rfl rfl (congrArg Value.bool hg15) (x_move (v := Value.bool (decide ((65 : Int) ≤ c))) (ev_tmp rfl rfl)) ?_
      refine s_meet3 fun K17 hK18 => ?_
      have J19 : ∀ jk, K17 (fr 17 ([(15, Value.bool ((decide ((65 : Int) ≤ c)) && (decide (c ≤ 90)))), (2, Value.bool false), (9, Value.bool ((decide ((97 : Int) ≤ c)) && (decide (c ≤ 122)))), (12, Value.bool (decide ((65 : Int) ≤ c)))] ++ jk)) w := by
        intro jk
        refine hK18 _ _ ?_
        clear hK18
        refine st rfl (x_pick_f (v := Value.bool ((decide ((65 : Int) ≤ c)) && (decide (c ≤ 90)))) (ev_tmp rfl (congrArg Value.bool hg15)) (ev_tmp rfl rfl)) ?_
        refine s_nil ?_
        exact j_to J14 ⟨(congrArg Value.bool (or_f hg15)), rfl, rfl, trivial⟩
      clear hK18
      rcases bcase (decide ((65 : Int) ≤ c)) with hg20 | hg20
      · refine gf (b' := false) rfl rfl rfl (congrArg Value.bool hg20) rfl ?_
        refine gf (b' := false) rfl rfl rfl (congrArg Value.bool hg20) rfl ?_
        refine gt rfl rfl rfl (congrArg Value.bool hg15) (x_pick_f (v := Value.bool false) (ev_tmp rfl (congrArg Value.bool hg20)) rfl) ?_
        refine s_nil ?_
        exact j_to J19 ⟨(congrArg Value.bool (and_f hg20)), rfl, rfl, rfl, trivial⟩
      · have h21 : (65 : Int) ≤ c := of_decide_eq_true hg20
        refine gt rfl rfl rfl (congrArg Value.bool hg20) (x_move (v := Value.int .u8 c) (ev_tmp rfl rfl)) ?_
        refine gt rfl rfl rfl (congrArg Value.bool hg20) (x_leq (p := c) (q := 90) (ev_tmp rfl rfl) rfl) ?_
        refine gt rfl rfl rfl (congrArg Value.bool hg15) (x_pick_t (v := Value.bool (decide (c ≤ 90))) (ev_tmp rfl (congrArg Value.bool hg20)) (ev_tmp rfl rfl)) ?_
        refine s_nil ?_
        exact j_to J19 ⟨(congrArg Value.bool (and_t hg20)), rfl, rfl, rfl, trivial⟩
    · refine gf (b' := true) rfl rfl rfl (congrArg Value.bool hg15) rfl ?_
      refine gf (b' := true) rfl rfl rfl (congrArg Value.bool hg15) rfl ?_
      refine gf (b' := true) rfl rfl rfl (congrArg Value.bool hg15) rfl ?_
      refine gu rfl rfl rfl rfl ?_
      refine gu rfl rfl rfl rfl ?_
      refine gf (b' := true) rfl rfl rfl (congrArg Value.bool hg15) rfl ?_
      refine st rfl (x_pick_t (v := Value.bool true) (ev_tmp rfl (congrArg Value.bool hg15)) rfl) ?_
      refine s_nil ?_
      exact j_to J14 ⟨(congrArg Value.bool (or_t hg15)), rfl, rfl, trivial⟩
  clear hK8
  rcases bcase (decide ((97 : Int) ≤ c)) with hg10 | hg10
  · refine gf (b' := false) rfl rfl rfl (congrArg Value.bool hg10) rfl ?_
    refine gf (b' := false) rfl rfl rfl (congrArg Value.bool hg10) rfl ?_
    refine st rfl (x_pick_f (v := Value.bool false) (ev_tmp rfl (congrArg Value.bool hg10)) rfl) ?_
    refine s_nil ?_
    exact j_to J9 ⟨(congrArg Value.bool (and_f hg10)), rfl, rfl, rfl, trivial⟩
  · have h11 : (97 : Int) ≤ c := of_decide_eq_true hg10
    refine gt rfl rfl rfl (congrArg Value.bool hg10) (x_move (v := Value.int .u8 c) (ev_tmp rfl rfl)) ?_
    refine gt rfl rfl rfl (congrArg Value.bool hg10) (x_leq (p := c) (q := 122) (ev_tmp rfl rfl) rfl) ?_
    refine st rfl (x_pick_t (v := Value.bool (decide (c ≤ 122))) (ev_tmp rfl (congrArg Value.bool hg10)) (ev_tmp rfl rfl)) ?_
    refine s_nil ?_
    exact j_to J9 ⟨(congrArg Value.bool (and_t hg10)), rfl, rfl, rfl, trivial⟩

set_option maxHeartbeats 1000000 in
set_option maxRecDepth 20000 in
theorem name_c (s : ByteArray) (w : World) :
    Calls Try.prog 50 #[Value.string s] w fun e w' => e = .returned (.bool (nameB s.data.toList)) ∧ w = w' := by
  have M0 := Mem.start w []
  refine enter (args := [Value.string s]) Try.func50 rfl (n := 47) rfl rfl fun T1 hT2 => ?_
  refine c_seq fun K3 hK4 => ?_
  refine c_reg ?_
  refine st rfl (x_assign (v := Value.bool false) rfl) ?_
  refine s_nil ?_
  refine hK4 _ _ ?_
  refine c_seq fun K5 hK6 => ?_
  refine c_seq fun K7 hK8 => ?_
  refine c_reg ?_
  refine st rfl (x_move (v := Value.string s) (ev_tmp rfl rfl)) ?_
  refine st rfl (x_lens (s := s) Try.underlying9 (ev_tmp rfl rfl)) ?_
  refine st rfl (x_lss (p := (s.size : Int)) (q := 1) (ev_tmp rfl rfl) rfl) ?_
  refine st rfl (x_move (v := Value.bool (decide ((s.size : Int) < 1))) (ev_tmp rfl rfl)) ?_
  refine s_meet4 fun K9 hK10 => ?_
  have J11 : ∀ jk, K9 (fr 47 ([(12, Value.bool ((decide ((s.size : Int) < 1)) || (decide ((40 : Int) < (s.size : Int))))), (0, Value.string s), (2, Value.bool false), (8, Value.bool (decide ((s.size : Int) < 1)))] ++ jk)) w := by
    intro jk
    refine hK10 _ _ ?_
    clear hK10
    refine st rfl (x_move (v := Value.bool ((decide ((s.size : Int) < 1)) || (decide ((40 : Int) < (s.size : Int))))) (ev_tmp rfl rfl)) ?_
    refine s_meet5 fun K14 hK15 => ?_
    have J16 : ∀ jk, K14 (fr 47 ([(18, Value.bool (((decide ((s.size : Int) < 1)) || (decide ((40 : Int) < (s.size : Int)))) || (!(letB ((s.data.toList.getD 0 0).toNat : Int))))), (0, Value.string s), (2, Value.bool false), (13, Value.bool ((decide ((s.size : Int) < 1)) || (decide ((40 : Int) < (s.size : Int)))))] ++ jk)) w := by
      intro jk
      refine hK15 _ _ ?_
      clear hK15
      refine s_nil ?_
      refine hK8 _ _ ?_
      refine c_cond (b := ((decide ((s.size : Int) < 1)) || (decide ((40 : Int) < (s.size : Int)))) || (!(letB ((s.data.toList.getD 0 0).toNat : Int)))) (ev_tmp rfl rfl) (fun h20 => ?_) (fun h20 => ?_)
      · have h21 : (((decide ((s.size : Int) < 1)) || (decide ((40 : Int) < (s.size : Int)))) || (!(letB ((s.data.toList.getD 0 0).toNat : Int)))) = true := h20
        refine c_seq fun K22 hK23 => ?_
        refine c_reg ?_
        refine st rfl (x_assign (v := Value.bool false) rfl) ?_
        refine s_nil ?_
        refine hK23 _ _ ?_
        refine c_ret ?_
        refine hT2 _ _ ?_
        refine r1 rfl (ev_tmp (v := Value.bool false) rfl rfl) ?_
        exact ⟨ret_bool (nb1 s h20), rfl⟩
      · have h24 : ¬ ((s.size : Int) < 1) := of_decide_eq_false (or_l (or_l h20))
        have h25 : ¬ ((40 : Int) < (s.size : Int)) := of_decide_eq_false (or_r (or_l h20))
        have h26 : letB ((s.data.toList.getD 0 0).toNat : Int) = true := not_f (or_r h20)
        refine c_skip ?_
        refine hK6 _ _ ?_
        refine c_seq fun K27 hK28 => ?_
        refine c_seq fun K29 hK30 => ?_
        refine c_reg ?_
        refine st rfl (x_move (v := Value.string s) (ev_tmp rfl rfl)) ?_
        refine st rfl (x_lens (s := s) Try.underlying9 (ev_tmp rfl rfl)) ?_
        refine st rfl (x_move (v := Value.int .i64 0) rfl) ?_
        refine s_nil ?_
        refine hK30 _ _ ?_
        refine c_block ?_
        refine c_loopH (live := [(0, Value.string s), (20, Value.int .i64 (s.size : Int)), (21, Value.int .i64 0)]) ⟨rfl, rfl, rfl, trivial⟩ (fun mm ll w1 => ∃ (k : Nat) (jk : List (Nat × Value)), mm = s.size - k ∧ ll = [(0, Value.string s), (20, Value.int .i64 (s.size : Int)), (21, Value.int .i64 (k : Int))] ++ jk ∧ w = w1 ∧ (k ≤ s.size) ∧ ((s.data.toList.take k).all (fun c => okB (c.toNat : Int)) = true)) ⟨0, _, rfl, rfl, rfl, (by omega), (by simp)⟩ fun mm ll w1 hI31 => ?_
        obtain ⟨k, jk, rfl, rfl, rfl, hk, hall⟩ := hI31
        refine c_seq fun K32 hK33 => ?_
        refine c_reg ?_
        refine st rfl (x_lss (p := (k : Int)) (q := (s.size : Int)) (ev_tmp rfl rfl) (ev_tmp rfl rfl)) ?_
        refine s_nil ?_
        refine hK33 _ _ ?_
        refine c_seq fun K34 hK35 => ?_
        refine c_cond (b := decide ((k : Int) < (s.size : Int))) (ev_tmp rfl rfl) (fun h36 => ?_) (fun h36 => ?_)
        · have h37 : (k : Int) < (s.size : Int) := of_decide_eq_true h36
          refine c_skip ?_
          refine hK35 _ _ ?_
          refine c_seq fun K38 hK39 => ?_
          refine c_block ?_
          refine c_seq fun K40 hK41 => ?_
          refine c_reg ?_
          refine st rfl (x_move (v := Value.int .i64 (k : Int)) (ev_tmp rfl rfl)) ?_
          refine st rfl (x_assign (v := Value.int .i64 (k : Int)) (ev_tmp rfl rfl)) ?_
          refine s_nil ?_
          refine hK41 _ _ ?_
          refine c_seq fun K42 hK43 => ?_
          refine c_reg ?_
          refine st rfl (x_move (v := Value.string s) (ev_tmp rfl rfl)) ?_
          refine st rfl (x_move (v := Value.int .i64 (k : Int)) (ev_tmp rfl rfl)) ?_
          refine st rfl (x_idxs (s := s) (k := k) (b := ((s.data.toList.getD k 0).toNat : Int)) Try.underlying9 (ev_tmp rfl rfl) (ev_tmp rfl rfl) rfl (by omega) rfl) ?_
          refine st rfl (x_assign (v := Value.int .u8 ((s.data.toList.getD k 0).toNat : Int)) (ev_tmp rfl rfl)) ?_
          refine s_nil ?_
          refine hK43 _ _ ?_
          refine c_seq fun K44 hK45 => ?_
          refine c_reg ?_
          refine st rfl (x_move (v := Value.int .u8 ((s.data.toList.getD k 0).toNat : Int)) (ev_tmp rfl rfl)) ?_
          refine sC rfl (x_callL (xs := [.tmp 27]) (vs := [Value.int .u8 ((s.data.toList.getD k 0).toNat : Int)]) (cap := []) ent_54 rfl ⟨(ev_tmp rfl rfl), trivial⟩) (letter_c ((s.data.toList.getD k 0).toNat : Int) _) ?_
          rintro _ _ ⟨rfl, rfl⟩
          refine ⟨_, rfl, ?_⟩
          refine st rfl (x_not (b := (letB ((s.data.toList.getD k 0).toNat : Int))) (ev_tmp rfl rfl)) ?_
          refine st rfl (x_move (v := Value.bool (!(letB ((s.data.toList.getD k 0).toNat : Int)))) (ev_tmp rfl rfl)) ?_
          refine s_meet7 fun K46 hK47 => ?_
          have J48 : ∀ jk, K46 (fr 47 ([(37, Value.bool ((!(letB ((s.data.toList.getD k 0).toNat : Int))) && ((decide (((s.data.toList.getD k 0).toNat : Int) < 48)) || (decide ((57 : Int) < ((s.data.toList.getD k 0).toNat : Int)))))), (0, Value.string s), (4, Value.int .u8 ((s.data.toList.getD k 0).toNat : Int)), (20, Value.int .i64 (s.size : Int)), (21, Value.int .i64 (k : Int)), (30, Value.bool (!(letB ((s.data.toList.getD k 0).toNat : Int))))] ++ jk)) w := by
            intro jk
            refine hK47 _ _ ?_
            clear hK47
            refine st rfl (x_move (v := Value.bool ((!(letB ((s.data.toList.getD k 0).toNat : Int))) && ((decide (((s.data.toList.getD k 0).toNat : Int) < 48)) || (decide ((57 : Int) < ((s.data.toList.getD k 0).toNat : Int)))))) (ev_tmp rfl rfl)) ?_
            refine s_meet3 fun K56 hK57 => ?_
            have J58 : ∀ jk, K56 (fr 47 ([(41, Value.bool (((!(letB ((s.data.toList.getD k 0).toNat : Int))) && ((decide (((s.data.toList.getD k 0).toNat : Int) < 48)) || (decide ((57 : Int) < ((s.data.toList.getD k 0).toNat : Int))))) && (!(decide (((s.data.toList.getD k 0).toNat : Int) = 95))))), (0, Value.string s), (4, Value.int .u8 ((s.data.toList.getD k 0).toNat : Int)), (20, Value.int .i64 (s.size : Int)), (21, Value.int .i64 (k : Int)), (38, Value.bool ((!(letB ((s.data.toList.getD k 0).toNat : Int))) && ((decide (((s.data.toList.getD k 0).toNat : Int) < 48)) || (decide ((57 : Int) < ((s.data.toList.getD k 0).toNat : Int))))))] ++ jk)) w := by
              intro jk
              refine hK57 _ _ ?_
              clear hK57
              refine st rfl (x_move (v := Value.bool (((!(letB ((s.data.toList.getD k 0).toNat : Int))) && ((decide (((s.data.toList.getD k 0).toNat : Int) < 48)) || (decide ((57 : Int) < ((s.data.toList.getD k 0).toNat : Int))))) && (!(decide (((s.data.toList.getD k 0).toNat : Int) = 95))))) (ev_tmp rfl rfl)) ?_
              refine s_meet3 fun K62 hK63 => ?_
              have J64 : ∀ jk, K62 (fr 47 ([(45, Value.bool ((((!(letB ((s.data.toList.getD k 0).toNat : Int))) && ((decide (((s.data.toList.getD k 0).toNat : Int) < 48)) || (decide ((57 : Int) < ((s.data.toList.getD k 0).toNat : Int))))) && (!(decide (((s.data.toList.getD k 0).toNat : Int) = 95)))) && (!(decide (((s.data.toList.getD k 0).toNat : Int) = 45))))), (0, Value.string s), (20, Value.int .i64 (s.size : Int)), (21, Value.int .i64 (k : Int)), (42, Value.bool (((!(letB ((s.data.toList.getD k 0).toNat : Int))) && ((decide (((s.data.toList.getD k 0).toNat : Int) < 48)) || (decide ((57 : Int) < ((s.data.toList.getD k 0).toNat : Int))))) && (!(decide (((s.data.toList.getD k 0).toNat : Int) = 95)))))] ++ jk)) w := by
                intro jk
                refine hK63 _ _ ?_
                clear hK63
                refine s_nil ?_
                refine hK45 _ _ ?_
                refine c_cond (b := (((!(letB ((s.data.toList.getD k 0).toNat : Int))) && ((decide (((s.data.toList.getD k 0).toNat : Int) < 48)) || (decide ((57 : Int) < ((s.data.toList.getD k 0).toNat : Int))))) && (!(decide (((s.data.toList.getD k 0).toNat : Int) = 95)))) && (!(decide (((s.data.toList.getD k 0).toNat : Int) = 45)))) (ev_tmp rfl rfl) (fun h69 => ?_) (fun h69 => ?_)
                · have h70 : letB ((s.data.toList.getD k 0).toNat : Int) = false := not_t (and_l (and_l (and_l h69)))
                  have h71 : ((decide (((s.data.toList.getD k 0).toNat : Int) < 48)) || (decide ((57 : Int) < ((s.data.toList.getD k 0).toNat : Int)))) = true := and_r (and_l (and_l h69))
                  have h72 : ¬ (((s.data.toList.getD k 0).toNat : Int) = 95) := of_decide_eq_false (not_t (and_r (and_l h69)))
                  have h73 : ¬ (((s.data.toList.getD k 0).toNat : Int) = 45) := of_decide_eq_false (not_t (and_r h69))
                  refine c_seq fun K74 hK75 => ?_
                  refine c_reg ?_
                  refine st rfl (x_assign (v := Value.bool false) rfl) ?_
                  refine s_nil ?_
                  refine hK75 _ _ ?_
                  refine c_ret ?_
                  refine hT2 _ _ ?_
                  refine r1 rfl (ev_tmp (v := Value.bool false) rfl rfl) ?_
                  exact ⟨ret_bool (nb_at s k (by omega) (not_t ((tst_c _).symm.trans h69))), rfl⟩
                · have h76 : ((((!(letB ((s.data.toList.getD k 0).toNat : Int))) && ((decide (((s.data.toList.getD k 0).toNat : Int) < 48)) || (decide ((57 : Int) < ((s.data.toList.getD k 0).toNat : Int))))) && (!(decide (((s.data.toList.getD k 0).toNat : Int) = 95)))) && (!(decide (((s.data.toList.getD k 0).toNat : Int) = 45)))) = false := h69
                  refine c_skip ?_
                  refine hK39 _ _ ?_
                  refine c_reg ?_
                  have hw77 : IntKind.i64.wrap ((k : Int) + 1) = (k : Int) + 1 := w64 (by rfl) (by omega) (by omega)
                  refine st rfl (x_add_eq (p := (k : Int)) (q := 1) (ev_tmp rfl rfl) rfl hw77) ?_
                  refine st rfl (x_move (v := Value.int .i64 ((k : Int) + 1)) (ev_tmp rfl rfl)) ?_
                  refine s_nil ?_
                  exact ⟨_, _, (by omega : s.size - (k + 1) < s.size - k), fr_held (live := [(0, Value.string s), (20, Value.int .i64 (s.size : Int)), (21, Value.int .i64 (((k + 1) : Nat) : Int))]) ⟨rfl, rfl, (congrArg (Value.int .i64) (by omega)), trivial⟩, (k + 1), _, rfl, rfl, rfl, (by omega), (snoc_ok s k (by omega) hall (not_f ((tst_c _).symm.trans h69)))⟩
              clear hK63
              rcases bcase (((!(letB ((s.data.toList.getD k 0).toNat : Int))) && ((decide (((s.data.toList.getD k 0).toNat : Int) < 48)) || (decide ((57 : Int) < ((s.data.toList.getD k 0).toNat : Int))))) && (!(decide (((s.data.toList.getD k 0).toNat : Int) = 95)))) with hg65 | hg65
              · refine gf (b' := false) rfl rfl rfl (congrArg Value.bool hg65) rfl ?_
                refine gf (b' := false) rfl rfl rfl (congrArg Value.bool hg65) rfl ?_
                refine st rfl (x_pick_f (v := Value.bool false) (ev_tmp rfl (congrArg Value.bool hg65)) rfl) ?_
                refine s_nil ?_
                exact j_to J64 ⟨(congrArg Value.bool (and_f hg65)), rfl, rfl, rfl, rfl, trivial⟩
              · have h66 : letB ((s.data.toList.getD k 0).toNat : Int) = false := not_t (and_l (and_l hg65))
                have h67 : ((decide (((s.data.toList.getD k 0).toNat : Int) < 48)) || (decide ((57 : Int) < ((s.data.toList.getD k 0).toNat : Int)))) = true := and_r (and_l hg65)
                have h68 : ¬ (((s.data.toList.getD k 0).toNat : Int) = 95) := of_decide_eq_false (not_t (and_r hg65))
                refine gt rfl rfl rfl (congrArg Value.bool hg65) (x_move (v := Value.int .u8 ((s.data.toList.getD k 0).toNat : Int)) (ev_tmp rfl rfl)) ?_
                refine gt rfl rfl rfl (congrArg Value.bool hg65) (x_neq (p := ((s.data.toList.getD k 0).toNat : Int)) (q := 45) (ev_tmp rfl rfl) rfl) ?_
                refine st rfl (x_pick_t (v := Value.bool (!(decide (((s.data.toList.getD k 0).toNat : Int) = 45)))) (ev_tmp rfl (congrArg Value.bool hg65)) (ev_tmp rfl rfl)) ?_
                refine s_nil ?_
                exact j_to J64 ⟨(congrArg Value.bool (and_t hg65)), rfl, rfl, rfl, rfl, trivial⟩
            clear hK57
            rcases bcase ((!(letB ((s.data.toList.getD k 0).toNat : Int))) && ((decide (((s.data.toList.getD k 0).toNat : Int) < 48)) || (decide ((57 : Int) < ((s.data.toList.getD k 0).toNat : Int))))) with hg59 | hg59
            · refine gf (b' := false) rfl rfl rfl (congrArg Value.bool hg59) rfl ?_
              refine gf (b' := false) rfl rfl rfl (congrArg Value.bool hg59) rfl ?_
              refine st rfl (x_pick_f (v := Value.bool false) (ev_tmp rfl (congrArg Value.bool hg59)) rfl) ?_
              refine s_nil ?_
              exact j_to J58 ⟨(congrArg Value.bool (and_f hg59)), rfl, rfl, rfl, rfl, rfl, trivial⟩
            · have h60 : letB ((s.data.toList.getD k 0).toNat : Int) = false := not_t (and_l hg59)
              have h61 : ((decide (((s.data.toList.getD k 0).toNat : Int) < 48)) || (decide ((57 : Int) < ((s.data.toList.getD k 0).toNat : Int)))) = true := and_r hg59
              refine gt rfl rfl rfl (congrArg Value.bool hg59) (x_move (v := Value.int .u8 ((s.data.toList.getD k 0).toNat : Int)) (ev_tmp rfl rfl)) ?_
              refine gt rfl rfl rfl (congrArg Value.bool hg59) (x_neq (p := ((s.data.toList.getD k 0).toNat : Int)) (q := 95) (ev_tmp rfl rfl) rfl) ?_
              refine st rfl (x_pick_t (v := Value.bool (!(decide (((s.data.toList.getD k 0).toNat : Int) = 95)))) (ev_tmp rfl (congrArg Value.bool hg59)) (ev_tmp rfl rfl)) ?_
              refine s_nil ?_
              exact j_to J58 ⟨(congrArg Value.bool (and_t hg59)), rfl, rfl, rfl, rfl, rfl, trivial⟩
          clear hK47
          rcases bcase (!(letB ((s.data.toList.getD k 0).toNat : Int))) with hg49 | hg49
          · refine gf (b' := false) rfl rfl rfl (congrArg Value.bool hg49) rfl ?_
            refine gf (b' := false) rfl rfl rfl (congrArg Value.bool hg49) rfl ?_
            refine gf (b' := false) rfl rfl rfl (congrArg Value.bool hg49) rfl ?_
            refine gu rfl rfl rfl rfl ?_
            refine gu rfl rfl rfl rfl ?_
            refine gf (b' := false) rfl rfl rfl (congrArg Value.bool hg49) rfl ?_
            refine st rfl (x_pick_f (v := Value.bool false) (ev_tmp rfl (congrArg Value.bool hg49)) rfl) ?_
            refine s_nil ?_
            exact j_to J48 ⟨(congrArg Value.bool (and_f hg49)), rfl, rfl, rfl, rfl, rfl, trivial⟩
          · have h50 : letB ((s.data.toList.getD k 0).toNat : Int) = false := not_t hg49
            refine gt rfl rfl rfl (congrArg Value.bool hg49) (x_move (v := Value.int .u8 ((s.data.toList.getD k 0).toNat : Int)) (ev_tmp rfl rfl)) ?_
            refine gt rfl rfl rfl (congrArg Value.bool hg49) (x_lss (p := ((s.data.toList.getD k 0).toNat : Int)) (q := 48) (ev_tmp rfl rfl) rfl) ?_
            refine gt rfl rfl rfl (congrArg Value.bool hg49) (x_move (v := Value.bool (decide (((s.data.toList.getD k 0).toNat : Int) < 48))) (ev_tmp rfl rfl)) ?_
            refine s_meet3 fun K51 hK52 => ?_
            have J53 : ∀ jk, K51 (fr 47 ([(36, Value.bool ((decide (((s.data.toList.getD k 0).toNat : Int) < 48)) || (decide ((57 : Int) < ((s.data.toList.getD k 0).toNat : Int))))), (0, Value.string s), (4, Value.int .u8 ((s.data.toList.getD k 0).toNat : Int)), (20, Value.int .i64 (s.size : Int)), (21, Value.int .i64 (k : Int)), (30, Value.bool (!(letB ((s.data.toList.getD k 0).toNat : Int)))), (33, Value.bool (decide (((s.data.toList.getD k 0).toNat : Int) < 48)))] ++ jk)) w := by
              intro jk
              refine hK52 _ _ ?_
              clear hK52
              refine st rfl (x_pick_t (v := Value.bool ((decide (((s.data.toList.getD k 0).toNat : Int) < 48)) || (decide ((57 : Int) < ((s.data.toList.getD k 0).toNat : Int))))) (ev_tmp rfl (congrArg Value.bool hg49)) (ev_tmp rfl rfl)) ?_
              refine s_nil ?_
              exact j_to J48 ⟨(congrArg Value.bool (and_t hg49)), rfl, rfl, rfl, rfl, rfl, trivial⟩
            clear hK52
            rcases bcase (decide (((s.data.toList.getD k 0).toNat : Int) < 48)) with hg54 | hg54
            · have h55 : ¬ (((s.data.toList.getD k 0).toNat : Int) < 48) := of_decide_eq_false hg54
              refine gt rfl rfl rfl (congrArg Value.bool hg54) (x_move (v := Value.int .u8 ((s.data.toList.getD k 0).toNat : Int)) (ev_tmp rfl rfl)) ?_
              refine gt rfl rfl rfl (congrArg Value.bool hg54) (x_gtr (p := ((s.data.toList.getD k 0).toNat : Int)) (q := 57) (ev_tmp rfl rfl) rfl) ?_
              refine gt rfl rfl rfl (congrArg Value.bool hg49) (x_pick_f (v := Value.bool (decide ((57 : Int) < ((s.data.toList.getD k 0).toNat : Int)))) (ev_tmp rfl (congrArg Value.bool hg54)) (ev_tmp rfl rfl)) ?_
              refine s_nil ?_
              exact j_to J53 ⟨(congrArg Value.bool (or_f hg54)), rfl, rfl, rfl, rfl, rfl, rfl, trivial⟩
            · refine gf (b' := true) rfl rfl rfl (congrArg Value.bool hg54) rfl ?_
              refine gf (b' := true) rfl rfl rfl (congrArg Value.bool hg54) rfl ?_
              refine gt rfl rfl rfl (congrArg Value.bool hg49) (x_pick_t (v := Value.bool true) (ev_tmp rfl (congrArg Value.bool hg54)) rfl) ?_
              refine s_nil ?_
              exact j_to J53 ⟨(congrArg Value.bool (or_t hg54)), rfl, rfl, rfl, rfl, rfl, rfl, trivial⟩
        · have h78 : ¬ ((k : Int) < (s.size : Int)) := of_decide_eq_false h36
          refine c_exit ?_
          refine xb_here ?_
          refine hK28 _ _ ?_
          refine c_seq fun K79 hK80 => ?_
          refine c_reg ?_
          refine st rfl (x_assign (v := Value.bool true) rfl) ?_
          refine s_nil ?_
          refine hK80 _ _ ?_
          refine c_ret ?_
          refine hT2 _ _ ?_
          refine r1 rfl (ev_tmp (v := Value.bool true) rfl rfl) ?_
          exact ⟨ret_bool (nb_good s k (of_decide_eq_false h36) (of_decide_eq_false (or_l (or_l h20))) (of_decide_eq_false (or_r (or_l h20))) (not_f (or_r h20)) hall), rfl⟩
    clear hK15
    rcases bcase ((decide ((s.size : Int) < 1)) || (decide ((40 : Int) < (s.size : Int)))) with hg17 | hg17
    · have h18 : ¬ ((s.size : Int) < 1) := of_decide_eq_false (or_l hg17)
      have h19 : ¬ ((40 : Int) < (s.size : Int)) := of_decide_eq_false (or_r hg17)
      refine gt rfl rfl rfl (congrArg Value.bool hg17) (x_move (v := Value.string s) (ev_tmp rfl rfl)) ?_
      refine gt rfl rfl rfl (congrArg Value.bool hg17) (x_idxs (s := s) (k := 0) (b := ((s.data.toList.getD 0 0).toNat : Int)) Try.underlying9 (ev_tmp rfl rfl) rfl rfl (by omega) rfl) ?_
      refine gC rfl rfl rfl (congrArg Value.bool hg17) (x_callL (xs := [.tmp 15]) (vs := [Value.int .u8 ((s.data.toList.getD 0 0).toNat : Int)]) (cap := []) ent_54 rfl ⟨(ev_tmp rfl rfl), trivial⟩) (letter_c ((s.data.toList.getD 0 0).toNat : Int) _) ?_
      rintro _ _ ⟨rfl, rfl⟩
      refine ⟨_, rfl, ?_⟩
      refine gt rfl rfl rfl (congrArg Value.bool hg17) (x_not (b := (letB ((s.data.toList.getD 0 0).toNat : Int))) (ev_tmp rfl rfl)) ?_
      refine st rfl (x_pick_f (v := Value.bool (!(letB ((s.data.toList.getD 0 0).toNat : Int)))) (ev_tmp rfl (congrArg Value.bool hg17)) (ev_tmp rfl rfl)) ?_
      refine s_nil ?_
      exact j_to J16 ⟨(congrArg Value.bool (or_f hg17)), rfl, rfl, rfl, trivial⟩
    · refine gf (b' := true) rfl rfl rfl (congrArg Value.bool hg17) rfl ?_
      refine gf (b' := true) rfl rfl rfl (congrArg Value.bool hg17) rfl ?_
      refine gf (b' := true) rfl rfl rfl (congrArg Value.bool hg17) rfl ?_
      refine gf (b' := true) rfl rfl rfl (congrArg Value.bool hg17) rfl ?_
      refine st rfl (x_pick_t (v := Value.bool true) (ev_tmp rfl (congrArg Value.bool hg17)) rfl) ?_
      refine s_nil ?_
      exact j_to J16 ⟨(congrArg Value.bool (or_t hg17)), rfl, rfl, rfl, trivial⟩
  clear hK10
  rcases bcase (decide ((s.size : Int) < 1)) with hg12 | hg12
  · have h13 : ¬ ((s.size : Int) < 1) := of_decide_eq_false hg12
    refine gt rfl rfl rfl (congrArg Value.bool hg12) (x_move (v := Value.string s) (ev_tmp rfl rfl)) ?_
    refine gt rfl rfl rfl (congrArg Value.bool hg12) (x_lens (s := s) Try.underlying9 (ev_tmp rfl rfl)) ?_
    refine gt rfl rfl rfl (congrArg Value.bool hg12) (x_gtr (p := (s.size : Int)) (q := 40) (ev_tmp rfl rfl) rfl) ?_
    refine st rfl (x_pick_f (v := Value.bool (decide ((40 : Int) < (s.size : Int)))) (ev_tmp rfl (congrArg Value.bool hg12)) (ev_tmp rfl rfl)) ?_
    refine s_nil ?_
    exact j_to J11 ⟨(congrArg Value.bool (or_f hg12)), rfl, rfl, rfl, trivial⟩
  · refine gf (b' := true) rfl rfl rfl (congrArg Value.bool hg12) rfl ?_
    refine gf (b' := true) rfl rfl rfl (congrArg Value.bool hg12) rfl ?_
    refine gf (b' := true) rfl rfl rfl (congrArg Value.bool hg12) rfl ?_
    refine st rfl (x_pick_t (v := Value.bool true) (ev_tmp rfl (congrArg Value.bool hg12)) rfl) ?_
    refine s_nil ?_
    exact j_to J11 ⟨(congrArg Value.bool (or_t hg12)), rfl, rfl, rfl, trivial⟩

set_option maxHeartbeats 1000000 in
set_option maxRecDepth 20000 in
theorem name_r (s : ByteArray) (w : World) :
    Calls Try.prog 56 #[Value.string s] w fun e w' => e = .returned (.bool (nameB s.data.toList)) ∧ w = w' := by
  have M0 := Mem.start w []
  refine enter (args := [Value.string s]) Try.func56 rfl (n := 62) rfl rfl fun T1 hT2 => ?_
  refine c_seq fun K3 hK4 => ?_
  refine c_reg ?_
  refine st rfl (x_assign (v := Value.bool false) rfl) ?_
  refine s_nil ?_
  refine hK4 _ _ ?_
  refine c_seq fun K5 hK6 => ?_
  refine c_seq fun K7 hK8 => ?_
  refine c_reg ?_
  refine st rfl (x_move (v := Value.string s) (ev_tmp rfl rfl)) ?_
  refine st rfl (x_lens (s := s) Try.underlying9 (ev_tmp rfl rfl)) ?_
  refine st rfl (x_lss (p := (s.size : Int)) (q := 1) (ev_tmp rfl rfl) rfl) ?_
  refine st rfl (x_move (v := Value.bool (decide ((s.size : Int) < 1))) (ev_tmp rfl rfl)) ?_
  refine s_meet4 fun K9 hK10 => ?_
  have J11 : ∀ jk, K9 (fr 62 ([(14, Value.bool ((decide ((s.size : Int) < 1)) || (decide ((40 : Int) < (s.size : Int))))), (0, Value.string s), (2, Value.bool false), (10, Value.bool (decide ((s.size : Int) < 1)))] ++ jk)) w := by
    intro jk
    refine hK10 _ _ ?_
    clear hK10
    refine s_nil ?_
    refine hK8 _ _ ?_
    refine c_cond (b := (decide ((s.size : Int) < 1)) || (decide ((40 : Int) < (s.size : Int)))) (ev_tmp rfl rfl) (fun h14 => ?_) (fun h14 => ?_)
    · have h15 : ((decide ((s.size : Int) < 1)) || (decide ((40 : Int) < (s.size : Int)))) = true := h14
      refine c_seq fun K16 hK17 => ?_
      refine c_reg ?_
      refine st rfl (x_assign (v := Value.bool false) rfl) ?_
      refine s_nil ?_
      refine hK17 _ _ ?_
      refine c_ret ?_
      refine hT2 _ _ ?_
      refine r1 rfl (ev_tmp (v := Value.bool false) rfl rfl) ?_
      exact ⟨ret_bool (nr1 s h14), rfl⟩
    · have h18 : ¬ ((s.size : Int) < 1) := of_decide_eq_false (or_l h14)
      have h19 : ¬ ((40 : Int) < (s.size : Int)) := of_decide_eq_false (or_r h14)
      refine c_skip ?_
      refine hK6 _ _ ?_
      refine c_seq fun K20 hK21 => ?_
      refine c_seq fun K22 hK23 => ?_
      refine c_reg ?_
      refine st rfl (x_assign (v := Value.int .i64 0) rfl) ?_
      refine s_nil ?_
      refine hK23 _ _ ?_
      refine c_block ?_
      refine c_loopH (live := [(0, Value.string s), (3, Value.int .i64 0)]) ⟨rfl, rfl, trivial⟩ (fun mm ll w1 => ∃ (k : Nat) (jk : List (Nat × Value)), mm = s.size - k ∧ ll = [(0, Value.string s), (3, Value.int .i64 (k : Int))] ++ jk ∧ w = w1 ∧ (k ≤ s.size) ∧ ((s.data.toList.take k).all (fun c => okB (c.toNat : Int)) = true) ∧ (0 < k → letB ((s.data.toList.getD 0 0).toNat : Int) = true)) ⟨0, _, rfl, rfl, rfl, (by omega), (by simp), (by omega)⟩ fun mm ll w1 hI24 => ?_
      obtain ⟨k, jk, rfl, rfl, rfl, hk, hall, hfirst⟩ := hI24
      refine c_seq fun K25 hK26 => ?_
      refine c_seq fun K27 hK28 => ?_
      refine c_reg ?_
      refine st rfl (x_move (v := Value.int .i64 (k : Int)) (ev_tmp rfl rfl)) ?_
      refine st rfl (x_move (v := Value.string s) (ev_tmp rfl rfl)) ?_
      refine st rfl (x_lens (s := s) Try.underlying9 (ev_tmp rfl rfl)) ?_
      refine st rfl (x_lss (p := (k : Int)) (q := (s.size : Int)) (ev_tmp rfl rfl) (ev_tmp rfl rfl)) ?_
      refine s_nil ?_
      refine hK28 _ _ ?_
      refine c_cond (b := decide ((k : Int) < (s.size : Int))) (ev_tmp rfl rfl) (fun h29 => ?_) (fun h29 => ?_)
      · have h30 : (k : Int) < (s.size : Int) := of_decide_eq_true h29
        refine c_skip ?_
        refine hK26 _ _ ?_
        refine c_seq fun K31 hK32 => ?_
        refine c_block ?_
        refine c_seq fun K33 hK34 => ?_
        refine c_reg ?_
        refine st rfl (x_move (v := Value.string s) (ev_tmp rfl rfl)) ?_
        refine st rfl (x_move (v := Value.int .i64 (k : Int)) (ev_tmp rfl rfl)) ?_
        refine st rfl (x_idxs (s := s) (k := k) (b := ((s.data.toList.getD k 0).toNat : Int)) Try.underlying9 (ev_tmp rfl rfl) (ev_tmp rfl rfl) rfl (by omega) rfl) ?_
        refine st rfl (x_assign (v := Value.int .u8 ((s.data.toList.getD k 0).toNat : Int)) (ev_tmp rfl rfl)) ?_
        refine s_nil ?_
        refine hK34 _ _ ?_
        refine c_seq fun K35 hK36 => ?_
        refine c_reg ?_
        refine st rfl (x_move (v := Value.int .u8 ((s.data.toList.getD k 0).toNat : Int)) (ev_tmp rfl rfl)) ?_
        refine st rfl (x_geq (p := ((s.data.toList.getD k 0).toNat : Int)) (q := 97) (ev_tmp rfl rfl) rfl) ?_
        refine st rfl (x_move (v := Value.bool (decide ((97 : Int) ≤ ((s.data.toList.getD k 0).toNat : Int)))) (ev_tmp rfl rfl)) ?_
        refine s_meet3 fun K37 hK38 => ?_
        have J39 : ∀ jk, K37 (fr 62 ([(29, Value.bool ((decide ((97 : Int) ≤ ((s.data.toList.getD k 0).toNat : Int))) && (decide (((s.data.toList.getD k 0).toNat : Int) ≤ 122)))), (0, Value.string s), (3, Value.int .i64 (k : Int)), (4, Value.int .u8 ((s.data.toList.getD k 0).toNat : Int)), (26, Value.bool (decide ((97 : Int) ≤ ((s.data.toList.getD k 0).toNat : Int))))] ++ jk)) w := by
          intro jk
          refine hK38 _ _ ?_
          clear hK38
          refine st rfl (x_move (v := Value.bool ((decide ((97 : Int) ≤ ((s.data.toList.getD k 0).toNat : Int))) && (decide (((s.data.toList.getD k 0).toNat : Int) ≤ 122)))) (ev_tmp rfl rfl)) ?_
          refine s_meet7 fun K42 hK43 => ?_
          have J44 : ∀ jk, K42 (fr 62 ([(37, Value.bool (((decide ((97 : Int) ≤ ((s.data.toList.getD k 0).toNat : Int))) && (decide (((s.data.toList.getD k 0).toNat : Int) ≤ 122))) || ((decide ((65 : Int) ≤ ((s.data.toList.getD k 0).toNat : Int))) && (decide (((s.data.toList.getD k 0).toNat : Int) ≤ 90))))), (0, Value.string s), (3, Value.int .i64 (k : Int)), (4, Value.int .u8 ((s.data.toList.getD k 0).toNat : Int)), (30, Value.bool ((decide ((97 : Int) ≤ ((s.data.toList.getD k 0).toNat : Int))) && (decide (((s.data.toList.getD k 0).toNat : Int) ≤ 122))))] ++ jk)) w := by
            intro jk
            refine hK43 _ _ ?_
            clear hK43
            refine st rfl (x_assign (v := Value.bool (((decide ((97 : Int) ≤ ((s.data.toList.getD k 0).toNat : Int))) && (decide (((s.data.toList.getD k 0).toNat : Int) ≤ 122))) || ((decide ((65 : Int) ≤ ((s.data.toList.getD k 0).toNat : Int))) && (decide (((s.data.toList.getD k 0).toNat : Int) ≤ 90))))) (ev_tmp rfl rfl)) ?_
            refine s_nil ?_
            refine hK36 _ _ ?_
            refine c_seq fun K52 hK53 => ?_
            refine c_reg ?_
            refine st rfl (x_move (v := Value.int .u8 ((s.data.toList.getD k 0).toNat : Int)) (ev_tmp rfl rfl)) ?_
            refine st rfl (x_geq (p := ((s.data.toList.getD k 0).toNat : Int)) (q := 48) (ev_tmp rfl rfl) rfl) ?_
            refine st rfl (x_move (v := Value.bool (decide ((48 : Int) ≤ ((s.data.toList.getD k 0).toNat : Int)))) (ev_tmp rfl rfl)) ?_
            refine s_meet3 fun K54 hK55 => ?_
            have J56 : ∀ jk, K54 (fr 62 ([(43, Value.bool ((decide ((48 : Int) ≤ ((s.data.toList.getD k 0).toNat : Int))) && (decide (((s.data.toList.getD k 0).toNat : Int) ≤ 57)))), (0, Value.string s), (3, Value.int .i64 (k : Int)), (4, Value.int .u8 ((s.data.toList.getD k 0).toNat : Int)), (5, Value.bool (((decide ((97 : Int) ≤ ((s.data.toList.getD k 0).toNat : Int))) && (decide (((s.data.toList.getD k 0).toNat : Int) ≤ 122))) || ((decide ((65 : Int) ≤ ((s.data.toList.getD k 0).toNat : Int))) && (decide (((s.data.toList.getD k 0).toNat : Int) ≤ 90))))), (40, Value.bool (decide ((48 : Int) ≤ ((s.data.toList.getD k 0).toNat : Int))))] ++ jk)) w := by
              intro jk
              refine hK55 _ _ ?_
              clear hK55
              refine st rfl (x_move (v := Value.bool ((decide ((48 : Int) ≤ ((s.data.toList.getD k 0).toNat : Int))) && (decide (((s.data.toList.getD k 0).toNat : Int) ≤ 57)))) (ev_tmp rfl rfl)) ?_
              refine s_meet3 fun K59 hK60 => ?_
              have J61 : ∀ jk, K59 (fr 62 ([(47, Value.bool (((decide ((48 : Int) ≤ ((s.data.toList.getD k 0).toNat : Int))) && (decide (((s.data.toList.getD k 0).toNat : Int) ≤ 57))) || (decide (((s.data.toList.getD k 0).toNat : Int) = 95)))), (0, Value.string s), (3, Value.int .i64 (k : Int)), (4, Value.int .u8 ((s.data.toList.getD k 0).toNat : Int)), (5, Value.bool (((decide ((97 : Int) ≤ ((s.data.toList.getD k 0).toNat : Int))) && (decide (((s.data.toList.getD k 0).toNat : Int) ≤ 122))) || ((decide ((65 : Int) ≤ ((s.data.toList.getD k 0).toNat : Int))) && (decide (((s.data.toList.getD k 0).toNat : Int) ≤ 90))))), (44, Value.bool ((decide ((48 : Int) ≤ ((s.data.toList.getD k 0).toNat : Int))) && (decide (((s.data.toList.getD k 0).toNat : Int) ≤ 57))))] ++ jk)) w := by
                intro jk
                refine hK60 _ _ ?_
                clear hK60
                refine st rfl (x_move (v := Value.bool (((decide ((48 : Int) ≤ ((s.data.toList.getD k 0).toNat : Int))) && (decide (((s.data.toList.getD k 0).toNat : Int) ≤ 57))) || (decide (((s.data.toList.getD k 0).toNat : Int) = 95)))) (ev_tmp rfl rfl)) ?_
                refine s_meet3 fun K64 hK65 => ?_
                have J66 : ∀ jk, K64 (fr 62 ([(51, Value.bool ((((decide ((48 : Int) ≤ ((s.data.toList.getD k 0).toNat : Int))) && (decide (((s.data.toList.getD k 0).toNat : Int) ≤ 57))) || (decide (((s.data.toList.getD k 0).toNat : Int) = 95))) || (decide (((s.data.toList.getD k 0).toNat : Int) = 45)))), (0, Value.string s), (3, Value.int .i64 (k : Int)), (5, Value.bool (((decide ((97 : Int) ≤ ((s.data.toList.getD k 0).toNat : Int))) && (decide (((s.data.toList.getD k 0).toNat : Int) ≤ 122))) || ((decide ((65 : Int) ≤ ((s.data.toList.getD k 0).toNat : Int))) && (decide (((s.data.toList.getD k 0).toNat : Int) ≤ 90))))), (48, Value.bool (((decide ((48 : Int) ≤ ((s.data.toList.getD k 0).toNat : Int))) && (decide (((s.data.toList.getD k 0).toNat : Int) ≤ 57))) || (decide (((s.data.toList.getD k 0).toNat : Int) = 95))))] ++ jk)) w := by
                  intro jk
                  refine hK65 _ _ ?_
                  clear hK65
                  refine st rfl (x_assign (v := Value.bool ((((decide ((48 : Int) ≤ ((s.data.toList.getD k 0).toNat : Int))) && (decide (((s.data.toList.getD k 0).toNat : Int) ≤ 57))) || (decide (((s.data.toList.getD k 0).toNat : Int) = 95))) || (decide (((s.data.toList.getD k 0).toNat : Int) = 45)))) (ev_tmp rfl rfl)) ?_
                  refine s_nil ?_
                  refine hK53 _ _ ?_
                  refine c_seq fun K70 hK71 => ?_
                  refine c_reg ?_
                  refine st rfl (x_move (v := Value.bool (((decide ((97 : Int) ≤ ((s.data.toList.getD k 0).toNat : Int))) && (decide (((s.data.toList.getD k 0).toNat : Int) ≤ 122))) || ((decide ((65 : Int) ≤ ((s.data.toList.getD k 0).toNat : Int))) && (decide (((s.data.toList.getD k 0).toNat : Int) ≤ 90))))) (ev_tmp rfl rfl)) ?_
                  refine st rfl (x_not (b := (((decide ((97 : Int) ≤ ((s.data.toList.getD k 0).toNat : Int))) && (decide (((s.data.toList.getD k 0).toNat : Int) ≤ 122))) || ((decide ((65 : Int) ≤ ((s.data.toList.getD k 0).toNat : Int))) && (decide (((s.data.toList.getD k 0).toNat : Int) ≤ 90))))) (ev_tmp rfl rfl)) ?_
                  refine st rfl (x_move (v := Value.bool (!(((decide ((97 : Int) ≤ ((s.data.toList.getD k 0).toNat : Int))) && (decide (((s.data.toList.getD k 0).toNat : Int) ≤ 122))) || ((decide ((65 : Int) ≤ ((s.data.toList.getD k 0).toNat : Int))) && (decide (((s.data.toList.getD k 0).toNat : Int) ≤ 90)))))) (ev_tmp rfl rfl)) ?_
                  refine s_meet7 fun K72 hK73 => ?_
                  have J74 : ∀ jk, K72 (fr 62 ([(61, Value.bool ((!(((decide ((97 : Int) ≤ ((s.data.toList.getD k 0).toNat : Int))) && (decide (((s.data.toList.getD k 0).toNat : Int) ≤ 122))) || ((decide ((65 : Int) ≤ ((s.data.toList.getD k 0).toNat : Int))) && (decide (((s.data.toList.getD k 0).toNat : Int) ≤ 90))))) && ((!((((decide ((48 : Int) ≤ ((s.data.toList.getD k 0).toNat : Int))) && (decide (((s.data.toList.getD k 0).toNat : Int) ≤ 57))) || (decide (((s.data.toList.getD k 0).toNat : Int) = 95))) || (decide (((s.data.toList.getD k 0).toNat : Int) = 45)))) || (decide ((k : Int) = 0))))), (0, Value.string s), (3, Value.int .i64 (k : Int)), (54, Value.bool (!(((decide ((97 : Int) ≤ ((s.data.toList.getD k 0).toNat : Int))) && (decide (((s.data.toList.getD k 0).toNat : Int) ≤ 122))) || ((decide ((65 : Int) ≤ ((s.data.toList.getD k 0).toNat : Int))) && (decide (((s.data.toList.getD k 0).toNat : Int) ≤ 90))))))] ++ jk)) w := by
                    intro jk
                    refine hK73 _ _ ?_
                    clear hK73
                    refine s_nil ?_
                    refine hK71 _ _ ?_
                    refine c_cond (b := (!(((decide ((97 : Int) ≤ ((s.data.toList.getD k 0).toNat : Int))) && (decide (((s.data.toList.getD k 0).toNat : Int) ≤ 122))) || ((decide ((65 : Int) ≤ ((s.data.toList.getD k 0).toNat : Int))) && (decide (((s.data.toList.getD k 0).toNat : Int) ≤ 90))))) && ((!((((decide ((48 : Int) ≤ ((s.data.toList.getD k 0).toNat : Int))) && (decide (((s.data.toList.getD k 0).toNat : Int) ≤ 57))) || (decide (((s.data.toList.getD k 0).toNat : Int) = 95))) || (decide (((s.data.toList.getD k 0).toNat : Int) = 45)))) || (decide ((k : Int) = 0)))) (ev_tmp rfl rfl) (fun h83 => ?_) (fun h83 => ?_)
                    · have h84 : ((decide ((97 : Int) ≤ ((s.data.toList.getD k 0).toNat : Int))) && (decide (((s.data.toList.getD k 0).toNat : Int) ≤ 122))) = false := or_l (not_t (and_l h83))
                      have h85 : ((decide ((65 : Int) ≤ ((s.data.toList.getD k 0).toNat : Int))) && (decide (((s.data.toList.getD k 0).toNat : Int) ≤ 90))) = false := or_r (not_t (and_l h83))
                      have h86 : ((!((((decide ((48 : Int) ≤ ((s.data.toList.getD k 0).toNat : Int))) && (decide (((s.data.toList.getD k 0).toNat : Int) ≤ 57))) || (decide (((s.data.toList.getD k 0).toNat : Int) = 95))) || (decide (((s.data.toList.getD k 0).toNat : Int) = 45)))) || (decide ((k : Int) = 0))) = true := and_r h83
                      refine c_seq fun K87 hK88 => ?_
                      refine c_reg ?_
                      refine st rfl (x_assign (v := Value.bool false) rfl) ?_
                      refine s_nil ?_
                      refine hK88 _ _ ?_
                      refine c_ret ?_
                      refine hT2 _ _ ?_
                      refine r1 rfl (ev_tmp (v := Value.bool false) rfl rfl) ?_
                      exact ⟨ret_bool (nr_bad s k (by omega) h83), rfl⟩
                    · have h89 : ((!(((decide ((97 : Int) ≤ ((s.data.toList.getD k 0).toNat : Int))) && (decide (((s.data.toList.getD k 0).toNat : Int) ≤ 122))) || ((decide ((65 : Int) ≤ ((s.data.toList.getD k 0).toNat : Int))) && (decide (((s.data.toList.getD k 0).toNat : Int) ≤ 90))))) && ((!((((decide ((48 : Int) ≤ ((s.data.toList.getD k 0).toNat : Int))) && (decide (((s.data.toList.getD k 0).toNat : Int) ≤ 57))) || (decide (((s.data.toList.getD k 0).toNat : Int) = 95))) || (decide (((s.data.toList.getD k 0).toNat : Int) = 45)))) || (decide ((k : Int) = 0)))) = false := h83
                      refine c_skip ?_
                      refine hK32 _ _ ?_
                      refine c_reg ?_
                      refine st rfl (x_move (v := Value.int .i64 (k : Int)) (ev_tmp rfl rfl)) ?_
                      have hw90 : IntKind.i64.wrap ((k : Int) + 1) = (k : Int) + 1 := w64 (by rfl) (by omega) (by omega)
                      refine st rfl (x_add_eq (p := (k : Int)) (q := 1) (ev_tmp rfl rfl) rfl hw90) ?_
                      refine st rfl (x_assign (v := Value.int .i64 ((k : Int) + 1)) (ev_tmp rfl rfl)) ?_
                      refine s_nil ?_
                      exact ⟨_, _, (by omega : s.size - (k + 1) < s.size - k), fr_held (live := [(0, Value.string s), (3, Value.int .i64 (((k + 1) : Nat) : Int))]) ⟨rfl, (congrArg (Value.int .i64) (by omega)), trivial⟩, (k + 1), _, rfl, rfl, rfl, (by omega), (snoc_ok s k (by omega) hall (nr_ok h83)), (fun _ => nr_first s k hfirst h83)⟩
                  clear hK73
                  rcases bcase (!(((decide ((97 : Int) ≤ ((s.data.toList.getD k 0).toNat : Int))) && (decide (((s.data.toList.getD k 0).toNat : Int) ≤ 122))) || ((decide ((65 : Int) ≤ ((s.data.toList.getD k 0).toNat : Int))) && (decide (((s.data.toList.getD k 0).toNat : Int) ≤ 90))))) with hg75 | hg75
                  · refine gf (b' := false) rfl rfl rfl (congrArg Value.bool hg75) rfl ?_
                    refine gf (b' := false) rfl rfl rfl (congrArg Value.bool hg75) rfl ?_
                    refine gf (b' := false) rfl rfl rfl (congrArg Value.bool hg75) rfl ?_
                    refine gu rfl rfl rfl rfl ?_
                    refine gu rfl rfl rfl rfl ?_
                    refine gf (b' := false) rfl rfl rfl (congrArg Value.bool hg75) rfl ?_
                    refine st rfl (x_pick_f (v := Value.bool false) (ev_tmp rfl (congrArg Value.bool hg75)) rfl) ?_
                    refine s_nil ?_
                    exact j_to J74 ⟨(congrArg Value.bool (and_f hg75)), rfl, rfl, rfl, trivial⟩
                  · have h76 : ((decide ((97 : Int) ≤ ((s.data.toList.getD k 0).toNat : Int))) && (decide (((s.data.toList.getD k 0).toNat : Int) ≤ 122))) = false := or_l (not_t hg75)
                    have h77 : ((decide ((65 : Int) ≤ ((s.data.toList.getD k 0).toNat : Int))) && (decide (((s.data.toList.getD k 0).toNat : Int) ≤ 90))) = false := or_r (not_t hg75)
                    refine gt rfl rfl rfl (congrArg Value.bool hg75) (x_move (v := Value.bool ((((decide ((48 : Int) ≤ ((s.data.toList.getD k 0).toNat : Int))) && (decide (((s.data.toList.getD k 0).toNat : Int) ≤ 57))) || (decide (((s.data.toList.getD k 0).toNat : Int) = 95))) || (decide (((s.data.toList.getD k 0).toNat : Int) = 45)))) (ev_tmp rfl rfl)) ?_
                    refine gt rfl rfl rfl (congrArg Value.bool hg75) (x_not (b := ((((decide ((48 : Int) ≤ ((s.data.toList.getD k 0).toNat : Int))) && (decide (((s.data.toList.getD k 0).toNat : Int) ≤ 57))) || (decide (((s.data.toList.getD k 0).toNat : Int) = 95))) || (decide (((s.data.toList.getD k 0).toNat : Int) = 45)))) (ev_tmp rfl rfl)) ?_
                    refine gt rfl rfl rfl (congrArg Value.bool hg75) (x_move (v := Value.bool (!((((decide ((48 : Int) ≤ ((s.data.toList.getD k 0).toNat : Int))) && (decide (((s.data.toList.getD k 0).toNat : Int) ≤ 57))) || (decide (((s.data.toList.getD k 0).toNat : Int) = 95))) || (decide (((s.data.toList.getD k 0).toNat : Int) = 45))))) (ev_tmp rfl rfl)) ?_
                    refine s_meet3 fun K78 hK79 => ?_
                    have J80 : ∀ jk, K78 (fr 62 ([(60, Value.bool ((!((((decide ((48 : Int) ≤ ((s.data.toList.getD k 0).toNat : Int))) && (decide (((s.data.toList.getD k 0).toNat : Int) ≤ 57))) || (decide (((s.data.toList.getD k 0).toNat : Int) = 95))) || (decide (((s.data.toList.getD k 0).toNat : Int) = 45)))) || (decide ((k : Int) = 0)))), (0, Value.string s), (3, Value.int .i64 (k : Int)), (54, Value.bool (!(((decide ((97 : Int) ≤ ((s.data.toList.getD k 0).toNat : Int))) && (decide (((s.data.toList.getD k 0).toNat : Int) ≤ 122))) || ((decide ((65 : Int) ≤ ((s.data.toList.getD k 0).toNat : Int))) && (decide (((s.data.toList.getD k 0).toNat : Int) ≤ 90)))))), (57, Value.bool (!((((decide ((48 : Int) ≤ ((s.data.toList.getD k 0).toNat : Int))) && (decide (((s.data.toList.getD k 0).toNat : Int) ≤ 57))) || (decide (((s.data.toList.getD k 0).toNat : Int) = 95))) || (decide (((s.data.toList.getD k 0).toNat : Int) = 45)))))] ++ jk)) w := by
                      intro jk
                      refine hK79 _ _ ?_
                      clear hK79
                      refine st rfl (x_pick_t (v := Value.bool ((!((((decide ((48 : Int) ≤ ((s.data.toList.getD k 0).toNat : Int))) && (decide (((s.data.toList.getD k 0).toNat : Int) ≤ 57))) || (decide (((s.data.toList.getD k 0).toNat : Int) = 95))) || (decide (((s.data.toList.getD k 0).toNat : Int) = 45)))) || (decide ((k : Int) = 0)))) (ev_tmp rfl (congrArg Value.bool hg75)) (ev_tmp rfl rfl)) ?_
                      refine s_nil ?_
                      exact j_to J74 ⟨(congrArg Value.bool (and_t hg75)), rfl, rfl, rfl, trivial⟩
                    clear hK79
                    rcases bcase (!((((decide ((48 : Int) ≤ ((s.data.toList.getD k 0).toNat : Int))) && (decide (((s.data.toList.getD k 0).toNat : Int) ≤ 57))) || (decide (((s.data.toList.getD k 0).toNat : Int) = 95))) || (decide (((s.data.toList.getD k 0).toNat : Int) = 45)))) with hg81 | hg81
                    · have h82 : ((((decide ((48 : Int) ≤ ((s.data.toList.getD k 0).toNat : Int))) && (decide (((s.data.toList.getD k 0).toNat : Int) ≤ 57))) || (decide (((s.data.toList.getD k 0).toNat : Int) = 95))) || (decide (((s.data.toList.getD k 0).toNat : Int) = 45))) = true := not_f hg81
                      refine gt rfl rfl rfl (congrArg Value.bool hg81) (x_move (v := Value.int .i64 (k : Int)) (ev_tmp rfl rfl)) ?_
                      refine gt rfl rfl rfl (congrArg Value.bool hg81) (x_eql (p := (k : Int)) (q := 0) (ev_tmp rfl rfl) rfl) ?_
                      refine gt rfl rfl rfl (congrArg Value.bool hg75) (x_pick_f (v := Value.bool (decide ((k : Int) = 0))) (ev_tmp rfl (congrArg Value.bool hg81)) (ev_tmp rfl rfl)) ?_
                      refine s_nil ?_
                      exact j_to J80 ⟨(congrArg Value.bool (or_f hg81)), rfl, rfl, rfl, rfl, trivial⟩
                    · refine gf (b' := true) rfl rfl rfl (congrArg Value.bool hg81) rfl ?_
                      refine gf (b' := true) rfl rfl rfl (congrArg Value.bool hg81) rfl ?_
                      refine gt rfl rfl rfl (congrArg Value.bool hg75) (x_pick_t (v := Value.bool true) (ev_tmp rfl (congrArg Value.bool hg81)) rfl) ?_
                      refine s_nil ?_
                      exact j_to J80 ⟨(congrArg Value.bool (or_t hg81)), rfl, rfl, rfl, rfl, trivial⟩
                clear hK65
                rcases bcase (((decide ((48 : Int) ≤ ((s.data.toList.getD k 0).toNat : Int))) && (decide (((s.data.toList.getD k 0).toNat : Int) ≤ 57))) || (decide (((s.data.toList.getD k 0).toNat : Int) = 95))) with hg67 | hg67
                · have h68 : ((decide ((48 : Int) ≤ ((s.data.toList.getD k 0).toNat : Int))) && (decide (((s.data.toList.getD k 0).toNat : Int) ≤ 57))) = false := or_l hg67
                  have h69 : ¬ (((s.data.toList.getD k 0).toNat : Int) = 95) := of_decide_eq_false (or_r hg67)
                  refine gt rfl rfl rfl (congrArg Value.bool hg67) (x_move (v := Value.int .u8 ((s.data.toList.getD k 0).toNat : Int)) (ev_tmp rfl rfl)) ?_
                  refine gt rfl rfl rfl (congrArg Value.bool hg67) (x_eql (p := ((s.data.toList.getD k 0).toNat : Int)) (q := 45) (ev_tmp rfl rfl) rfl) ?_
                  refine st rfl (x_pick_f (v := Value.bool (decide (((s.data.toList.getD k 0).toNat : Int) = 45))) (ev_tmp rfl (congrArg Value.bool hg67)) (ev_tmp rfl rfl)) ?_
                  refine s_nil ?_
                  exact j_to J66 ⟨(congrArg Value.bool (or_f hg67)), rfl, rfl, rfl, rfl, trivial⟩
                · refine gf (b' := true) rfl rfl rfl (congrArg Value.bool hg67) rfl ?_
                  refine gf (b' := true) rfl rfl rfl (congrArg Value.bool hg67) rfl ?_
                  refine st rfl (x_pick_t (v := Value.bool true) (ev_tmp rfl (congrArg Value.bool hg67)) rfl) ?_
                  refine s_nil ?_
                  exact j_to J66 ⟨(congrArg Value.bool (or_t hg67)), rfl, rfl, rfl, rfl, trivial⟩
              clear hK60
              rcases bcase ((decide ((48 : Int) ≤ ((s.data.toList.getD k 0).toNat : Int))) && (decide (((s.data.toList.getD k 0).toNat : Int) ≤ 57))) with hg62 | hg62
              · have h63 : ((decide ((48 : Int) ≤ ((s.data.toList.getD k 0).toNat : Int))) && (decide (((s.data.toList.getD k 0).toNat : Int) ≤ 57))) = false := hg62
                refine gt rfl rfl rfl (congrArg Value.bool hg62) (x_move (v := Value.int .u8 ((s.data.toList.getD k 0).toNat : Int)) (ev_tmp rfl rfl)) ?_
                refine gt rfl rfl rfl (congrArg Value.bool hg62) (x_eql (p := ((s.data.toList.getD k 0).toNat : Int)) (q := 95) (ev_tmp rfl rfl) rfl) ?_
                refine st rfl (x_pick_f (v := Value.bool (decide (((s.data.toList.getD k 0).toNat : Int) = 95))) (ev_tmp rfl (congrArg Value.bool hg62)) (ev_tmp rfl rfl)) ?_
                refine s_nil ?_
                exact j_to J61 ⟨(congrArg Value.bool (or_f hg62)), rfl, rfl, rfl, rfl, rfl, trivial⟩
              · refine gf (b' := true) rfl rfl rfl (congrArg Value.bool hg62) rfl ?_
                refine gf (b' := true) rfl rfl rfl (congrArg Value.bool hg62) rfl ?_
                refine st rfl (x_pick_t (v := Value.bool true) (ev_tmp rfl (congrArg Value.bool hg62)) rfl) ?_
                refine s_nil ?_
                exact j_to J61 ⟨(congrArg Value.bool (or_t hg62)), rfl, rfl, rfl, rfl, rfl, trivial⟩
            clear hK55
            rcases bcase (decide ((48 : Int) ≤ ((s.data.toList.getD k 0).toNat : Int))) with hg57 | hg57
            · refine gf (b' := false) rfl rfl rfl (congrArg Value.bool hg57) rfl ?_
              refine gf (b' := false) rfl rfl rfl (congrArg Value.bool hg57) rfl ?_
              refine st rfl (x_pick_f (v := Value.bool false) (ev_tmp rfl (congrArg Value.bool hg57)) rfl) ?_
              refine s_nil ?_
              exact j_to J56 ⟨(congrArg Value.bool (and_f hg57)), rfl, rfl, rfl, rfl, rfl, trivial⟩
            · have h58 : (48 : Int) ≤ ((s.data.toList.getD k 0).toNat : Int) := of_decide_eq_true hg57
              refine gt rfl rfl rfl (congrArg Value.bool hg57) (x_move (v := Value.int .u8 ((s.data.toList.getD k 0).toNat : Int)) (ev_tmp rfl rfl)) ?_
              refine gt rfl rfl rfl (congrArg Value.bool hg57) (x_leq (p := ((s.data.toList.getD k 0).toNat : Int)) (q := 57) (ev_tmp rfl rfl) rfl) ?_
              refine st rfl (x_pick_t (v := Value.bool (decide (((s.data.toList.getD k 0).toNat : Int) ≤ 57))) (ev_tmp rfl (congrArg Value.bool hg57)) (ev_tmp rfl rfl)) ?_
              refine s_nil ?_
              exact j_to J56 ⟨(congrArg Value.bool (and_t hg57)), rfl, rfl, rfl, rfl, rfl, trivial⟩
          clear hK43
          rcases bcase ((decide ((97 : Int) ≤ ((s.data.toList.getD k 0).toNat : Int))) && (decide (((s.data.toList.getD k 0).toNat : Int) ≤ 122))) with hg45 | hg45
          · have h46 : ((decide ((97 : Int) ≤ ((s.data.toList.getD k 0).toNat : Int))) && (decide (((s.data.toList.getD k 0).toNat : Int) ≤ 122))) = false := hg45
            refine gt rfl rfl rfl (congrArg Value.bool hg45) (x_move (v := Value.int .u8 ((s.data.toList.getD k 0).toNat : Int)) (ev_tmp rfl rfl)) ?_
            refine gt rfl rfl rfl (congrArg Value.bool hg45) (x_geq (p := ((s.data.toList.getD k 0).toNat : Int)) (q := 65) (ev_tmp rfl rfl) rfl) ?_
            refine gt rfl rfl rfl (congrArg Value.bool hg45) (x_move (v := Value.bool (decide ((65 : Int) ≤ ((s.data.toList.getD k 0).toNat : Int)))) (ev_tmp rfl rfl)) ?_
            refine s_meet3 fun K47 hK48 => ?_
            have J49 : ∀ jk, K47 (fr 62 ([(36, Value.bool ((decide ((65 : Int) ≤ ((s.data.toList.getD k 0).toNat : Int))) && (decide (((s.data.toList.getD k 0).toNat : Int) ≤ 90)))), (0, Value.string s), (3, Value.int .i64 (k : Int)), (4, Value.int .u8 ((s.data.toList.getD k 0).toNat : Int)), (30, Value.bool ((decide ((97 : Int) ≤ ((s.data.toList.getD k 0).toNat : Int))) && (decide (((s.data.toList.getD k 0).toNat : Int) ≤ 122)))), (33, Value.bool (decide ((65 : Int) ≤ ((s.data.toList.getD k 0).toNat : Int))))] ++ jk)) w := by
              intro jk
              refine hK48 _ _ ?_
              clear hK48
              refine st rfl (x_pick_f (v := Value.bool ((decide ((65 : Int) ≤ ((s.data.toList.getD k 0).toNat : Int))) && (decide (((s.data.toList.getD k 0).toNat : Int) ≤ 90)))) (ev_tmp rfl (congrArg Value.bool hg45)) (ev_tmp rfl rfl)) ?_
              refine s_nil ?_
              exact j_to J44 ⟨(congrArg Value.bool (or_f hg45)), rfl, rfl, rfl, rfl, trivial⟩
            clear hK48
            rcases bcase (decide ((65 : Int) ≤ ((s.data.toList.getD k 0).toNat : Int))) with hg50 | hg50
            · refine gf (b' := false) rfl rfl rfl (congrArg Value.bool hg50) rfl ?_
              refine gf (b' := false) rfl rfl rfl (congrArg Value.bool hg50) rfl ?_
              refine gt rfl rfl rfl (congrArg Value.bool hg45) (x_pick_f (v := Value.bool false) (ev_tmp rfl (congrArg Value.bool hg50)) rfl) ?_
              refine s_nil ?_
              exact j_to J49 ⟨(congrArg Value.bool (and_f hg50)), rfl, rfl, rfl, rfl, rfl, trivial⟩
            · have h51 : (65 : Int) ≤ ((s.data.toList.getD k 0).toNat : Int) := of_decide_eq_true hg50
              refine gt rfl rfl rfl (congrArg Value.bool hg50) (x_move (v := Value.int .u8 ((s.data.toList.getD k 0).toNat : Int)) (ev_tmp rfl rfl)) ?_
              refine gt rfl rfl rfl (congrArg Value.bool hg50) (x_leq (p := ((s.data.toList.getD k 0).toNat : Int)) (q := 90) (ev_tmp rfl rfl) rfl) ?_
              refine gt rfl rfl rfl (congrArg Value.bool hg45) (x_pick_t (v := Value.bool (decide (((s.data.toList.getD k 0).toNat : Int) ≤ 90))) (ev_tmp rfl (congrArg Value.bool hg50)) (ev_tmp rfl rfl)) ?_
              refine s_nil ?_
              exact j_to J49 ⟨(congrArg Value.bool (and_t hg50)), rfl, rfl, rfl, rfl, rfl, trivial⟩
          · refine gf (b' := true) rfl rfl rfl (congrArg Value.bool hg45) rfl ?_
            refine gf (b' := true) rfl rfl rfl (congrArg Value.bool hg45) rfl ?_
            refine gf (b' := true) rfl rfl rfl (congrArg Value.bool hg45) rfl ?_
            refine gu rfl rfl rfl rfl ?_
            refine gu rfl rfl rfl rfl ?_
            refine gf (b' := true) rfl rfl rfl (congrArg Value.bool hg45) rfl ?_
            refine st rfl (x_pick_t (v := Value.bool true) (ev_tmp rfl (congrArg Value.bool hg45)) rfl) ?_
            refine s_nil ?_
            exact j_to J44 ⟨(congrArg Value.bool (or_t hg45)), rfl, rfl, rfl, rfl, trivial⟩
        clear hK38
        rcases bcase (decide ((97 : Int) ≤ ((s.data.toList.getD k 0).toNat : Int))) with hg40 | hg40
        · refine gf (b' := false) rfl rfl rfl (congrArg Value.bool hg40) rfl ?_
          refine gf (b' := false) rfl rfl rfl (congrArg Value.bool hg40) rfl ?_
          refine st rfl (x_pick_f (v := Value.bool false) (ev_tmp rfl (congrArg Value.bool hg40)) rfl) ?_
          refine s_nil ?_
          exact j_to J39 ⟨(congrArg Value.bool (and_f hg40)), rfl, rfl, rfl, rfl, trivial⟩
        · have h41 : (97 : Int) ≤ ((s.data.toList.getD k 0).toNat : Int) := of_decide_eq_true hg40
          refine gt rfl rfl rfl (congrArg Value.bool hg40) (x_move (v := Value.int .u8 ((s.data.toList.getD k 0).toNat : Int)) (ev_tmp rfl rfl)) ?_
          refine gt rfl rfl rfl (congrArg Value.bool hg40) (x_leq (p := ((s.data.toList.getD k 0).toNat : Int)) (q := 122) (ev_tmp rfl rfl) rfl) ?_
          refine st rfl (x_pick_t (v := Value.bool (decide (((s.data.toList.getD k 0).toNat : Int) ≤ 122))) (ev_tmp rfl (congrArg Value.bool hg40)) (ev_tmp rfl rfl)) ?_
          refine s_nil ?_
          exact j_to J39 ⟨(congrArg Value.bool (and_t hg40)), rfl, rfl, rfl, rfl, trivial⟩
      · have h91 : ¬ ((k : Int) < (s.size : Int)) := of_decide_eq_false h29
        refine c_exit ?_
        refine xb_here ?_
        refine hK21 _ _ ?_
        refine c_seq fun K92 hK93 => ?_
        refine c_reg ?_
        refine st rfl (x_assign (v := Value.bool true) rfl) ?_
        refine s_nil ?_
        refine hK93 _ _ ?_
        refine c_ret ?_
        refine hT2 _ _ ?_
        refine r1 rfl (ev_tmp (v := Value.bool true) rfl rfl) ?_
        exact ⟨ret_bool (nb_good s k (of_decide_eq_false h29) (of_decide_eq_false (or_l h14)) (of_decide_eq_false (or_r h14)) (hfirst (by omega)) hall), rfl⟩
  clear hK10
  rcases bcase (decide ((s.size : Int) < 1)) with hg12 | hg12
  · have h13 : ¬ ((s.size : Int) < 1) := of_decide_eq_false hg12
    refine gt rfl rfl rfl (congrArg Value.bool hg12) (x_move (v := Value.string s) (ev_tmp rfl rfl)) ?_
    refine gt rfl rfl rfl (congrArg Value.bool hg12) (x_lens (s := s) Try.underlying9 (ev_tmp rfl rfl)) ?_
    refine gt rfl rfl rfl (congrArg Value.bool hg12) (x_gtr (p := (s.size : Int)) (q := 40) (ev_tmp rfl rfl) rfl) ?_
    refine st rfl (x_pick_f (v := Value.bool (decide ((40 : Int) < (s.size : Int)))) (ev_tmp rfl (congrArg Value.bool hg12)) (ev_tmp rfl rfl)) ?_
    refine s_nil ?_
    exact j_to J11 ⟨(congrArg Value.bool (or_f hg12)), rfl, rfl, rfl, trivial⟩
  · refine gf (b' := true) rfl rfl rfl (congrArg Value.bool hg12) rfl ?_
    refine gf (b' := true) rfl rfl rfl (congrArg Value.bool hg12) rfl ?_
    refine gf (b' := true) rfl rfl rfl (congrArg Value.bool hg12) rfl ?_
    refine st rfl (x_pick_t (v := Value.bool true) (ev_tmp rfl (congrArg Value.bool hg12)) rfl) ?_
    refine s_nil ?_
    exact j_to J11 ⟨(congrArg Value.bool (or_t hg12)), rfl, rfl, rfl, trivial⟩

end Go.Proofs.Ytkimdlpfbojkgaa
