/- The law on journals after a crash, in plain words. No condition. -/
import Derived.Test.YtbgjlpdeoljmiaaJeY
import Derived.Test.YtbgjlpdeoljmiaaJbY
import Derived.Test.YtbgjlpdeoljmiaaJsY
import Derived.Test.YtbgjlpdeoljmiaaAlY
namespace Go.Proofs.Ytbgjlpdeoljmiaa
set_option linter.unusedVariables false
set_option linter.unusedSimpArgs false
open Go.RowKit
theorem take_succ {l : List JournalRecord} {k : Nat} {r : JournalRecord} (h : l[k]? = some r) : l.take (k + 1) = l.take k ++ [r] := by rw [List.take_add_one, h]; rfl
noncomputable def off (l : List JournalRecord) (i : Nat) : Nat := (encL (l.take i) 0 0).length
theorem enc_split (l : List JournalRecord) (i : Nat) : encL l 0 0 = encL (l.take i) 0 0 ++ encL (l.drop i) (stL (l.take i) 0 0) (l.take i).length := by
  conv => lhs; rw [← List.take_append_drop i l, encL_append]
  simp
theorem off_le (l : List JournalRecord) (i : Nat) : off l i ≤ (encL l 0 0).length := by
  rw [enc_split l i, List.length_append]; unfold off; omega
theorem off_next {l : List JournalRecord} (hf : ∀ r ∈ l, formedB r = true) {i : Nat} {r : JournalRecord} (h : l[i]? = some r) : off l (i + 1) = off l i + (12 + (pay ((i : Int) + 1) r).length) ∧ 8 ≤ (pay ((i : Int) + 1) r).length := by
  have hi := lt_of_at h
  have hl : (l.take i).length = i := by simp; omega
  unfold off
  rw [take_succ h, encL_append, List.length_append]
  simp only [encL, List.append_nil, List.length_append, low_len, Nat.zero_add, hl]
  exact ⟨by omega, (pay_small (hf r (List.mem_of_getElem? h))).2⟩
noncomputable def offs (l : List JournalRecord) (n : Nat) : List Int := (List.range n).map fun i => (off l (i + 1) : Int)
theorem f26n2_at {j : Journal} (hj : Valid j) (e : Int) : ∀ (n f k : Nat), k + n = j.Records.length → n < f → f26r1n2 f (encL j.Records 0 0, e) j (off j.Records k : Int) (k : Int) (offs j.Records k) = some (.exit0 (off j.Records j.Records.length : Int) (offs j.Records j.Records.length))
  | n, 0, _, _, hf => absurd hf (Nat.not_lt_zero _)
  | 0, f + 1, k, hk, hf => by
    have : k = j.Records.length := by omega
    subst this
    rw [f26r1n2, decide_eq_false (by omega)]; rfl
  | n + 1, f + 1, k, hk, hf => by
    obtain ⟨k1, k2, k3⟩ := hj.open
    have hfo : ∀ r ∈ j.Records, formedB r = true := fun r hr => (open_formed k3 r hr).1
    have hr : j.Records[k]? = some j.Records[k] := List.getElem?_eq_getElem (by omega)
    obtain ⟨o1, o2⟩ := off_next hfo hr
    have hbound := (encL_len (l := j.Records) (s := 0) (k := 0) hfo).1
    have hle := off_le j.Records (k + 1)
    have hw : wr64 ((k : Int) + 1) = ((k + 1 : Nat) : Int) := wr64_of (by omega) (by omega)
    have hc : cutB 0 (((k + 1 : Nat) : Int)) j.Records.length = true := by simp only [cutB, decide_eq_true_eq]; omega
    have hp : Valid ⟨j.Records.take (k + 1)⟩ := Valid.pre (k := j.Records.drop (k + 1)) (by rw [List.take_append_drop]; exact hj)
    have hcc : cutB 0 ((encL (j.Records.take (k + 1)) 0 0).length : Int) (encL j.Records 0 0).length = true := by
      unfold off at hle; simp only [cutB, decide_eq_true_eq]; omega
    have ht : ((encL j.Records 0 0).take (encL (j.Records.take (k + 1)) 0 0).length).drop 0 = encL (j.Records.take (k + 1)) 0 0 := by
      rw [List.drop_zero]; conv => lhs; rw [enc_split j.Records (k + 1)]
      exact List.take_left' rfl
    have hoffs : offs j.Records k ++ [(off j.Records (k + 1) : Int)] = offs j.Records (k + 1) := by unfold offs; rw [List.range_succ]; simp
    have hol : (offs j.Records k).length = k := by simp [offs]
    rw [f26r1n2, decide_eq_true (by omega), hw]
    simp only [cond_true, req, hc, Int.toNat_natCast, List.drop_zero]
    rw [f13_eq hp]
    simp only [Option.bind_some, decide_true, cond_true]
    have e1 : ((encL (j.Records.take (k + 1)) 0 0).length : Int) = (off j.Records (k + 1) : Int) := rfl
    rw [decide_eq_false (show ¬ (((encL (j.Records.take (k + 1)) 0 0).length : Int) < wr64 ((off j.Records k : Int) + 13)) by rw [e1, wr64_of (by omega) (by omega)]; omega),
      decide_eq_false (show ¬ (((encL j.Records 0 0).length : Int) < ((encL (j.Records.take (k + 1)) 0 0).length : Int)) by rw [e1]; omega)]
    rw [List.drop_zero] at ht
    simp only [cond_false, hcc, cond_true, ht, f18_self, Option.bind_some]
    rw [fit_small (show (offs j.Records k).length + 1 ≤ 1000000 by omega) (show 8 ≤ 1000000 by omega)]
    simp only [cond_true, e1, hoffs]
    exact f26n2_at hj e n f (k + 1) (by omega) (by omega)
theorem f26_eq {j : Journal} (hj : Valid j) : f26r1 j = some (encL j.Records 0 0, true, offs j.Records j.Records.length) := by
  have hF : 1000 < FUEL := by unfold FUEL; decide
  have h := f26n2_at hj 0 j.Records.length FUEL 0 (by omega) (by have := hj.open.1; omega)
  have h0 : off j.Records 0 = 0 := by simp [off, encL]
  have h1 : offs j.Records 0 = [] := rfl
  have h2 : off j.Records j.Records.length = (encL j.Records 0 0).length := by unfold off; rw [List.take_length]
  rw [h0, h1, h2] at h
  simp only [Int.natCast_zero] at h
  unfold f26r1 f26r1n0 f26r1n1
  rw [f13_eq hj]
  simp only [Option.bind_some, h, decide_true, cond_true]
theorem no_part {py pr e1 e2 rest : List Int} {s1 s2 : Int} {k : Nat} (h : (low (py.length : Int) 4 ++ (py ++ (low s1 8 ++ e1))) ++ rest = (low (pr.length : Int) 4 ++ (pr ++ (low s2 8 ++ e2))).take k) (h1 : py.length ≤ 100000) (h2 : pr.length ≤ 100000) : 12 + pr.length ≤ k := by
  have hl := congrArg List.length h
  simp only [List.length_append, List.length_take, low_len] at hl
  have h4 := congrArg (List.take 4) h
  rw [List.take_take, Nat.min_eq_left (by omega), List.append_assoc, List.take_left' (low_len 4 _), List.take_left' (low_len 4 _)] at h4
  have h5 := congrArg num h4
  have hp : (256 : Int) ^ 4 = 4294967296 := by decide
  rw [num_low (by omega) (by omega), num_low (by omega) (by omega)] at h5
  omega

theorem f5n1L_at (c : Int) (a3 : List Int) (x6 : Bool) (x24 : List Int × Bool × List Int) (x20 : Journal) : ∀ (l : List Int) (v : Int), f5n1L c a3 x6 x24 x20 l v = some (.exit0 (v + ((l.takeWhile fun x => decide (x ≤ c)).length : Int)))
  | [], v => by rw [f5n1L]; simp
  | x :: l, v => by
    rw [f5n1L, f5n1L_at c a3 x6 x24 x20 l, List.takeWhile_cons]
    cases decide (x ≤ c) with
    | true => simp only [cond_true, if_true, List.length_cons]; congr 2; omega
    | false => simp
theorem f5n2_at {c : Nat} {tail enc : List Int} {is : Bool} {o : List Int} (x6 : Bool) (w : Int) (j : Journal) (hc : c ≤ enc.length) (hl : enc.length ≤ 500000) (ht : tail.length ≤ 2000) : f5n2 (c : Int) tail x6 (enc, is, o) w j = some (.norm (enc.take c ++ tail)) := by
  have hcc : cutB 0 (c : Int) enc.length = true := by simp only [cutB, decide_eq_true_eq]; omega
  have htl : (enc.take c).length ≤ 500000 := by simp; omega
  unfold f5n2
  simp only [hcc, req, cond_true, Int.toNat_natCast, List.drop_zero]
  cases h1 : (enc.take c).isEmpty with
  | true =>
    have e1 : enc.take c = [] := by simpa using h1
    cases h2 : tail.isEmpty with
    | true => have e2 : tail = [] := by simpa using h2
              simp [e1, e2]
    | false => simp only [cond_true, cond_false, fit_small (show tail.length ≤ 1000000 by omega) (show 1 ≤ 1000000 by omega), e1, List.nil_append]
  | false =>
    simp only [cond_false, fit_small (show (enc.take c).length ≤ 1000000 by omega) (show 1 ≤ 1000000 by omega), cond_true]
    cases h2 : tail.isEmpty with
    | true => have e2 : tail = [] := by simpa using h2
              simp [e2]
    | false => simp only [cond_false, fit_small (show (enc.take c).length + tail.length ≤ 1000000 by omega) (show 1 ≤ 1000000 by omega), cond_true]
theorem f5n6_at (bo : Bool) {w : Nat} {l1 l2 : List JournalRecord} (bj : List Int) (u : Int) (h : ∀ i, i < w → ∃ r, l1[i]? = some r ∧ l2[i]? = some r ∧ r.Lines.length ≤ maxLen) (hw : w ≤ 1000) : ∀ (n f i : Nat), i + n = w → n < f → f5n6 f bo (w : Int) bj (⟨l1⟩, u) ⟨l2⟩ (i : Int) = some .exit2
  | n, 0, _, _, hf => absurd hf (Nat.not_lt_zero _)
  | 0, f + 1, i, hi, hf => by rw [f5n6, decide_eq_false (by omega)]; rfl
  | n + 1, f + 1, i, hi, hf => by
    obtain ⟨r, r1, r2, r3⟩ := h i (by omega)
    have hww : wr64 ((i : Int) + 1) = ((i + 1 : Nat) : Int) := wr64_of (by omega) (by omega)
    rw [f5n6, decide_eq_true (by omega), at_nat, at_nat, r1, r2]
    simp only [cond_true, Option.bind_some, f27_self r3, hww]
    exact f5n6_at bo bj u h hw n f (i + 1) (by omega) (by omega)
theorem recovers_plain (x0 : List Entry) (x1 : Int) (x2 : List Int) (ok0 : x0.length ≤ maxLen ∧ ∀ x ∈ x0, Entry.ok x) (ok1 : okInt .i64 x1) (ok2 : x2.length ≤ maxLen ∧ ∀ x ∈ x2, okInt .u8 x) : f5 x0 x1 x2 = some true := by
  have hk : ∀ x ∈ x0, Ek x := fun x hx => by
    have := ok0.2 x hx
    exact ⟨this.2.1, this.2.2.1.1, fun y hy => ⟨(this.2.2.1.2 y hy).1, (this.2.2.1.2 y hy).2.1⟩⟩
  have hb2 : Byt x2 := fun x hx => (ok2.2 x hx).u8
  obtain ⟨g, hg, hg2⟩ := f23_at ok0.1 hk
  unfold f5 f5n0
  rw [alive_t, hg]
  simp only [Option.bind_some]
  cases g with
  | true => rfl
  | false =>
    obtain ⟨h60, h40⟩ := hg2 rfl
    simp only [cond_false, cond_true]
    cases h2000 : decide (2000 < (x2.length : Int)) with
    | true => rfl
    | false =>
      have h2000 := of_decide_eq_false h2000
      obtain ⟨j, e, hj, hlen⟩ := f24_at ok0.1 fun x hx => ⟨hk x hx, h40 x hx⟩
      obtain ⟨k1, k2, k3⟩ := hj.open
      have hfo : ∀ r ∈ j.Records, formedB r = true := fun r hr => (open_formed k3 r hr).1
      have henc := (encL_len (l := j.Records) (s := 0) (k := 0) hfo).1
      have hebyt : Byt (encL j.Records 0 0) := encL_byt hfo
      rw [e]
      simp only [cond_false, Option.bind_some, f26_eq hj, cond_true]
      cases hneg : decide (x1 < 0) with
      | true => rfl
      | false =>
        have hneg := of_decide_eq_false hneg
        obtain ⟨c, rfl⟩ := Int.eq_ofNat_of_zero_le (show 0 ≤ x1 by omega)
        cases hbig : decide (((encL j.Records 0 0).length : Int) < (c : Int)) with
        | true => rfl
        | false =>
          have hbig := of_decide_eq_false hbig
          have hcl : c ≤ (encL j.Records 0 0).length := by omega
          -- the records that are there as a whole
          obtain ⟨w, hw⟩ : ∃ w : Nat, w = ((offs j.Records j.Records.length).takeWhile fun x => decide (x ≤ (c : Int))).length := ⟨_, rfl⟩
          have hol : (offs j.Records j.Records.length).length = j.Records.length := by simp [offs]
          have hwl : w ≤ j.Records.length := by
            have := (List.takeWhile_prefix (fun x => decide (x ≤ (c : Int))) (l := offs j.Records j.Records.length)).length_le
            omega
          have hoff : ∀ i, i < j.Records.length → (offs j.Records j.Records.length)[i]? = some (off j.Records (i + 1) : Int) := fun i hi => by
            unfold offs; rw [List.getElem?_map, List.getElem?_range hi]; rfl
          have hin : off j.Records w ≤ c := by
            cases w with
            | zero => unfold off; simp [encL]
            | succ w' =>
              have h1 : (offs j.Records j.Records.length)[w']? = some (off j.Records (w' + 1) : Int) := hoff w' (by omega)
              have h2 : ((offs j.Records j.Records.length).takeWhile fun x => decide (x ≤ (c : Int)))[w']? = some (off j.Records (w' + 1) : Int) := by
                obtain ⟨t, ht⟩ := List.takeWhile_prefix (fun x => decide (x ≤ (c : Int))) (l := offs j.Records j.Records.length)
                rw [← ht, List.getElem?_append_left (by omega)] at h1
                exact h1
              have h3 := List.mem_of_getElem? h2
              have h4 := List.all_takeWhile (p := fun x => decide (x ≤ (c : Int))) (l := offs j.Records j.Records.length)
              rw [List.all_eq_true] at h4
              have := of_decide_eq_true (h4 _ h3)
              omega
          have hnx : ∀ r, j.Records[w]? = some r → c < off j.Records (w + 1) := fun r hr => by
            have hwlt := lt_of_at hr
            have h1 := hoff w hwlt
            have h2 : ∀ l : List Int, ∀ x, l[(l.takeWhile fun x => decide (x ≤ (c : Int))).length]? = some x → ¬ x ≤ (c : Int) := by
              intro l
              induction l with
              | nil => intro x h; simp at h
              | cons y l ih =>
                intro x h
                rw [List.takeWhile_cons] at h
                cases hy : decide (y ≤ (c : Int)) with
                | true => rw [hy] at h; simp only [if_true, List.length_cons, List.getElem?_cons_succ] at h; exact ih x h
                | false => rw [hy] at h; simp at h; subst h; exact of_decide_eq_false hy
            have := h2 _ _ (by rw [← hw]; exact h1)
            omega
          -- the bytes
          have hall : (encL j.Records 0 0).take c ++ x2 = encL (j.Records.take w) 0 0 ++ ((encL (j.Records.drop w) (stL (j.Records.take w) 0 0) (j.Records.take w).length).take (c - off j.Records w) ++ x2) := by
            rw [← List.append_assoc]
            congr 1
            conv => lhs; rw [enc_split j.Records w]
            rw [List.take_append, List.take_of_length_le (show (encL (j.Records.take w) 0 0).length ≤ c from hin)]; rfl
          have hallb : Byt ((encL j.Records 0 0).take c ++ x2) := (hebyt.take c).app hb2
          obtain ⟨recs, rest, er, hv, hbb, hpre⟩ := recover_eq hallb (by simp; omega)
          have hpw : (openL (j.Records.take w) 0 0 []).1 = true := open_pre (k := j.Records.drop w) (by rw [List.take_append_drop]; exact k3)
          obtain ⟨x, hx⟩ := hpre (j.Records.take w) _ hpw hall
          have hlw : (j.Records.take w).length = w := by simp; omega
          have hrl : recs.length = w + x.length := by rw [hx, List.length_append, hlw]
          have hlen2 := congrArg List.length hbb
          simp only [List.length_append] at hlen2
          -- if no others follow, there are no more
          have hno : x2 = [] → x = [] := by
            intro h0
            rw [h0, List.append_nil] at hall hbb
            rw [hall, hx, encL_append, List.append_assoc, Nat.zero_add] at hbb
            have h1 := List.append_cancel_left hbb
            rw [List.append_nil] at h1
            cases x with
            | nil => rfl
            | cons y x' =>
              exfalso
              have hy : formedB y = true := (open_formed hv.open.2.2 y (by rw [hx]; simp)).1
              have p1 := pay_small (n := (((j.Records.take w).length : Nat) : Int) + 1) hy
              cases hd : j.Records.drop w with
              | nil =>
                rw [hd] at h1
                simp only [encL, List.take_nil] at h1
                have h3 := congrArg List.length h1
                simp only [List.length_nil, List.length_append, low_len] at h3
                omega
              | cons r l =>
                have hr : j.Records[w]? = some r := by rw [← List.head?_drop, hd]; rfl
                have p2 := pay_small (n := (((j.Records.take w).length : Nat) : Int) + 1) (hfo r (List.mem_of_getElem? hr))
                rw [hd] at h1
                simp only [encL] at h1
                have h5 := no_part h1.symm (by omega) (by omega)
                have h6 := hnx r hr
                rw [(off_next hfo hr).1] at h6
                rw [hlw] at h5
                omega
          have hF : 1000 < FUEL := by unfold FUEL; decide
          simp only [cond_false]
          rw [f5n1_run _ _ _ _ _ (by rw [hol]; have : 200 ≤ maxLen := by unfold maxLen; decide
                                     omega), f5n1L_at]
          simp only [Option.bind_some, Int.zero_add, ← hw]
          rw [f5n2_at _ _ _ hcl (by omega) (by omega)]
          simp only [Option.bind_some, er]
          have hn4 : f5n4 x2 true (w : Int) ((encL j.Records 0 0).take c ++ x2) (⟨recs⟩, ((encL recs 0 0).length : Int)) j = some (.norm false) := by
            unfold f5n4
            rw [decide_eq_false (show ¬ ((recs.length : Int) < (w : Int)) by omega), decide_eq_false (show ¬ (((encL recs 0 0).length : Int) < 0) by omega), decide_eq_false (show ¬ ((((encL j.Records 0 0).take c ++ x2).length : Int) < ((encL recs 0 0).length : Int)) by rw [List.length_append]; omega)]
            cases h0 : decide ((x2.length : Int) = 0) with
            | false => rfl
            | true =>
              have h0 := of_decide_eq_true h0
              have : x = [] := hno (List.eq_nil_of_length_eq_zero (by omega))
              rw [decide_eq_true (show (recs.length : Int) = (w : Int) by rw [hrl, this]; simp)]; rfl
          have hn5 : f5n5 true (w : Int) ((encL j.Records 0 0).take c ++ x2) (⟨recs⟩, ((encL recs 0 0).length : Int)) j = some .norm := by
            unfold f5n5
            have := f5n6_at true (w := w) (l1 := recs) (l2 := j.Records) ((encL j.Records 0 0).take c ++ x2) ((encL recs 0 0).length : Int) (fun i hi => by
              obtain ⟨r, hr⟩ : ∃ r, j.Records[i]? = some r := ⟨_, List.getElem?_eq_getElem (by omega)⟩
              refine ⟨r, ?_, hr, (hj.1.2 r (List.mem_of_getElem? hr)).2.1⟩
              rw [hx, List.getElem?_append_left (by omega), List.getElem?_take, if_pos hi]; exact hr) (by omega) w FUEL 0 (by omega) (by omega)
            simp only [Int.natCast_zero] at this
            rw [this]; rfl
          have hc2 : cutB 0 ((encL recs 0 0).length : Int) ((encL j.Records 0 0).take c ++ x2).length = true := by simp only [cutB, decide_eq_true_eq, List.length_append]; omega
          have ht2 : (((encL j.Records 0 0).take c ++ x2).take (Int.toNat ((encL recs 0 0).length : Int))).drop 0 = encL recs 0 0 := by
            rw [List.drop_zero, Int.toNat_natCast, hbb]; exact List.take_left' rfl
          unfold f5n3
          rw [hn4]
          simp only [Option.bind_some, cond_false, hn5, f13_eq hv, decide_true, cond_true, req, hc2, ht2, f18_self]
end Go.Proofs.Ytbgjlpdeoljmiaa
