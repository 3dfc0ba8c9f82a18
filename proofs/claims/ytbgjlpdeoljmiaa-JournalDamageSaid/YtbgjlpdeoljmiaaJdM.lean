/- Records, journals: written and read again, in plain words. No condition. -/
import Derived.Test.YtbgjlpdeoljmiaaJcM
namespace Go.Proofs.Ytbgjlpdeoljmiaa
set_option linter.unusedVariables false
set_option linter.unusedSimpArgs false
open Go.RowKit
theorem u64_of_i64 {a : Int} (h : -9223372036854775808 ≤ a ∧ a ≤ 9223372036854775807) : wr64 (wru64 a) = a ∧ 0 ≤ wru64 a ∧ wru64 a ≤ 18446744073709551615 := by
  show IntKind.i64.wrap (IntKind.u64.wrap a) = a ∧ 0 ≤ IntKind.u64.wrap a ∧ IntKind.u64.wrap a ≤ 18446744073709551615
  rw [IntKind.wrap_u64, IntKind.wrap_i64]; omega
theorem i64_of_u64 {u : Int} (h : 0 ≤ u ∧ u ≤ 18446744073709551615) : wru64 (wr64 u) = u ∧ -9223372036854775808 ≤ wr64 u ∧ wr64 u ≤ 9223372036854775807 := by
  show IntKind.u64.wrap (IntKind.i64.wrap u) = u ∧ -9223372036854775808 ≤ IntKind.i64.wrap u ∧ IntKind.i64.wrap u ≤ 9223372036854775807
  rw [IntKind.wrap_i64, IntKind.wrap_u64]; omega
theorem wru_rng (n : Int) : 0 ≤ wru64 n ∧ wru64 n ≤ 18446744073709551615 := by
  show 0 ≤ IntKind.u64.wrap n ∧ IntKind.u64.wrap n ≤ 18446744073709551615
  rw [IntKind.wrap_u64]; omega
theorem wru_id {n : Int} (h : 0 ≤ n) (h2 : n ≤ 18446744073709551615) : wru64 n = n := Go.IntWalk.u64_in n ⟨h, h2⟩

def lineB (x : JournalLine) : List Int := strB x.Account ++ (strB x.Ccy ++ low (wru64 x.Amount) 8)
def pay (n : Int) (r : JournalRecord) : List Int := low n 4 ++ (low r.Day 4 ++ (strB r.Text ++ ((r.Lines.length : Int) :: r.Lines.flatMap lineB)))
def Lsm (x : JournalLine) : Prop := x.Account.size ≤ 255 ∧ x.Ccy.size ≤ 255 ∧ -9223372036854775808 ≤ x.Amount ∧ x.Amount ≤ 9223372036854775807
def Rsm (r : JournalRecord) : Prop := 0 ≤ r.Day ∧ r.Day < 4294967296 ∧ r.Text.size ≤ 255 ∧ r.Lines.length ≤ 255 ∧ ∀ x ∈ r.Lines, Lsm x
theorem lineB_len {x : JournalLine} (h : Lsm x) : (lineB x).length ≤ 520 := by
  have h1 := h.1; have h2 := h.2.1
  simp only [lineB, List.length_append, strB_len, low_len]; omega
theorem lineB_byt {x : JournalLine} (h : Lsm x) : Byt (lineB x) := (strB_byt h.1).app ((strB_byt h.2.1).app (low_byt 8 _))
theorem lines_len : ∀ {l : List JournalLine}, (∀ x ∈ l, Lsm x) → (l.flatMap lineB).length ≤ 520 * l.length
  | [], _ => by simp
  | x :: l, h => by
    have := lines_len (l := l) fun y hy => h y (by simp [hy])
    have := lineB_len (h x (by simp))
    simp only [List.flatMap_cons, List.length_append, List.length_cons]; omega
theorem lines_byt : ∀ {l : List JournalLine}, (∀ x ∈ l, Lsm x) → Byt (l.flatMap lineB)
  | [], _ => fun x hx => by simp at hx
  | x :: l, h => by
    rw [List.flatMap_cons]
    exact (lineB_byt (h x (by simp))).app (lines_byt fun y hy => h y (by simp [hy]))
theorem pay_len {n : Int} {r : JournalRecord} (h : Rsm r) : (pay n r).length ≤ 140000 := by
  have h1 := lines_len h.2.2.2.2
  have h2 := h.2.2.1; have h3 := h.2.2.2.1
  simp only [pay, List.length_append, low_len, strB_len, List.length_cons]; omega
theorem pay_byt {n : Int} {r : JournalRecord} (h : Rsm r) : Byt (pay n r) := by
  have h3 := h.2.2.2.1
  refine (low_byt 4 _).app ((low_byt 4 _).app ((strB_byt h.2.2.1).app fun x hx => ?_))
  rcases List.mem_cons.1 hx with rfl | hx
  · omega
  · exact lines_byt h.2.2.2.2 x hx
theorem f39n2L_at (bb : JournalRecord) : ∀ (l : List JournalLine) (v : Int) (acc : List Int), (∀ x ∈ l, Lsm x) → acc.length + 520 * l.length ≤ 800000 → f39r1n2L bb l v acc = some (.exit0 (acc ++ l.flatMap lineB))
  | [], v, acc, _, _ => by rw [f39r1n2L]; simp
  | x :: l, v, acc, h, hl => by
    have hx := h x (by simp)
    have h1 := hx.1; have h2 := hx.2.1
    simp only [List.length_cons] at hl
    have hu := u64_of_i64 hx.2.2
    rw [f39r1n2L, f56_eq h1 (by omega)]
    simp only [Option.bind_some]
    rw [f56_eq h2 (by simp only [List.length_append, strB_len]; omega)]
    simp only [Option.bind_some]
    rw [show f40r2 8 _ [wru64 x.Amount] = _ from f40r2_eq (k := 8) (by decide) hu.2.1 (by simp only [List.length_append, strB_len]; omega)]
    simp only [Option.bind_some]
    rw [f39n2L_at bb l _ _ (fun y hy => h y (by simp [hy])) (by simp only [List.length_append, strB_len, low_len]; omega)]
    simp only [List.flatMap_cons, lineB, List.append_assoc]
theorem f39_eq {n : Int} {r : JournalRecord} (h : Rsm r) (h0 : 0 ≤ n) (h1 : n < 4294967296) : f39r1 n r = some (pay n r) := by
  have hd := h.1; have hd2 := h.2.1
  have ht := h.2.2.1; have hl := h.2.2.2.1
  have hM : 255 ≤ maxLen := by unfold maxLen; decide
  unfold f39r1 f39r1n0 f39r1n1
  rw [wru_id h0 (by omega), wru_id h.1 (by omega), f40r1_eq h0 h.1]
  simp only [Option.bind_some]
  rw [f56_eq ht (by simp only [List.length_append, low_len]; omega)]
  simp only [Option.bind_some]
  rw [show fit ((low n 4 ++ low r.Day 4 ++ strB r.Text).length + 1) 1 = true from fit_small (by simp only [List.length_append, low_len, strB_len]; omega) (by omega)]
  have hw : wru8 (r.Lines.length : Int) = (r.Lines.length : Int) := Go.IntWalk.u8_in _ (by omega)
  simp only [req, cond_true, hw]
  rw [f39r1n2_run _ _ (by omega), f39n2L_at _ _ _ _ h.2.2.2.2 (by simp only [List.length_append, low_len, strB_len, List.length_cons, List.length_nil]; omega)]
  simp only [Option.bind_some, pay, List.append_assoc]; rfl

theorem f20n2_at (a : Int) (bj : List Int) : ∀ (n f i : Nat) (v : Int), i + n = 8 → n < f → 0 ≤ v ∧ v ≤ 18446744073709551615 → ∃ h, f20n2 f a bj v (i : Int) = some (.exit0 h) ∧ 0 ≤ h ∧ h ≤ 18446744073709551615
  | n, 0, _, _, _, hf, _ => absurd hf (Nat.not_lt_zero _)
  | 0, f + 1, i, v, hi, _, hv => ⟨v, by rw [f20n2, decide_eq_false (by omega)]; rfl, hv⟩
  | n + 1, f + 1, i, v, hi, hf, hv => by
    have hw : wr64 (8 * (i : Int)) = 8 * (i : Int) := wr64_of (by omega) (by omega)
    have hw2 : wr64 ((i : Int) + 1) = ((i + 1 : Nat) : Int) := wr64_of (by omega) (by omega)
    rw [f20n2, decide_eq_true (by omega), hw, decide_eq_true (show (0 : Int) ≤ 8 * (i : Int) by omega), hw2]
    simp only [cond_true, req]
    exact f20n2_at a bj n f (i + 1) _ (by omega) (by omega) (wru_rng _)
theorem f20n4L_at (bj : List Int) : ∀ (l : List Int) (v i : Int), 0 ≤ v ∧ v ≤ 18446744073709551615 → ∃ h, f20n4L bj l v i = some (.exit2 h) ∧ 0 ≤ h ∧ h ≤ 18446744073709551615
  | [], v, i, hv => ⟨v, rfl, hv⟩
  | x :: l, v, i, hv => by rw [f20n4L]; exact f20n4L_at bj l _ _ (wru_rng _)
noncomputable def stm (s : Int) (l : List Int) : Int := (f20 s l).getD 0
theorem f20_eq (s : Int) {l : List Int} (h : l.length ≤ maxLen) : f20 s l = some (stm s l) ∧ 0 ≤ stm s l ∧ stm s l ≤ 18446744073709551615 := by
  have hF : 100 < FUEL := by unfold FUEL; decide
  obtain ⟨a, e1, h1⟩ := f20n2_at s l 8 FUEL 0 14695981039346656037 (by omega) (by omega) (by omega)
  obtain ⟨b, e2, h2⟩ := f20n4L_at l l a 0 h1
  simp only [Int.natCast_zero] at e1
  have : f20 s l = some b := by
    unfold f20 f20n0 f20n1 f20n3
    rw [e1]
    simp only [Option.bind_some]
    rw [f20n4_run _ _ h, e2]; rfl
  unfold stm
  rw [this]
  exact ⟨rfl, h2⟩

theorem lines_read (a1 a2 a4 : Int) (a5 : ByteArray) {m : Nat} (hm : m ≤ 255) : ∀ (n f v : Nat) (b : List Int) (acc : List JournalLine), v + n = m → n < f → acc.length + n ≤ 1000 → Byt b →
    (∃ r, f60r1n2 f a1 a2 (m : Int) a4 a5 (v : Int) ⟨b⟩ acc = some (.pan r)) ∨ ∃ ls r, f60r1n2 f a1 a2 (m : Int) a4 a5 (v : Int) ⟨b⟩ acc = some (.exit0 ⟨r⟩ (acc ++ ls)) ∧ b = ls.flatMap lineB ++ r ∧ ls.length = n ∧ (∀ x ∈ ls, Lsm x) ∧ Byt r
  | n, 0, _, _, _, _, hf, _, _ => absurd hf (Nat.not_lt_zero _)
  | 0, f + 1, v, b, acc, hv, _, _, hb => .inr ⟨[], b, by rw [f60r1n2, decide_eq_false (by omega), List.append_nil]; rfl, rfl, rfl, fun x hx => by simp at hx, hb⟩
  | n + 1, f + 1, v, b, acc, hv, hf, ha, hb => by
    rw [f60r1n2, decide_eq_true (by omega)]
    simp only [cond_true]
    rcases read_str hb with ⟨r, e⟩ | ⟨s, b1, e, h1, h2⟩
    · rw [e]; exact .inl ⟨r, rfl⟩
    · subst h1
      have hb1 := hb.right
      rw [e]
      simp only [Option.bind_some]
      rcases read_str hb1 with ⟨r, e2⟩ | ⟨t, b2, e2, h3, h4⟩
      · rw [e2]; exact .inl ⟨r, rfl⟩
      · subst h3
        have hb2 := hb1.right
        rw [e2]
        simp only [Option.bind_some]
        rw [show f58r1n0 8 ⟨b2⟩ = _ from f58_eq (k := 8) (by decide) hb2]
        by_cases hl : b2.length < 8
        · rw [if_pos hl]; exact .inl ⟨_, rfl⟩
        · rw [if_neg hl]
          simp only [Option.bind_some, req, fit_small (show acc.length + 1 ≤ 1000000 by omega) (show 40 ≤ 1000000 by omega), cond_true]
          have hw : wru64 ((v : Int) + 1) = ((v + 1 : Nat) : Int) := wru_id (by omega) (by omega)
          have hn := num_nn (hb2.take 8)
          have hl8 : (b2.take 8).length = 8 := by simp; omega
          rw [hl8] at hn
          have hp : (256 : Int) ^ 8 = 18446744073709551616 := by decide
          have hi := i64_of_u64 (u := num (b2.take 8)) (by omega)
          have hlow : low (wru64 (wr64 (num (b2.take 8)))) 8 = b2.take 8 := by
            rw [hi.1]; exact low_num' (hb2.take 8) hl8
          rw [hw]
          have hdr : (8 : Int).toNat = 8 := rfl
          rcases lines_read a1 a2 a4 a5 hm n f (v + 1) (b2.drop 8) (acc ++ [⟨s, t, wr64 (num (b2.take 8))⟩]) (by omega) (by omega) (by simp; omega) (hb2.drop 8) with ⟨r, e3⟩ | ⟨ls, r, e3, k1, k2, k3, k4⟩
          · exact .inl ⟨r, e3⟩
          · refine .inr ⟨⟨s, t, wr64 (num (b2.take 8))⟩ :: ls, r, by rw [hdr, e3, List.append_assoc]; rfl, ?_, by simp [k2], fun x hx => ?_, k4⟩
            · simp only [List.flatMap_cons, lineB, hlow, List.append_assoc]
              rw [← k1, List.take_append_drop]
            · rcases List.mem_cons.1 hx with rfl | hx
              · exact ⟨h2, h4, hi.2⟩
              · exact k3 x hx
theorem lines_write (a1 a2 a4 : Int) (a5 : ByteArray) {m : Nat} (hm : m ≤ 255) : ∀ (ls : List JournalLine) (f v : Nat) (r : List Int) (acc : List JournalLine), v + ls.length = m → ls.length < f → acc.length + ls.length ≤ 1000 → (∀ x ∈ ls, Lsm x) → Byt r →
    f60r1n2 f a1 a2 (m : Int) a4 a5 (v : Int) ⟨ls.flatMap lineB ++ r⟩ acc = some (.exit0 ⟨r⟩ (acc ++ ls))
  | _, 0, _, _, _, _, hf, _, _, _ => absurd hf (Nat.not_lt_zero _)
  | [], f + 1, v, r, acc, hv, _, _, _, _ => by
    rw [f60r1n2, decide_eq_false (by simp at hv; omega), List.append_nil]; rfl
  | x :: ls, f + 1, v, r, acc, hv, hf, ha, h, hr => by
    simp only [List.length_cons] at hv hf ha
    have hx := h x (by simp)
    have hls : ∀ y ∈ ls, Lsm y := fun y hy => h y (by simp [hy])
    have hu := u64_of_i64 hx.2.2
    have hrest : Byt (ls.flatMap lineB ++ r) := (lines_byt hls).app hr
    have hw : wru64 ((v : Int) + 1) = ((v + 1 : Nat) : Int) := wru_id (by omega) (by omega)
    rw [f60r1n2, decide_eq_true (by omega)]
    simp only [cond_true, List.flatMap_cons, lineB, List.append_assoc]
    rw [write_str hx.1 ((strB_byt hx.2.1).app ((low_byt 8 _).app hrest))]
    simp only [Option.bind_some]
    rw [write_str hx.2.1 ((low_byt 8 _).app hrest)]
    simp only [Option.bind_some]
    rw [show f58r1n0 8 ⟨low (wru64 x.Amount) 8 ++ (ls.flatMap lineB ++ r)⟩ = _ from f58_eq (k := 8) (by decide) ((low_byt 8 _).app hrest), if_neg (by simp [low_len])]
    have ht : (low (wru64 x.Amount) 8 ++ (ls.flatMap lineB ++ r)).take 8 = low (wru64 x.Amount) 8 := List.take_left' (low_len 8 _)
    have hd : (low (wru64 x.Amount) 8 ++ (ls.flatMap lineB ++ r)).drop (8 : Int).toNat = ls.flatMap lineB ++ r := List.drop_left' (low_len 8 _)
    have hp : (256 : Int) ^ 8 = 18446744073709551616 := by decide
    rw [ht, num_low hu.2.1 (by omega)]
    simp only [Option.bind_some, hu.1, req, fit_small (show acc.length + 1 ≤ 1000000 by omega) (show 40 ≤ 1000000 by omega), cond_true, hd, hw]
    rw [lines_write a1 a2 a4 a5 hm ls f (v + 1) r _ (by omega) (by omega) (by simp; omega) hls hr, List.append_assoc]; rfl

theorem rec_read {n : Int} (h0 : 0 ≤ n) (h1 : n < 4294967296) {p : List Int} (hp : Byt p) :
    (∃ r, f60r1n0 n ⟨p⟩ = some (.pan r)) ∨ ∃ is r d t ls, f60r1n0 n ⟨p⟩ = some (.ret is r d t ls) ∧ (is = true → p = pay n ⟨d, t, ls⟩ ∧ Rsm ⟨d, t, ls⟩) := by
  unfold f60r1n0
  rw [show f58r1n0 4 ⟨p⟩ = _ from f58_eq (k := 4) (by decide) hp]
  by_cases hl : p.length < 4
  · rw [if_pos hl]; exact .inl ⟨_, rfl⟩
  · rw [if_neg hl]
    simp only [Option.bind_some]
    have h4 : (4 : Int).toNat = 4 := rfl
    rw [h4, show f58r1n0 4 ⟨p.drop 4⟩ = _ from f58_eq (k := 4) (by decide) (hp.drop 4)]
    by_cases hl2 : (p.drop 4).length < 4
    · rw [if_pos hl2]; exact .inl ⟨_, rfl⟩
    · rw [if_neg hl2]
      simp only [Option.bind_some]
      rcases read_str ((hp.drop 4).drop 4) with ⟨r, e⟩ | ⟨t, b, e, k1, k2⟩
      · rw [e]; exact .inl ⟨r, rfl⟩
      · rw [e]
        simp only [Option.bind_some]
        have hb : Byt b := by have := (hp.drop 4).drop 4; rw [k1] at this; exact this.right
        unfold f60r1n1
        rw [show f58r1n0 1 ⟨b⟩ = _ from f58_eq (k := 1) (by decide) hb]
        by_cases hl3 : b.length < 1
        · rw [if_pos hl3]; exact .inl ⟨_, rfl⟩
        · rw [if_neg hl3]
          simp only [Option.bind_some]
          cases b with
          | nil => simp at hl3
          | cons c b2 =>
            have hc := hb c (by simp)
            have e1 : num ((c :: b2).take 1) = ((c.toNat : Nat) : Int) := by simp only [List.take_succ_cons, List.take_zero, num]; omega
            have e2 : (c :: b2).drop (1 : Int).toNat = b2 := rfl
            have hF : 1000 < FUEL := by unfold FUEL; decide
            rw [e1, e2]
            have hn4 := num_nn (hp.take 4)
            have hn5 := num_nn ((hp.drop 4).take 4)
            have hl4 : (p.take 4).length = 4 := by simp; omega
            have hl5 : ((p.drop 4).take 4).length = 4 := by simp at hl2 ⊢; omega
            have hp4 : (256 : Int) ^ 4 = 4294967296 := by decide
            rw [hl4, hp4] at hn4
            rw [hl5, hp4] at hn5
            have hw : wr64 (num ((p.drop 4).take 4)) = num ((p.drop 4).take 4) := wr64_of (by omega) (by omega)
            have hwn : wru64 n = n := wru_id h0 (by omega)
            rcases lines_read (num (p.take 4)) n (num ((p.drop 4).take 4)) t (m := c.toNat) (by omega) c.toNat FUEL 0 b2 [] (by omega) (by omega) (by simp; omega) (fun x hx => hb x (by simp [hx])) with ⟨r, e3⟩ | ⟨ls, r, e3, k3, k4, k5, k6⟩
            · simp only [Int.natCast_zero] at e3
              rw [e3]; exact .inl ⟨_, rfl⟩
            · simp only [Int.natCast_zero, List.nil_append] at e3
              rw [e3]
              simp only [Option.bind_some, hw, hwn]
              by_cases hq : num (p.take 4) = n
              · rw [decide_eq_true hq]
                refine .inr ⟨_, _, _, _, _, rfl, fun his => ?_⟩
                have hr0 : r = [] := by
                  have := of_decide_eq_true his
                  have h2 : ((r.length : Nat) : Int) = 0 := this
                  exact List.eq_nil_of_length_eq_zero (by omega)
                subst hr0
                rw [List.append_nil] at k3
                refine ⟨?_, hn5.1, hn5.2, k2, by show ls.length ≤ 255; omega, k5⟩
                have s1 : low n 4 = p.take 4 := by rw [← hq]; exact low_num' (hp.take 4) hl4
                have s2 : low (num ((p.drop 4).take 4)) 4 = (p.drop 4).take 4 := low_num' ((hp.drop 4).take 4) hl5
                have s3 : ((ls.length : Nat) : Int) = c := by omega
                simp only [pay]
                rw [s1, s2, s3, ← k3, ← k1, List.take_append_drop, List.take_append_drop]
              · rw [decide_eq_false hq]
                exact .inr ⟨_, _, _, _, _, rfl, fun his => by cases his⟩
theorem rec_write {n : Int} (h0 : 0 ≤ n) (h1 : n < 4294967296) {r : JournalRecord} (h : Rsm r) : f60r1n0 n ⟨pay n r⟩ = some (.ret true ⟨[]⟩ r.Day r.Text r.Lines) := by
  have hp := pay_byt (n := n) h
  have h4 : (4 : Int).toNat = 4 := rfl
  have hp4 : (256 : Int) ^ 4 = 4294967296 := by decide
  have hl3 := h.2.2.2.1
  have hd := h.1; have hd2 := h.2.1
  unfold f60r1n0
  rw [show f58r1n0 4 ⟨pay n r⟩ = _ from f58_eq (k := 4) (by decide) hp, if_neg (by simp [pay, low_len])]
  have t1 : (pay n r).take 4 = low n 4 := List.take_left' (low_len 4 _)
  have d1 : (pay n r).drop 4 = low r.Day 4 ++ (strB r.Text ++ ((r.Lines.length : Int) :: r.Lines.flatMap lineB)) := List.drop_left' (low_len 4 _)
  simp only [Option.bind_some]
  have hb1 := hp.drop 4
  rw [h4, d1] at *
  rw [show f58r1n0 4 ⟨low r.Day 4 ++ (strB r.Text ++ ((r.Lines.length : Int) :: r.Lines.flatMap lineB))⟩ = _ from f58_eq (k := 4) (by decide) hb1, if_neg (by simp [low_len])]
  have t2 : (low r.Day 4 ++ (strB r.Text ++ ((r.Lines.length : Int) :: r.Lines.flatMap lineB))).take 4 = low r.Day 4 := List.take_left' (low_len 4 _)
  have d2 : (low r.Day 4 ++ (strB r.Text ++ ((r.Lines.length : Int) :: r.Lines.flatMap lineB))).drop 4 = strB r.Text ++ ((r.Lines.length : Int) :: r.Lines.flatMap lineB) := List.drop_left' (low_len 4 _)
  have hb2 := hb1.drop 4
  simp only [Option.bind_some]
  rw [d2] at *
  rw [write_str h.2.2.1 hb2.right]
  simp only [Option.bind_some]
  unfold f60r1n1
  rw [show f58r1n0 1 ⟨(r.Lines.length : Int) :: r.Lines.flatMap lineB⟩ = _ from f58_eq (k := 1) (by decide) hb2.right, if_neg (by simp)]
  simp only [Option.bind_some, t1, t2, num_low h0 (show n < 256 ^ 4 by omega), num_low hd (show r.Day < 256 ^ 4 by omega)]
  have e1 : num (((r.Lines.length : Int) :: r.Lines.flatMap lineB).take 1) = ((r.Lines.length : Nat) : Int) := by simp [num]
  have e2 : ((r.Lines.length : Int) :: r.Lines.flatMap lineB).drop (1 : Int).toNat = r.Lines.flatMap lineB ++ [] := by simp
  have hF : 1000 < FUEL := by unfold FUEL; decide
  have hw := lines_write n n r.Day r.Text (m := r.Lines.length) hl3 r.Lines FUEL 0 [] [] (by omega) (by omega) (by simp; omega) h.2.2.2.2 (fun x hx => by cases hx)
  simp only [Int.natCast_zero, List.nil_append] at hw
  rw [e1, e2, hw]
  simp only [Option.bind_some]
  rw [wru_id h0 (by omega), decide_eq_true rfl, wr64_of (by omega) (by omega)]; rfl

theorem next_read {n : Int} (h0 : 0 ≤ n) (h1 : n < 4294967296) (s : Int) {b : List Int} (hb : Byt b) (hl : b.length ≤ 1000000) :
    ∃ rd d t now is ls, f43r1 n s ⟨b⟩ = some (rd, d, t, now, is, ls) ∧ (is = true → ∃ rest, rd = ⟨rest⟩ ∧ Rsm ⟨d, t, ls⟩ ∧ now = stm s (pay n ⟨d, t, ls⟩) ∧ b = low ((pay n ⟨d, t, ls⟩).length : Int) 4 ++ (pay n ⟨d, t, ls⟩ ++ (low now 8 ++ rest))) := by
  have fail : ∀ {o : f43r1n0O}, f43r1n0 n s ⟨b⟩ = some o → (match o with | .ret _ _ _ _ is _ => is = false | .pan _ _ => True) → ∃ rd d t now is ls, f43r1 n s ⟨b⟩ = some (rd, d, t, now, is, ls) ∧ (is = true → ∃ rest, rd = ⟨rest⟩ ∧ Rsm ⟨d, t, ls⟩ ∧ now = stm s (pay n ⟨d, t, ls⟩) ∧ b = low ((pay n ⟨d, t, ls⟩).length : Int) 4 ++ (pay n ⟨d, t, ls⟩ ++ (low now 8 ++ rest))) := by
    intro o ho hk
    unfold f43r1
    rw [ho]
    cases o with
    | pan a b => exact ⟨_, _, _, _, _, _, rfl, fun h => by cases h⟩
    | ret a b c d e f => exact ⟨_, _, _, _, _, _, rfl, fun h => by simp only at hk; rw [hk] at h; cases h⟩
  have h4 : (4 : Int).toNat = 4 := rfl
  have h8 : (8 : Int).toNat = 8 := rfl
  have e0 : f43r1n0 n s ⟨b⟩ = f43r1n0 n s ⟨b⟩ := rfl
  conv at e0 => rhs; unfold f43r1n0
  rw [show f58r1n0 4 ⟨b⟩ = _ from f58_eq (k := 4) (by decide) hb, h4] at e0
  by_cases hl1 : b.length < 4
  · rw [if_pos hl1] at e0; exact fail e0 trivial
  · rw [if_neg hl1] at e0
    simp only [Option.bind_some] at e0
    have hn4 := num_nn (hb.take 4)
    have hl4 : (b.take 4).length = 4 := by simp; omega
    have hp4 : (256 : Int) ^ 4 = 4294967296 := by decide
    rw [hl4, hp4] at hn4
    have hwl : wru64 ((b.drop 4).length : Int) = ((b.drop 4).length : Int) := wru_id (by omega) (by simp; omega)
    rw [hwl] at e0
    by_cases hl2 : ((b.drop 4).length : Int) < num (b.take 4)
    · rw [decide_eq_true hl2] at e0; exact fail e0 rfl
    · rw [decide_eq_false hl2] at e0
      obtain ⟨k, hk⟩ := Int.eq_ofNat_of_zero_le hn4.1
      have hwk : wr64 (num (b.take 4)) = (k : Int) := by rw [hk]; exact wr64_of (by omega) (by omega)
      have hkl : k ≤ (b.drop 4).length := by omega
      rw [hwk] at e0
      simp only [cond_false, Int.toNat_natCast, List.drop_zero] at e0
      rw [f59_eq, if_neg (by omega)] at e0
      simp only [Option.bind_some] at e0
      have hM : 1000000 ≤ maxLen := by unfold maxLen; decide
      have hpl : ((b.drop 4).take k).length = k := by simp at hkl ⊢; omega
      obtain ⟨es, hs⟩ := f20_eq s (l := (b.drop 4).take k) (by simp at hkl ⊢; omega)
      rw [es] at e0
      simp only [Option.bind_some] at e0
      rw [show f58r1n0 8 ⟨(b.drop 4).drop k⟩ = _ from f58_eq (k := 8) (by decide) ((hb.drop 4).drop k), h8] at e0
      by_cases hl3 : ((b.drop 4).drop k).length < 8
      · rw [if_pos hl3] at e0; exact fail e0 trivial
      · rw [if_neg hl3] at e0
        simp only [Option.bind_some] at e0
        by_cases hq : num (((b.drop 4).drop k).take 8) = stm s ((b.drop 4).take k)
        · rw [decide_eq_true hq] at e0
          simp only [cond_true] at e0
          rcases rec_read h0 h1 ((hb.drop 4).take k) with ⟨r, er⟩ | ⟨is, r, d, t, ls, er, hr⟩
          · rw [er] at e0; exact fail e0 trivial
          · rw [er] at e0
            simp only [Option.bind_some] at e0
            cases is with
            | false => exact fail e0 rfl
            | true =>
              obtain ⟨hr1, hr2⟩ := hr rfl
              unfold f43r1
              rw [e0]
              refine ⟨_, _, _, _, _, _, rfl, fun _ => ⟨_, rfl, hr2, by rw [← hr1], ?_⟩⟩
              rw [← hr1, hpl, ← hk, ← hq]
              have s1 : low (num (b.take 4)) 4 = b.take 4 := low_num' (hb.take 4) hl4
              have hl8 : (((b.drop 4).drop k).take 8).length = 8 := by rw [List.length_take]; omega
              have s2 : low (num (((b.drop 4).drop k).take 8)) 8 = ((b.drop 4).drop k).take 8 := low_num' (((hb.drop 4).drop k).take 8) hl8
              rw [s1, s2, List.take_append_drop, List.take_append_drop, List.take_append_drop]
        · rw [decide_eq_false hq] at e0; exact fail e0 rfl
theorem next_write {n : Int} (h0 : 0 ≤ n) (h1 : n < 4294967296) (s : Int) {r : JournalRecord} (h : Rsm r) {rest : List Int} (hr : Byt rest) (hl : rest.length ≤ 1000000) :
    f43r1 n s ⟨low ((pay n r).length : Int) 4 ++ (pay n r ++ (low (stm s (pay n r)) 8 ++ rest))⟩ = some (⟨rest⟩, r.Day, r.Text, stm s (pay n r), true, r.Lines) := by
  have hpl := pay_len (n := n) h
  have hpb := pay_byt (n := n) h
  have hM : 1000000 ≤ maxLen := by unfold maxLen; decide
  obtain ⟨es, hs⟩ := f20_eq s (l := pay n r) (by omega)
  have hb3 : Byt (low (stm s (pay n r)) 8 ++ rest) := (low_byt 8 _).app hr
  have hb2 : Byt (pay n r ++ (low (stm s (pay n r)) 8 ++ rest)) := hpb.app hb3
  have hb : Byt (low ((pay n r).length : Int) 4 ++ (pay n r ++ (low (stm s (pay n r)) 8 ++ rest))) := (low_byt 4 _).app hb2
  have h4 : (4 : Int).toNat = 4 := rfl
  have h8 : (8 : Int).toNat = 8 := rfl
  have hp4 : (256 : Int) ^ 4 = 4294967296 := by decide
  have hp8 : (256 : Int) ^ 8 = 18446744073709551616 := by decide
  have t1 : (low ((pay n r).length : Int) 4 ++ (pay n r ++ (low (stm s (pay n r)) 8 ++ rest))).take 4 = low ((pay n r).length : Int) 4 := List.take_left' (low_len 4 _)
  have d1 : (low ((pay n r).length : Int) 4 ++ (pay n r ++ (low (stm s (pay n r)) 8 ++ rest))).drop 4 = pay n r ++ (low (stm s (pay n r)) 8 ++ rest) := List.drop_left' (low_len 4 _)
  have t2 : (pay n r ++ (low (stm s (pay n r)) 8 ++ rest)).take (pay n r).length = pay n r := List.take_left' rfl
  have d2 : (pay n r ++ (low (stm s (pay n r)) 8 ++ rest)).drop (pay n r).length = low (stm s (pay n r)) 8 ++ rest := List.drop_left' rfl
  have t3 : (low (stm s (pay n r)) 8 ++ rest).take 8 = low (stm s (pay n r)) 8 := List.take_left' (low_len 8 _)
  have d3 : (low (stm s (pay n r)) 8 ++ rest).drop 8 = rest := List.drop_left' (low_len 8 _)
  unfold f43r1 f43r1n0
  rw [show f58r1n0 4 ⟨low ((pay n r).length : Int) 4 ++ (pay n r ++ (low (stm s (pay n r)) 8 ++ rest))⟩ = _ from f58_eq (k := 4) (by decide) hb, if_neg (by simp [low_len])]
  simp only [Option.bind_some, h4, h8, t1, d1, num_low (show (0 : Int) ≤ ((pay n r).length : Int) by omega) (show ((pay n r).length : Int) < 256 ^ 4 by omega)]
  have hlen : (pay n r ++ (low (stm s (pay n r)) 8 ++ rest)).length = (pay n r).length + (8 + rest.length) := by simp [low_len]
  rw [hlen, wru_id (by omega) (by omega), decide_eq_false (by omega)]
  simp only [cond_false]
  rw [wr64_of (n := ((pay n r).length : Int)) (by omega) (by omega), f59_eq, if_neg (by rw [hlen]; omega)]
  simp only [Option.bind_some, Int.toNat_natCast, t2, d2, List.drop_zero, es]
  rw [show f58r1n0 8 ⟨low (stm s (pay n r)) 8 ++ rest⟩ = _ from f58_eq (k := 8) (by decide) hb3, if_neg (by simp [low_len])]
  simp only [Option.bind_some, t3, d3, num_low hs.1 (show stm s (pay n r) < 256 ^ 8 by omega)]
  simp only [decide_true, cond_true, rec_write h0 h1 h, Option.bind_some]
end Go.Proofs.Ytbgjlpdeoljmiaa
