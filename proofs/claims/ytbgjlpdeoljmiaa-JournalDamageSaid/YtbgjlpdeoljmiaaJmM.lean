/- The law on damaged journals, in plain words. No condition. -/
import Derived.Test.YtbgjlpdeoljmiaaJqM
import Derived.Test.YtbgjlpdeoljmiaaJoM
import Derived.Test.YtbgjlpdeoljmiaaJbM
import Derived.Test.YtbgjlpdeoljmiaaJsM
import Derived.Test.YtbgjlpdeoljmiaaAlM
namespace Go.Proofs.Ytbgjlpdeoljmiaa
set_option linter.unusedVariables false
set_option linter.unusedSimpArgs false
open Go.RowKit
def xorS (v x : Int) : Int := IntKind.u64.wrap (BitVec.ofInt IntKind.u64.bits v ^^^ BitVec.ofInt IntKind.u64.bits (wru64 x)).toNat
def stepF (v x : Int) : Int := wru64 (xorS v x * 1099511628211)
theorem mul_inj {x y : Int} (hx : 0 ≤ x ∧ x < 18446744073709551616) (hy : 0 ≤ y ∧ y < 18446744073709551616) (h : wru64 (x * 1099511628211) = wru64 (y * 1099511628211)) : x = y := by
  have h : IntKind.u64.wrap (x * 1099511628211) = IntKind.u64.wrap (y * 1099511628211) := h
  rw [IntKind.wrap_u64, IntKind.wrap_u64] at h
  have key : ∀ z : Int, 0 ≤ z ∧ z < 18446744073709551616 → (z * 1099511628211 % 18446744073709551616 * 14886173955864302971) % 18446744073709551616 = z := fun z hz => by
    rw [Int.mul_emod, Int.emod_emod_of_dvd _ (Int.dvd_refl _), ← Int.mul_emod, Int.mul_assoc]
    rw [show (1099511628211 : Int) * 14886173955864302971 = 1 + 18446744073709551616 * 887285111055 by decide, Int.mul_add, Int.mul_one, ← Int.mul_assoc, Int.mul_comm z, Int.mul_assoc, Int.add_mul_emod_self_left]
    omega
  have h1 := key x hx
  rw [h, key y hy] at h1
  exact h1.symm
theorem xor_rng (v x : Int) : 0 ≤ xorS v x ∧ xorS v x < 18446744073709551616 := by
  unfold xorS
  rw [IntKind.wrap_u64]; omega
theorem bv_of {a b : Int} (ha : 0 ≤ a ∧ a ≤ 18446744073709551615) (hb : 0 ≤ b ∧ b ≤ 18446744073709551615) (h : BitVec.ofInt 64 a = BitVec.ofInt 64 b) : a = b := by
  have h := congrArg BitVec.toNat h
  rw [BitVec.toNat_ofInt, BitVec.toNat_ofInt] at h
  omega
theorem xor_bv {v x v' x' : Int} (h : xorS v x = xorS v' x') : BitVec.ofInt 64 v ^^^ BitVec.ofInt 64 (wru64 x) = BitVec.ofInt 64 v' ^^^ BitVec.ofInt 64 (wru64 x') := by
  have hb : IntKind.u64.bits = 64 := rfl
  unfold xorS at h
  rw [hb] at h
  have l1 := (BitVec.ofInt 64 v ^^^ BitVec.ofInt 64 (wru64 x)).isLt
  have l2 := (BitVec.ofInt 64 v' ^^^ BitVec.ofInt 64 (wru64 x')).isLt
  rw [Go.IntWalk.u64_in _ (by omega), Go.IntWalk.u64_in _ (by omega)] at h
  exact BitVec.eq_of_toNat_eq (by omega)
theorem xor_left {a b c : BitVec 64} (h : a ^^^ c = b ^^^ c) : a = b := by
  have h := congrArg (fun z => z ^^^ c) h
  simpa [BitVec.xor_assoc] using h
theorem step_v {v v' x : Int} (hv : 0 ≤ v ∧ v ≤ 18446744073709551615) (hv' : 0 ≤ v' ∧ v' ≤ 18446744073709551615) (h : stepF v x = stepF v' x) : v = v' :=
  bv_of hv hv' (xor_left (xor_bv (mul_inj (xor_rng v x) (xor_rng v' x) h)))
theorem step_x {v x x' : Int} (hx : 0 ≤ x ∧ x ≤ 255) (hx' : 0 ≤ x' ∧ x' ≤ 255) (h : stepF v x = stepF v x') : x = x' := by
  have h1 := xor_bv (mul_inj (xor_rng v x) (xor_rng v x') h)
  rw [BitVec.xor_comm, BitVec.xor_comm (BitVec.ofInt 64 v)] at h1
  have h2 := bv_of (wru_rng x) (wru_rng x') (xor_left h1)
  rw [wru_id hx.1 (by omega), wru_id hx'.1 (by omega)] at h2
  exact h2
theorem step_rng (v x : Int) : 0 ≤ stepF v x ∧ stepF v x ≤ 18446744073709551615 := wru_rng _
theorem fold_inj : ∀ (l : List Int) {v v' : Int}, 0 ≤ v ∧ v ≤ 18446744073709551615 → 0 ≤ v' ∧ v' ≤ 18446744073709551615 → l.foldl stepF v = l.foldl stepF v' → v = v'
  | [], v, v', _, _, h => h
  | x :: l, v, v', h1, h2, h => by
    simp only [List.foldl_cons] at h
    exact step_v h1 h2 (fold_inj l (step_rng v x) (step_rng v' x) h)
theorem fold_ne : ∀ (l : List Int) (q : Nat) {v x y : Int}, 0 ≤ v ∧ v ≤ 18446744073709551615 → l[q]? = some x → 0 ≤ x ∧ x ≤ 255 → 0 ≤ y ∧ y ≤ 255 → (l.set q y).foldl stepF v = l.foldl stepF v → y = x
  | [], q, v, x, y, _, h, _, _, _ => by simp at h
  | z :: l, 0, v, x, y, hv, h, hx, hy, he => by
    simp at h; subst h
    simp only [List.set_cons_zero, List.foldl_cons] at he
    exact step_x hy hx (fold_inj l (step_rng v y) (step_rng v z) he)
  | z :: l, q + 1, v, x, y, hv, h, hx, hy, he => by
    simp only [List.set_cons_succ, List.foldl_cons] at he
    exact fold_ne l q (step_rng v z) (by simpa using h) hx hy he
theorem f20n4L_fold (bj : List Int) : ∀ (l : List Int) (v i : Int), f20n4L bj l v i = some (.exit2 (l.foldl stepF v))
  | [], v, i => rfl
  | x :: l, v, i => by rw [f20n4L, f20n4L_fold bj l]; rfl
theorem f20n2_any (a : Int) (b b' : List Int) : ∀ (f : Nat) (v i : Int), f20n2 f a b v i = f20n2 f a b' v i
  | 0, v, i => rfl
  | f + 1, v, i => by
    rw [f20n2, f20n2]
    cases decide (i < 8) with
    | false => rfl
    | true =>
      simp only [cond_true]
      cases decide (0 ≤ wr64 (8 * i)) with
      | false => rfl
      | true => simp only [req, cond_true]; exact f20n2_any a b b' f _ _
theorem stm_fold (s : Int) : ∃ h, (0 ≤ h ∧ h ≤ 18446744073709551615) ∧ ∀ l : List Int, l.length ≤ maxLen → stm s l = l.foldl stepF h := by
  have hF : 100 < FUEL := by unfold FUEL; decide
  obtain ⟨a, e1, h1⟩ := f20n2_at s [] 8 FUEL 0 14695981039346656037 (by omega) (by omega) (by omega)
  simp only [Int.natCast_zero] at e1
  refine ⟨a, h1, fun l hl => ?_⟩
  have : f20 s l = some (l.foldl stepF a) := by
    unfold f20 f20n0 f20n1 f20n3
    rw [f20n2_any s l [], e1]
    simp only [Option.bind_some]
    rw [f20n4_run _ _ hl, f20n4L_fold]; rfl
  unfold stm
  rw [this]; rfl
theorem stm_ne {s : Int} {p : List Int} (hp : Byt p) (hl : p.length ≤ maxLen) {q : Nat} {x y : Int} (hx : p[q]? = some x) (hy : 0 ≤ y ∧ y ≤ 255) (h : stm s (p.set q y) = stm s p) : y = x := by
  obtain ⟨a, ha, hf⟩ := stm_fold s
  rw [hf _ (by simpa using hl), hf _ hl] at h
  exact fold_ne p q ha hx (hp x (List.mem_of_getElem? hx)) hy h

theorem f26n2_at {j : Journal} (hj : Valid j) (e : Int) : ∀ (n f k : Nat), k + n = j.Records.length → n < f → f26r1n2 f (e, encL j.Records 0 0) j (off j.Records k : Int) (k : Int) (offs j.Records k) = some (.exit0 (off j.Records j.Records.length : Int) (offs j.Records j.Records.length))
  | n, 0, _, _, hf => absurd hf (Nat.not_lt_zero _)
  | 0, f + 1, k, hk, hf => by
    have : k = j.Records.length := by omega
    subst this
    rw [f26r1n2, decide_eq_false (by omega)]; rfl
  | n + 1, f + 1, k, hk, hf => by
    obtain ⟨k1, k2, k3⟩ := hj.open
    have hfo : ∀ r ∈ j.Records, formedB r = true := fun r hr => (open_formed k3 r hr).1
    have hr : j.Records[k]? = some j.Records[k] := List.getElem?_eq_getElem (by omega)
    obtain ⟨o1, o2⟩ := off_next hfo hr
    have hbound := (encL_len (l := j.Records) (s := 0) (k := 0) hfo).1
    have hle := off_le j.Records (k + 1)
    have hw : wr64 ((k : Int) + 1) = ((k + 1 : Nat) : Int) := wr64_of (by omega) (by omega)
    have hc : cutB 0 (((k + 1 : Nat) : Int)) j.Records.length = true := by simp only [cutB, decide_eq_true_eq]; omega
    have hp : Valid ⟨j.Records.take (k + 1)⟩ := Valid.pre (k := j.Records.drop (k + 1)) (by rw [List.take_append_drop]; exact hj)
    have hcc : cutB 0 ((encL (j.Records.take (k + 1)) 0 0).length : Int) (encL j.Records 0 0).length = true := by
      unfold off at hle; simp only [cutB, decide_eq_true_eq]; omega
    have ht : ((encL j.Records 0 0).drop 0).take ((encL (j.Records.take (k + 1)) 0 0).length - 0) = encL (j.Records.take (k + 1)) 0 0 := by
      rw [List.drop_zero, Nat.sub_zero]; conv => lhs; rw [enc_split j.Records (k + 1)]
      exact List.take_left' rfl
    have hoffs : offs j.Records k ++ [(off j.Records (k + 1) : Int)] = offs j.Records (k + 1) := by unfold offs; rw [List.range_succ]; simp
    have hol : (offs j.Records k).length = k := by simp [offs]
    rw [f26r1n2, decide_eq_true (by omega), hw]
    simp only [cond_true, req, hc, Int.toNat_natCast]
    rw [List.drop_zero (l := j.Records.take (k + 1)), f13r_eq hp]
    simp only [Option.bind_some, decide_true, cond_true]
    have e1 : ((encL (j.Records.take (k + 1)) 0 0).length : Int) = (off j.Records (k + 1) : Int) := rfl
    rw [decide_eq_false (show ¬ (((encL (j.Records.take (k + 1)) 0 0).length : Int) < wr64 ((off j.Records k : Int) + 13)) by rw [e1, wr64_of (by omega) (by omega)]; omega),
      decide_eq_false (show ¬ (((encL j.Records 0 0).length : Int) < ((encL (j.Records.take (k + 1)) 0 0).length : Int)) by rw [e1]; omega)]
    simp only [cond_false, hcc, cond_true, Int.toNat_natCast, ht, f18_self, Option.bind_some]
    rw [fit_small (show (offs j.Records k).length + 1 ≤ 1000000 by omega) (show 8 ≤ 1000000 by omega)]
    simp only [cond_true, e1, hoffs]
    exact f26n2_at hj e n f (k + 1) (by omega) (by omega)
theorem f26_eq {j : Journal} (hj : Valid j) : f26r1 j = some (true, encL j.Records 0 0, offs j.Records j.Records.length) := by
  have hF : 1000 < FUEL := by unfold FUEL; decide
  have h := f26n2_at hj 0 j.Records.length FUEL 0 (by omega) (by have := hj.open.1; omega)
  have h0 : off j.Records 0 = 0 := by simp [off, encL]
  have h1 : offs j.Records 0 = [] := rfl
  have h2 : off j.Records j.Records.length = (encL j.Records 0 0).length := by unfold off; rw [List.take_length]
  rw [h0, h1, h2] at h
  simp only [Int.natCast_zero] at h
  unfold f26r1 f26r1n0 f26r1n1
  rw [f13r_eq hj]
  simp only [Option.bind_some, h, decide_true, cond_true]

theorem f6n1_at {j : Journal} (a3 : Int) (x6 : Bool) (x20 : Journal) (a2 : Int) (pl : Nat) (hp : Int.tmod a2 ((encL j.Records 0 0).length : Int) = (pl : Int)) (hlt : pl < (encL j.Records 0 0).length) (hl : j.Records.length ≤ 200) : ∀ (n f i : Nat), i + n = j.Records.length → n < f → off j.Records i ≤ pl →
    ∃ w, w < j.Records.length ∧ off j.Records w ≤ pl ∧ pl < off j.Records (w + 1) ∧ f6n1 f a2 (true, encL j.Records 0 0, offs j.Records j.Records.length) a3 x6 x20 (i : Int) (off j.Records i : Int) = some (.exit0 (w : Int) (off j.Records w : Int))
  | n, 0, _, _, hf, _ => absurd hf (Nat.not_lt_zero _)
  | 0, f + 1, i, hi, hf, ho => by
    have : i = j.Records.length := by omega
    subst this
    unfold off at ho
    rw [List.take_length] at ho
    omega
  | n + 1, f + 1, i, hi, hf, ho => by
    have hx : (offs j.Records j.Records.length)[i]? = some (off j.Records (i + 1) : Int) := by
      unfold offs; rw [List.getElem?_map, List.getElem?_range (by omega)]; rfl
    have hw : wr64 ((i : Int) + 1) = ((i + 1 : Nat) : Int) := wr64_of (by omega) (by omega)
    rw [f6n1, at_nat, hx]
    simp only [Option.bind_some, hp, hw]
    by_cases h : off j.Records (i + 1) ≤ pl
    · rw [decide_eq_true (show (off j.Records (i + 1) : Int) ≤ (pl : Int) by omega)]
      simp only [cond_true]
      obtain ⟨w, w1, w2, w3, w4⟩ := f6n1_at a3 x6 x20 a2 pl hp hlt hl n f (i + 1) (by omega) (by omega) h
      exact ⟨w, w1, w2, w3, w4⟩
    · rw [decide_eq_false (show ¬ (off j.Records (i + 1) : Int) ≤ (pl : Int) by omega)]
      exact ⟨i, by omega, ho, by omega, rfl⟩
theorem set_self_of {l : List Int} {k : Nat} {y x : Int} (hx : l[k]? = some x) (h : l.set k y = l) : y = x := by
  have := congrArg (·[k]?) h
  simp only [List.getElem?_set_self (lt_of_at hx), hx, Option.some.injEq] at this
  exact this
theorem damaged {n s : Int} {r y : JournalRecord} {B e1 rest : List Int} {q : Nat} {x c : Int} (hr : formedB r = true) (hy : formedB y = true) (hx : (pay n r ++ (low (stm s (pay n r)) 8 ++ B))[q]? = some x) (hq : q < (pay n r).length + 8) (hc : 0 ≤ c ∧ c ≤ 255) (hne : c ≠ x)
    (h : low ((pay n r).length : Int) 4 ++ (pay n r ++ (low (stm s (pay n r)) 8 ++ B)).set q c = (low ((pay n y).length : Int) 4 ++ (pay n y ++ (low (stm s (pay n y)) 8 ++ e1))) ++ rest) : False := by
  have hM : 1000000 ≤ maxLen := by unfold maxLen; decide
  have p1 := (pay_small (n := n) hr).1
  have p2 := (pay_small (n := n) hy).1
  have hbr : Byt (pay n r) := pay_byt (formed_rsm hr)
  obtain ⟨_, hs1⟩ := f20_eq s (l := pay n r) (by omega)
  obtain ⟨_, hs2⟩ := f20_eq s (l := pay n y) (by omega)
  have hp4 : (256 : Int) ^ 4 = 4294967296 := by decide
  have hp8 : (256 : Int) ^ 8 = 18446744073709551616 := by decide
  rw [List.append_assoc] at h
  have h4 := congrArg (List.take 4) h
  have hd := congrArg (List.drop 4) h
  rw [List.take_left' (low_len 4 _), List.take_left' (low_len 4 _)] at h4
  rw [List.drop_left' (low_len 4 _), List.drop_left' (low_len 4 _)] at hd
  have hlen := congrArg num h4
  rw [num_low (by omega) (by omega), num_low (by omega) (by omega)] at hlen
  have hlen : (pay n r).length = (pay n y).length := by omega
  rw [List.append_assoc, List.append_assoc] at hd
  by_cases hin : q < (pay n r).length
  · rw [List.set_append_left _ _ hin] at hd
    have hx' : (pay n r)[q]? = some x := by rw [List.getElem?_append_left hin] at hx; exact hx
    have h1 := congrArg (List.take (pay n y).length) hd
    rw [List.take_left' (by simp [hlen]), List.take_left' rfl] at h1
    have h2 := congrArg (List.drop (pay n y).length) hd
    rw [List.drop_left' (by simp [hlen]), List.drop_left' rfl] at h2
    have h3 := congrArg (List.take 8) h2
    rw [List.take_left' (low_len 8 _), List.take_left' (low_len 8 _)] at h3
    have h5 := congrArg num h3
    rw [num_low hs1.1 (by omega), num_low hs2.1 (by omega), ← h1] at h5
    exact hne (stm_ne hbr (by omega) hx' hc h5.symm)
  · rw [List.set_append_right _ _ (by omega), List.set_append_left _ _ (by rw [low_len]; omega)] at hd
    have hx' : (low (stm s (pay n r)) 8)[q - (pay n r).length]? = some x := by
      rw [List.getElem?_append_right (by omega), List.getElem?_append_left (by rw [low_len]; omega)] at hx; exact hx
    have h1 := congrArg (List.take (pay n y).length) hd
    rw [List.take_left' hlen, List.take_left' rfl] at h1
    have h2 := congrArg (List.drop (pay n y).length) hd
    rw [List.drop_left' hlen, List.drop_left' rfl] at h2
    have h3 := congrArg (List.take 8) h2
    rw [List.take_left' (by rw [List.length_set, low_len]), List.take_left' (low_len 8 _), ← h1] at h3
    exact hne (set_self_of hx' h3)
theorem damage_plain (x0 : List Entry) (x1 x2 : Int) (ok0 : x0.length ≤ maxLen ∧ ∀ x ∈ x0, Entry.ok x) (ok1 : okInt .i64 x1) (ok2 : okInt .u8 x2) : f6 x0 x1 x2 = some true := by
  have hk : ∀ x ∈ x0, Ek x := fun x hx => by
    have := ok0.2 x hx
    exact ⟨this.2.1, this.2.2.1.1, fun y hy => ⟨(this.2.2.1.2 y hy).1, (this.2.2.1.2 y hy).2.1⟩⟩
  obtain ⟨g, hg, hg2⟩ := f23_at ok0.1 hk
  unfold f6 f6n0
  rw [alive_t, hg]
  simp only [Option.bind_some]
  cases g with
  | true => rfl
  | false =>
    obtain ⟨h60, h40⟩ := hg2 rfl
    simp only [cond_false, cond_true]
    cases hneg : decide (x1 < 0) with
    | true => rfl
    | false =>
      have hneg := of_decide_eq_false hneg
      obtain ⟨j, e, hj, hlen⟩ := f24_at ok0.1 fun x hx => ⟨hk x hx, h40 x hx⟩
      obtain ⟨k1, k2, k3⟩ := hj.open
      have hfo : ∀ r ∈ j.Records, formedB r = true := fun r hr => (open_formed k3 r hr).1
      have henc := (encL_len (l := j.Records) (s := 0) (k := 0) hfo).1
      have hebyt : Byt (encL j.Records 0 0) := encL_byt hfo
      rw [e]
      simp only [cond_false, Option.bind_some, f26_eq hj, cond_true]
      cases hz : decide (((encL j.Records 0 0).length : Int) = 0) with
      | true => rfl
      | false =>
        have hz := of_decide_eq_false hz
        obtain ⟨c, rfl⟩ := Int.eq_ofNat_of_zero_le (show 0 ≤ x1 by omega)
        have hmod : Int.tmod (c : Int) ((encL j.Records 0 0).length : Int) = ((c % (encL j.Records 0 0).length : Nat) : Int) := by
          rw [Int.tmod_eq_emod_of_nonneg (by omega)]; simp
        have hlt : c % (encL j.Records 0 0).length < (encL j.Records 0 0).length := Nat.mod_lt _ (by omega)
        generalize c % (encL j.Records 0 0).length = pl at hmod hlt
        have hF : 1000 < FUEL := by unfold FUEL; decide
        have h0 : off j.Records 0 = 0 := by simp [off, encL]
        obtain ⟨w, w1, w2, w3, w4⟩ := f6n1_at (j := j) x2 true j (c : Int) pl hmod hlt k1 j.Records.length FUEL 0 (by omega) (by omega) (by omega)
        rw [h0] at w4
        simp only [Int.natCast_zero] at w4
        rw [w4]
        simp only [cond_false, Option.bind_some]
        cases hby : decide (x2 = 0) with
        | true => rfl
        | false =>
          have hby := of_decide_eq_false hby
          have hoffw : off j.Records w ≤ (encL j.Records 0 0).length := off_le _ _
          have hww : wr64 ((off j.Records w : Int) + 4) = (off j.Records w : Int) + 4 := wr64_of (by omega) (by omega)
          rw [hmod, hww]
          cases hst : decide ((pl : Int) < (off j.Records w : Int) + 4) with
          | true => rfl
          | false =>
            have hst := of_decide_eq_false hst
            simp only [cond_false]
            obtain ⟨x, hx⟩ : ∃ x, (encL j.Records 0 0)[pl]? = some x := ⟨_, List.getElem?_eq_getElem hlt⟩
            have hxb := hebyt x (List.mem_of_getElem? hx)
            have h2b := ok2.u8
            rw [at_nat, hx]
            simp only [Option.bind_some, Int.toNat_natCast]
            -- the changed byte
            obtain ⟨y, hy, hyb, hyx⟩ : ∃ y, IntKind.u8.wrap (BitVec.ofInt IntKind.u8.bits x ^^^ BitVec.ofInt IntKind.u8.bits x2).toNat = y ∧ (0 ≤ y ∧ y ≤ 255) ∧ y ≠ x := by
              have hb8 : IntKind.u8.bits = 8 := rfl
              rw [hb8]
              have l1 := (BitVec.ofInt 8 x ^^^ BitVec.ofInt 8 x2).isLt
              refine ⟨_, Go.IntWalk.u8_in _ (by omega), by omega, fun hc => hby ?_⟩
              have l2 : (BitVec.ofInt 8 x ^^^ BitVec.ofInt 8 x2).toNat = (BitVec.ofInt 8 x).toNat := by
                rw [BitVec.toNat_ofInt]; omega
              have l3 := BitVec.eq_of_toNat_eq l2
              have l4 : BitVec.ofInt 8 x2 = 0 := by
                have := congrArg (fun z => BitVec.ofInt 8 x ^^^ z) l3
                simpa [← BitVec.xor_assoc] using this
              have l5 := congrArg BitVec.toNat l4
              rw [BitVec.toNat_ofInt] at l5
              simp only [BitVec.ofNat_eq_ofNat, BitVec.toNat_ofNat] at l5
              omega
            rw [hy]
            -- the bytes
            have hr : j.Records[w]? = some j.Records[w] := List.getElem?_eq_getElem w1
            have hfr := hfo _ (List.mem_of_getElem? hr)
            have hlw : (j.Records.take w).length = w := by simp; omega
            have hdrop : j.Records.drop w = j.Records[w] :: j.Records.drop (w + 1) := List.drop_eq_getElem_cons w1
            have hsplit := enc_split j.Records w
            rw [hdrop, hlw] at hsplit
            simp only [encL] at hsplit
            obtain ⟨s, hs⟩ : ∃ s, s = stL (j.Records.take w) 0 0 := ⟨_, rfl⟩
            obtain ⟨B, hB⟩ : ∃ B, B = encL (j.Records.drop (w + 1)) (stm s (pay ((w : Int) + 1) j.Records[w])) (w + 1) := ⟨_, rfl⟩
            rw [← hs, ← hB] at hsplit
            obtain ⟨q, hq⟩ : ∃ q, pl = off j.Records w + (4 + q) := ⟨pl - off j.Records w - 4, by omega⟩
            have hql : q < (pay ((w : Int) + 1) j.Records[w]).length + 8 := by rw [(off_next hfo hr).1] at w3; omega
            have hxq : (pay ((w : Int) + 1) j.Records[w] ++ (low (stm s (pay ((w : Int) + 1) j.Records[w])) 8 ++ B))[q]? = some x := by
              rw [hsplit, hq, List.getElem?_append_right (by unfold off; omega), List.getElem?_append_right (by rw [low_len]; unfold off; omega), low_len] at hx
              rw [← hx]; congr 1; unfold off; omega
            have hset : (encL j.Records 0 0).set pl y = encL (j.Records.take w) 0 0 ++ (low ((pay ((w : Int) + 1) j.Records[w]).length : Int) 4 ++ (pay ((w : Int) + 1) j.Records[w] ++ (low (stm s (pay ((w : Int) + 1) j.Records[w])) 8 ++ B)).set q y) := by
              rw [hsplit, hq, List.set_append_right _ _ (by unfold off; omega), List.set_append_right _ _ (by rw [low_len]; unfold off; omega), low_len]
              congr 3; unfold off; omega
            have hbb : Byt ((encL j.Records 0 0).set pl y) := fun z hz => by
              rcases List.mem_or_eq_of_mem_set hz with hz | rfl
              · exact hebyt z hz
              · exact hyb
            obtain ⟨recs, rest, er, hv, hbe, hpre⟩ := recover_eq hbb (by simp; omega)
            have hpw : (openL (j.Records.take w) 0 0 []).1 = true := open_pre (k := j.Records.drop w) (by rw [List.take_append_drop]; exact k3)
            obtain ⟨z, hz2⟩ := hpre (j.Records.take w) _ hpw hset
            have hz0 : z = [] := by
              cases z with
              | nil => rfl
              | cons yy z' =>
                exfalso
                have hfy : formedB yy = true := (open_formed hv.open.2.2 yy (by rw [hz2]; simp)).1
                rw [hset, hz2, encL_append, List.append_assoc, Nat.zero_add, hlw, ← hs] at hbe
                have h1 := List.append_cancel_left hbe
                simp only [encL] at h1
                exact damaged hfr hfy hxq hql hyb hyx h1
            rw [hz0, List.append_nil] at hz2
            subst hz2
            have hj2 : Jk ⟨j.Records.take w⟩ := hv.1
            have hc2 : cutB 0 (w : Int) j.Records.length = true := by simp only [cutB, decide_eq_true_eq]; omega
            rw [er]
            simp only [Option.bind_some]
            rw [show (((encL (j.Records.take w) 0 0).length : Nat) : Int) = (off j.Records w : Int) from rfl]
            simp only [decide_true, cond_true, req, hc2, List.drop_zero, f19_self hj2, Option.bind_some]
end Go.Proofs.Ytbgjlpdeoljmiaa
