/- Journals written, as the program does it. No condition. -/
import Derived.Test.YtbgjlpdeoljmiaaJeM
namespace Go.Proofs.Ytbgjlpdeoljmiaa
set_option linter.unusedVariables false
set_option linter.unusedSimpArgs false
open Go.RowKit
theorem f13r1n2L_at (ba : Journal) : ∀ (l : List JournalRecord) (s : Int) (k : Nat) (out : List Int), (∀ r ∈ l, formedB r = true) → k + l.length ≤ 200 → out.length + 2012 * l.length ≤ 800000 → f13r1n2L ba l s (k : Int) out = some (.exit0 (out ++ encL l s k))
  | [], s, k, out, _, _, _ => by rw [f13r1n2L, encL, List.append_nil]
  | r :: l, s, k, out, h, hk, ho => by
    simp only [List.length_cons] at hk ho
    have hf := h r (by simp)
    obtain ⟨p1, p2⟩ := pay_small (n := (k : Int) + 1) hf
    have hM : 1000000 ≤ maxLen := by unfold maxLen; decide
    obtain ⟨es, hs⟩ := f20_eq s (l := pay ((k : Int) + 1) r) (by omega)
    rw [f13r1n2L, wr64_of (by omega) (by omega), f39_eq (formed_rsm hf) (by omega) (by omega)]
    simp only [Option.bind_some, es]
    rw [wru_id (by omega) (by omega), show f40r2 4 out [((pay ((k : Int) + 1) r).length : Int)] = _ from f40r2_eq (k := 4) (by decide) (by omega) (by omega)]
    have he : (pay ((k : Int) + 1) r).isEmpty = false := by
      cases hp : pay ((k : Int) + 1) r with
      | nil => rw [hp] at p2; simp at p2
      | cons a b => rfl
    simp only [Option.bind_some, he, cond_false, req]
    rw [show fit ((out ++ low ((pay ((k : Int) + 1) r).length : Int) 4).length + (pay ((k : Int) + 1) r).length) 1 = true from fit_small (by simp only [List.length_append, low_len]; omega) (by omega)]
    simp only [cond_true]
    rw [show f40r2 8 _ [stm s (pay ((k : Int) + 1) r)] = _ from f40r2_eq (k := 8) (by decide) hs.1 (by simp only [List.length_append, low_len]; omega)]
    simp only [Option.bind_some]
    rw [show ((k : Int) + 1) = ((k + 1 : Nat) : Int) by omega]
    rw [f13r1n2L_at ba l _ (k + 1) _ (fun y hy => h y (by simp [hy])) (by omega) (by simp only [List.length_append, low_len]; simp only [show ((k : Int) + 1) = ((k + 1 : Nat) : Int) by omega] at p1; omega)]
    simp only [encL, List.append_assoc]
    rw [show ((k : Int) + 1) = ((k + 1 : Nat) : Int) by omega]
theorem f13r_eq {j : Journal} (h : Valid j) : f13r1 j = some (0, encL j.Records 0 0) := by
  obtain ⟨k1, k2, k3⟩ := h.open
  unfold f13r1 f13r1n0 f13r1n1
  rw [f28_eq h.1, h.2]
  simp only [cond_true, Option.bind_some, decide_true]
  rw [f13r1n2_run _ _ _ h.1.1]
  have := f13r1n2L_at j j.Records 0 0 [] (fun r hr => (open_formed k3 r hr).1) (by omega) (by simp; omega)
  simp only [Int.natCast_zero] at this
  rw [this]; rfl
end Go.Proofs.Ytbgjlpdeoljmiaa
