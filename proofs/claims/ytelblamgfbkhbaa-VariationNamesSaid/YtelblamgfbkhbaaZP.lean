/- The clean machine and the model: calls, given that drawn regions are sound. No condition. -/
import Derived.Test.YtelblamgfbkhbaaZO
namespace Go.Proofs.Ytelblamgfbkhbaa
set_option linter.unusedSimpArgs false
set_option linter.unusedVariables false
open Go.RowKit
section
variable {P : Program} {C : Cfg} {w w' w'' : World} {Y Y' X : Nat → Prop} {φ φ' φ'' : Phi} {H H' H'' : Hp}
variable {nid n : Nat} {s : Tr} {a : Act} {D : List Deferred}
/-! ### results -/
theorem sem_id {α : Type} (x : Sem α) : (x >>= Pure.pure) = x := by
  show Sem.bind x Sem.pure = x
  induction x with
  | pure _ => rfl
  | halt _ => rfl
  | load m a k ih => simp only [Sem.bind]; congr 1; funext v; exact ih v
  | store m a v k ih => simp only [Sem.bind]; rw [ih]
  | new o k ih => simp only [Sem.bind]; congr 1; funext v; exact ih v
  | shape o k ih => simp only [Sem.bind]; congr 1; funext v; exact ih v
  | freeze a n k ih => simp only [Sem.bind]; rw [ih]
  | frozen a k ih => simp only [Sem.bind]; congr 1; funext v; exact ih v
  | getObj a k ih => simp only [Sem.bind]; congr 1; funext v; exact ih v
  | setObj a o k ih => simp only [Sem.bind]; rw [ih]
  | choose q k ih => simp only [Sem.bind]; congr 1; funext v; exact ih v
  | sys q k ih => simp only [Sem.bind]; congr 1; funext v; exact ih v
  | program k ih => simp only [Sem.bind]; congr 1; funext v; exact ih v
  | mark m k ih => simp only [Sem.bind]; rw [ih]
theorem sem_assoc {α β γ : Type} (x : Sem α) (f : α → Sem β) (g : β → Sem γ) : (x >>= f) >>= g = x >>= fun a => f a >>= g := by
  show Sem.bind (Sem.bind x f) g = Sem.bind x (fun a => Sem.bind (f a) g)
  induction x with
  | pure _ => rfl
  | halt _ => rfl
  | load m a k ih => simp only [Sem.bind]; congr 1; funext v; exact ih v
  | store m a v k ih => simp only [Sem.bind]; rw [ih]
  | new o k ih => simp only [Sem.bind]; congr 1; funext v; exact ih v
  | shape o k ih => simp only [Sem.bind]; congr 1; funext v; exact ih v
  | freeze a n k ih => simp only [Sem.bind]; rw [ih]
  | frozen a k ih => simp only [Sem.bind]; congr 1; funext v; exact ih v
  | getObj a k ih => simp only [Sem.bind]; congr 1; funext v; exact ih v
  | setObj a o k ih => simp only [Sem.bind]; rw [ih]
  | choose q k ih => simp only [Sem.bind]; congr 1; funext v; exact ih v
  | sys q k ih => simp only [Sem.bind]; congr 1; funext v; exact ih v
  | program k ih => simp only [Sem.bind]; congr 1; funext v; exact ih v
  | mark m k ih => simp only [Sem.bind]; rw [ih]
theorem sem_lawful : LawfulMonad Sem := LawfulMonad.mk' Sem (id_map := fun x => sem_id x) (pure_bind := fun _ _ => rfl) (bind_assoc := sem_assoc)
theorem load_var (hC : CfgOK P C) (hH : HR X φ H w) {t : Nat} {p v : AV} {pv : Value} (h : evLoad C H t p = some v) (hx : VR w (YOf X φ) φ p pv) :
    ∃ u, (do loadVar t (← asAddr pv) : Sem Value).run P w = .ok u w ∧ VR w (YOf X φ) φ v u := by
  obtain ⟨u, hr, hv⟩ := g_load (ρ := fun _ => pv) (x := .tmp 0) (d := none) (ty := 0) (pos := "") (af := #[]) (g := none) hC hH h hx
  refine ⟨u, ?_, hv⟩
  simp only [execOp, Instr.loadAt] at hr
  have key : (do loadVar t (← asAddr pv) : Sem Value).run P w = (do loadVar t (← Instr.sureAddr pv) : Sem Value).run P w := by
    cases pv with
    | pointer q =>
      cases q with
      | none => simp [Instr.sureAddr] at hr
      | some a => simp [Instr.sureAddr, asAddr]
    | _ => simp [Instr.sureAddr] at hr
  rw [key]
  generalize (do loadVar t (← Instr.sureAddr pv) : Sem Value) = m at hr
  simp only [Sem.run_bind, Sem.run_map] at hr
  cases hm : m.run P w with
  | ok x y => rw [hm] at hr; simp at hr; rw [hr.1, hr.2]
  | halt x y => rw [hm] at hr; simp at hr
/-- One of a function's results. -/
def resS (tmps : Array Value) : ResultVar → Sem Value
  | .tmp t => pure (tmps.getD t undef)
  | .cell a t => do loadVar t (← asAddr (tmps.getD a undef))
theorem evRes_ok (hC : CfgOK P C) (hS : SR D X n s H φ a w) {r : ResultVar} {v : AV} (h : evRes C s H r = some v) : ∃ u, (resS a.tmps r).run P w = .ok u w ∧ VR w (YOf X φ) φ v u := by
  cases r with
  | tmp t => simp only [evRes, Option.some.injEq] at h; subst h; exact ⟨_, rfl, hS.slots t⟩
  | cell p t => exact load_var hC hS.hr h (hS.slots p)
theorem evResL_ok (hC : CfgOK P C) (hS : SR D X n s H φ a w) : ∀ {l : List ResultVar} {vs : List AV}, evResL C s H l = some vs → ∃ us, VRT w (YOf X φ) φ vs us ∧ us.length = l.length ∧ ∀ (i : Nat) (r : ResultVar), l[i]? = some r → ∃ u, us[i]? = some u ∧ (resS a.tmps r).run P w = .ok u w
  | [], vs, h => by simp only [evResL, Option.some.injEq] at h; subst h; exact ⟨[], by simp [VRT], rfl, fun i r hi => by simp at hi⟩
  | r :: l, vs, h => by
    simp only [evResL] at h
    split at h
    · rename_i v hv
      obtain ⟨vs', h1, rfl⟩ := Option.map_eq_some_iff.1 h
      obtain ⟨u, hu, hvr⟩ := evRes_ok hC hS hv
      obtain ⟨us, h2, h3, h4⟩ := evResL_ok hC hS h1
      refine ⟨u :: us, by simp only [VRT]; exact ⟨u, us, rfl, hvr, h2⟩, by simp [h3], fun i r' hi => ?_⟩
      cases i with
      | zero => simp at hi; subst hi; exact ⟨u, by simp, hu⟩
      | succ i => simp at hi; simpa using h4 i r' hi
    · cases h
theorem mapM_list {α : Type} {f : α → Sem Value} : ∀ (l : List α) (us : List Value), us.length = l.length → (∀ (i : Nat) (x : α), l[i]? = some x → ∃ u, us[i]? = some u ∧ (f x).run P w = .ok u w) → (l.mapM f).run P w = .ok us w
  | [], us, h, _ => by
    haveI := sem_lawful
    have : us = [] := by simpa using h
    subst this; rw [List.mapM_nil]; rfl
  | x :: l, us, h, hf => by
    haveI := sem_lawful
    cases us with
    | nil => simp at h
    | cons u us =>
      obtain ⟨u', h1, h2⟩ := hf 0 x (by simp)
      simp at h1; subst h1
      have ih := mapM_list l us (by simpa using h) (fun i y hy => by
        obtain ⟨v, h3, h4⟩ := hf (i + 1) y (by simpa using hy)
        exact ⟨v, by simpa using h3, h4⟩)
      rw [List.mapM_cons, Sem.run_bind, h2]
      change Sem.run P (List.mapM f l >>= fun bs => pure (u :: bs)) w = _
      rw [Sem.run_bind, ih]
      rfl
theorem mapM_run {α : Type} {f : α → Sem Value} (xs : Array α) (us : List Value) (hlen : us.length = xs.size) (hf : ∀ (i : Nat) (x : α), xs[i]? = some x → ∃ u, us[i]? = some u ∧ (f x).run P w = .ok u w) : (xs.mapM f).run P w = .ok us.toArray w := by
  haveI := sem_lawful
  rw [Array.mapM_eq_mapM_toList, map_eq_pure_bind, Sem.run_bind, mapM_list xs.toList us (by simpa using hlen) (fun i x hx => hf i x (by simpa using hx))]
  rfl
theorem results_ok (hC : CfgOK P C) (hS : SR D X n s H φ a w) {fn : Func} {v : AV} (h : evRet C s H fn.results.toList = some v) : ∃ u, (results fn a.tmps).run P w = .ok u w ∧ VR w (YOf X φ) φ v u := by
  unfold evRet at h
  have main : ∀ vs, evResL C s H fn.results.toList = some vs → ∃ us : List Value, VRT w (YOf X φ) φ vs us ∧ (results fn a.tmps).run P w = .ok (if h : us.toArray.size = 1 then us.toArray[0] else .tuple us.toArray) w := by
    intro vs hvs
    obtain ⟨us, h1, h2, h3⟩ := evResL_ok hC hS hvs
    refine ⟨us, h1, ?_⟩
    have hm := mapM_run (P := P) (w := w) (f := resS a.tmps) fn.results us (by simpa using h2) (fun i x hx => h3 i x (by simpa using hx))
    have he : results fn a.tmps = (fn.results.mapM (resS a.tmps) >>= fun vs => pure (if h : vs.size = 1 then vs[0] else .tuple vs)) := by
      unfold results; congr 1
    rw [he, Sem.run_bind, hm]
    rfl
  split at h
  · rename_i v1 hv1
    simp only [Option.some.injEq] at h; subst h
    obtain ⟨us, h1, h2⟩ := main _ hv1
    simp only [VRT] at h1
    obtain ⟨u, r, rfl, hu, rfl⟩ := h1
    exact ⟨u, by simpa using h2, hu⟩
  · rename_i vs hne hvs
    simp only [Option.some.injEq] at h; subst h
    obtain ⟨us, h1, h2⟩ := main _ hvs
    refine ⟨.tuple us.toArray, ?_, by simp only [VR]; exact ⟨us, rfl, h1⟩⟩
    rw [h2, dif_neg]
    have hl := h1.length
    simp only [List.size_toArray]
    intro h1'
    rw [hl] at h1'
    obtain ⟨x, hx⟩ := List.length_eq_one_iff.1 h1'
    exact hne x (by rw [← hx])
  · cases h
/-! ### a call's own frame -/
theorem initS_ok : ∀ {args : List AV} {vs : List Value} (i : Nat) (s : Tr) (f : Nat → Value), VRT w Y φ args vs → (∀ t, VR w Y φ (s.get 12 t) (f t)) → ∀ t, VR w Y φ ((initS args i s).get 12 t) (if i ≤ t ∧ t < i + vs.length then (vs[t - i]?).getD undef else f t)
  | [], vs, i, s, f, h, hs, t => by
    simp only [VRT] at h; subst h
    rw [if_neg (by simp)]; exact hs t
  | v :: r, vs, i, s, f, h, hs, t => by
    simp only [VRT] at h
    obtain ⟨u, us, rfl, hu, hr⟩ := h
    simp only [initS]
    have := initS_ok (i + 1) (s.put 12 i v) (fun t => if t = i then u else f t) hr (fun t => by
      by_cases e : t = i
      · subst e; rw [if_pos rfl]
        rcases get_put_self 12 s t v with h1 | h1
        · rw [h1]; exact hu
        · rw [h1]; simp only [VR]
      · rw [if_neg e, get_put_ne 12 s i t v e]; exact hs t) t
    by_cases h1 : i + 1 ≤ t ∧ t < i + 1 + us.length
    · rw [if_pos h1] at this
      rw [if_pos (by simp; omega)]
      rw [show t - i = (t - (i + 1)) + 1 from by omega]; simpa using this
    · rw [if_neg h1] at this
      by_cases e : t = i
      · subst e; rw [if_pos rfl] at this
        rw [if_pos (by simp)]; simpa using this
      · rw [if_neg e] at this
        rw [if_neg (by simp only [List.length_cons]; omega)]; exact this
theorem plains_pl : ∀ {vs : List AV} {ps : List PV} {H1 : Hp}, plains H vs = some (ps, H1) → plRes (.tup (ps.map .pl)) = true
  | _, ps, _, _ => by simp [plRes, isPl, List.all_eq_true]
theorem plainR_pl {v v' : AV} (h : plainR H v = some v') : plRes v' = true := by
  unfold plainR at h
  split at h
  · split at h
    · rename_i ps H1 hps
      simp only [Option.some.injEq] at h; subst h; exact plains_pl hps
    · cases h
  · split at h
    · simp only [Option.some.injEq] at h; subst h; rfl
    · cases h
theorem plainR_ok (hH : HR X φ H w) {v v' : AV} {u : Value} (h : plainR H v = some v') (hv : VR w (YOf X φ) φ v u) : ∃ φ1 H1, HR X φ1 H1 w ∧ Ev φ w φ1 w ∧ Kp φ H φ1 H1 ∧ VR w (YOf X φ1) φ1 v' u := by
  unfold plainR at h
  split at h
  · split at h
    · rename_i ps H1 hps
      simp only [Option.some.injEq] at h; subst h
      simp only [VR] at hv
      obtain ⟨vs, rfl, hvs⟩ := hv
      obtain ⟨φ1, h1, h2, h3, h4⟩ := plains_ok hH hps hvs
      exact ⟨φ1, H1, h1, h2, h3, by simp only [VR]; exact ⟨vs, rfl, h4 φ1⟩⟩
    · cases h
  · split at h
    · rename_i p H1 hp
      simp only [Option.some.injEq] at h; subst h
      obtain ⟨φ1, h1, h2, h3, h4⟩ := plain_ok hH hp hv
      exact ⟨φ1, H1, h1, h2, h3, by simp only [VR]; exact h4⟩
    · cases h
/-- What is plain needs no own memory. -/
theorem HR.drop (h : HR X φ H w) : ∃ X', (∀ b, X' b ↔ YOf X φ b) ∧ HR X' noPhi [] w :=
  ⟨YOf X φ, fun _ => Iff.rfl, HR.empty (by
    rintro b (hx | ⟨o, l, p, ho, hA⟩)
    · exact h.xlt b hx
    · exact (h.out o l b p ho hA).2)⟩
mutual
theorem eqPV_eq : ∀ (p q : PV), eqPV p q = true → p = q
  | .int k a, q, h => by
    cases q <;> simp [eqPV] at h ⊢
    exact ⟨kindEq_eq h.1, h.2⟩
  | .bool a, q, h => by cases q <;> simp [eqPV] at h ⊢; exact h
  | .str a, q, h => by
    cases q <;> simp only [eqPV, decide_eq_true_eq, Bool.false_eq_true] at h
    rw [bytes_eq h]
  | .agg x, q, h => by
    cases q <;> simp only [eqPV, Bool.false_eq_true] at h
    rw [eqPL_eq x _ h]
  | .sl f n x, q, h => by
    cases q <;> first | (cases f <;> simp [eqPV] at h; done) | skip
    rename_i f' m y
    cases f <;> cases f' <;> first | (simp [eqPV] at h; done) | skip
    all_goals
      simp only [eqPV, Bool.and_eq_true, Nat.beq_eq] at h
      rw [h.1, eqPE_eq x y h.2]
  | .fn a, q, h => by cases q <;> simp [eqPV] at h ⊢; exact h
  | .nilf, q, h => by cases q <;> simp [eqPV] at h ⊢
  | .nilp, q, h => by cases q <;> simp [eqPV] at h ⊢
  | .nilm, q, h => by cases q <;> simp [eqPV] at h ⊢
  | .nili, q, h => by cases q <;> simp [eqPV] at h ⊢
  | .ifc t v, q, h => by cases q <;> simp [eqPV] at h
theorem eqPL_eq : ∀ (p q : List PV), eqPL p q = true → p = q
  | [], q, h => by cases q <;> simp [eqPL] at h ⊢
  | a :: x, q, h => by
    cases q <;> simp only [eqPL, Bool.and_eq_true, Bool.false_eq_true] at h
    rw [eqPV_eq a _ h.1, eqPL_eq x _ h.2]
theorem eqPE_eq : ∀ (p q : List (List PV)), eqPE p q = true → p = q
  | [], q, h => by cases q <;> simp [eqPE] at h ⊢
  | a :: x, q, h => by
    cases q <;> simp only [eqPE, Bool.and_eq_true, Bool.false_eq_true] at h
    rw [eqPL_eq a _ h.1, eqPE_eq x _ h.2]
end
theorem eqAL_eq : ∀ (p q : List AV), eqAL p q = true → p = q
  | [], q, h => by cases q <;> simp [eqAL] at h ⊢
  | a :: x, q, h => by
    cases q with
    | nil => cases a <;> simp [eqAL] at h
    | cons b y =>
      cases a <;> cases b <;> first | (simp [eqAL] at h; done) | skip
      simp only [eqAL, Bool.and_eq_true] at h
      rw [eqPV_eq _ _ h.1, eqAL_eq x _ h.2]
theorem eqR_eq {x y : AV × Hp} (h : eqR x y = true) : x = y := by
  unfold eqR at h
  split at h
  · rw [eqPV_eq _ _ h]
  · rw [eqAL_eq _ _ h]
  · cases h
theorem mem_dedup : ∀ {l : List (AV × Hp)} {x : AV × Hp}, x ∈ dedup l ↔ x ∈ l
  | [], x => Iff.rfl
  | y :: r, x => by
    simp only [dedup]
    cases hb : r.any (eqR y) with
    | true =>
      simp only [cond_true, mem_dedup, List.mem_cons]
      refine ⟨.inr, fun h => ?_⟩
      rcases h with rfl | h
      · obtain ⟨z, hz, he⟩ := List.any_eq_true.1 hb
        rw [eqR_eq he]; exact hz
      · exact h
    | false => simp only [cond_false, List.mem_cons, mem_dedup]
theorem mem_dd {br : Bool} {l : List (AV × Hp)} {x : AV × Hp} : x ∈ (bif br then l else dedup l) ↔ x ∈ l := by
  cases br
  · exact mem_dedup
  · exact Iff.rfl
theorem evCall_ok (hC : CfgOK P C) (hd : ∀ call, CallOK P call → DrawOK P C call) : ∀ N, CallOK P (evCall C N)
  | 0 => fun br k args H outs h => by simp [evCall] at h
  | N + 1 => fun br k args H outs h => by
    have ih := evCall_ok hC hd N
    simp only [evCall] at h
    split at h
    · cases h
    · rename_i f hf
      split at h
      · cases h
      · rename_i c hc
        have hfn := hC.fn k f hf
        cases hle : Nat.ble args.length f.ntmps with
        | false => simp [hle] at h
        | true =>
          simp only [hle, Bool.not_true, cond_false] at h
          rw [Option.map_eq_some_iff] at h
          obtain ⟨outs, h, ho⟩ := h
          subst ho
          suffices hs : Enters P k ∧ (br = false → ∀ r ∈ outs, plRes r.1 = true) ∧ ((br = false → H = []) → ∀ X φ w vs, HR X φ H w → VRT w (YOf X φ) φ args vs → Calls P k vs.toArray w (Ret X φ H w outs)) from
            ⟨hs.1, fun hb r hr => hs.2.1 hb r (mem_dd.1 hr), fun hb X φ w vs hH hv => (hs.2.2 hb X φ w vs hH hv).mono fun e w' ⟨r, hr, h⟩ => ⟨r, mem_dd.2 hr, h⟩⟩
          obtain ⟨l, hl, hall⟩ := bindO_ok h
          refine ⟨enters_of hfn (hC.name k f hf) (by rw [hc]; rfl), fun hbr r hr => ?_, fun hbr0 X φ w vs hH hv => ?_⟩
          · subst hbr
            -- each outcome is plain
            have : ∀ r ∈ outs, plRes r.1 = true := by
              have key : ∀ (l : List (Ex × Tr × Hp)) (outs : List (AV × Hp)) (g : Ex × Tr × Hp → Outs (AV × Hp)), (∀ a o, g a = some o → ∀ y ∈ o, plRes y.1 = true) → bindO (some l) g = some outs → ∀ r ∈ outs, plRes r.1 = true := by
                intro l outs g hg hb
                have fl : ∀ (l : List (Ex × Tr × Hp)) (outs : List (AV × Hp)), flatO g l = some outs → ∀ r ∈ outs, plRes r.1 = true := by
                  intro l
                  induction l with
                  | nil => intro outs h r hr; simp only [flatO, Option.some.injEq] at h; subst h; cases hr
                  | cons x l ih =>
                    intro outs h r hr
                    simp only [flatO] at h
                    split at h
                    · rename_i o1 h1
                      split at h
                      · rename_i o2 h2
                        simp only [Option.some.injEq] at h; subst h
                        rcases List.mem_append.1 hr with hr | hr
                        · exact hg x o1 h1 r hr
                        · exact ih o2 h2 r hr
                      · cases h
                    · cases h
                unfold bindO at hb
                split at hb
                · cases hb
                · rename_i a0 heq
                  exact hg _ _ hb
                · rename_i l' hne heq
                  simp only [Option.some.injEq] at heq; subst heq
                  exact fl _ _ hb
              rw [hl] at h
              refine key l outs _ ?_ h
              intro a o ho y hy
              split at ho
              · cases ho
              · cases ho
              · split at ho
                · cases ho
                · rename_i v hv
                  simp only [cond_false] at ho
                  split at ho
                  · rename_i v' hv'
                    simp only [Option.some.injEq] at ho; subst ho
                    rw [List.mem_singleton.1 hy]; exact plainR_pl hv'
                  · cases ho
            exact this r hr
          · refine calls_of_wp hfn hc ?_
            have hlen := hv.length
            have hle' : vs.length ≤ f.ntmps := by rw [hlen]; simpa using hle
            have hS : SR [] X f.ntmps (initS args 0 .leaf) H φ { tmps := vs.toArray ++ Array.replicate (f.ntmps - vs.toArray.size) undef, defers := [] } w := by
              refine ⟨rfl, by simp; omega, fun t => ?_, hH⟩
              have := initS_ok 0 .leaf (fun _ => undef) hv (fun t => by rw [get_leaf]; simp only [VR]) t
              have he : (vs.toArray ++ Array.replicate (f.ntmps - vs.toArray.size) undef).getD t undef = if 0 ≤ t ∧ t < 0 + vs.length then (vs[t - 0]?).getD undef else undef := by
                rw [Array.getD_eq_getD_getElem?, Array.getElem?_append]
                by_cases ht : t < vs.length
                · simp [ht]
                · simp only [List.size_toArray, ht, if_false, Array.getElem?_replicate]
                  have hn : ¬ (0 ≤ t ∧ t < 0 + vs.length) := by omega
                  rw [if_neg hn]
                  split <;> rfl
              rw [he]; exact this
            refine Code.wp_mono ?_ (code_ok hC ih (hd _ ih) c (hC.code k f c hf hc) hl hS)
            intro e a' w' ⟨r, hr, he, φ', h1, h2, h3⟩
            obtain ⟨o, ho, hsub⟩ := hall r hr
            have fin : bodyPost P f (Ret X φ H w outs) .normal a' w' ∧ (∀ i, exOf r.1 ≠ .exit i) ∧ ∀ ch, r.1 ≠ .pan ch := by
              split at ho
              · cases ho
              · cases ho
              · rename_i hne hne2
                refine ⟨?_, fun i hi => ?_, fun ch hi => hne2 ch hi⟩
                · split at ho
                  · cases ho
                  · rename_i v hv'
                    obtain ⟨u, hu1, hu2⟩ := results_ok hC h1 hv'
                    refine ⟨h1.defers, u, hu1, ?_⟩
                    cases br with
                    | true =>
                      simp only [cond_true, Option.some.injEq] at ho; subst ho
                      exact ⟨_, hsub _ (List.mem_singleton.2 rfl), u, φ', rfl, hu2, h1.hr, h2, h3.1, h3.2⟩
                    | false =>
                      simp only [cond_false] at ho
                      split at ho
                      · rename_i v' hv2
                        simp only [Option.some.injEq] at ho; subst ho
                        have hH0 := hbr0 rfl
                        subst hH0
                        have hφ : φ = noPhi := funext fun o => hH.fresh o (Nat.zero_le _)
                        subst hφ
                        obtain ⟨φ1, H1, k1, k2, k3, k4⟩ := plainR_ok h1.hr hv2 hu2
                        refine ⟨_, hsub _ (List.mem_singleton.2 rfl), u, noPhi, rfl, plRes_vr (plainR_pl hv2) (fun b hb => hb.imp id fun hc => absurd hc (noBlk b)) k4, HR.empty h1.hr.xlt, ?_, Nat.le_refl _, fun _ _ _ => rfl⟩
                        exact ⟨h2.os, h2.tape, h2.output, h2.size, h2.heap, fun b hb hc => absurd hc (noBlk b), fun o ho => absurd rfl ho⟩
                      · cases ho
                · cases hr1 : r.1 with
                  | exit j => exact hne j hr1
                  | norm => rw [hr1] at hi; cases hi
                  | ret => rw [hr1] at hi; cases hi
                  | pan ch => rw [hr1] at hi; cases hi
            subst he
            cases hr1 : r.1 with
            | norm => exact fin.1
            | ret => exact fin.1
            | exit i => exact absurd (by rw [hr1]; rfl) (fin.2.1 i)
            | pan ch => exact absurd hr1 (fin.2.2 ch)
end
end Go.Proofs.Ytelblamgfbkhbaa
