/- Several texts in one. No condition. -/
import Derived.Test.YtkcafackfihmiaaZJ
import Derived.Maps.RangeRun
namespace Go.Proofs.Ytkcafackfihmiaa
set_option linter.unusedSimpArgs false
set_option linter.unusedVariables false
open Go.RowKit
section
variable {P : Program} {C : Cfg} {w w' : World} {Y Y' X : Nat → Prop} {φ : Phi} {H : Hp}
variable {nid : Nat} {ρ : Operand → Value} {ra : Operand → AV} {d : Option Tmp} {ty : TypeId} {pos : String} {af : Array Edge} {g : Option (Nat × Bool)}
theorem sameNow_eq {kd : TypeDesc} {t : Nat} {x y : Value} {b : Bool} (h : Instr.sameNow kd x y = some b) (hu : P.underlying t = some kd) {m : Nat} : (Op.equalIn (m + 1) t x y).run P w = .ok b w := by
  unfold Instr.sameNow at h
  split at h
  · split at h
    · rename_i hk
      simp only [Option.some.injEq] at h; subst h
      simp [Op.equalIn, run_underlying hu, hk]
    · cases h
  · simp only [Option.some.injEq] at h; subst h
    simp [Op.equalIn, run_underlying hu]
  · simp only [Option.some.injEq] at h; subst h
    simp [Op.equalIn, run_underlying hu]
  · cases h
def FR (w : World) (Y : Nat → Prop) : Option (Nat × PV) → Option (Nat × Value) → Prop
  | none, none => True
  | some (i, x), some (j, u) => i = j ∧ PR w Y x u
  | _, _ => False
theorem mfind_ok (hC : CfgOK P C) {kt : Nat} {k : PV} {v : Value} (hk : PR w Y k v) {kd : TypeDesc} (hu : P.underlying kt = some kd) : ∀ (kvs : List (PV × PV)) (i b : Nat) (es : List MapEntry) (r : Option (Nat × PV)), mfind C.ty kt k kvs i = some r → MR w Y b kvs es →
    ∃ r', FR w Y r r' ∧ (Instr.findAsking kt v es i).run P w = .ok r' w ∧ (Instr.findNow kd v es i = none ∨ Instr.findNow kd v es i = some r')
  | [], i, b, es, r, h, hm => by
    simp only [mfind, Option.some.injEq] at h; subst h
    simp only [MR] at hm; subst hm
    exact ⟨none, trivial, by simp [Instr.findAsking], .inr (by simp [Instr.findNow])⟩
  | (q, x) :: kvs, i, b, es, r, h, hm => by
    simp only [MR] at hm
    obtain ⟨e, es', rfl, _, hq, hx, hm⟩ := hm
    simp only [mfind] at h
    cases heq : eqV C.ty kt k q with
    | none => simp [heq] at h
    | some c =>
      have he := (eqV_ok hC heq hk hq).1
      have ha : (Instr.findAsking kt v (e :: es') i).run P w = if c then .ok (some (i, e.val)) w else (Instr.findAsking kt v es' (i + 1)).run P w := by
        have he' : (Op.equal kt v e.key).run P w = .ok c w := he
        cases c <;> simp [Instr.findAsking, he']
      have hn : ∀ c', Instr.sameNow kd v e.key = some c' → c' = c := fun c' hc' => by
        have := sameNow_eq (P := P) (w := w) (m := 9999) hc' hu
        rw [he] at this; cases this; rfl
      cases c with
      | true =>
        simp only [heq, Option.some.injEq] at h; subst h
        refine ⟨some (i, e.val), ⟨rfl, hx⟩, by rw [ha]; rfl, ?_⟩
        simp only [Instr.findNow]
        cases hs : Instr.sameNow kd v e.key with
        | none => exact .inl rfl
        | some c' => rw [hn c' hs]; exact .inr rfl
      | false =>
        simp only [heq] at h
        obtain ⟨r', h1, h2, h3⟩ := mfind_ok hC hk hu kvs (i + 1) (b + 1) es' r h hm
        refine ⟨r', h1, by rw [ha]; exact h2, ?_⟩
        simp only [Instr.findNow]
        cases hs : Instr.sameNow kd v e.key with
        | none => exact .inl rfl
        | some c' => rw [hn c' hs]; exact h3
theorem findKey_ok (hC : CfgOK P C) {kt : Nat} {kd : TypeDesc} (hu : P.underlying kt = some kd) {k : PV} {v : Value} (hk : PR w Y k v) {kvs : List (PV × PV)} {es : List MapEntry} {r : Option (Nat × PV)} (h : mfind C.ty kt k kvs 0 = some r) (hm : MR w Y 0 kvs es) :
    ∃ r', FR w Y r r' ∧ (Instr.findKey kt v es).run P w = .ok r' w := by
  obtain ⟨r', h1, h2, h3⟩ := mfind_ok hC hk hu kvs 0 0 es r h hm
  refine ⟨r', h1, ?_⟩
  unfold Instr.findKey
  simp only [Sem.run_bind, run_underlying hu, Result.andThen_ok]
  rcases h3 with h3 | h3 <;> rw [h3]
  · exact h2
  · rfl
theorem keyF_ok (hC : CfgOK P C) {rec : Nat → List PV → Bool} {em : Bool} {k : Nat} {x : List PV} {vs : List Value} (hx : PRL w Y x vs)
    (ih : ∀ t x vs, rec t x = true → PRL w Y x vs → ∃ ti, C.ty t = some ti ∧ (ti.k.row = false → vs.length = 1) ∧ (Instr.checkKey em k t (vAt ti.k.row vs)).run P w = .ok () w) :
    ∀ (fs : List (Nat × Nat)) (gs : List Field), fieldsOK fs gs = true → keyF C.ty rec fs x = true →
      ∀ f ∈ gs, f.name ≠ "_" ∧ ∃ u, (part f.type vs.toArray f.offset).run P w = .ok u w ∧ (Instr.checkKey em k f.type u).run P w = .ok () w
  | [], [], _, _, f, hf => by cases hf
  | (t, o) :: fs, g :: gs, hf, h, f, hm => by
    simp only [fieldsOK, Bool.and_eq_true, Nat.beq_eq] at hf
    obtain ⟨⟨⟨ht, ho⟩, hn⟩, hf⟩ := hf
    simp only [keyF, Bool.and_eq_true] at h
    obtain ⟨h, hr⟩ := h
    rcases List.mem_cons.1 hm with rfl | hm
    · cases hti : C.ty t with
      | none => simp [hti] at h
      | some ti =>
        simp only [hti, Bool.and_eq_true, Bool.or_eq_true, Nat.blt_eq] at h
        obtain ⟨⟨h1, h2⟩, h3⟩ := h
        have h1 := ble_t h1
        obtain ⟨ti', e, _, h4⟩ := ih t _ _ h3 ((hx.drop o).take ti.size)
        rw [hti] at e; cases e
        subst ht; subst ho
        have hl := hx.length
        exact ⟨by simpa using hn, _, run_part (hC.ty _ ti hti) (by omega) (fun hr => by rcases h2 with h2 | h2; (rw [hr] at h2; cases h2); exact h2), h4⟩
    · exact keyF_ok hC hx ih fs gs hf hr f hm
  | [], _ :: _, hf, _, _, _ => by simp [fieldsOK] at hf
  | _ :: _, [], hf, _, _, _ => by simp [fieldsOK] at hf
theorem keyP_ok (hC : CfgOK P C) (em : Bool) : ∀ (d t : Nat) (x : List PV) (vs : List Value), keyP C.ty d t x = true → PRL w Y x vs →
    ∃ ti, C.ty t = some ti ∧ (ti.k.row = false → vs.length = 1) ∧ ∀ k, d ≤ k → (Instr.checkKey em k t (vAt ti.k.row vs)).run P w = .ok () w
  | 0, t, x, vs, h, _ => by simp [keyP] at h
  | d + 1, t, x, vs, h, hx => by
    simp only [keyP] at h
    cases hti : C.ty t with
    | none => simp [hti] at h
    | some ti =>
      simp only [hti] at h
      have hT := hC.ty t ti hti
      refine ⟨ti, rfl, ?_⟩
      split at h
      · rename_i k k2 n hk
        obtain ⟨v, rfl, _, _⟩ := prl_one hx
        refine ⟨fun _ => rfl, fun m hm => ?_⟩
        obtain ⟨m, rfl⟩ : ∃ m', m = m' + 1 := ⟨m - 1, by omega⟩
        simp [Instr.checkKey, run_underlying (und_int hT hk)]
      · rename_i b hk
        obtain ⟨v, rfl, _, _⟩ := prl_one hx
        refine ⟨fun _ => rfl, fun m hm => ?_⟩
        obtain ⟨m, rfl⟩ : ∃ m', m = m' + 1 := ⟨m - 1, by omega⟩
        simp [Instr.checkKey, run_underlying (und_bool hT hk)]
      · rename_i s hk
        obtain ⟨v, rfl, _, _⟩ := prl_one hx
        refine ⟨fun _ => rfl, fun m hm => ?_⟩
        obtain ⟨m, rfl⟩ : ∃ m', m = m' + 1 := ⟨m - 1, by omega⟩
        simp [Instr.checkKey, run_underlying (und_str hT hk)]
      · rename_i fs hk
        rw [Bool.and_eq_true] at h
        obtain ⟨gs, hu, hf⟩ := und_struct hT hk
        refine ⟨(fun hr => by rw [hk] at hr; cases hr), fun m hm => ?_⟩
        obtain ⟨m, rfl⟩ : ∃ m', m = m' + 1 := ⟨m - 1, by omega⟩
        rw [show ti.k.row = true from by rw [hk]; rfl]
        simp only [vAt, if_true, Instr.checkKey, Sem.run_bind, run_underlying hu, Result.andThen_ok]
        have each := keyF_ok (em := em) (k := m) hC hx (fun t x vs hr hx => by
          obtain ⟨ti, h1, h2, h3⟩ := keyP_ok hC em d t x vs hr hx
          exact ⟨ti, h1, h2, h3 m (by omega)⟩) fs gs.toList hf h.2
        rw [← Array.forIn_toList]
        generalize gs.toList = L at each
        induction L with
        | nil => simp
        | cons f L ihL =>
          obtain ⟨hn, u, h1, h2⟩ := each f (by simp)
          simp only [List.forIn_cons, Sem.run_bind, hn, ne_eq, not_false_eq_true, if_true, Result.andThen_ok, h1, h2, Sem.run_pure]
          exact ihL fun y hy => each y (by simp [hy])
      · cases h
theorem keyV_ok (hC : CfgOK P C) {t : Nat} {p : PV} {v : Value} (h : keyV C.ty t p = true) (hp : PR w Y p v) (em : Bool) : (Instr.checkKey em 10000 t v).run P w = .ok () w := by
  unfold keyV at h
  cases hti : C.ty t with
  | none => simp [hti] at h
  | some ti =>
    simp only [hti] at h
    cases hr : ti.k.row with
    | true =>
      simp only [hr, cond_true] at h
      split at h
      · simp only [PR] at hp
        obtain ⟨vs, rfl, hvs⟩ := hp
        obtain ⟨ti', h1, _, h3⟩ := keyP_ok hC em 20 t _ vs h hvs
        rw [hti] at h1; cases h1
        have := h3 10000 (by omega)
        rw [hr] at this
        simpa [vAt] using this
      · cases h
    | false =>
      simp only [hr, cond_false, Bool.and_eq_true] at h
      obtain ⟨ti', h1, _, h3⟩ := keyP_ok hC em 20 t _ [v] h.2 (pr_cells h.1 hp)
      rw [hti] at h1; cases h1
      have := h3 10000 (by omega)
      rw [hr] at this
      simpa [vAt] using this
theorem eqC1_same {p q : PV} {v u : Value} (h : eqC1 p q = true) (hp : PR w Y p v) (hq : PR w Y q u) : v = u ∧ ∀ n, Instr.sameBits n v v = true := by
  cases p <;> cases q <;> first | (simp [eqC1] at h; done) | skip
  · simp only [eqC1, Bool.and_eq_true, decide_eq_true_eq] at h
    simp only [PR] at hp hq; subst hp; subst hq
    rw [kindEq_eq h.1, h.2]; exact ⟨rfl, fun n => by cases n <;> simp [Instr.sameBits]⟩
  · simp only [eqC1, beq_iff_eq] at h
    simp only [PR] at hp hq; subst hp; subst hq
    rw [h]; exact ⟨rfl, fun n => by cases n <;> simp [Instr.sameBits]⟩
  · simp only [eqC1, decide_eq_true_eq] at h
    simp only [PR] at hp hq; subst hp; subst hq
    rw [bytes_eq h]; refine ⟨rfl, fun n => ?_⟩
    cases n <;> simp [Instr.sameBits, beq_toListBytes]
theorem eqCL_same : ∀ {x y : List PV} {vs us : List Value}, eqCL x y = true → PRL w Y x vs → PRL w Y y us → vs = us ∧ ∀ n, (vs.zip vs).all (fun (a, b) => Instr.sameBits n a b) = true
  | [], [], vs, us, _, hx, hy => by
    simp only [PRL] at hx hy; subst hx; subst hy; simp
  | p :: x, q :: y, vs, us, h, hx, hy => by
    simp only [eqCL, Bool.and_eq_true] at h
    simp only [PRL] at hx hy
    obtain ⟨v, r, rfl, _, h1, h2⟩ := hx
    obtain ⟨u, s, rfl, _, k1, k2⟩ := hy
    obtain ⟨e, hb⟩ := eqC1_same h.1 h1 k1
    obtain ⟨e2, hb2⟩ := eqCL_same h.2 h2 k2
    refine ⟨by rw [e, e2], fun n => ?_⟩
    simp only [List.zip_cons_cons, List.all_cons, hb n, Bool.true_and]
    exact hb2 n
  | [], _ :: _, _, _, h, _, _ => by simp [eqCL] at h
  | _ :: _, [], _, _, h, _, _ => by simp [eqCL] at h
theorem eqC_same {p q : PV} {v u : Value} (h : eqC p q = true) (hp : PR w Y p v) (hq : PR w Y q u) : v = u ∧ Instr.sameBits 10000 v v = true := by
  unfold eqC at h
  split at h
  · simp only [PR] at hp hq
    obtain ⟨vs, rfl, hvs⟩ := hp
    obtain ⟨us, rfl, hus⟩ := hq
    obtain ⟨e, hb⟩ := eqCL_same h hvs hus
    refine ⟨by rw [e], ?_⟩
    have := hb 9999
    simp only [Instr.sameBits]
    simpa using this
  · cases h
  · cases h
  · obtain ⟨e, hb⟩ := eqC1_same h hp hq
    exact ⟨e, hb _⟩
theorem mapTy_ok (hC : CfgOK P C) {t k e : Nat} (h : mapTy C t = some (k, e)) : P.underlying t = some (.map k e) := by
  unfold mapTy at h
  split at h
  · rename_i ti hti
    split at h
    · rename_i k' e' hk
      simp only [Option.some.injEq, Prod.mk.injEq] at h; obtain ⟨rfl, rfl⟩ := h
      exact und_map (hC.ty t ti hti) hk
    · cases h
  · cases h
theorem zeroOf_ok (hC : CfgOK P C) {e : Nat} {z : PV} (h : zeroOf C e = some z) : ∃ u, (∀ w : World, (zeroValue e).run P w = .ok u w) ∧ ∀ (w : World) (Y : Nat → Prop), PR w Y z u := by
  unfold zeroOf at h
  cases hti : C.ty e with
  | none => simp [hti] at h
  | some ti =>
    simp only [hti] at h
    obtain ⟨i, u, hi, hz, h1, h2⟩ := tyOK_zero (hC.ty e ti hti)
    refine ⟨u, fun w => by simp [zeroValue, typeInfo, hi, hz], fun w Y => ?_⟩
    cases hr : ti.k.row with
    | true =>
      simp only [hr, cond_true, Option.some.injEq] at h; subst h
      obtain ⟨vs, rfl, hp⟩ := h1 hr
      simp only [PR]; exact ⟨vs, rfl, hp w Y⟩
    | false =>
      simp only [hr, cond_false] at h
      split at h
      · rename_i z' hz'
        simp only [Option.some.injEq] at h; subst h
        have := h2 hr w Y
        rw [hz'] at this
        obtain ⟨v, e, _, hp⟩ := prl_one this
        cases e; exact hp
      · cases h
theorem und_of_keyV (hC : CfgOK P C) {kt : Nat} {k : PV} (h : keyV C.ty kt k = true) : ∃ kd, P.underlying kt = some kd := by
  unfold keyV at h
  split at h
  · cases h
  · rename_i ti hti
    obtain ⟨u, hu, _⟩ := tyOK_und (hC.ty kt ti hti)
    exact ⟨u, hu⟩
theorem mapOf_ok (hH : HR X φ H w) {x : AV} {kvs : List (PV × PV)} {v : Value} (h : mapOf H x = some kvs) (hx : VR w (YOf X φ) φ x v) :
    (v = .map none ∧ kvs = []) ∨ ∃ b es, v = .map (some b) ∧ w.heap[b]? = some (.map es es.size) ∧ MR w (YOf X φ) 0 kvs es.toList := by
  unfold mapOf at h
  split at h
  · simp only [Option.some.injEq] at h; subst h
    simp only [VR, PR] at hx
    exact .inl ⟨hx, rfl⟩
  · split at h
    · rename_i kvs' ho
      simp only [Option.some.injEq] at h; subst h
      obtain ⟨z, l, hl, hO⟩ := hH.ob _ _ ho
      simp only [VR] at hx
      obtain ⟨b, hA, hv⟩ := hx.2.2 _ l hl
      simp only [OR] at hO
      obtain ⟨_, b', es, hA', hg, hm⟩ := hO
      rw [hA] at hA'; cases hA'
      exact .inr ⟨b, es, hv, hg, hm⟩
    · cases h
  · cases h
theorem g_lookup (hC : CfgOK P C) (hH : HR X φ H w) {t : Nat} {x k : Operand} {ok : Bool} {v : AV} (h : evLookup C H t (ra x) (ra k) ok = some v) (hx : VR w (YOf X φ) φ (ra x) (ρ x)) (hk : VR w (YOf X φ) φ (ra k) (ρ k)) :
    ∃ u, (execOp ρ ⟨d, .lookup t x k ok, ty, pos, af, g⟩).run P w = .ok (.value u) w ∧ VR w (YOf X φ) φ v u := by
  unfold evLookup at h
  split at h
  · rename_i kt e kp kvs hmt hkp hkv
    rw [hkp] at hk
    simp only [VR] at hk
    cases hkk : keyV C.ty kt kp with
    | false => simp [hkk] at h
    | true =>
      simp only [hkk, cond_true] at h
      have hu := mapTy_ok hC hmt
      obtain ⟨kd, hkd⟩ := und_of_keyV hC hkk
      have hck := fun em => keyV_ok (w := w) hC hkk hk em
      have main : ∀ es : Array MapEntry, MR w (YOf X φ) 0 kvs es.toList → ((ρ x = .map none ∧ es = #[]) ∨ ∃ b, ρ x = .map (some b) ∧ (getObj b).run P w = .ok (.map es es.size) w) →
          ∃ u, (Instr.lookup t (ρ x) (ρ k) ok).run P w = .ok u w ∧ VR w (YOf X φ) φ v u := by
        intro es hm hes
        cases hf : mfind C.ty kt kp kvs 0 with
        | none => simp [hf] at h
        | some r =>
          obtain ⟨r', hr, hfk⟩ := findKey_ok hC hkd hk hf hm
          simp only [hf] at h
          cases r with
          | none =>
            cases r' with
            | some _ => exact hr.elim
            | none =>
              simp only at h
              cases hz : zeroOf C e with
              | none => simp [hz] at h
              | some z =>
                simp only [hz, Option.some.injEq] at h; subst h
                obtain ⟨u, h1, h2⟩ := zeroOf_ok hC hz
                refine ⟨if ok then .tuple #[u, .bool false] else u, ?_, ?_⟩
                · have h1 := h1 w
                  rcases hes with ⟨hv, rfl⟩ | ⟨b, hv, hgo⟩
                  · have hfk' : (Instr.findKey kt (ρ k) []).run P w = .ok none w := hfk
                    have hck' := hck true
                    simp [Instr.lookup, hv, run_underlying hu, hck', hfk', h1]
                  · simp [Instr.lookup, hv, run_underlying hu, hgo, hck, hfk, h1]
                · cases ok
                  · simpa only [cond_false, VR, Bool.false_eq_true, if_false] using h2 w _
                  · simp only [cond_true, VR, VRT, if_true]
                    exact ⟨_, rfl, u, _, rfl, h2 w _, .bool false, [], rfl, by simp only [PR], rfl⟩
          | some p =>
            cases r' with
            | none => exact hr.elim
            | some p' =>
              obtain ⟨i, x'⟩ := p
              obtain ⟨j, u⟩ := p'
              simp only [Option.some.injEq] at h; subst h
              refine ⟨if ok then .tuple #[u, .bool true] else u, ?_, ?_⟩
              · rcases hes with ⟨hv, rfl⟩ | ⟨b, hv, hgo⟩
                · have hfk' : (Instr.findKey kt (ρ k) []).run P w = .ok (some (j, u)) w := hfk
                  have hck' := hck true
                  simp [Instr.lookup, hv, run_underlying hu, hck', hfk']
                · simp [Instr.lookup, hv, run_underlying hu, hgo, hck, hfk]
              · cases ok
                · simpa only [cond_false, VR, Bool.false_eq_true, if_false] using hr.2
                · simp only [cond_true, VR, VRT, if_true]
                  exact ⟨_, rfl, u, _, rfl, hr.2, .bool true, [], rfl, by simp only [PR], rfl⟩
      have fin : ∃ u, (Instr.lookup t (ρ x) (ρ k) ok).run P w = .ok u w ∧ VR w (YOf X φ) φ v u := by
        rcases mapOf_ok hH hkv hx with ⟨hv, rfl⟩ | ⟨b, es, hv, hg, hm⟩
        · exact main #[] (by simp [MR]) (.inl ⟨hv, rfl⟩)
        · exact main es hm (.inr ⟨b, hv, by simp [getObj, Sem.run, hg]⟩)
      obtain ⟨u, h1, h2⟩ := fin
      exact ⟨u, by simp [execOp, h1], h2⟩
  · cases h
theorem MR.append : ∀ {kvs : List (PV × PV)} {es : List MapEntry} {i : Nat} {k x : PV} {e : MapEntry}, MR w Y i kvs es → e.born = i + kvs.length → PR w Y k e.key → PR w Y x e.val → MR w Y i (kvs ++ [(k, x)]) (es ++ [e])
  | [], es, i, k, x, e, h, hb, hk, hx => by
    simp only [MR] at h; subst h
    simp only [List.nil_append, MR]
    exact ⟨e, [], rfl, by simpa using hb, hk, hx, rfl⟩
  | (q, y) :: kvs, es, i, k, x, e, h, hb, hk, hx => by
    simp only [MR] at h
    obtain ⟨e0, es', rfl, h1, h2, h3, h4⟩ := h
    simp only [List.cons_append, MR]
    exact ⟨e0, _, rfl, h1, h2, h3, MR.append h4 (by simp at hb; omega) hk hx⟩
theorem MR.set : ∀ {kvs : List (PV × PV)} {es : List MapEntry} {i j : Nat} {k x : PV} {f : MapEntry → MapEntry}, MR w Y i kvs es → (∀ e, es[j]? = some e → (f e).born = e.born ∧ PR w Y k (f e).key ∧ PR w Y x (f e).val) → MR w Y i (kvs.set j (k, x)) (es.modify j f)
  | [], es, i, j, k, x, f, h, _ => by
    simp only [MR] at h; subst h
    simp [MR]
  | (q, y) :: kvs, es, i, 0, k, x, f, h, hf => by
    simp only [MR] at h
    obtain ⟨e0, es', rfl, h1, h2, h3, h4⟩ := h
    obtain ⟨k1, k2, k3⟩ := hf e0 (by simp)
    simp only [List.set_cons_zero, List.modify_zero_cons, MR]
    exact ⟨f e0, es', rfl, k1.trans h1, k2, k3, h4⟩
  | (q, y) :: kvs, es, i, j + 1, k, x, f, h, hf => by
    simp only [MR] at h
    obtain ⟨e0, es', rfl, h1, h2, h3, h4⟩ := h
    simp only [List.set_cons_succ, List.modify_succ_cons, MR]
    exact ⟨e0, _, rfl, h1, h2, h3, MR.set h4 (fun e he => hf e (by simpa using he))⟩
theorem MR.at : ∀ {kvs : List (PV × PV)} {es : List MapEntry} {i j : Nat} {k x : PV}, MR w Y i kvs es → kvs[j]? = some (k, x) → ∃ e, es[j]? = some e ∧ e.born = i + j ∧ PR w Y k e.key ∧ PR w Y x e.val
  | [], es, i, j, k, x, _, h => by simp at h
  | (q, y) :: kvs, es, i, 0, k, x, h, hj => by
    simp only [MR] at h
    obtain ⟨e0, es', rfl, h1, h2, h3, h4⟩ := h
    simp at hj; obtain ⟨rfl, rfl⟩ := hj
    exact ⟨e0, by simp, h1, h2, h3⟩
  | (q, y) :: kvs, es, i, j + 1, k, x, h, hj => by
    simp only [MR] at h
    obtain ⟨e0, es', rfl, h1, h2, h3, h4⟩ := h
    obtain ⟨e, k1, k2, k3⟩ := MR.at h4 (by simpa using hj)
    exact ⟨e, by simpa using k1, by omega, k3⟩
theorem map_ob (hH : HR X φ H w) {o : Nat} {kvs : List (PV × PV)} (ho : hget H o = some (.map kvs)) : ∃ l b es, φ o = .at false l ∧ l.A = some (b, 0) ∧ w.heap[b]? = some (.map es es.size) ∧ MR w (YOf X φ) 0 kvs es.toList := by
  obtain ⟨z, l, hl, hO⟩ := hH.ob _ _ ho
  simp only [OR] at hO
  obtain ⟨rfl, b, es, hA, hg, hm⟩ := hO
  exact ⟨l, b, es, hl, hA, hg, hm⟩
theorem set_far {b : Nat} {ob : Obj} (_ : b < w.heap.size) : ∀ k, k ≠ b → ({ w with heap := w.heap.setIfInBounds b ob } : World).heap[k]? = w.heap[k]? := fun k hk => by
  simp [Array.getElem?_setIfInBounds_ne (Ne.symm hk)]
theorem good_put {r : Result Next} {o b p : Nat} {l : Loc} {x : Ob} {v : AV} {v' : Value} (hH : HR X φ H w) (hl : φ o = .at false l) (hA : l.A = some (b, p)) (hr : r = .ok (.value v') w') (hos : w'.os = w.os) (htape : w'.tape = w.tape) (hout : w'.output = w.output ∧ w.drawn ≤ w'.drawn) (hsize : w'.heap.size = w.heap.size)
    (hg : ∀ k, k ≠ b → w'.heap[k]? = w.heap[k]?) (hO : Ev φ w φ w' → OR w' (YOf X φ) φ false l x) (hv : Ev φ w φ w' → VR w' (YOf X φ) φ v v') : Good nid H X φ w v (hset H o (some x)) r := by
  have ev := Ev.write (w := w) (w' := w') hl hA hos htape hout hsize hg
  exact ⟨_, v', w', φ, hr, .inl rfl, hv ev, hH.write hl hA hos htape hout hsize hg (hO ev), ev, by rw [length_set]; exact Nat.le_refl _, fun _ _ h => h⟩
theorem mset_ok (hC : CfgOK P C) {kt e : Nat} {t : Nat} (ht : P.underlying t = some (.map kt e)) {k x : PV} {kv xv : Value} {kvs kvs' : List (PV × PV)} {b : Nat} {es : Array MapEntry} (hk : PR w Y k kv) (hx : PR w Y x xv)
    (h : mset C.ty kt k x kvs = some kvs') (hg : w.heap[b]? = some (.map es es.size)) (hm : MR w Y 0 kvs es.toList) :
    ∃ es' : Array MapEntry, (Instr.mapUpdate t (.map (some b)) kv xv).run P w = .ok () { w with heap := w.heap.setIfInBounds b (.map es' es'.size) } ∧ MR w Y 0 kvs' es'.toList := by
  unfold mset at h
  cases hkk : keyV C.ty kt k with
  | false => simp [hkk] at h
  | true =>
    simp only [hkk, cond_true] at h
    obtain ⟨kd, hkd⟩ := und_of_keyV hC hkk
    have hck := keyV_ok (w := w) hC hkk hk false
    cases hf : mfind C.ty kt k kvs 0 with
    | none => simp [hf] at h
    | some r =>
      obtain ⟨r', hr, hfk⟩ := findKey_ok hC hkd hk hf hm
      have hget : (getObj b).run P w = .ok (.map es es.size) w := by simp [getObj, Sem.run, hg]
      have hset : ∀ ob, (setObj b ob).run P w = .ok () { w with heap := w.heap.setIfInBounds b ob } := fun ob => by simp [setObj, Sem.run, hg]
      simp only [hf] at h
      cases r with
      | none =>
        cases r' with
        | some _ => exact hr.elim
        | none =>
          simp only [Option.some.injEq] at h; subst h
          refine ⟨es.push { key := kv, val := xv, born := es.size }, ?_, ?_⟩
          · simp only [Instr.mapUpdate, Sem.run_bind, run_underlying ht, Result.andThen_ok, hget, hck, hfk, hset, Array.size_push]
          · have hl := hm.length
            simp only [Array.toList_push]
            exact hm.append (by simp at hl ⊢; omega) hk hx
      | some p =>
        cases r' with
        | none => exact hr.elim
        | some p' =>
          obtain ⟨i, y⟩ := p
          obtain ⟨j, u⟩ := p'
          obtain ⟨rfl, _⟩ := hr
          simp only at h
          cases hi : kvs[i]? with
          | none => simp [hi] at h
          | some q =>
            obtain ⟨q, z⟩ := q
            simp only [hi] at h
            cases hq : eqC k q with
            | false => simp [hq] at h
            | true =>
              simp only [hq, cond_true, Option.some.injEq] at h; subst h
              obtain ⟨e0, h1, _, h3, _⟩ := hm.at hi
              obtain ⟨hkq, hbits⟩ := eqC_same hq hk h3
              have h1' : es[i]? = some e0 := by simpa using h1
              refine ⟨es.modify i fun e => { e with key := kv, val := xv }, ?_, ?_⟩
              · have hst : (Instr.keyThatStays (((es[i]?).map (·.key)).getD kv) kv).run P w = .ok kv w := by
                  rw [h1']
                  simp only [Option.map_some, Option.getD_some, Instr.keyThatStays, ← hkq, hbits, if_true, Sem.run_pure]
                simp only [Instr.mapUpdate, Sem.run_bind, run_underlying ht, Result.andThen_ok, hget, hck, hfk, hst, hset, Array.size_modify]
              · rw [Array.toList_modify]
                exact hm.set fun e he => ⟨rfl, by rw [hkq]; exact h3, hx⟩
theorem g_mapUpdate (hC : CfgOK P C) (hH : HR X φ H w) {t : Nat} {x k y : Operand} {op : Op} (hop : op = .mapUpdate t x k y ∨ op = .insert t x k y) {H1 : Hp} (h : evMapUpdate C H t (ra x) (ra k) (ra y) = some H1) (hρ : ∀ x, VR w (YOf X φ) φ (ra x) (ρ x)) :
    Good nid H X φ w (.tup []) H1 ((execOp ρ ⟨d, op, ty, pos, af, g⟩).run P w) := by
  have hx := hρ x
  have hk := hρ k
  unfold evMapUpdate at h
  split at h
  · rename_i kt e o kp p H2 hmt hxo hkp hpl
    obtain ⟨φ1, hH1, ev1, kp1, hps⟩ := plain_ok hH hpl (hρ y)
    refine Good.pre ev1 kp1 ?_
    split at h
    · rename_i kvs ho
      split at h
      · rename_i kvs' hms
        simp only [Option.some.injEq] at h; subst h
        have hu := mapTy_ok hC hmt
        obtain ⟨l, b, es, hl, hA, hg, hm⟩ := map_ob hH1 ho
        rw [hxo] at hx; rw [hkp] at hk
        have hx1 := VR.stay ev1 X _ _ hx
        have hk1 := VR.stay ev1 X _ _ hk
        simp only [VR] at hx1 hk1
        obtain ⟨b', hA', hv⟩ := hx1.2.2 _ l hl
        rw [hA] at hA'; cases hA'
        obtain ⟨es', hrun, hm'⟩ := mset_ok hC hu hk1 hps hms hg hm
        have hlt := heap_lt hg
        refine good_write hH1 hl hA (w' := { w with heap := w.heap.setIfInBounds b (.map es' es'.size) }) ?_ rfl rfl ⟨rfl, Nat.le_refl _⟩ (by simp) (set_far hlt) fun ev => ?_
        · rcases hop with rfl | rfl <;> simp [execOp, hv, hrun]
        · simp only [OR]
          exact ⟨trivial, b, es', hA, by simp [hlt], hm'.stay (ev.stay X)⟩
      · cases h
    · cases h
  · cases h
theorem g_mapEntry (hC : CfgOK P C) (hH : HR X φ H w) {t : Nat} {x k : Operand} {v : AV} {H1 : Hp} (h : evMapEntry C H t (ra x) (ra k) = some (v, H1)) (hρ : ∀ x, VR w (YOf X φ) φ (ra x) (ρ x)) :
    Good nid H X φ w v H1 ((execOp ρ ⟨d, .mapEntry t x k, ty, pos, af, g⟩).run P w) := by
  have hx := hρ x
  have hk := hρ k
  unfold evMapEntry at h
  split at h
  · rename_i kt e o kp hmt hxo hkp
    split at h
    · rename_i kvs ho
      split at h
      · rename_i z i kvs' hms
        simp only [Option.some.injEq, Prod.mk.injEq] at h; obtain ⟨rfl, rfl⟩ := h
        have hu := mapTy_ok hC hmt
        obtain ⟨l, b, es, hl, hA, hg, hm⟩ := map_ob hH ho
        rw [hxo] at hx; rw [hkp] at hk
        simp only [VR] at hx hk
        obtain ⟨b', hA', hv⟩ := hx.2.2 _ l hl
        rw [hA] at hA'; cases hA'
        have hlt := heap_lt hg
        have hgo : (getObj b).run P w = .ok (.map es es.size) w := by simp [getObj, Sem.run, hg]
        have hso2 : ∀ ob, (setObj b ob).run P w = .ok () { w with heap := w.heap.setIfInBounds b ob } := fun ob => by simp [setObj, Sem.run, hg]
        have fin : ∀ (es' : Array MapEntry) (u : Value), (Instr.mapEntry t (.map (some b)) (ρ k)).run P w = .ok (.tuple #[u, .int .i64 (i : Int)]) { w with heap := w.heap.setIfInBounds b (.map es' es'.size) } → MR w (YOf X φ) 0 kvs' es'.toList → PR w (YOf X φ) z u →
            Good nid H X φ w (.tup [.pl z, .pl (.int .i64 (i : Int))]) (hset H o (some (.map kvs'))) ((execOp ρ ⟨d, .mapEntry t x k, ty, pos, af, g⟩).run P w) := by
          intro es' u hrun hm' hz
          refine good_put (v' := .tuple #[u, .int .i64 (i : Int)]) hH hl hA (w' := { w with heap := w.heap.setIfInBounds b (.map es' es'.size) }) (by simp only [execOp, hv, hrun, Sem.run_bind, Result.andThen_ok, Sem.run_pure]) rfl rfl ⟨rfl, Nat.le_refl _⟩ (by simp) (set_far hlt) (fun ev => ?_) (fun ev => ?_)
          · simp only [OR]
            exact ⟨trivial, b, es', hA, by simp [hlt], hm'.stay (ev.stay X)⟩
          · simp only [VR, VRT]
            exact ⟨_, rfl, u, _, rfl, PR.stay (ev.stay X) _ _ hz, .int .i64 (i : Int), [], rfl, by simp only [VR, PR], rfl⟩
        unfold ment at hms
        cases hkk : keyV C.ty kt kp with
        | false => simp [hkk] at hms
        | true =>
          simp only [hkk, cond_true] at hms
          obtain ⟨kd, hkd⟩ := und_of_keyV hC hkk
          have hck := keyV_ok (w := w) hC hkk hk false
          cases hf : mfind C.ty kt kp kvs 0 with
          | none => simp [hf] at hms
          | some r =>
            obtain ⟨r', hr, hfk⟩ := findKey_ok hC hkd hk hf hm
            simp only [hf] at hms
            cases r with
            | none =>
              cases r' with
              | some _ => exact hr.elim
              | none =>
                simp only at hms
                cases hz : zeroOf C e with
                | none => simp [hz] at hms
                | some z' =>
                  simp only [hz, Option.some.injEq, Prod.mk.injEq] at hms; obtain ⟨rfl, rfl, rfl⟩ := hms
                  obtain ⟨u, h1, h2⟩ := zeroOf_ok hC hz
                  have hl' := hm.length
                  refine fin (es.push { key := ρ k, val := u, born := es.size }) u ?_ ?_ (h2 _ _)
                  · simp only [Instr.mapEntry, Sem.run_bind, run_underlying hu, Result.andThen_ok, hgo, hck, hfk, h1, hso2, Array.size_push, Sem.run_pure, goInt]
                    simp at hl'
                    rw [hl']
                  · simp only [Array.toList_push]
                    exact hm.append (by simp at hl' ⊢; omega) hk (h2 _ _)
            | some p =>
              cases r' with
              | none => exact hr.elim
              | some p' =>
                obtain ⟨j, y⟩ := p
                obtain ⟨j', u⟩ := p'
                obtain ⟨rfl, hyu⟩ := hr
                simp only at hms
                cases hi : kvs[j]? with
                | none => simp [hi] at hms
                | some q =>
                  obtain ⟨q, z0⟩ := q
                  simp only [hi] at hms
                  cases hq : eqC kp q with
                  | false => simp [hq] at hms
                  | true =>
                    simp only [hq, cond_true, Option.some.injEq, Prod.mk.injEq] at hms; obtain ⟨rfl, rfl, rfl⟩ := hms
                    obtain ⟨e0, h1, hb0, h3, h4⟩ := hm.at hi
                    obtain ⟨hkq, hbits⟩ := eqC_same hq hk h3
                    have h1' : es[j]? = some e0 := by simpa using h1
                    refine fin (es.modify j fun e => { e with key := ρ k }) u ?_ ?_ hyu
                    · have hst : (Instr.keyThatStays (((es[j]?).map (·.key)).getD (ρ k)) (ρ k)).run P w = .ok (ρ k) w := by
                        rw [h1']
                        simp only [Option.map_some, Option.getD_some, Instr.keyThatStays, ← hkq, hbits, if_true, Sem.run_pure]
                      have hbn : ((es[j]?).map fun x => (x.born : Int)).getD 0 = (j : Int) := by rw [h1']; simp; omega
                      simp only [Instr.mapEntry, Sem.run_bind, run_underlying hu, Result.andThen_ok, hgo, hck, hfk, hst, hso2, Array.size_modify, Sem.run_pure, goInt, hbn]
                    · rw [Array.toList_modify]
                      have := hm.set (j := j) (k := q) (x := z0) (f := fun e => { e with key := ρ k }) fun e he => by
                        rw [h1] at he; cases he
                        exact ⟨rfl, by rw [hkq]; exact h3, h4⟩
                      rw [show kvs.set j (q, z0) = kvs from by
                        apply List.ext_getElem?
                        intro m
                        rw [List.getElem?_set]
                        by_cases e : j = m
                        · subst e
                          rw [if_pos rfl, hi]
                          have := (List.getElem?_eq_some_iff.1 hi).1
                          rw [if_pos this]
                        · rw [if_neg e]] at this
                      exact this
      · cases h
    · cases h
  · cases h
theorem g_entryStore (hH : HR X φ H w) {t : Nat} {x s y : Operand} {H1 : Hp} (h : evEntryStore H (ra x) (ra s) (ra y) = some H1) (hρ : ∀ x, VR w (YOf X φ) φ (ra x) (ρ x)) :
    Good nid H X φ w (.tup []) H1 ((execOp ρ ⟨d, .entryStore t x s y, ty, pos, af, g⟩).run P w) := by
  have hx := hρ x
  have hs := hρ s
  unfold evEntryStore at h
  split at h
  · rename_i o k n p H2 hxo hso hpl
    obtain ⟨φ1, hH1, ev1, kp1, hps⟩ := plain_ok hH hpl (hρ y)
    refine Good.pre ev1 kp1 ?_
    split at h
    · rename_i kvs i ho hn
      split at h
      · rename_i kp z hi
        simp only [Option.some.injEq] at h; subst h
        obtain ⟨l, b, es, hl, hA, hg, hm⟩ := map_ob hH1 ho
        rw [hxo] at hx; rw [hso] at hs
        have hx1 := VR.stay ev1 X _ _ hx
        simp only [VR, PR] at hx1 hs
        obtain ⟨b', hA', hv⟩ := hx1.2.2 _ l hl
        rw [hA] at hA'; cases hA'
        have hlt := heap_lt hg
        have hgo : (getObj b).run P w = .ok (.map es es.size) w := by simp [getObj, Sem.run, hg]
        have hso2 : ∀ ob, (setObj b ob).run P w = .ok () { w with heap := w.heap.setIfInBounds b ob } := fun ob => by simp [setObj, Sem.run, hg]
        obtain ⟨e0, h1, hb0, h3, h4⟩ := hm.at hi
        have hn' := natOf_eq hn
        have hfi : es.findIdx? (fun e => (e.born : Int) == n) = some i := by
          have hi' : i < es.size := by
            have := (List.getElem?_eq_some_iff.1 h1).1; simpa using this
          rw [Array.findIdx?_eq_some_iff_getElem]
          refine ⟨hi', ?_, fun j hj => ?_⟩
          · have : es[i] = e0 := by
              have := (List.getElem?_eq_some_iff.1 h1).2; simpa using this
            rw [this, hb0, hn']; simp
          · have hjk : j < kvs.length := by
              have := hm.length; simp at this; omega
            obtain ⟨ej, k1, k2, _⟩ := hm.at (j := j) (k := kvs[j].1) (x := kvs[j].2) (by rw [List.getElem?_eq_getElem hjk])
            have : es[j]'(by omega) = ej := by
              have := (List.getElem?_eq_some_iff.1 k1).2; simpa using this
            rw [this, k2, hn']
            simp; omega
        refine good_write hH1 hl hA (w' := { w with heap := w.heap.setIfInBounds b (.map (es.modify i fun e => { e with val := ρ y }) es.size) }) ?_ rfl rfl ⟨rfl, Nat.le_refl _⟩ (by simp) (set_far hlt) fun ev => ?_
        · simp only [execOp, Instr.entryStore, hv, Sem.run_bind, hgo, Result.andThen_ok, hs, asInt, asIntOf, Sem.run_pure, hfi, hso2]
        · simp only [OR]
          refine ⟨trivial, b, es.modify i fun e => { e with val := ρ y }, hA, by simp [hlt], ?_⟩
          rw [Array.toList_modify]
          have hm' := hm.stay (ev.stay X)
          exact hm'.set fun e he => by
            rw [h1] at he; cases he
            exact ⟨rfl, PR.stay (ev.stay X) _ _ h3, PR.stay (ev.stay X) _ _ hps⟩
      · cases h
    · cases h
  · cases h
theorem good_fresh {r : Result Next} {n : Nat} {ob : Obj} {v : AV} {v' : Value} {x : Ob} (hH : HR X φ H w) (hf : Free φ H n) (hr : r = .ok (.value v') (w.alloc ob))
    (hO : Ev φ w (φ.set n (.at false ⟨some (w.heap.size, 0), 0, 0, 0⟩)) (w.alloc ob) → OR (w.alloc ob) (YOf X (φ.set n (.at false ⟨some (w.heap.size, 0), 0, 0, 0⟩))) (φ.set n (.at false ⟨some (w.heap.size, 0), 0, 0, 0⟩)) false ⟨some (w.heap.size, 0), 0, 0, 0⟩ x)
    (hv : VR (w.alloc ob) (YOf X (φ.set n (.at false ⟨some (w.heap.size, 0), 0, 0, 0⟩))) (φ.set n (.at false ⟨some (w.heap.size, 0), 0, 0, 0⟩)) v v') : Good n H X φ w v (hput H n x) r := by
  have ev : Ev φ w (φ.set n (.at false ⟨some (w.heap.size, 0), 0, 0, 0⟩)) (w.alloc ob) := Ev.new hf.fr _ _ (fun b p e => by cases e; exact Nat.le_refl _)
  exact ⟨_, _, _, φ.set n (.at false ⟨some (w.heap.size, 0), 0, 0, 0⟩), hr, .inl rfl, hv, hH.new hf _ _ x (fun b p e => by cases e; rfl) (hO ev), ev, (length_put' hf.le).1, fun k hk h => by rw [Phi.set_ne hk]; exact h⟩
theorem g_makeMap (hH : HR X φ H w) (hf : Free φ H nid) {t : Nat} : Good nid H X φ w (.mp nid) (hput H nid (.map [])) ((execOp ρ ⟨d, .makeMap t none, ty, pos, af, g⟩).run P w) := by
  refine good_fresh hH hf (ob := .map #[] 0) (v' := .map (some w.heap.size)) (by simp [execOp, Instr.makeMap]) (fun ev => ?_) ?_
  · simp only [OR, MR]
    exact ⟨trivial, _, #[], rfl, heap_alloc_new w _, rfl⟩
  · simp only [VR]
    refine ⟨rfl, (by rw [Phi.set_self]; intro h; cases h), fun _ l' hl' => ?_⟩
    rw [Phi.set_self] at hl'; cases hl'
    exact ⟨_, rfl, rfl⟩
theorem g_range (hC : CfgOK P C) (hH : HR X φ H w) (hf : Free φ H nid) {t : Nat} {x : Operand} {v : AV} {H1 : Hp} (h : evRange C nid H t (ra x) = some (v, H1)) (hx : VR w (YOf X φ) φ (ra x) (ρ x)) :
    Good nid H X φ w v H1 ((execOp ρ ⟨d, .range t x, ty, pos, af, g⟩).run P w) := by
  unfold evRange at h
  split at h
  · rename_i o hxo
    split at h
    · rename_i kt kvs hmt ho
      simp only [Option.some.injEq, Prod.mk.injEq] at h; obtain ⟨rfl, rfl⟩ := h
      obtain ⟨kt, e⟩ := kt
      have hu := mapTy_ok hC hmt
      obtain ⟨l, b, es, hl, hA, hg, hm⟩ := map_ob hH ho
      rw [hxo] at hx
      simp only [VR] at hx
      obtain ⟨b', hA', hv⟩ := hx.2.2 _ l hl
      rw [hA] at hA'; cases hA'
      have hlen := hm.length
      simp at hlen
      have hne : o ≠ nid := fun e => by rw [e, hf.fr] at hl; cases hl
      refine good_fresh hH hf (ob := .mapIter (some b) es.size #[] es.size) (v' := .pointer (some ⟨w.heap.size, 0, none⟩)) ?_ (fun ev => ?_) ?_
      · have hgo : (getObj b).run P w = .ok (.map es es.size) w := by simp [getObj, Sem.run, hg]
        simp [execOp, Instr.range, hv, run_underlying hu, hgo]
      · simp only [OR]
        refine ⟨trivial, _, rfl, ?_, fun z lo hlo => ?_⟩
        · rw [Phi.set_ne hne, hl]; intro h; cases h
        · rw [Phi.set_ne hne, hl] at hlo; cases hlo
          exact ⟨b, hA, by rw [heap_alloc_new, hlen]⟩
      · simp only [VR]
        refine ⟨rfl, (by rw [Phi.set_self]; intro h; cases h), fun _ l' hl' => ?_⟩
        rw [Phi.set_self] at hl'; cases hl'
        exact ⟨_, rfl, rfl⟩
    · cases h
  · cases h
theorem iter_ob (hH : HR X φ H w) {i o n : Nat} {seen : List Nat} {kvs : List (PV × PV)} (hi : hget H i = some (.iter o n seen)) (ho : hget H o = some (.map kvs)) :
    ∃ l li b bi es, φ o = .at false l ∧ l.A = some (b, 0) ∧ w.heap[b]? = some (.map es es.size) ∧ MR w (YOf X φ) 0 kvs es.toList ∧ φ i = .at false li ∧ li.A = some (bi, 0) ∧ w.heap[bi]? = some (.mapIter (some b) n seen.toArray n) := by
  obtain ⟨l, b, es, hl, hA, hg, hm⟩ := map_ob hH ho
  obtain ⟨z, li, hli, hO⟩ := hH.ob _ _ hi
  simp only [OR] at hO
  obtain ⟨rfl, bi, hAi, _, hm2⟩ := hO
  obtain ⟨m, hA2, hgi⟩ := hm2 _ l hl
  rw [hA] at hA2; cases hA2
  exact ⟨l, li, b, bi, es, hl, hA, hg, hm, hli, hAi, hgi⟩
theorem g_entry (hH : HR X φ H w) {x : Operand} {v : AV} (h : evEntry H (ra x) = some v) (hx : VR w (YOf X φ) φ (ra x) (ρ x)) :
    ∃ u, (execOp ρ ⟨d, .entry x, ty, pos, af, g⟩).run P w = .ok (.value u) w ∧ VR w (YOf X φ) φ v u := by
  unfold evEntry at h
  split at h
  · rename_i i hxo
    split at h
    · rename_i o n seen hi
      split at h
      · rename_i kvs j ho hj
        cases hb : Nat.beq kvs.length n with
        | false => simp [hb] at h
        | true =>
          simp only [hb, cond_true] at h
          simp only [Nat.beq_eq] at hb
          split at h
          · rename_i k y hk
            simp only [Option.some.injEq] at h; subst h
            obtain ⟨l, li, b, bi, es, hl, hA, hg, hm, hli, hAi, hgi⟩ := iter_ob hH hi ho
            rw [hxo] at hx
            simp only [VR] at hx
            obtain ⟨b', hA', hv⟩ := hx.2.2 _ li hli
            rw [hAi] at hA'; cases hA'
            obtain ⟨e0, h1, hb0, h3, h4⟩ := hm.at hk
            have hlen := hm.length
            simp at hlen
            have hback : seen.toArray.back? = some j := by
              simp [Array.back?, List.getLast?_eq_getElem?] at hj ⊢; exact hj
            have hfind : es.find? (fun e => e.born == j) = some e0 := by
              have hj' : j < es.size := by
                have := (List.getElem?_eq_some_iff.1 h1).1; simpa using this
              rw [← Array.find?_toList]
              rw [List.find?_eq_some_iff_getElem]
              refine ⟨by rw [hb0]; simp, j, by simpa using hj', ?_, fun m hm' => ?_⟩
              · have := (List.getElem?_eq_some_iff.1 h1).2; exact this
              · have hmk : m < kvs.length := by omega
                obtain ⟨em, k1, k2, _⟩ := hm.at (j := m) (k := kvs[m].1) (x := kvs[m].2) (by rw [List.getElem?_eq_getElem hmk])
                have := (List.getElem?_eq_some_iff.1 k1).2
                rw [this, k2]
                simp; omega
            refine ⟨.tuple #[e0.key, e0.val], ?_, ?_⟩
            · have hne : es.size = n := by omega
              simp [execOp, Instr.entry, hv, getObj, Sem.run, hgi, hback, hg, hne, hfind]
            · simp only [VR, VRT]
              exact ⟨_, rfl, _, _, rfl, h3, _, _, rfl, h4, rfl⟩
          · cases h
      · cases h
    · cases h
  · cases h
theorem g_next (hH : HR X φ H w) {x : Operand} {outs : List (AV × Hp)} (h : evNext H (ra x) = some outs) (hx : VR w (YOf X φ) φ (ra x) (ρ x)) :
    ∃ r ∈ outs, Good nid H X φ w r.1 r.2 ((execOp ρ ⟨d, .next x false, ty, pos, af, g⟩).run P w) := by
  unfold evNext at h
  split at h
  · rename_i i hxo
    split at h
    · rename_i o n seen hi
      split at h
      · rename_i kvs ho
        cases hb : Nat.beq kvs.length n with
        | false => simp [hb] at h
        | true =>
          simp only [hb, cond_true] at h
          simp only [Nat.beq_eq] at hb
          obtain ⟨l, li, b, bi, es, hl, hA, hg, hm, hli, hAi, hgi⟩ := iter_ob hH hi ho
          rw [hxo] at hx
          simp only [VR] at hx
          obtain ⟨b', hA', hv⟩ := hx.2.2 _ li hli
          rw [hAi] at hA'; cases hA'
          have hlen := hm.length
          simp at hlen
          have born : ∀ j (hj : j < es.size), es[j].born = j := fun j hj => by
            have hjk : j < kvs.length := by omega
            obtain ⟨em, k1, k2, _⟩ := hm.at (j := j) (k := kvs[j].1) (x := kvs[j].2) (by rw [List.getElem?_eq_getElem hjk])
            have := (List.getElem?_eq_some_iff.1 k1).2
            simp at this; rw [this, k2]; omega
          have hold : ∀ y ∈ es.toList, y.born < n := fun y hy => by
            obtain ⟨j, hj, e⟩ := List.getElem_of_mem hy
            have := born j (by simpa using hj)
            simp at e; rw [e] at this; simp at hj; omega
          have hexec : ∀ (u : Value) (w2 : World), (Instr.next (.pointer (some ⟨bi, 0, none⟩)) false ty).run P w = .ok u w2 → (execOp ρ ⟨d, .next x false, ty, pos, af, g⟩).run P w = .ok (.value u) w2 := fun u w2 hr => by
            simp [execOp, hv, hr]
          rcases run_next_at (P := P) w ty bi b n n seen.toArray es es.size hgi hg hold (Nat.le_refl _) with ⟨h0, hrun⟩ | ⟨e, he, w1, hw1, hrun⟩
          · have hall : (List.range n).filter (fun j => !(seen.any (Nat.beq j))) = [] := by
              rw [List.filter_eq_nil_iff]
              intro j hj hc
              rw [List.mem_range] at hj
              have hsz : j < es.size := by omega
              have hmem : es[j] ∈ leftOf es seen.toArray := by
                unfold leftOf
                rw [Array.mem_filter]
                refine ⟨Array.getElem_mem hsz, ?_⟩
                rw [born j hsz]
                simp only [Bool.not_eq_true', ← Bool.not_eq_true, List.any_eq_true] at hc
                simp only [Bool.not_eq_true', ← Bool.not_eq_true, List.contains_toArray, List.contains_iff_mem]
                exact fun hm => hc ⟨j, hm, by simp⟩
              have : (leftOf es seen.toArray) = #[] := Array.eq_empty_of_size_eq_zero h0
              rw [this] at hmem; simp at hmem
            rw [hall] at h
            simp only [Option.some.injEq] at h; subst h
            exact ⟨_, List.mem_singleton.2 rfl, good_val (hexec _ _ hrun) (by simp only [VR, VRT]; exact ⟨_, rfl, _, _, rfl, by simp only [PR], rfl⟩) hH⟩
          · have he2 : e ∈ es ∧ (!seen.toArray.contains e.born) = true := by
              unfold leftOf at he
              have : e ∈ Array.filter (fun e => !seen.toArray.contains e.born) es := by simpa using he
              rwa [Array.mem_filter] at this
            obtain ⟨j, hj, hej⟩ := Array.getElem_of_mem he2.1
            have hbj : e.born = j := by rw [← hej]; exact born j hj
            have hjn : j ∉ seen := by
              have := he2.2
              rw [hbj] at this
              simpa using this
            have hjm : j ∈ (List.range n).filter (fun j => !(seen.any (Nat.beq j))) := by
              rw [List.mem_filter]
              refine ⟨List.mem_range.2 (by omega), ?_⟩
              simp only [Bool.not_eq_true', ← Bool.not_eq_true, List.any_eq_true]
              rintro ⟨k, hk, hb2⟩
              have := Nat.eq_of_beq_eq_true hb2; subst this
              exact hjn hk
            have hjk : j < kvs.length := by omega
            obtain ⟨e', k1, _, k3, k4⟩ := hm.at (j := j) (k := kvs[j].1) (x := kvs[j].2) (by rw [List.getElem?_eq_getElem hjk])
            have hee : e' = e := by
              have := (List.getElem?_eq_some_iff.1 k1).2
              simp at this; rw [← this, hej]
            subst hee
            have hkj : kvs[j]? = some (kvs[j].1, kvs[j].2) := by rw [List.getElem?_eq_getElem hjk]
            have hl2 : ∃ l2 : List Nat, outs = l2.map (fun j => match kvs[j]? with | some (k, v) => (.tup [.pl (.bool true), .pl k, .pl v], hset H i (some (.iter o n (seen ++ [j])))) | none => (.un, H)) ∧ j ∈ l2 := by
              split at h
              · rename_i heq; rw [heq] at hjm; cases hjm
              · simp only [Option.some.injEq] at h
                exact ⟨_, h.symm, hjm⟩
            obtain ⟨l2, rfl, hj2⟩ := hl2
            refine ⟨_, List.mem_map.2 ⟨j, hj2, rfl⟩, ?_⟩
            simp only [hkj]
            have hlt := heap_lt hgi
            have hw1s : w1.heap = w.heap ∧ w1.os = w.os ∧ w1.tape = w.tape ∧ (w1.output = w.output ∧ w.drawn ≤ w1.drawn) := by rcases hw1 with rfl | rfl <;> first | exact ⟨rfl, rfl, rfl, rfl, Nat.le_refl _⟩ | exact ⟨rfl, rfl, rfl, rfl, Nat.le_succ _⟩
            obtain ⟨g1, g2, g3, g4⟩ := hw1s
            refine good_put hH hli hAi (w' := ChangeMaps.setBlock w1 bi (.mapIter (some b) n (seen.toArray.push e'.born) es.size)) (hexec _ _ hrun) g2 g3 g4 (by simp [ChangeMaps.setBlock, g1]) (fun k hk => by simp [ChangeMaps.setBlock, g1, Array.getElem?_setIfInBounds_ne (Ne.symm hk)]) (fun ev => ?_) (fun ev => ?_)
            · simp only [OR]
              refine ⟨trivial, bi, hAi, by rw [hl]; (intro h; cases h), fun z lo hlo => ?_⟩
              rw [hl] at hlo; cases hlo
              refine ⟨b, hA, ?_⟩
              have : es.size = n := by omega
              simp [ChangeMaps.setBlock, g1, hlt, hbj, this]
            · simp only [VR, VRT]
              exact ⟨_, rfl, _, _, rfl, by simp only [PR], _, _, rfl, PR.stay (ev.stay X) _ _ k3, _, _, rfl, PR.stay (ev.stay X) _ _ k4, rfl⟩
      · cases h
    · cases h
  · cases h

theorem PRLL.take {sz : Nat} : ∀ {es : List (List PV)} {vss : List (List Value)} (n : Nat), PRLL w Y sz es vss → PRLL w Y sz (es.take n) (vss.take n)
  | [], vss, n, h => by simp only [PRLL] at h; subst h; simp [PRLL]
  | e :: es, vss, 0, h => by simp [PRLL]
  | e :: es, vss, n + 1, h => by
    simp only [PRLL] at h
    obtain ⟨vs, r, rfl, h1, h2, h3⟩ := h
    simp only [List.take_succ_cons, PRLL]
    exact ⟨vs, _, rfl, h1, h2, PRLL.take n h3⟩
theorem rowOf_ok (hH : HR X φ H w) {a : AV} {v : Value} {o off len sz : Nat} {es : List (List PV)} (h : rowOf H a = some (o, off, len, sz, es)) (hv : VR w (YOf X φ) φ a v) :
    hget H o = some (.row false sz es) ∧ off + len ≤ es.length ∧ ∃ l A c, φ o = .at false l ∧ OR w (YOf X φ) φ false l (.row false sz es) ∧ v = .slice A len c ∧ len ≤ c ∧ (0 < len → A = l.addr off ∧ A ≠ none) := by
  unfold rowOf at h
  split at h
  · rename_i o'
    split at h
    · rename_i sz' es' ho
      simp only [Option.some.injEq, Prod.mk.injEq] at h; obtain ⟨rfl, rfl, rfl, rfl, rfl⟩ := h
      obtain ⟨z, l, hl, hO⟩ := hH.ob _ _ ho
      simp only [VR] at hv
      have he := hv.2.2 _ l hl
      have hO' := hO
      simp only [OR] at hO
      obtain ⟨rfl, h1, h2, h3, h4, h5⟩ := hO
      refine ⟨ho, by omega, l, _, _, hl, hO', by rw [he, h1], by omega, fun hpos => ⟨rfl, ?_⟩⟩
      rcases h5 with ⟨_, h6⟩ | ⟨b, p, t, cs, hA, _⟩
      · omega
      · simp [Loc.addr, hA]
    · cases h
  · rename_i o' off' len'
    split at h
    · rename_i sz' es' ho
      cases hb : Nat.ble (off' + len') es'.length with
      | false => simp [hb] at h
      | true =>
        simp only [hb, cond_true, Option.some.injEq, Prod.mk.injEq] at h; obtain ⟨rfl, rfl, rfl, rfl, rfl⟩ := h
        have hb := ble_t hb
        obtain ⟨z, l, hl, hO⟩ := hH.ob _ _ ho
        simp only [VR] at hv
        obtain ⟨A, c, he, hle, hc, hA0⟩ := hv.2.2 _ l hl
        have hO' := hO
        simp only [OR] at hO
        obtain ⟨rfl, h1, h2, h3, h4, h5⟩ := hO
        exact ⟨ho, hb, l, A, c, hl, hO', he, by omega, fun hpos => hA0 (by omega)⟩
    · cases h
  · cases h
theorem row_put (hH : HR X φ H w) {o off sz : Nat} {es news : List (List PV)} {vss : List (List Value)} {l : Loc} {A : Option Addr} {r : Result Next} {v : AV} {v' : Value} (hl : φ o = .at false l) (ho : hget H o = some (.row false sz es)) (hO : OR w (YOf X φ) φ false l (.row false sz es)) (hle : off + news.length ≤ es.length)
    (hn : PRLL w (YOf X φ) sz news vss) (hA : 0 < news.length → A = l.addr off ∧ A ≠ none) (hv : ∀ w' φ', VR w' (YOf X φ') φ' v v')
    (hr : ∀ w', (0 < news.length → ∀ a, A = some a → (storeCells a vss.flatten).run P w = .ok () w') → (news.length = 0 → w' = w) → r = .ok (.value v') w') : Good nid H X φ w v (hset H o (some (.row false sz (rowPut es off news)))) r := by
  rcases Nat.eq_zero_or_pos news.length with h0 | hpos
  · have hnil : news = [] := List.length_eq_zero_iff.1 h0
    subst hnil
    have : rowPut es off [] = es := by simp [rowPut]
    rw [this, set_same ho]
    exact good_val (hr w (fun h => by simp at h) (fun _ => rfl)) (hv w φ) hH
  · obtain ⟨hA1, hA2⟩ := hA hpos
    have hO' := hO
    simp only [OR] at hO
    obtain ⟨_, h1, h2, h3, h4, h5⟩ := hO
    rcases h5 with ⟨h6, h7⟩ | ⟨b, p, t, cs, hAl, hg, hs, hE, hY⟩
    · omega
    · have hAe : A = some ⟨b, p + off * sz, none⟩ := by rw [hA1]; simp [Loc.addr, hAl, h2]
      have hfl := flat_size hn.size
      rw [hn.length] at hfl
      have hmul : (off + news.length) * sz ≤ l.c * sz := Nat.mul_le_mul_right sz (by omega)
      rw [Nat.add_mul] at hmul
      have hth : w.there b (p + off * sz) vss.flatten.length := fun j hj => by
        have hj' : p + off * sz + j < cs.size := by omega
        constructor
        · simp [World.cell?, hg, hj']
        · simp [World.frozen?, hg]
      have hrun := run_cells (P := P) hth (PRLL.one hn)
      obtain ⟨f1, f2, f3, f4, f5⟩ := setCells_far b vss.flatten (p + off * sz) w
      obtain ⟨cs', hcs, hcsz⟩ := setCells_size (vs := vss.flatten) (o := p + off * sz) hg (by omega)
      refine good_put hH hl hAl (hr (w.setCells b (p + off * sz) vss.flatten) (fun _ a ha => ?_) (fun h => by omega)) f1 f2 f3 f4 f5 (fun ev => ?_) (fun ev => hv _ _)
      · rw [hAe] at ha; cases ha; exact hrun
      · simp only [OR]
        have hlen : (rowPut es off news).length = es.length := by simp [rowPut]; omega
        refine ⟨trivial, by rw [hlen]; exact h1, h2, h3, h4, .inr ⟨b, p, t, cs', hAl, hcs, by rw [hcsz]; exact hs, ?_, fun h => by cases h⟩⟩
        have := PRE_store (i := off) hg hE hn (by omega) (by rw [Nat.add_mul]; omega) (ev.stay X)
        exact this
theorem elemTy_ok (hC : CfgOK P C) {t : Nat} {te : TI} (h : elemTy C t = some te) : ∃ e, P.underlying t = some (.slice e) ∧ tyOKB P e te = true := by
  unfold elemTy at h
  split at h
  · rename_i ti hti
    split at h
    · rename_i e hk
      exact ⟨e, und_sl (hC.ty t ti hti) hk, hC.ty e te h⟩
    · cases h
  · cases h
theorem x_copy {t t1 : Nat} {x y : Operand} {v : Value} (h : (Builtin.copy_ #[t, t1] ty #[ρ x, ρ y]).run P w = .ok v w') :
    (execOp ρ ⟨d, .call { callee := .builtin .copy, args := #[x, y], argTypes := #[t, t1] }, ty, pos, af, g⟩).run P w = .ok (.value v) w' :=
  x_bi (f := Builtin.copy_) (fun _ _ _ _ => rfl) (by simpa using h)
theorem x_clear {t : Nat} {x : Operand} {v : Value} (h : (Builtin.clear_ #[t] ty #[ρ x]).run P w = .ok v w') :
    (execOp ρ ⟨d, .call { callee := .builtin .clear, args := #[x], argTypes := #[t] }, ty, pos, af, g⟩).run P w = .ok (.value v) w' :=
  x_bi (f := Builtin.clear_) (fun _ _ _ _ => rfl) (by simpa using h)
theorem g_copy {t t1 : Nat} {x y : Operand} {v : AV} {H' : Hp} (hC : CfgOK P C) (hH : HR X φ H w) (h : evCopy C H t t1 (ra x) (ra y) = some (v, H')) (hx : VR w (YOf X φ) φ (ra x) (ρ x)) (hy : VR w (YOf X φ) φ (ra y) (ρ y)) :
    Good nid H X φ w v H' ((execOp ρ ⟨d, .call { callee := .builtin .copy, args := #[x, y], argTypes := #[t, t1] }, ty, pos, af, g⟩).run P w) := by
  unfold evCopy at h
  split at h
  · rename_i src te hsrc hte
    cases hst : srcTy C t1 (ra y) with
    | false => simp [hst] at hsrc
    | true =>
      simp only [hst, cond_true] at hsrc
      obtain ⟨e, hu, hE⟩ := elemTy_ok hC hte
      have hs := run_size (w := w) hE
      cases hg1 : (!(src.all fun c => Nat.beq c.length te.size) || Nat.beq te.size 0) with
      | true => simp [hg1] at h
      | false =>
        simp only [hg1, cond_false] at h
        rw [Bool.or_eq_false_iff] at hg1
        have hall : src.all (fun c => Nat.beq c.length te.size) = true := by simpa using hg1.1
        obtain ⟨_, hlen, vss, hvss, hfc⟩ := src_ok hC hH hst hsrc hall hy
        split at h
        · rename_i f sz hxv
          simp only [Option.some.injEq, Prod.mk.injEq] at h; obtain ⟨rfl, rfl⟩ := h
          rw [hxv] at hx
          simp only [VR, PR] at hx
          obtain ⟨A, c, he, _⟩ := hx
          have hf0 := hfc 0 w (Nat.zero_le _) rfl
          simp only [List.take_zero, List.flatten_nil] at hf0
          refine good_val (x_copy (v := .int .i64 0) ?_) (by simp only [VR, PR]) hH
          rw [he]
          cases A <;> simp [Builtin.copy_, run_underlying hu, hlen, hs, hf0, storeCells, goInt]
        · split at h
          · rename_i o off len sz es hro
            cases hb : Nat.beq sz te.size with
            | false => simp [hb] at h
            | true =>
              simp only [hb, cond_true, Option.some.injEq, Prod.mk.injEq] at h; obtain ⟨rfl, rfl⟩ := h
              simp only [Nat.beq_eq] at hb
              subst hb
              obtain ⟨ho, hle, l, A, c, hl, hO, he, hlc, hA⟩ := rowOf_ok hH hro hx
              have hmin : Nat.min src.length len ≤ src.length := Nat.min_le_left _ _
              have hmin2 : Nat.min src.length len ≤ len := Nat.min_le_right _ _
              have htl : (src.take (Nat.min src.length len)).length = Nat.min src.length len := by simp
              have hf := hfc (Nat.min src.length len) w hmin rfl
              refine row_put (P := P) (A := A) (vss := vss.take (Nat.min src.length len)) hH hl ho hO (by omega) (hvss.take _) (fun hpos => hA (by omega)) (fun _ _ => by simp only [VR, PR]) fun w' hst' h0 => x_copy (v := .int .i64 ((Nat.min src.length len : Nat) : Int)) ?_
              rw [he]
              rcases Nat.eq_zero_or_pos (Nat.min src.length len) with hz | hpos
              · rw [h0 (by omega)]
                rw [hz] at hf
                simp only [List.take_zero, List.flatten_nil] at hf
                cases A <;> simp [Builtin.copy_, run_underlying hu, hlen, hs, hz, hf, storeCells, goInt]
              · obtain ⟨_, hA2⟩ := hA (by omega)
                cases A with
                | none => exact absurd rfl hA2
                | some a0 =>
                  have := hst' (by omega) a0 rfl
                  simp [Builtin.copy_, run_underlying hu, hlen, hs, hf, this, goInt]
          · cases h
  · cases h
theorem g_clear {t : Nat} {x : Operand} {v : AV} {H' : Hp} (hC : CfgOK P C) (hH : HR X φ H w) (h : evClear C H t (ra x) = some (v, H')) (hx : VR w (YOf X φ) φ (ra x) (ρ x)) :
    Good nid H X φ w v H' ((execOp ρ ⟨d, .call { callee := .builtin .clear, args := #[x], argTypes := #[t] }, ty, pos, af, g⟩).run P w) := by
  unfold evClear at h
  split at h
  · rename_i te hte
    obtain ⟨e, hu, hE⟩ := elemTy_ok hC hte
    obtain ⟨ie, ze, hie, hse, hbe, hze, hzl⟩ := tyOK_info hE
    cases hz0 : Nat.beq te.size 0 with
    | true => simp [hz0] at h
    | false =>
      simp only [hz0, cond_false] at h
      have hpos0 : te.size ≠ 0 := fun e => by rw [e] at hz0; simp at hz0
      have hzs : ze.cells.size = te.size := by rw [← tyOK_len hE, ← (hzl w (fun _ => False)).length, Array.length_toList]
      have hzv : (zeroValue e).run P w = .ok ze w := by simp [zeroValue, typeInfo, hie, hze]
      have htup : ∀ w' φ', VR w' (YOf X φ') φ' (.tup []) (.tuple #[]) := fun _ _ => by simp only [VR, VRT]; exact ⟨[], rfl, rfl⟩
      split at h
      · rename_i f sz hxv
        simp only [Option.some.injEq, Prod.mk.injEq] at h; obtain ⟨rfl, rfl⟩ := h
        rw [hxv] at hx
        simp only [VR, PR] at hx
        obtain ⟨A, c, he, _⟩ := hx
        refine good_val (x_clear (v := .tuple #[]) ?_) (htup w φ) hH
        rw [he]
        cases A <;> simp [Builtin.clear_, run_underlying hu]
      · split at h
        · rename_i o off len sz es hro
          cases hb : Nat.beq sz te.size with
          | false => simp [hb] at h
          | true =>
            simp only [hb, cond_true, Option.some.injEq, Prod.mk.injEq] at h; obtain ⟨rfl, rfl⟩ := h
            simp only [Nat.beq_eq] at hb
            subst hb
            obtain ⟨ho, hle, l, A, c, hl, hO, he, hlc, hA⟩ := rowOf_ok hH hro hx
            refine row_put (P := P) (A := A) (vss := List.replicate len ze.cells.toList) hH hl ho hO (by simp; omega) (PRLL.replicate (tyOK_len hE) (hzl w _)) (fun hpos => hA (by simpa using hpos)) htup fun w' hst' h0 => x_clear (v := .tuple #[]) ?_
            rw [he]
            simp only [List.length_replicate] at hst' h0
            cases len with
            | zero =>
              rw [h0 rfl]
              cases A <;> simp [Builtin.clear_, run_underlying hu]
            | succ m =>
              obtain ⟨_, hA2⟩ := hA (by omega)
              cases A with
              | none => exact absurd rfl hA2
              | some a0 =>
                have := hst' (by omega) a0 rfl
                have hzz : (Builtin.zeroCells ze.cells (m + 1)).toList = (List.replicate (m + 1) ze.cells.toList).flatten := by
                  unfold Builtin.zeroCells
                  rw [show (m + 1) * ze.cells.size = (m + 1) * te.size from by rw [hzs]]
                  rw [zeros_eq hzs (by omega)]
                simp [Builtin.clear_, run_underlying hu, hzv, hzz, this]
        · cases h
  · cases h
end
end Go.Proofs.Ytkcafackfihmiaa
namespace Go.Proofs.Ytkcafackfihmiaa
set_option linter.unusedSimpArgs false
set_option linter.unusedVariables false
open Go.RowKit
section
variable {P : Program} {C : Cfg} {w w' : World} {Y Y' X : Nat → Prop} {φ : Phi} {H : Hp}
variable {nid : Nat} {ρ : Operand → Value} {ra : Operand → AV} {d : Option Tmp} {ty : TypeId} {pos : String} {af : Array Edge} {g : Option (Nat × Bool)}
theorem good_u {v : AV} {H' : Hp} {r : Result Next} (hH : HR X φ H w) (h : H' = H ∧ ∃ u, r = .ok (.value u) w ∧ VR w (YOf X φ) φ v u) : Good nid H X φ w v H' r := by
  obtain ⟨rfl, u, h1, h2⟩ := h
  exact good_val h1 h2 hH
theorem map_h {α β : Type} {o : Option α} {H H' : β} {v : α} (h : (o.map fun v => (v, H)) = some (v, H')) : o = some v ∧ H' = H := by
  cases o with
  | none => simp at h
  | some a => simp at h; exact ⟨by rw [h.1], h.2.symm⟩
theorem g_pure (hC : CfgOK P C) (hH : HR X φ H w) (hf : Free φ H nid) (hρ : ∀ x, VR w (YOf X φ) φ (ra x) (ρ x)) {op : Op} {v : AV} {H' : Hp} (h : evPure C nid ra H op = some (v, H')) :
    Good nid H X φ w v H' ((execOp ρ ⟨d, op, ty, pos, af, g⟩).run P w) := by
  cases op with
  | move x => simp only [evPure, Option.some.injEq, Prod.mk.injEq] at h; obtain ⟨rfl, rfl⟩ := h; exact good_val (x_move rfl) (hρ x) hH
  | assign x => simp only [evPure, Option.some.injEq, Prod.mk.injEq] at h; obtain ⟨rfl, rfl⟩ := h; exact good_val (x_assign rfl) (hρ x) hH
  | pick c x y => exact good_u hH (g_pick hρ h)
  | alloc e =>
    simp only [evPure] at h
    split at h
    · rename_i ti hti
      simp only [Option.some.injEq, Prod.mk.injEq] at h; obtain ⟨rfl, rfl⟩ := h
      exact g_alloc hC hH hf hti
    · cases h
  | box e x =>
    simp only [evPure] at h
    cases hb : (ra x).cells.all oneA with
    | false => simp [hb] at h
    | true =>
      simp only [hb, cond_true, Option.some.injEq, Prod.mk.injEq] at h; obtain ⟨rfl, rfl⟩ := h
      exact g_box hH hf (hρ x) hb
  | build t ps => exact good_u hH (g_build hC hρ h)
  | buildSlice t n ps => exact g_buildSlice hC hH hf hρ h
  | load t p =>
    simp only [evPure] at h
    obtain ⟨h1, rfl⟩ := map_h h
    exact good_u hH ⟨rfl, g_load hC hH h1 (hρ p)⟩
  | store t p x =>
    simp only [evPure, Option.map_eq_some_iff, Prod.mk.injEq] at h
    obtain ⟨H1, h1, rfl, rfl⟩ := h
    exact g_store hC hH h1 (hρ p) (hρ x)
  | nilCheck x => exact good_u hH (g_nilCheck hH hρ h)
  | binOp op t x y t' =>
    simp only [evPure] at h
    obtain ⟨h1, rfl⟩ := map_h h
    exact good_u hH ⟨rfl, evBin_ok hC hH h1 (hρ x) (hρ y)⟩
  | unOp op t x =>
    simp only [evPure] at h
    obtain ⟨h1, rfl⟩ := map_h h
    exact good_u hH ⟨rfl, g_un h1 (hρ x)⟩
  | convert s t x => exact g_convert hC hH hρ h
  | makeFunc fn first cs => exact good_u hH (g_makeFunc hρ h)
  | makeSlice t l c => exact g_makeSlice hC hH hf hρ h
  | slice t x lo hi mx =>
    simp only [evPure] at h
    obtain ⟨h1, rfl⟩ := map_h h
    exact good_u hH ⟨rfl, g_slice hC hH hρ h1⟩
  | fieldAddr t x f => exact good_u hH (g_fieldAddr hC hH hρ h)
  | field t x f => exact good_u hH (g_field hC hρ h)
  | indexAddr t x i =>
    simp only [evPure] at h
    obtain ⟨h1, rfl⟩ := map_h h
    exact good_u hH ⟨rfl, g_indexAddr hC hH h1 (hρ x) (hρ i)⟩
  | index t x i =>
    simp only [evPure] at h
    obtain ⟨h1, rfl⟩ := map_h h
    exact good_u hH ⟨rfl, g_index hC h1 (hρ x) (hρ i)⟩
  | extract t i => exact good_u hH (g_extract hρ h)
  | call c =>
    obtain ⟨callee, ⟨args⟩, ⟨ts⟩⟩ := c
    simp only [evPure] at h
    split at h
    · rename_i b hb
      unfold evBuiltin at h
      split at h
      · rename_i t x hargs
        obtain ⟨a, rfl, rfl⟩ := List.map_eq_singleton_iff.1 hargs
        cases hn : lenA C H t (ra a) with
        | none => simp [hn] at h
        | some n =>
          simp [hn] at h; obtain ⟨rfl, rfl⟩ := h
          exact good_val (g_len hC hH hn (hρ a)) (by simp only [VR, PR]) hH
      · rename_i t t1 x y hargs
        obtain ⟨a, l, rfl, rfl, hl2⟩ := List.map_eq_cons_iff.1 hargs
        obtain ⟨b, rfl, rfl⟩ := List.map_eq_singleton_iff.1 hl2
        exact g_append hC hH hf h (hρ a) (hρ b)
      · rename_i t t1 x y hargs
        obtain ⟨a, l, rfl, rfl, hl2⟩ := List.map_eq_cons_iff.1 hargs
        obtain ⟨b, rfl, rfl⟩ := List.map_eq_singleton_iff.1 hl2
        exact g_copy hC hH h (hρ a) (hρ b)
      · rename_i t x hargs
        obtain ⟨a, rfl, rfl⟩ := List.map_eq_singleton_iff.1 hargs
        exact g_clear hC hH h (hρ a)
      · obtain ⟨h1, rfl⟩ := map_h h
        exact good_u hH ⟨rfl, g_minmax (b := true) hρ (by simpa using h1)⟩
      · obtain ⟨h1, rfl⟩ := map_h h
        exact good_u hH ⟨rfl, g_minmax (b := false) hρ (by simpa using h1)⟩
      · cases h
    · cases h
  | makeMap t r =>
    cases r with
    | some _ => simp [evPure] at h
    | none =>
      simp only [evPure, Option.some.injEq, Prod.mk.injEq] at h; obtain ⟨rfl, rfl⟩ := h
      exact g_makeMap hH hf
  | lookup t x k ok =>
    simp only [evPure] at h
    obtain ⟨h1, rfl⟩ := map_h h
    exact good_u hH ⟨rfl, g_lookup hC hH h1 (hρ x) (hρ k)⟩
  | mapUpdate t m k x =>
    simp only [evPure, Option.map_eq_some_iff, Prod.mk.injEq] at h
    obtain ⟨H1, h1, rfl, rfl⟩ := h
    exact g_mapUpdate hC hH (.inl rfl) h1 hρ
  | insert t m k x =>
    simp only [evPure, Option.map_eq_some_iff, Prod.mk.injEq] at h
    obtain ⟨H1, h1, rfl, rfl⟩ := h
    exact g_mapUpdate hC hH (.inr rfl) h1 hρ
  | mapEntry t m k => exact g_mapEntry hC hH h hρ
  | entryStore t m s x =>
    simp only [evPure, Option.map_eq_some_iff, Prod.mk.injEq] at h
    obtain ⟨H1, h1, rfl, rfl⟩ := h
    exact g_entryStore hH h1 hρ
  | range t x => exact g_range hC hH hf h (hρ x)
  | entry x =>
    simp only [evPure] at h
    obtain ⟨h1, rfl⟩ := map_h h
    exact good_u hH ⟨rfl, g_entry hH h1 (hρ x)⟩
  | _ => simp [evPure] at h
end
end Go.Proofs.Ytkcafackfihmiaa
namespace Go.Proofs.Ytkcafackfihmiaa
set_option linter.unusedSimpArgs false
set_option linter.unusedVariables false
open Go.RowKit
section
variable {P : Program} {w w' : World} {Y Y' X : Nat → Prop} {φ φ2 : Phi} {H H' : Hp} {F : Nat}
theorem hget_cons {x : Option Ob} {H : Hp} : (∀ o, hget (x :: H) (o + 1) = hget H o) ∧ hget (x :: H) 0 = x := by
  constructor
  · intro o; simp [hget]
  · cases x <;> simp [hget]
theorem hget_mask : ∀ (H : Hp) (i o : Nat), hget (maskH F i H) o = if bit F (i + o) = true then hget H o else none
  | [], i, o => by simp [maskH, hget]
  | x :: r, i, 0 => by
    simp only [maskH, hget_cons.2, Nat.add_zero]
    cases bit F i <;> simp
  | x :: r, i, o + 1 => by
    simp only [maskH, hget_cons.1]
    rw [hget_mask r (i + 1) o, show i + 1 + o = i + (o + 1) from by omega]
theorem length_mask : ∀ (H : Hp) (i : Nat), (maskH F i H).length = H.length
  | [], _ => rfl
  | _ :: r, i => by simp [maskH, length_mask r (i + 1)]
theorem hget_patch : ∀ (H H' : Hp) (i o : Nat), H.length ≤ H'.length → hget (patchH F i H H') o = if o < H.length ∧ bit F (i + o) = false then hget H o else hget H' o
  | [], H', i, o, _ => by simp [patchH]
  | x :: r, [], i, o, h => by simp at h
  | x :: r, y :: r', i, 0, h => by
    simp only [patchH, hget_cons.2, Nat.add_zero]
    cases bit F i <;> simp
  | x :: r, y :: r', i, o + 1, h => by
    simp only [patchH, hget_cons.1]
    rw [hget_patch r r' (i + 1) o (by simpa using h), show i + 1 + o = i + (o + 1) from by omega]
    simp only [List.length_cons, Nat.succ_lt_succ_iff, Nat.add_lt_add_iff_right]
theorem length_patch : ∀ (H H' : Hp) (i : Nat), H.length ≤ H'.length → (patchH F i H H').length = H'.length
  | [], H', _, _ => rfl
  | x :: r, [], _, h => by simp at h
  | x :: r, y :: r', i, h => by simp [patchH, length_patch r r' (i + 1) (by simpa using h)]
theorem objs_at {n : Nat} : ∀ {H : Hp}, objsIn F n H = true → ∀ {o : Nat} {x : Ob}, hget H o = some x → inF F n (obRefs x) = true
  | [], _, o, x, hx => by simp [hget] at hx
  | y :: r, h, 0, x, hx => by
    rw [hget_cons.2] at hx; subst hx
    simp only [objsIn, Bool.and_eq_true] at h; exact h.1
  | y :: r, h, o + 1, x, hx => by
    rw [hget_cons.1] at hx
    simp only [objsIn, Bool.and_eq_true] at h; exact objs_at h.2 hx
def Re (φ φ2 : Phi) (o : Nat) : Prop := (φ o ≠ .fresh → φ2 o ≠ .fresh) ∧ ∀ z l, φ2 o = .at z l → φ o = .at z l
theorem Re.at {o : Nat} {p : Loc → Prop} (h : Re φ φ2 o) (hp : φ o ≠ .fresh ∧ ∀ z l, φ o = .at z l → p l) : φ2 o ≠ .fresh ∧ ∀ z l, φ2 o = .at z l → p l := ⟨h.1 hp.1, fun z l e => hp.2 z l (h.2 z l e)⟩
mutual
theorem VR.re : ∀ (a : AV) (v : Value), (∀ o ∈ refD a, Re φ φ2 o) → VR w Y φ a v → VR w Y φ2 a v
  | .pl p, v, _, h => by simp only [VR] at h ⊢; exact h
  | .un, _, _, _ => by simp only [VR]
  | .agg cs, v, hr, h => by
    simp only [VR] at h ⊢
    obtain ⟨vs, e, hl⟩ := h
    exact ⟨vs, e, VRL.re cs vs (by simpa only [refD] using hr) hl⟩
  | .tup cs, v, hr, h => by
    simp only [VR] at h ⊢
    obtain ⟨vs, e, hl⟩ := h
    exact ⟨vs, e, VRT.re cs vs (by simpa only [refD] using hr) hl⟩
  | .clo f cs, v, hr, h => by
    simp only [VR] at h ⊢
    obtain ⟨vs, e, hl⟩ := h
    exact ⟨vs, e, VRT.re cs vs (by simpa only [refD] using hr) hl⟩
  | .own o, v, hr, h => by simp only [VR] at h ⊢; exact ⟨h.1, (hr o (by simp [refD])).at h.2⟩
  | .vw o _ _, v, hr, h => by simp only [VR] at h ⊢; exact ⟨h.1, (hr o (by simp [refD])).at h.2⟩
  | .bp o _, v, hr, h => by simp only [VR] at h ⊢; exact ⟨h.1, (hr o (by simp [refD])).at h.2⟩
  | .ep o _ _, v, hr, h => by simp only [VR] at h ⊢; exact ⟨h.1, (hr o (by simp [refD])).at h.2⟩
  | .ip cs i, v, _, h => by simp only [VR] at h ⊢; exact h
  | .mp o, v, hr, h => by simp only [VR] at h ⊢; exact ⟨h.1, (hr o (by simp [refD])).at h.2⟩
  | .it o, v, hr, h => by simp only [VR] at h ⊢; exact ⟨h.1, (hr o (by simp [refD])).at h.2⟩
theorem VRL.re : ∀ (cs : List AV) (vs : List Value), (∀ o ∈ refDL cs, Re φ φ2 o) → VRL w Y φ cs vs → VRL w Y φ2 cs vs
  | [], _, _, h => by simpa only [VRL] using h
  | c :: cs, vs, hr, h => by
    simp only [VRL] at h ⊢
    obtain ⟨v, r, e, ho, hc, hl⟩ := h
    exact ⟨v, r, e, ho, VR.re c v (fun o ho => hr o (by simp only [refDL]; exact List.mem_append_left _ ho)) hc, VRL.re cs r (fun o ho => hr o (by simp only [refDL]; exact List.mem_append_right _ ho)) hl⟩
theorem VRT.re : ∀ (cs : List AV) (vs : List Value), (∀ o ∈ refDL cs, Re φ φ2 o) → VRT w Y φ cs vs → VRT w Y φ2 cs vs
  | [], _, _, h => by simpa only [VRT] using h
  | c :: cs, vs, hr, h => by
    simp only [VRT] at h ⊢
    obtain ⟨v, r, e, hc, hl⟩ := h
    exact ⟨v, r, e, VR.re c v (fun o ho => hr o (by simp only [refDL]; exact List.mem_append_left _ ho)) hc, VRT.re cs r (fun o ho => hr o (by simp only [refDL]; exact List.mem_append_right _ ho)) hl⟩
end
theorem OR.re {z : Bool} {l : Loc} : ∀ {x : Ob}, (∀ o ∈ obRefs x, Re φ φ2 o) → OR w Y φ z l x → OR w Y φ2 z l x
  | .box cs, hr, h => by
    simp only [OR] at h ⊢
    obtain ⟨hz, b, t, vs, hA, hg, hv⟩ := h
    exact ⟨hz, b, t, vs, hA, hg, VRL.re cs vs hr hv⟩
  | .row _ _ _, _, h => by simp only [OR] at h ⊢; exact h
  | .map _, _, h => by simp only [OR] at h ⊢; exact h
  | .iter o n seen, hr, h => by
    simp only [OR] at h ⊢
    obtain ⟨hz, b, hA, hn, hm⟩ := h
    have := (hr o (by simp [obRefs])).at (p := fun lo => ∃ m, lo.A = some (m, 0) ∧ w.heap[b]? = some (.mapIter (some m) n seen.toArray n)) ⟨hn, hm⟩
    exact ⟨hz, b, hA, this.1, this.2⟩
def Phi.cut (φ : Phi) (F : Nat) : Phi := fun o => match φ o with
  | .fresh => .fresh
  | p => bif bit F o then p else .dead
def cutX (X : Nat → Prop) (φ : Phi) (F : Nat) : Nat → Prop := fun b => X b ∨ ∃ o l p, φ o = .at false l ∧ l.A = some (b, p) ∧ bit F o = false
theorem cut_re (o : Nat) : Re φ (φ.cut F) o := by
  unfold Re Phi.cut
  cases φ o with
  | fresh => exact ⟨fun h => (h rfl).elim, fun z l h => by cases h⟩
  | dead => cases bit F o <;> exact ⟨fun _ h => (by cases h), fun z l h => (by cases h)⟩
  | «at» z l => cases bit F o <;> exact ⟨fun _ h => (by cases h), fun z' l' h => (by first | exact h | cases h)⟩
theorem cut_in {o : Nat} (h : bit F o = true) : φ.cut F o = φ o := by
  unfold Phi.cut; rw [h]; cases φ o <;> rfl
theorem cut_out {o : Nat} (h : bit F o = false) : φ.cut F o = .fresh ∨ φ.cut F o = .dead := by
  unfold Phi.cut; rw [h]; cases φ o <;> simp
theorem cut_at {o : Nat} {z : Bool} {l : Loc} (h : φ.cut F o = .at z l) : φ o = .at z l ∧ bit F o = true := by
  refine ⟨(cut_re o).2 z l h, ?_⟩
  cases hb : bit F o with
  | true => rfl
  | false => rcases cut_out (φ := φ) hb with e | e <;> rw [e] at h <;> cases h
theorem cut_Y : YOf (cutX X φ F) (φ.cut F) = YOf X φ := by
  funext b
  apply propext
  constructor
  · rintro ((h | ⟨o, l, p, h1, h2, _⟩) | ⟨o, l, p, h1, h2⟩)
    · exact .inl h
    · exact .inr ⟨o, l, p, h1, h2⟩
    · exact .inr ⟨o, l, p, (cut_at h1).1, h2⟩
  · rintro (h | ⟨o, l, p, h1, h2⟩)
    · exact .inl (.inl h)
    · cases hb : bit F o with
      | true => exact .inr ⟨o, l, p, by rw [cut_in hb]; exact h1, h2⟩
      | false => exact .inl (.inr ⟨o, l, p, h1, h2, hb⟩)
theorem HR.cut (h : HR X φ H w) : HR (cutX X φ F) (φ.cut F) (maskH F 0 H) w where
  fresh o ho := by
    rw [length_mask] at ho
    have := h.fresh o ho
    unfold Phi.cut; rw [this]
  live o z l ho := by
    obtain ⟨h1, h2⟩ := cut_at ho
    obtain ⟨x, hx⟩ := h.live o z l h1
    exact ⟨x, by rw [hget_mask, Nat.zero_add, if_pos h2]; exact hx⟩
  ob o x hx := by
    rw [hget_mask, Nat.zero_add] at hx
    split at hx
    · rename_i hb
      obtain ⟨z, l, h1, h2⟩ := h.ob o x hx
      exact ⟨z, l, by rw [cut_in hb]; exact h1, by rw [cut_Y]; exact OR.re (fun k _ => cut_re k) h2⟩
    · cases hx
  inj o o' l l' b p p' h1 h2 := h.inj o o' l l' b p p' (cut_at h1).1 (cut_at h2).1
  out o l b p h1 h2 := by
    obtain ⟨k1, k2⟩ := cut_at h1
    obtain ⟨k3, k4⟩ := h.out o l b p k1 h2
    refine ⟨?_, k4⟩
    rintro (hx | ⟨o2, l2, p2, m1, m2, m3⟩)
    · exact k3 hx
    · have := h.inj o o2 l l2 b p p2 k1 m1 h2 m2
      subst this; rw [k2] at m3; cases m3
  xlt b hb := by
    rcases hb with hb | ⟨o, l, p, h1, h2, _⟩
    · exact h.xlt b hb
    · exact (h.out o l b p h1 h2).2
def joinPhi (φ φ' : Phi) (n F : Nat) : Phi := fun o => if o < n ∧ bit F o = false then φ o else φ' o
theorem join_out {n o : Nat} {φ' : Phi} (h : o < n ∧ bit F o = false) : joinPhi φ φ' n F o = φ o := by unfold joinPhi; rw [if_pos h]
theorem join_in {n o : Nat} {φ' : Phi} (h : ¬ (o < n ∧ bit F o = false)) : joinPhi φ φ' n F o = φ' o := by unfold joinPhi; rw [if_neg h]
theorem uncut {φ' : Phi} {w1 : World} (h : HR X φ H w) (h' : HR (cutX X φ F) φ' H' w1) (ev : Ev (φ.cut F) w φ' w1) (hlen : H.length ≤ H'.length) (hfr : ∀ k, k < H.length → φ.cut F k = .fresh → φ' k = .fresh) (hob : objsIn F H.length H' = true) :
    HR X (joinPhi φ φ' H.length F) (patchH F 0 H H') w1 ∧ Ev φ w (joinPhi φ φ' H.length F) w1 ∧ YOf X (joinPhi φ φ' H.length F) = YOf (cutX X φ F) φ' ∧ (∀ k, k < H.length → φ k = .fresh → joinPhi φ φ' H.length F k = .fresh) ∧ ∀ o, bit F o = true ∨ H.length ≤ o → joinPhi φ φ' H.length F o = φ' o := by
  -- outside the part the call's map tells nothing
  have hout : ∀ o, o < H.length ∧ bit F o = false → ∀ z l, φ' o ≠ .at z l := by
    intro o ho z l e
    rcases cut_out (φ := φ) ho.2 with h1 | h1
    · rw [hfr o ho.1 h1] at e; cases e
    · rcases ev.ids o (by rw [h1]; intro k; cases k) with h2 | h2 | ⟨l2, h2, _⟩
      · rw [h2, h1] at e; cases e
      · rw [h2] at e; cases e
      · rw [h1] at h2; cases h2
  have hin : ∀ o, bit F o = true ∨ H.length ≤ o → joinPhi φ φ' H.length F o = φ' o := fun o ho => join_in fun hc => by
    rcases ho with ho | ho
    · rw [hc.2] at ho; cases ho
    · omega
  have hY : YOf X (joinPhi φ φ' H.length F) = YOf (cutX X φ F) φ' := by
    funext b
    apply propext
    constructor
    · rintro (hx | ⟨o, l, p, h1, h2⟩)
      · exact .inl (.inl hx)
      · by_cases hc : o < H.length ∧ bit F o = false
        · rw [join_out hc] at h1; exact .inl (.inr ⟨o, l, p, h1, h2, hc.2⟩)
        · rw [join_in hc] at h1; exact .inr ⟨o, l, p, h1, h2⟩
    · rintro ((hx | ⟨o, l, p, h1, h2, h3⟩) | ⟨o, l, p, h1, h2⟩)
      · exact .inl hx
      · exact .inr ⟨o, l, p, by rw [join_out ⟨h.lt h1, h3⟩]; exact h1, h2⟩
      · refine .inr ⟨o, l, p, ?_, h2⟩
        by_cases hc : o < H.length ∧ bit F o = false
        · exact absurd h1 (hout o hc _ _)
        · rw [join_in hc]; exact h1
  have hcb : ∀ b, blkOf (φ.cut F) b → blkOf φ b := fun b ⟨o, l, p, h1, h2⟩ => ⟨o, l, p, (cut_at h1).1, h2⟩
  have ev2 : Ev φ w (joinPhi φ φ' H.length F) w1 := by
    refine ⟨ev.os, ev.tape, ev.output, ev.size, fun b hb hn => ev.heap b hb fun hc => hn (hcb b hc), fun b hb hc => ?_, fun o ho => ?_⟩
    · obtain ⟨o, l, p, h1, h2⟩ := hc
      by_cases hc : o < H.length ∧ bit F o = false
      · rw [join_out hc] at h1; exact ⟨o, l, p, h1, h2⟩
      · rw [join_in hc] at h1; exact hcb b (ev.blk b hb ⟨o, l, p, h1, h2⟩)
    · by_cases hc : o < H.length ∧ bit F o = false
      · rw [join_out hc]; exact .inl rfl
      · rw [join_in hc]
        have hb : bit F o = true := by
          cases hb : bit F o with
          | true => rfl
          | false =>
            refine absurd (h.fresh o ?_) ho
            rcases Nat.lt_or_ge o H.length with h1 | h1
            · exact absurd ⟨h1, hb⟩ hc
            · exact h1
        have := ev.ids o (by rw [cut_in hb]; exact ho)
        rw [cut_in hb] at this
        exact this
  refine ⟨?_, ev2, hY, fun k hk e => ?_, hin⟩
  · refine ⟨fun o ho => ?_, fun o z l ho => ?_, fun o x hx => ?_, fun o o' l l' b p p' h1 h2 hA hA' => ?_, fun o l b p h1 hA => ?_, fun b hb => Nat.lt_of_lt_of_le (h.xlt b hb) ev.size⟩
    · rw [length_patch _ _ _ hlen] at ho
      rw [join_in (by omega)]; exact h'.fresh o ho
    · by_cases hc : o < H.length ∧ bit F o = false
      · rw [join_out hc] at ho
        obtain ⟨x, hx⟩ := h.live o z l ho
        exact ⟨x, by rw [hget_patch _ _ _ _ hlen, Nat.zero_add, if_pos hc]; exact hx⟩
      · rw [join_in hc] at ho
        obtain ⟨x, hx⟩ := h'.live o z l ho
        exact ⟨x, by rw [hget_patch _ _ _ _ hlen, Nat.zero_add, if_neg hc]; exact hx⟩
    · rw [hget_patch _ _ _ _ hlen, Nat.zero_add] at hx
      by_cases hc : o < H.length ∧ bit F o = false
      · rw [if_pos hc] at hx
        obtain ⟨z, l, h1, h2⟩ := h.ob o x hx
        refine ⟨z, l, by rw [join_out hc]; exact h1, OR.stay ev2 X (fun hz b p hA => ?_) h2⟩
        subst hz
        refine ev.heap b (h.out o l b p h1 hA).2 ?_
        rintro ⟨o2, l2, p2, m1, m2⟩
        obtain ⟨m3, m4⟩ := cut_at m1
        have := h.inj o o2 l l2 b p p2 h1 m3 hA m2
        subst this; rw [hc.2] at m4; cases m4
      · rw [if_neg hc] at hx
        obtain ⟨z, l, h1, h2⟩ := h'.ob o x hx
        refine ⟨z, l, by rw [join_in hc]; exact h1, ?_⟩
        rw [hY]
        refine OR.re (fun k hk => ?_) h2
        have := objs_at hob hx
        unfold inF at this
        rw [List.all_eq_true] at this
        have := this k hk
        rw [Bool.or_eq_true, Nat.ble_eq] at this
        have e := hin k this
        exact ⟨fun hne => by rw [e]; exact hne, fun z l he => by rw [e] at he; exact he⟩
    · by_cases hc : o < H.length ∧ bit F o = false <;> by_cases hc' : o' < H.length ∧ bit F o' = false
      · rw [join_out hc] at h1; rw [join_out hc'] at h2; exact h.inj o o' l l' b p p' h1 h2 hA hA'
      · rw [join_out hc] at h1; rw [join_in hc'] at h2
        exact absurd (.inr ⟨o, l, p, h1, hA, hc.2⟩) (h'.out o' l' b p' h2 hA').1
      · rw [join_in hc] at h1; rw [join_out hc'] at h2
        exact absurd (.inr ⟨o', l', p', h2, hA', hc'.2⟩) (h'.out o l b p h1 hA).1
      · rw [join_in hc] at h1; rw [join_in hc'] at h2; exact h'.inj o o' l l' b p p' h1 h2 hA hA'
    · by_cases hc : o < H.length ∧ bit F o = false
      · rw [join_out hc] at h1
        obtain ⟨k1, k2⟩ := h.out o l b p h1 hA
        exact ⟨k1, Nat.lt_of_lt_of_le k2 ev.size⟩
      · rw [join_in hc] at h1
        obtain ⟨k1, k2⟩ := h'.out o l b p h1 hA
        exact ⟨fun hx => k1 (.inl hx), k2⟩
  · by_cases hc : k < H.length ∧ bit F k = false
    · rw [join_out hc]; exact e
    · rw [join_in hc]
      refine hfr k hk ?_
      unfold Phi.cut; rw [e]
end
end Go.Proofs.Ytkcafackfihmiaa
namespace Go.Proofs.Ytkcafackfihmiaa
set_option linter.unusedVariables false
open Go.RowKit

set_option linter.unusedSimpArgs false
theorem get_leaf : ∀ (f n : Nat), Tr.get f .leaf n = .un
  | 0, _ => rfl
  | _ + 1, _ => rfl
theorem beq_cases (n m : Nat) : (Nat.beq n m = true ∧ n = m) ∨ (Nat.beq n m = false ∧ n ≠ m) := by
  cases h : Nat.beq n m with
  | true => exact .inl ⟨rfl, Nat.eq_of_beq_eq_true h⟩
  | false => exact .inr ⟨rfl, fun e => by subst e; simp at h⟩
theorem get_put_self : ∀ (f : Nat) (s : Tr) (n : Nat) (x : AV), Tr.get f (Tr.put f s n x) n = x ∨ Tr.get f (Tr.put f s n x) n = .un
  | 0, _, _, _ => .inr rfl
  | f + 1, s, n, x => by
    rcases beq_cases n 0 with ⟨h0, e0⟩ | ⟨h0, e0⟩
    · left; cases s <;> simp [Tr.put, Tr.get, e0]
    · rcases beq_cases (n % 2) 1 with ⟨h1, e1⟩ | ⟨h1, e1⟩
      · cases s <;> simp only [Tr.put, Tr.get, h0, h1, cond_true, cond_false] <;> exact get_put_self f _ _ _
      · cases s <;> simp only [Tr.put, Tr.get, h0, h1, cond_true, cond_false] <;> exact get_put_self f _ _ _
theorem get_put_ne : ∀ (f : Nat) (s : Tr) (n m : Nat) (x : AV), m ≠ n → Tr.get f (Tr.put f s n x) m = Tr.get f s m
  | 0, _, _, _, _, _ => rfl
  | f + 1, s, n, m, x, h => by
    rcases beq_cases n 0 with ⟨h0, e0⟩ | ⟨h0, e0⟩
    · rcases beq_cases m 0 with ⟨k0, e0'⟩ | ⟨k0, e0'⟩
      · omega
      · cases s <;> simp [Tr.put, Tr.get, h0, k0, get_leaf]
    · rcases beq_cases m 0 with ⟨k0, e0'⟩ | ⟨k0, e0'⟩
      · rcases beq_cases (n % 2) 1 with ⟨h1, e1⟩ | ⟨h1, e1⟩ <;> cases s <;> simp [Tr.put, Tr.get, h0, h1, e0']
      · rcases beq_cases (n % 2) 1 with ⟨h1, e1⟩ | ⟨h1, e1⟩ <;> rcases beq_cases (m % 2) 1 with ⟨k1, e1'⟩ | ⟨k1, e1'⟩
        · have hne : m / 2 ≠ n / 2 := by omega
          cases s <;> simp only [Tr.put, Tr.get, h0, h1, k0, k1, cond_true, cond_false]
          · rw [get_put_ne f _ _ _ _ hne, get_leaf]
          · exact get_put_ne f _ _ _ _ hne
        · cases s <;> simp [Tr.put, Tr.get, h0, h1, k0, k1, get_leaf]
        · cases s <;> simp [Tr.put, Tr.get, h0, h1, k0, k1, get_leaf]
        · have hne : m / 2 - 1 ≠ n / 2 - 1 := by omega
          cases s <;> simp only [Tr.put, Tr.get, h0, h1, k0, k1, cond_true, cond_false]
          · rw [get_put_ne f _ _ _ _ hne, get_leaf]
          · exact get_put_ne f _ _ _ _ hne
theorem put_comm : ∀ (f : Nat) (s : Tr) (n m : Nat) (x y : AV), m ≠ n → Tr.put f (Tr.put f s n x) m y = Tr.put f (Tr.put f s m y) n x
  | 0, _, _, _, _, _, _ => rfl
  | f + 1, s, n, m, x, y, h => by
    rcases beq_cases n 0 with ⟨h0, e0⟩ | ⟨h0, e0⟩
    · rcases beq_cases m 0 with ⟨k0, e0'⟩ | ⟨k0, e0'⟩
      · omega
      · rcases beq_cases (m % 2) 1 with ⟨k1, e1'⟩ | ⟨k1, e1'⟩ <;> cases s <;> simp [Tr.put, h0, k0, k1]
    · rcases beq_cases m 0 with ⟨k0, e0'⟩ | ⟨k0, e0'⟩
      · rcases beq_cases (n % 2) 1 with ⟨h1, e1⟩ | ⟨h1, e1⟩ <;> cases s <;> simp [Tr.put, h0, h1, k0]
      · rcases beq_cases (n % 2) 1 with ⟨h1, e1⟩ | ⟨h1, e1⟩ <;> rcases beq_cases (m % 2) 1 with ⟨k1, e1'⟩ | ⟨k1, e1'⟩
        · have hne : m / 2 ≠ n / 2 := by omega
          cases s <;> simp only [Tr.put, h0, h1, k0, k1, cond_true, cond_false] <;> rw [put_comm f _ _ _ _ _ hne]
        · cases s <;> simp [Tr.put, h0, h1, k0, k1]
        · cases s <;> simp [Tr.put, h0, h1, k0, k1]
        · have hne : m / 2 - 1 ≠ n / 2 - 1 := by omega
          cases s <;> simp only [Tr.put, h0, h1, k0, k1, cond_true, cond_false] <;> rw [put_comm f _ _ _ _ _ hne]

section
variable {P : Program} {C : Cfg} {w w' : World} {Y Y' X : Nat → Prop} {φ φ' : Phi} {H H' : Hp}
variable {nid n : Nat} {s : Tr} {a : Act} {D : List Deferred}
structure SR (D : List Deferred) (X : Nat → Prop) (n : Nat) (s : Tr) (H : Hp) (φ : Phi) (a : Act) (w : World) : Prop where
  defers : a.defers = D
  size : a.tmps.size = n
  slots : ∀ t, VR w (YOf X φ) φ (s.get 12 t) (a.tmps.getD t undef)
  hr : HR X φ H w
theorem cst_ok (v : Value) : VR w Y φ (cst v) v := by
  unfold cst
  split <;> simp only [VR, PR, flOk]
  refine ⟨none, 0, rfl, Nat.zero_le _, Nat.zero_le _, ⟨rfl, rfl⟩, .inl rfl⟩
theorem SR.val (h : SR D X n s H φ a w) (x : Operand) : VR w (YOf X φ) φ (val s x) (a.eval x) := by
  cases x with
  | tmp t => exact h.slots t
  | const v => exact cst_ok v
  | func f => simp only [Go.Proofs.Ytkcafackfihmiaa.val, VR, PR]; rfl
  | global _ => simp only [Go.Proofs.Ytkcafackfihmiaa.val, VR]
theorem vr_undef : VR w Y φ (.tup []) undef := by
  simp only [VR]; exact ⟨[], rfl, by simp only [VRT]⟩
theorem SR.put (h : SR D X n s H φ a w) (ev : Ev φ w φ' w') (hH : HR X φ' H' w') {v : AV} {v' : Value} (hv : VR w' (YOf X φ') φ' v v') (d : Option Nat) : SR D X n (putO n s d v) H' φ' (a.put d v') w' := by
  cases d with
  | none => exact ⟨h.defers, h.size, fun t => VR.stay ev X _ _ (h.slots t), hH⟩
  | some d =>
    refine ⟨h.defers, by simp [Act.put, h.size], fun t => ?_, hH⟩
    simp only [putO, Act.put]
    cases hb : Nat.blt d n with
    | false =>
      simp only [cond_false]
      have hge : ¬ d < a.tmps.size := fun hd => by rw [h.size, ← Nat.blt_eq, hb] at hd; cases hd
      rw [Array.setIfInBounds_eq_of_size_le (by omega)]
      exact VR.stay ev X _ _ (h.slots t)
    | true =>
      rw [Nat.blt_eq] at hb
      simp only [cond_true]
      by_cases e : t = d
      · subst e
        rcases get_put_self 12 s t v with h1 | h1
        · rw [h1]
          have : (a.tmps.setIfInBounds t v').getD t undef = v' := by simp [Array.getD, h.size, hb]
          rw [this]; exact hv
        · rw [h1]; simp only [VR]
      · rw [get_put_ne 12 s d t v e]
        have : (a.tmps.setIfInBounds d v').getD t undef = a.tmps.getD t undef := by
          simp only [Array.getD_eq_getD_getElem?]
          rw [Array.getElem?_setIfInBounds_ne (Ne.symm e)]
        rw [this]; exact VR.stay ev X _ _ (h.slots t)


def isPl : AV → Bool
  | .pl _ => true
  | _ => false
def plRes : AV → Bool
  | .tup vs => vs.all isPl
  | v => isPl v
def Ret (X : Nat → Prop) (φ : Phi) (H : Hp) (w : World) (outs : List (AV × Hp)) (e : Ending) (w' : World) : Prop :=
  ∃ r ∈ outs, ∃ v' φ', e = .returned v' ∧ VR w' (YOf X φ') φ' r.1 v' ∧ HR X φ' r.2 w' ∧ Ev φ w φ' w' ∧ H.length ≤ r.2.length ∧ ∀ k, k < H.length → φ k = .fresh → φ' k = .fresh
def CallOK (P : Program) (call : Bool → Nat → List AV → Hp → Outs (AV × Hp)) : Prop :=
  ∀ br k args H outs, call br k args H = some outs → Enters P k ∧ (br = false → ∀ r ∈ outs, plRes r.1 = true) ∧
    ((br = false → H = []) → ∀ X φ w vs, HR X φ H w → VRT w (YOf X φ) φ args vs → Calls P k vs.toArray w (Ret X φ H w outs))
def noPhi : Phi := fun _ => .fresh
theorem noBlk (b : Nat) : ¬ blkOf noPhi b := fun ⟨_, _, _, h, _⟩ => by cases h
theorem HR.empty (h : ∀ b, X b → b < w.heap.size) : HR X noPhi [] w where
  fresh _ _ := rfl
  live o z l h := by cases h
  ob o x h := by simp [hget] at h
  inj o o' l l' b p p' h := by cases h
  out o l b p h := by cases h
  xlt := h
theorem PR.sub {p : PV} {v : Value} (hs : ∀ b, Y' b → Y b) (h : PR w Y p v) : PR w Y' p v := PR.stay ⟨Nat.le_refl _, fun _ _ _ => rfl, fun b _ => hs b⟩ p v h
theorem plRes_vr {v : AV} {v' : Value} (hp : plRes v = true) (hs : ∀ b, Y' b → Y b) (h : VR w Y φ v v') : VR w Y' φ' v v' := by
  cases v <;> first | (simp [plRes, isPl] at hp; done) | skip
  · rename_i p
    simp only [VR] at h ⊢; exact PR.sub hs h
  · rename_i vs
    simp only [VR] at h ⊢
    obtain ⟨us, rfl, hl⟩ := h
    refine ⟨us, rfl, ?_⟩
    simp only [plRes] at hp
    induction vs generalizing us with
    | nil => simpa only [VRT] using hl
    | cons x r ih =>
      simp only [VRT] at hl ⊢
      obtain ⟨u, us', rfl, hx, hr⟩ := hl
      simp only [List.all_cons, Bool.and_eq_true] at hp
      refine ⟨u, us', rfl, ?_, ih hp.2 us' hr⟩
      cases x <;> first | (simp [isPl] at hp; done) | skip
      simp only [VR] at hx ⊢; exact PR.sub hs hx
mutual
theorem flatP_pr {Y Y' : Nat → Prop} {w : World} : ∀ (p : PV) (v : Value), flatP p = true → PR w Y p v → PR w Y' p v
  | .int _ _, v, _, h => by simpa only [PR] using h
  | .bool _, v, _, h => by simpa only [PR] using h
  | .str _, v, _, h => by simpa only [PR] using h
  | .agg cs, v, hf, h => by
    simp only [flatP] at hf
    simp only [PR] at h ⊢
    obtain ⟨vs, e, hl⟩ := h
    exact ⟨vs, e, flatPL_pr cs vs hf hl⟩
  | .sl _ _ _, _, hf, _ => by simp [flatP] at hf
  | .fn _, _, hf, _ => by simp [flatP] at hf
  | .nilf, _, hf, _ => by simp [flatP] at hf
  | .nilp, _, hf, _ => by simp [flatP] at hf
  | .nilm, _, hf, _ => by simp [flatP] at hf
  | .nili, _, hf, _ => by simp [flatP] at hf
theorem flatPL_pr {Y Y' : Nat → Prop} {w : World} : ∀ (cs : List PV) (vs : List Value), flatPL cs = true → PRL w Y cs vs → PRL w Y' cs vs
  | [], vs, _, h => by simpa only [PRL] using h
  | c :: cs, vs, hf, h => by
    simp only [flatPL, Bool.and_eq_true] at hf
    simp only [PRL] at h ⊢
    obtain ⟨v, r, e, ho, h1, h2⟩ := h
    exact ⟨v, r, e, ho, flatP_pr c v hf.1 h1, flatPL_pr cs r hf.2 h2⟩
end
theorem flatT_vr {Y Y' : Nat → Prop} {φ φ' : Phi} {w : World} : ∀ (vs : List AV) (us : List Value), flatT vs = true → VRT w Y φ vs us → VRT w Y' φ' vs us
  | [], us, _, h => by simpa only [VRT] using h
  | .pl p :: vs, us, hf, h => by
    simp only [flatT, Bool.and_eq_true] at hf
    simp only [VRT, VR] at h ⊢
    obtain ⟨u, r, e, h1, h2⟩ := h
    exact ⟨u, r, e, flatP_pr p u hf.1 h1, flatT_vr vs r hf.2 h2⟩
  | .un :: _, _, hf, _ => by simp [flatT] at hf
  | .own _ :: _, _, hf, _ => by simp [flatT] at hf
  | .vw _ _ _ :: _, _, hf, _ => by simp [flatT] at hf
  | .bp _ _ :: _, _, hf, _ => by simp [flatT] at hf
  | .ep _ _ _ :: _, _, hf, _ => by simp [flatT] at hf
  | .ip _ _ :: _, _, hf, _ => by simp [flatT] at hf
  | .mp _ :: _, _, hf, _ => by simp [flatT] at hf
  | .it _ :: _, _, hf, _ => by simp [flatT] at hf
  | .tup _ :: _, _, hf, _ => by simp [flatT] at hf
  | .clo _ _ :: _, _, hf, _ => by simp [flatT] at hf
  | .agg _ :: _, _, hf, _ => by simp [flatT] at hf
theorem flatA_vr {Y Y' : Nat → Prop} {φ φ' : Phi} {w : World} {a : AV} {v : Value} (hf : flatA a = true) (h : VR w Y φ a v) : VR w Y' φ' a v := by
  cases a <;> first | (simp [flatA] at hf; done) | skip
  · simp only [flatA] at hf; simp only [VR] at h ⊢; exact flatP_pr _ _ hf h
  · simp only [flatA] at hf
    simp only [VR] at h ⊢
    obtain ⟨vs, e, hl⟩ := h
    exact ⟨vs, e, flatT_vr _ _ hf hl⟩
theorem call_plain (hH : HR X φ H w) {k : Nat} {args : List AV} {vs : List Value} {outs : List (AV × Hp)} {call : Bool → Nat → List AV → Hp → Outs (AV × Hp)} (hcall : CallOK P call) {ps : List PV} {H1 : Hp} (hp : plains H args = some (ps, H1))
    (hv : VRT w (YOf X φ) φ args vs) (hc : call false k (ps.map .pl) [] = some outs) : Calls P k vs.toArray w (Ret X φ H w (outs.map fun r => (r.1, bif flatA r.1 then H else H1))) := by
  obtain ⟨φ1, hH1, ev1, kp1, hps⟩ := plains_ok hH hp hv
  obtain ⟨_, hpl, hcalls⟩ := hcall false k _ _ _ hc
  have hX : ∀ b, YOf X φ1 b → b < w.heap.size := by
    rintro b (hx | ⟨o, l, p, ho, hA⟩)
    · exact hH1.xlt b hx
    · exact (hH1.out o l b p ho hA).2
  have hY0 : ∀ b, YOf (YOf X φ1) noPhi b ↔ YOf X φ1 b := fun b => ⟨fun h => h.resolve_right (noBlk b), .inl⟩
  have hargs : VRT w (YOf (YOf X φ1) noPhi) noPhi (ps.map .pl) vs := by
    have : YOf (YOf X φ1) noPhi = YOf X φ1 := funext fun b => propext (hY0 b)
    rw [this]; exact hps noPhi
  refine (hcalls (fun _ => rfl) (YOf X φ1) noPhi w vs (HR.empty hX) hargs).mono fun e w' hr => ?_
  obtain ⟨r, hmem, v', φ', he, h1, h2, h3, _, _⟩ := hr
  have hheap : ∀ b, b < w.heap.size → w'.heap[b]? = w.heap[b]? := fun b hb => h3.heap b hb (noBlk b)
  have ev2 : Ev φ1 w φ1 w' := ⟨h3.os, h3.tape, h3.output, h3.size, fun b hb _ => hheap b hb, fun _ _ h => h, fun _ _ => .inl rfl⟩
  cases hfl : flatA r.1 with
  | true =>
    have ev3 : Ev φ w φ w' := ⟨h3.os, h3.tape, h3.output, h3.size, fun b hb _ => hheap b hb, fun _ _ h => h, fun _ _ => .inl rfl⟩
    refine ⟨(r.1, H), List.mem_map.2 ⟨r, hmem, by rw [hfl]; rfl⟩, v', φ, he, flatA_vr hfl h1, ?_, ev3, Nat.le_refl _, fun k _ h => h⟩
    exact hH.next ev3 hH.fresh hH.live (fun o x hx => .inl ⟨hx, rfl, fun l b p hl hA => hheap b (hH.out o l b p hl hA).2⟩) (fun o l b p ho _ => .inl ho)
  | false =>
  refine ⟨(r.1, H1), List.mem_map.2 ⟨r, hmem, by rw [hfl]; rfl⟩, v', φ1, he, ?_, ?_, ev1.trans ev2, by rw [kp1.2]; exact Nat.le_refl _, fun k _ h => kp1.1 k h⟩
  · exact plRes_vr (hpl rfl r hmem) (fun b hb => .inl hb) h1
  · exact hH1.next ev2 hH1.fresh hH1.live (fun o x hx => .inl ⟨hx, rfl, fun l b p hl hA => hheap b (hH1.out o l b p hl hA).2⟩) (fun o l b p ho _ => .inl ho)
theorem shared_ok (hH : HR X φ H w) {k F : Nat} {args : List AV} {vs : List Value} {outs : List (AV × Hp)} {call : Bool → Nat → List AV → Hp → Outs (AV × Hp)} (hcall : CallOK P call)
    (hv : VRT w (YOf X φ) φ args vs) (h : evShared call k args H F = some outs) : Enters P k ∧ Calls P k vs.toArray w (Ret X φ H w outs) := by
  unfold evShared at h
  split at h
  · rename_i l hl
    cases hb : l.all (fun r => inF F H.length (refD r.1) && objsIn F H.length r.2 && Nat.ble H.length r.2.length) with
    | false => rw [hb] at h; cases h
    | true =>
      rw [hb] at h
      simp only [cond_true, Option.some.injEq] at h; subst h
      rw [List.all_eq_true] at hb
      obtain ⟨hE, _, hc⟩ := hcall _ _ _ _ _ hl
      refine ⟨hE, (hc (fun h => by cases h) (cutX X φ F) (φ.cut F) w vs hH.cut (by rw [cut_Y]; exact VRT.re args vs (fun o _ => cut_re o) hv)).mono fun e w' hr => ?_⟩
      obtain ⟨r, hm, v', φ', he, h1, h2, h3, h4, h5⟩ := hr
      have hk := hb r hm
      simp only [Bool.and_eq_true] at hk
      obtain ⟨⟨c1, c2⟩, c3⟩ := hk
      have hlen : H.length ≤ r.2.length := by simpa using c3
      obtain ⟨u1, u2, u3, u4, u5⟩ := uncut hH h2 h3 hlen (fun k hk => h5 k (by rw [length_mask]; exact hk)) c2
      refine ⟨(r.1, patchH F 0 H r.2), List.mem_map.2 ⟨r, hm, rfl⟩, v', _, he, ?_, u1, u2, by rw [length_patch _ _ _ hlen]; exact hlen, u4⟩
      rw [u3]
      refine VR.re _ _ (fun o ho => ?_) h1
      unfold inF at c1
      rw [List.all_eq_true] at c1
      have := c1 o ho
      rw [Bool.or_eq_true, Nat.ble_eq] at this
      have e := u5 o this
      exact ⟨fun hne => by rw [e]; exact hne, fun z l he => by rw [e] at he; exact he⟩
  · cases h
theorem invoke_ok (hC : CfgOK P C) (hH : HR X φ H w) {k : Nat} {args : List AV} {vs : List Value} {outs : List (AV × Hp)} {call : Bool → Nat → List AV → Hp → Outs (AV × Hp)} (hcall : CallOK P call)
    (hv : VRT w (YOf X φ) φ args vs) (h : evInvoke C call k args H = some outs) : Enters P k ∧ Calls P k vs.toArray w (Ret X φ H w outs) := by
  unfold evInvoke at h
  rw [hC.noext k] at h
  simp only at h
  cases hb : C.byref k with
  | true =>
    simp only [hb, cond_true] at h
    exact shared_ok hH hcall hv h
  | false =>
    simp only [hb, cond_false] at h
    split at h
    · rename_i ps H1 hps
      split at h
      · rename_i l hl
        simp only [Option.some.injEq] at h; subst h
        exact ⟨(hcall _ _ _ _ _ hl).1, call_plain hH hcall hps hv hl⟩
      · cases h
    · exact shared_ok hH hcall hv h
theorem vrt_map {ρ : Operand → Value} {ra : Operand → AV} (hρ : ∀ x, VR w Y φ (ra x) (ρ x)) : ∀ l : List Operand, VRT w Y φ (l.map ra) (l.map ρ)
  | [] => by simp [VRT]
  | x :: l => by simp only [List.map_cons, VRT]; exact ⟨_, _, rfl, hρ x, vrt_map hρ l⟩

theorem o_call {o : Oper} {Q : Exit → Act → World → Prop} {K : Act → World → Prop} {f : Nat} {args : Array Value} {Rr : Ending → World → Prop} (hrun : (execOp a.eval o).run P w = .ok (.enter f args) w) (hc : Calls P f args w Rr)
    (h : ∀ e w', Rr e w' → ∃ v, e = .returned v ∧ K (a.put o.dst v) w') : o.wp P a w K Q := by
  unfold Oper.wp
  rw [hrun, Oper.upon_enter]
  refine hc.mono fun e w' hr => ?_
  obtain ⟨v, rfl, hk⟩ := h e w' hr
  exact hk
def Nx (X : Nat → Prop) (nid : Nat) (H : Hp) (φ : Phi) (w : World) (outs : List (AV × Hp)) (v' : Value) (w' : World) : Prop :=
  ∃ r ∈ outs, ∃ φ', VR w' (YOf X φ') φ' r.1 v' ∧ HR X φ' r.2 w' ∧ Ev φ w φ' w' ∧ H.length ≤ r.2.length ∧ ∀ k, k ≠ nid → k < H.length → φ k = .fresh → φ' k = .fresh
theorem op_pure (hC : CfgOK P C) (hH : HR X φ H w) (hf : Free φ H nid) {ra : Operand → AV} (hρ : ∀ x, VR w (YOf X φ) φ (ra x) (a.eval x)) {o : Oper} {outs : List (AV × Hp)}
    (h : (match evPure C nid ra H o.op with | some r => some [r] | none => none) = some outs) {Q : Exit → Act → World → Prop} {K : Act → World → Prop} (hK : ∀ v' w', Nx X nid H φ w outs v' w' → K (a.put o.dst v') w') : o.wp P a w K Q := by
  split at h
  · rename_i r hr
    obtain ⟨v, H'⟩ := r
    simp only [Option.some.injEq] at h; subst h
    obtain ⟨d, op, ty, pos, af, g⟩ := o
    obtain ⟨nx, v', w', φ', hrun, hnx, h1, h2, h3, h4, h5⟩ := g_pure (ρ := a.eval) (d := d) (ty := ty) (pos := pos) (af := af) (g := g) hC hH hf hρ hr
    have hk := hK v' w' ⟨(v, H'), by simp, φ', h1, h2, h3, h4, fun k hk _ h => h5 k hk h⟩
    unfold Oper.wp
    rcases hnx with rfl | ⟨rfl, rfl⟩
    · rw [hrun, Oper.upon_value]; exact hk
    · rw [hrun, Oper.upon_skip]; exact hk
  · cases h
theorem op_ok (hC : CfgOK P C) {call : Bool → Nat → List AV → Hp → Outs (AV × Hp)} (hcall : CallOK P call) (hH : HR X φ H w) (hf : Free φ H nid) {ra : Operand → AV} (hρ : ∀ x, VR w (YOf X φ) φ (ra x) (a.eval x)) {o : Oper} {outs : List (AV × Hp)}
    (h : evOp C call nid ra H o.op = some outs) {Q : Exit → Act → World → Prop} {K : Act → World → Prop} (hK : ∀ v' w', Nx X nid H φ w outs v' w' → K (a.put o.dst v') w') : o.wp P a w K Q := by
  unfold evOp at h
  · skip
    split at h
    · rename_i c hop
      obtain ⟨d, op, ty, pos, af, g⟩ := o
      simp only at hop; subst hop
      obtain ⟨callee, args, ts⟩ := c
      have go : ∀ (f : Operand) (k : Nat) (cs : List AV) (us : List Value), callee = .value f → a.eval f = .func (.func k) #[] us.toArray → VRT w (YOf X φ) φ cs us → evInvoke C call k (args.toList.map ra ++ cs) H = some outs → Oper.wp P ⟨d, .call ⟨callee, args, ts⟩, ty, pos, af, g⟩ a w K Q := by
        intro f k cs us hcal hfv hcs hinv
        subst hcal
        obtain ⟨hE, hcalls⟩ := invoke_ok hC hH hcall ((vrt_map hρ args.toList).append hcs) hinv
        refine o_call (x_call hE hfv rfl) (Rr := Ret X φ H w outs) ?_ ?_
        · have : (args.toList.map a.eval ++ us).toArray = args.map a.eval ++ us.toArray := by
            apply Array.ext'; simp
          rw [← this]; exact hcalls
        · rintro e w' ⟨r, hm, v', φ', rfl, h1, h2, h3, h4, h5⟩
          exact ⟨v', rfl, hK v' w' ⟨r, hm, φ', h1, h2, h3, h4, fun k _ hk hfr => h5 k hk hfr⟩⟩
      split at h
      · rename_i f hcal
        simp only at hcal
        have hfv := hρ f
        split at h
        · rename_i k hk
          rw [hk] at hfv
          simp only [VR, PR] at hfv
          exact go f k [] [] hcal (by rw [hfv]) (by simp [VRT]) (by simpa using h)
        · rename_i k cs hk
          rw [hk] at hfv
          simp only [VR] at hfv
          obtain ⟨us, hfv, hcs⟩ := hfv
          exact go f k cs us hcal hfv hcs h
        · cases h
      · exact op_pure hC hH hf hρ h hK
    · rename_i it hop
      obtain ⟨d, op, ty, pos, af, g⟩ := o
      simp only at hop; subst hop
      obtain ⟨r, hm, nx, v', w', φ', hrun, hnx, h1, h2, h3, h4, h5⟩ := g_next (nid := nid) (ρ := a.eval) (d := d) (ty := ty) (pos := pos) (af := af) (g := g) hH h (hρ it)
      have hk := hK v' w' ⟨r, hm, φ', h1, h2, h3, h4, fun k hk _ h => h5 k hk h⟩
      unfold Oper.wp
      rcases hnx with rfl | ⟨rfl, rfl⟩
      · rw [hrun, Oper.upon_value]; exact hk
      · rw [hrun, Oper.upon_skip]; exact hk
    · exact op_pure hC hH hf hρ h hK
end
end Go.Proofs.Ytkcafackfihmiaa
namespace Go.Proofs.Ytkcafackfihmiaa
set_option linter.unusedSimpArgs false
set_option linter.unusedVariables false
open Go.RowKit
theorem flatO_ok {α β : Type} {f : α → Outs β} : ∀ {l : List α} {outs : List β}, flatO f l = some outs → ∀ a ∈ l, ∃ o, f a = some o ∧ ∀ y ∈ o, y ∈ outs
  | [], _, _, _, h => by cases h
  | x :: l, outs, h, a, ha => by
    simp only [flatO] at h
    split at h
    · rename_i o1 h1
      split at h
      · rename_i o2 h2
        simp only [Option.some.injEq] at h; subst h
        rcases List.mem_cons.1 ha with rfl | ha
        · exact ⟨o1, h1, fun y hy => List.mem_append_left _ hy⟩
        · obtain ⟨o, h3, h4⟩ := flatO_ok h2 a ha
          exact ⟨o, h3, fun y hy => List.mem_append_right _ (h4 y hy)⟩
      · cases h
    · cases h
theorem bindO_ok {α β : Type} {x : Outs α} {f : α → Outs β} {outs : List β} (h : bindO x f = some outs) : ∃ l, x = some l ∧ ∀ a ∈ l, ∃ o, f a = some o ∧ ∀ y ∈ o, y ∈ outs := by
  unfold bindO at h
  split at h
  · cases h
  · rename_i a
    exact ⟨_, rfl, fun b hb => by rw [List.mem_singleton.1 hb]; exact ⟨outs, h, fun _ hy => hy⟩⟩
  · exact ⟨_, rfl, flatO_ok h⟩

section
variable {P : Program} {C : Cfg} {w w' w'' : World} {Y Y' X : Nat → Prop} {φ φ' φ'' : Phi} {H H' H'' : Hp}
variable {nid n : Nat} {s : Tr} {a : Act} {D : List Deferred}
def Gr (φ : Phi) (H : Hp) (φ' : Phi) (H' : Hp) : Prop := H.length ≤ H'.length ∧ ∀ k, k < H.length → φ k = .fresh → φ' k = .fresh
theorem Gr.refl (φ : Phi) (H : Hp) : Gr φ H φ H := ⟨Nat.le_refl _, fun _ _ h => h⟩
theorem Gr.trans (h : Gr φ H φ' H') (k : Gr φ' H' φ'' H'') : Gr φ H φ'' H'' := ⟨Nat.le_trans h.1 k.1, fun i hi e => k.2 i (Nat.lt_of_lt_of_le hi h.1) (h.2 i hi e)⟩
theorem tmps_bool {t : Nat} {b : Bool} (h : a.tmps.getD t undef = .bool b) : a.tmps[t]? = some (.bool b) := by
  rw [Array.getD_eq_getD_getElem?] at h
  cases hg : a.tmps[t]? with
  | none => rw [hg] at h; simp [undef] at h
  | some v => rw [hg] at h; simp at h; rw [h]
theorem want_ok {ops : List Oper} {o : Oper} {b : Bool} (hS : SR D X n s H φ a w) (h : want ops s o.guard = some b) : Region.wanted o (yielded ops.toArray a.tmps) = b := by
  unfold want at h
  unfold Region.wanted
  split at h
  · rename_i hg
    simp only [Option.some.injEq] at h; subst h
    rw [hg]
  · rename_i j c hg
    rw [hg]
    simp only
    split at h
    · rename_i t ht
      have ht' : ((ops.toArray[j]?).bind (·.dst)) = some t := by
        unfold dstOf at ht
        rw [List.getElem?_toArray]
        split at ht
        · rename_i o' ho'; rw [ho']; exact ht
        · cases ht
      have hv := hS.slots t
      split at h
      · rename_i c' hc
        simp only [Option.some.injEq] at h; subst h
        rw [hc] at hv
        simp only [VR, PR] at hv
        have := tmps_bool hv
        simp only [yielded, ht', Option.bind_some, this]
        cases c <;> cases c' <;> rfl
      · rename_i hc
        simp only [Option.some.injEq] at h; subst h
        rw [hc] at hv
        simp only [VR] at hv
        obtain ⟨vs, hv, hvs⟩ := hv
        simp only [VRT] at hvs; subst hvs
        have : yielded ops.toArray a.tmps j = none := by
          simp only [yielded, ht', Option.bind_some]
          rw [Array.getD_eq_getD_getElem?] at hv
          cases hg2 : a.tmps[t]? with
          | none => rfl
          | some u => rw [hg2] at hv; simp at hv; subst hv; rfl
        rw [this]; cases c <;> rfl
      · cases h
    · cases h
theorem ops_ok (hC : CfgOK P C) {call : Bool → Nat → List AV → Hp → Outs (AV × Hp)} (hcall : CallOK P call) {ops : List Oper} {Q : Exit → Act → World → Prop} :
    ∀ (r : List Oper) {s : Tr} {H : Hp} {φ : Phi} {a : Act} {w : World} {outs : List (Tr × Hp)}, evOps C call n ops r (s, H) = some outs → SR D X n s H φ a w →
      (∀ st ∈ outs, ∀ φ' a' w', SR D X n st.1 st.2 φ' a' w' → Ev φ w φ' w' → Gr φ H φ' st.2 → Q .normal a' w') → wpList P ops.toArray Q r a w
  | [], s, H, φ, a, w, outs, h, hS, hQ => by
    simp only [evOps, Option.some.injEq] at h; subst h
    exact hQ _ (List.mem_singleton.2 rfl) φ a w hS (Ev.refl _ _) (Gr.refl _ _)
  | o :: r, s, H, φ, a, w, outs, h, hS, hQ => by
    simp only [evOps] at h
    unfold wpList
    split at h
    · cases h
    · rename_i hw
      rw [if_neg (by rw [want_ok hS hw]; decide)]
      exact ops_ok hC hcall r h (hS.put (Ev.refl _ _) hS.hr vr_undef o.dst) hQ
    · rename_i hw
      rw [if_pos (want_ok hS hw)]
      obtain ⟨l, hl, hall⟩ := bindO_ok h
      refine .inl (op_ok hC hcall hS.hr hS.hr.free hS.val hl fun v' w' hn => ?_)
      obtain ⟨x, hx, φ', h1, h2, h3, h4, h5⟩ := hn
      obtain ⟨o', ho', hsub⟩ := hall x hx
      refine ops_ok hC hcall r ho' (hS.put h3 h2 h1 o.dst) fun st hst φ'' a'' w'' k1 k2 k3 => hQ st (hsub st hst) φ'' a'' w'' k1 (h3.trans k2) (Gr.trans ⟨h4, fun k hk e => h5 k (by omega) hk e⟩ k3)


def exOf : Ex → Exit
  | .norm => .normal
  | .exit i => .exit i
  | .ret => .ret
  | .pan ch => .panic ch
def Post (D : List Deferred) (X : Nat → Prop) (n : Nat) (φ : Phi) (H : Hp) (w : World) (outs : List (Ex × Tr × Hp)) (e : Exit) (a' : Act) (w' : World) : Prop :=
  ∃ r ∈ outs, exOf r.1 = e ∧ ∃ φ', SR D X n r.2.1 r.2.2 φ' a' w' ∧ Ev φ w φ' w' ∧ Gr φ H φ' r.2.2
theorem Post.sub {l outs : List (Ex × Tr × Hp)} (hs : ∀ r ∈ l, r ∈ outs) {e : Exit} (ev : Ev φ w φ' w') (gr : Gr φ H φ' H') {a' : Act} {w2 : World} (h : Post D X n φ' H' w' l e a' w2) : Post D X n φ H w outs e a' w2 := by
  obtain ⟨r, hr, he, φ'', h1, h2, h3⟩ := h
  exact ⟨r, hs r hr, he, φ'', h1, ev.trans h2, gr.trans h3⟩
def DrawOK (P : Program) (C : Cfg) (call : Bool → Nat → List AV → Hp → Outs (AV × Hp)) : Prop :=
  ∀ D X n ops s H s' H' φ a w id, planOK ops = true → evDrawn C call n ops (s, H) = some (s', H') → SR D X n s H φ a w → (Code.region id ops.toArray true).wp P (Post D X n φ H w [(.norm, s', H')]) a w
theorem loop_ok {c : Code} {body : Tr × Hp → Outs (Ex × Tr × Hp)}
    (hb : ∀ {s : Tr} {H : Hp} {φ : Phi} {a : Act} {w : World} {outs : List (Ex × Tr × Hp)}, body (s, H) = some outs → SR D X n s H φ a w → c.wp P (Post D X n φ H w outs) a w) :
    ∀ (f : Nat) {s : Tr} {H : Hp} {φ : Phi} {a : Act} {w : World} {outs : List (Ex × Tr × Hp)}, iter body f (s, H) = some outs → SR D X n s H φ a w → ∀ {Q : Exit → Act → World → Prop}, (∀ e a' w', Post D X n φ H w outs e a' w' → Q e a' w') → Code.rounds P c Q f a w
  | 0, s, H, φ, a, w, outs, h, _, _, _ => by simp [iter] at h
  | f + 1, s, H, φ, a, w, outs, h, hS, Q, hQ => by
    simp only [iter] at h
    obtain ⟨l, hl, hall⟩ := bindO_ok h
    rw [rounds_succ]
    refine Code.wp_mono ?_ (hb hl hS)
    intro e a' w' ⟨r, hr, he, φ', h1, h2, h3⟩
    obtain ⟨o, ho, hsub⟩ := hall r hr
    split at ho
    · rename_i hn
      rw [hn] at he; subst he
      exact loop_ok hb f (s := r.2.1) (H := r.2.2) ho h1 fun e a'' w'' hp => hQ e a'' w'' (hp.sub hsub h2 h3)
    · rename_i hn
      simp only [Option.some.injEq] at ho; subst ho
      have hq : Q e a' w' := hQ e a' w' ⟨r, hsub r (by simp), he, φ', h1, h2, h3⟩
      cases e <;> first | exact hq | skip
      exfalso
      cases hr1 : r.1 <;> simp_all [exOf]
theorem code_ok (hC : CfgOK P C) {call : Bool → Nat → List AV → Hp → Outs (AV × Hp)} (hcall : CallOK P call) (hdraw : DrawOK P C call) {fuel : Nat} :
    ∀ (c : Code) {s : Tr} {H : Hp} {φ : Phi} {a : Act} {w : World} {outs : List (Ex × Tr × Hp)}, codeOK c = true → evC C call fuel n c (s, H) = some outs → SR D X n s H φ a w → c.wp P (Post D X n φ H w outs) a w
  | .skip, s, H, φ, a, w, outs, _, h, hS => by
    simp only [evC, Option.some.injEq] at h; subst h
    exact wp_skip ⟨_, List.mem_singleton.2 rfl, rfl, φ, hS, Ev.refl _ _, Gr.refl _ _⟩
  | .region id ops false, s, H, φ, a, w, outs, _, h, hS => by
    simp only [evC] at h
    obtain ⟨l, hl, hall⟩ := bindO_ok h
    refine wp_region_list (by
      have := ops_ok (Q := Post D X n φ H w outs) hC hcall ops.toList hl hS fun st hst φ' a' w' h1 h2 h3 => ?_
      · simpa using this
      · obtain ⟨o, ho, hsub⟩ := hall st hst
        simp only [Option.some.injEq] at ho; subst ho
        exact ⟨_, hsub _ (List.mem_singleton.2 rfl), rfl, φ', h1, h2, h3⟩)
  | .region id ops true, s, H, φ, a, w, outs, hk, h, hS => by
    simp only [evC] at h
    split at h
    · rename_i st hst
      simp only [Option.some.injEq] at h; subst h
      have := hdraw D X n ops.toList s H st.1 st.2 φ a w id hk hst hS
      simpa using this
    · cases h
  | .seq x y, s, H, φ, a, w, outs, hk, h, hS => by
    simp only [codeOK, Bool.and_eq_true] at hk
    simp only [evC] at h
    obtain ⟨l, hl, hall⟩ := bindO_ok h
    refine wp_seq (Code.wp_mono ?_ (code_ok hC hcall hdraw x hk.1 hl hS))
    intro e a' w' ⟨r, hr, he, φ', h1, h2, h3⟩
    obtain ⟨o, ho, hsub⟩ := hall r hr
    split at ho
    · rename_i hn
      rw [hn] at he; subst he
      exact Code.wp_mono (fun e a'' w'' hp => hp.sub hsub h2 h3) (code_ok hC hcall hdraw y (s := r.2.1) (H := r.2.2) hk.2 ho h1)
    · rename_i hn
      simp only [Option.some.injEq] at ho; subst ho
      have hq : Post D X n φ H w outs e a' w' := ⟨r, hsub r (by simp), he, φ', h1, h2, h3⟩
      cases e <;> first | exact hq | skip
      exfalso
      cases hr1 : r.1 <;> simp_all [exOf]
  | .cond c x y, s, H, φ, a, w, outs, hk, h, hS => by
    simp only [codeOK, Bool.and_eq_true] at hk
    simp only [evC] at h
    split at h
    · rename_i t ht
      have hv := hS.val c
      rw [ht] at hv
      simp only [VR, PR] at hv
      refine wp_cond hv ?_
      cases t with
      | true => simpa using code_ok hC hcall hdraw x hk.1 (by simpa using h) hS
      | false => simpa using code_ok hC hcall hdraw y hk.2 (by simpa using h) hS
    · cases h
  | .block i c, s, H, φ, a, w, outs, hk, h, hS => by
    simp only [codeOK] at hk
    simp only [evC] at h
    obtain ⟨l, hl, hall⟩ := bindO_ok h
    refine wp_block (Code.wp_mono ?_ (code_ok hC hcall hdraw c hk hl hS))
    intro e a' w' ⟨r, hr, he, φ', h1, h2, h3⟩
    obtain ⟨o, ho, hsub⟩ := hall r hr
    split at ho
    · rename_i j hj
      rw [hj] at he; subst he
      simp only [exOf, Exit.inBlock]
      rcases beq_cases j i with ⟨hb, e⟩ | ⟨hb, e⟩
      · simp only [hb, cond_true, Option.some.injEq] at ho; subst ho
        rw [if_pos e]
        exact ⟨_, hsub _ (List.mem_singleton.2 rfl), rfl, φ', h1, h2, h3⟩
      · simp only [hb, cond_false, Option.some.injEq] at ho; subst ho
        rw [if_neg e]
        exact ⟨_, hsub _ (List.mem_singleton.2 rfl), by rw [hj]; rfl, φ', h1, h2, h3⟩
    · rename_i hn
      simp only [Option.some.injEq] at ho; subst ho
      have hq : Post D X n φ H w outs e a' w' := ⟨r, hsub r (by simp), he, φ', h1, h2, h3⟩
      cases e <;> first | exact hq | skip
      exfalso
      cases hr1 : r.1 <;> simp_all [exOf]
  | .loop c, s, H, φ, a, w, outs, hk, h, hS => by
    simp only [codeOK] at hk
    simp only [evC] at h
    exact wp_loop_rounds fuel (loop_ok (fun hl hS' => code_ok hC hcall hdraw c hk hl hS') fuel h hS fun e a' w' hp => hp)
  | .exit i, s, H, φ, a, w, outs, _, h, hS => by
    simp only [evC, Option.some.injEq] at h; subst h
    exact wp_exit ⟨_, List.mem_singleton.2 rfl, rfl, φ, hS, Ev.refl _ _, Gr.refl _ _⟩
  | .ret, s, H, φ, a, w, outs, _, h, hS => by
    simp only [evC, Option.some.injEq] at h; subst h
    exact wp_ret ⟨_, List.mem_singleton.2 rfl, rfl, φ, hS, Ev.refl _ _, Gr.refl _ _⟩
  | .goto _, _, _, _, _, _, _, _, h, _ => by simp [evC] at h
  | .label _, _, _, _, _, _, _, _, h, _ => by simp [evC] at h
  | .rangeFunc .., _, _, _, _, _, _, _, h, _ => by simp [evC] at h
  | .scope .., _, _, _, _, _, _, _, h, _ => by simp [evC] at h
end
end Go.Proofs.Ytkcafackfihmiaa
namespace Go.Proofs.Ytkcafackfihmiaa
set_option linter.unusedSimpArgs false
set_option linter.unusedVariables false
open Go.RowKit
section
variable {P : Program} {C : Cfg} {w w' w'' : World} {Y Y' X : Nat → Prop} {φ φ' φ'' : Phi} {H H' H'' : Hp}
variable {nid n : Nat} {s : Tr} {a : Act} {D : List Deferred}
theorem sem_id {α : Type} (x : Sem α) : (x >>= Pure.pure) = x := by
  show Sem.bind x Sem.pure = x
  induction x with
  | pure _ => rfl
  | halt _ => rfl
  | load m a k ih => simp only [Sem.bind]; congr 1; funext v; exact ih v
  | store m a v k ih => simp only [Sem.bind]; rw [ih]
  | new o k ih => simp only [Sem.bind]; congr 1; funext v; exact ih v
  | shape o k ih => simp only [Sem.bind]; congr 1; funext v; exact ih v
  | freeze a n k ih => simp only [Sem.bind]; rw [ih]
  | frozen a k ih => simp only [Sem.bind]; congr 1; funext v; exact ih v
  | getObj a k ih => simp only [Sem.bind]; congr 1; funext v; exact ih v
  | setObj a o k ih => simp only [Sem.bind]; rw [ih]
  | choose q k ih => simp only [Sem.bind]; congr 1; funext v; exact ih v
  | sys q k ih => simp only [Sem.bind]; congr 1; funext v; exact ih v
  | program k ih => simp only [Sem.bind]; congr 1; funext v; exact ih v
  | mark m k ih => simp only [Sem.bind]; rw [ih]
theorem sem_assoc {α β γ : Type} (x : Sem α) (f : α → Sem β) (g : β → Sem γ) : (x >>= f) >>= g = x >>= fun a => f a >>= g := by
  show Sem.bind (Sem.bind x f) g = Sem.bind x (fun a => Sem.bind (f a) g)
  induction x with
  | pure _ => rfl
  | halt _ => rfl
  | load m a k ih => simp only [Sem.bind]; congr 1; funext v; exact ih v
  | store m a v k ih => simp only [Sem.bind]; rw [ih]
  | new o k ih => simp only [Sem.bind]; congr 1; funext v; exact ih v
  | shape o k ih => simp only [Sem.bind]; congr 1; funext v; exact ih v
  | freeze a n k ih => simp only [Sem.bind]; rw [ih]
  | frozen a k ih => simp only [Sem.bind]; congr 1; funext v; exact ih v
  | getObj a k ih => simp only [Sem.bind]; congr 1; funext v; exact ih v
  | setObj a o k ih => simp only [Sem.bind]; rw [ih]
  | choose q k ih => simp only [Sem.bind]; congr 1; funext v; exact ih v
  | sys q k ih => simp only [Sem.bind]; congr 1; funext v; exact ih v
  | program k ih => simp only [Sem.bind]; congr 1; funext v; exact ih v
  | mark m k ih => simp only [Sem.bind]; rw [ih]
theorem sem_lawful : LawfulMonad Sem := LawfulMonad.mk' Sem (id_map := fun x => sem_id x) (pure_bind := fun _ _ => rfl) (bind_assoc := sem_assoc)
theorem load_var (hC : CfgOK P C) (hH : HR X φ H w) {t : Nat} {p v : AV} {pv : Value} (h : evLoad C H t p = some v) (hx : VR w (YOf X φ) φ p pv) :
    ∃ u, (do loadVar t (← asAddr pv) : Sem Value).run P w = .ok u w ∧ VR w (YOf X φ) φ v u := by
  obtain ⟨u, hr, hv⟩ := g_load (ρ := fun _ => pv) (x := .tmp 0) (d := none) (ty := 0) (pos := "") (af := #[]) (g := none) hC hH h hx
  refine ⟨u, ?_, hv⟩
  simp only [execOp, Instr.loadAt] at hr
  have key : (do loadVar t (← asAddr pv) : Sem Value).run P w = (do loadVar t (← Instr.sureAddr pv) : Sem Value).run P w := by
    cases pv with
    | pointer q =>
      cases q with
      | none => simp [Instr.sureAddr] at hr
      | some a => simp [Instr.sureAddr, asAddr]
    | _ => simp [Instr.sureAddr] at hr
  rw [key]
  generalize (do loadVar t (← Instr.sureAddr pv) : Sem Value) = m at hr
  simp only [Sem.run_bind, Sem.run_map] at hr
  cases hm : m.run P w with
  | ok x y => rw [hm] at hr; simp at hr; rw [hr.1, hr.2]
  | halt x y => rw [hm] at hr; simp at hr
def resS (tmps : Array Value) : ResultVar → Sem Value
  | .tmp t => pure (tmps.getD t undef)
  | .cell a t => do loadVar t (← asAddr (tmps.getD a undef))
theorem evRes_ok (hC : CfgOK P C) (hS : SR D X n s H φ a w) {r : ResultVar} {v : AV} (h : evRes C s H r = some v) : ∃ u, (resS a.tmps r).run P w = .ok u w ∧ VR w (YOf X φ) φ v u := by
  cases r with
  | tmp t => simp only [evRes, Option.some.injEq] at h; subst h; exact ⟨_, rfl, hS.slots t⟩
  | cell p t => exact load_var hC hS.hr h (hS.slots p)
theorem evResL_ok (hC : CfgOK P C) (hS : SR D X n s H φ a w) : ∀ {l : List ResultVar} {vs : List AV}, evResL C s H l = some vs → ∃ us, VRT w (YOf X φ) φ vs us ∧ us.length = l.length ∧ ∀ (i : Nat) (r : ResultVar), l[i]? = some r → ∃ u, us[i]? = some u ∧ (resS a.tmps r).run P w = .ok u w
  | [], vs, h => by simp only [evResL, Option.some.injEq] at h; subst h; exact ⟨[], by simp [VRT], rfl, fun i r hi => by simp at hi⟩
  | r :: l, vs, h => by
    simp only [evResL] at h
    split at h
    · rename_i v hv
      obtain ⟨vs', h1, rfl⟩ := Option.map_eq_some_iff.1 h
      obtain ⟨u, hu, hvr⟩ := evRes_ok hC hS hv
      obtain ⟨us, h2, h3, h4⟩ := evResL_ok hC hS h1
      refine ⟨u :: us, by simp only [VRT]; exact ⟨u, us, rfl, hvr, h2⟩, by simp [h3], fun i r' hi => ?_⟩
      cases i with
      | zero => simp at hi; subst hi; exact ⟨u, by simp, hu⟩
      | succ i => simp at hi; simpa using h4 i r' hi
    · cases h
theorem mapM_list {α : Type} {f : α → Sem Value} : ∀ (l : List α) (us : List Value), us.length = l.length → (∀ (i : Nat) (x : α), l[i]? = some x → ∃ u, us[i]? = some u ∧ (f x).run P w = .ok u w) → (l.mapM f).run P w = .ok us w
  | [], us, h, _ => by
    haveI := sem_lawful
    have : us = [] := by simpa using h
    subst this; rw [List.mapM_nil]; rfl
  | x :: l, us, h, hf => by
    haveI := sem_lawful
    cases us with
    | nil => simp at h
    | cons u us =>
      obtain ⟨u', h1, h2⟩ := hf 0 x (by simp)
      simp at h1; subst h1
      have ih := mapM_list l us (by simpa using h) (fun i y hy => by
        obtain ⟨v, h3, h4⟩ := hf (i + 1) y (by simpa using hy)
        exact ⟨v, by simpa using h3, h4⟩)
      rw [List.mapM_cons, Sem.run_bind, h2]
      change Sem.run P (List.mapM f l >>= fun bs => pure (u :: bs)) w = _
      rw [Sem.run_bind, ih]
      rfl
theorem mapM_run {α : Type} {f : α → Sem Value} (xs : Array α) (us : List Value) (hlen : us.length = xs.size) (hf : ∀ (i : Nat) (x : α), xs[i]? = some x → ∃ u, us[i]? = some u ∧ (f x).run P w = .ok u w) : (xs.mapM f).run P w = .ok us.toArray w := by
  haveI := sem_lawful
  rw [Array.mapM_eq_mapM_toList, map_eq_pure_bind, Sem.run_bind, mapM_list xs.toList us (by simpa using hlen) (fun i x hx => hf i x (by simpa using hx))]
  rfl
theorem results_ok (hC : CfgOK P C) (hS : SR D X n s H φ a w) {fn : Func} {v : AV} (h : evRet C s H fn.results.toList = some v) : ∃ u, (results fn a.tmps).run P w = .ok u w ∧ VR w (YOf X φ) φ v u := by
  unfold evRet at h
  have main : ∀ vs, evResL C s H fn.results.toList = some vs → ∃ us : List Value, VRT w (YOf X φ) φ vs us ∧ (results fn a.tmps).run P w = .ok (if h : us.toArray.size = 1 then us.toArray[0] else .tuple us.toArray) w := by
    intro vs hvs
    obtain ⟨us, h1, h2, h3⟩ := evResL_ok hC hS hvs
    refine ⟨us, h1, ?_⟩
    have hm := mapM_run (P := P) (w := w) (f := resS a.tmps) fn.results us (by simpa using h2) (fun i x hx => h3 i x (by simpa using hx))
    have he : results fn a.tmps = (fn.results.mapM (resS a.tmps) >>= fun vs => pure (if h : vs.size = 1 then vs[0] else .tuple vs)) := by
      unfold results; congr 1
    rw [he, Sem.run_bind, hm]
    rfl
  split at h
  · rename_i v1 hv1
    simp only [Option.some.injEq] at h; subst h
    obtain ⟨us, h1, h2⟩ := main _ hv1
    simp only [VRT] at h1
    obtain ⟨u, r, rfl, hu, rfl⟩ := h1
    exact ⟨u, by simpa using h2, hu⟩
  · rename_i vs hne hvs
    simp only [Option.some.injEq] at h; subst h
    obtain ⟨us, h1, h2⟩ := main _ hvs
    refine ⟨.tuple us.toArray, ?_, by simp only [VR]; exact ⟨us, rfl, h1⟩⟩
    rw [h2, dif_neg]
    have hl := h1.length
    simp only [List.size_toArray]
    intro h1'
    rw [hl] at h1'
    obtain ⟨x, hx⟩ := List.length_eq_one_iff.1 h1'
    exact hne x (by rw [← hx])
  · cases h

theorem initS_ok : ∀ {args : List AV} {vs : List Value} (i : Nat) (s : Tr) (f : Nat → Value), VRT w Y φ args vs → (∀ t, VR w Y φ (s.get 12 t) (f t)) → ∀ t, VR w Y φ ((initS args i s).get 12 t) (if i ≤ t ∧ t < i + vs.length then (vs[t - i]?).getD undef else f t)
  | [], vs, i, s, f, h, hs, t => by
    simp only [VRT] at h; subst h
    rw [if_neg (by simp)]; exact hs t
  | v :: r, vs, i, s, f, h, hs, t => by
    simp only [VRT] at h
    obtain ⟨u, us, rfl, hu, hr⟩ := h
    simp only [initS]
    have := initS_ok (i + 1) (s.put 12 i v) (fun t => if t = i then u else f t) hr (fun t => by
      by_cases e : t = i
      · subst e; rw [if_pos rfl]
        rcases get_put_self 12 s t v with h1 | h1
        · rw [h1]; exact hu
        · rw [h1]; simp only [VR]
      · rw [if_neg e, get_put_ne 12 s i t v e]; exact hs t) t
    by_cases h1 : i + 1 ≤ t ∧ t < i + 1 + us.length
    · rw [if_pos h1] at this
      rw [if_pos (by simp; omega)]
      rw [show t - i = (t - (i + 1)) + 1 from by omega]; simpa using this
    · rw [if_neg h1] at this
      by_cases e : t = i
      · subst e; rw [if_pos rfl] at this
        rw [if_pos (by simp)]; simpa using this
      · rw [if_neg e] at this
        rw [if_neg (by simp only [List.length_cons]; omega)]; exact this
theorem plains_pl : ∀ {vs : List AV} {ps : List PV} {H1 : Hp}, plains H vs = some (ps, H1) → plRes (.tup (ps.map .pl)) = true
  | _, ps, _, _ => by simp [plRes, isPl, List.all_eq_true]
theorem plainR_pl {v v' : AV} (h : plainR H v = some v') : plRes v' = true := by
  unfold plainR at h
  split at h
  · split at h
    · rename_i ps H1 hps
      simp only [Option.some.injEq] at h; subst h; exact plains_pl hps
    · cases h
  · split at h
    · simp only [Option.some.injEq] at h; subst h; rfl
    · cases h
theorem plainR_ok (hH : HR X φ H w) {v v' : AV} {u : Value} (h : plainR H v = some v') (hv : VR w (YOf X φ) φ v u) : ∃ φ1 H1, HR X φ1 H1 w ∧ Ev φ w φ1 w ∧ Kp φ H φ1 H1 ∧ VR w (YOf X φ1) φ1 v' u := by
  unfold plainR at h
  split at h
  · split at h
    · rename_i ps H1 hps
      simp only [Option.some.injEq] at h; subst h
      simp only [VR] at hv
      obtain ⟨vs, rfl, hvs⟩ := hv
      obtain ⟨φ1, h1, h2, h3, h4⟩ := plains_ok hH hps hvs
      exact ⟨φ1, H1, h1, h2, h3, by simp only [VR]; exact ⟨vs, rfl, h4 φ1⟩⟩
    · cases h
  · split at h
    · rename_i p H1 hp
      simp only [Option.some.injEq] at h; subst h
      obtain ⟨φ1, h1, h2, h3, h4⟩ := plain_ok hH hp hv
      exact ⟨φ1, H1, h1, h2, h3, by simp only [VR]; exact h4⟩
    · cases h
mutual
theorem eqPV_eq : ∀ (p q : PV), eqPV p q = true → p = q
  | .int k a, q, h => by
    cases q <;> simp [eqPV] at h ⊢
    exact ⟨kindEq_eq h.1, h.2⟩
  | .bool a, q, h => by cases q <;> simp [eqPV] at h ⊢; exact h
  | .str a, q, h => by
    cases q <;> simp only [eqPV, decide_eq_true_eq, Bool.false_eq_true] at h
    rw [bytes_eq h]
  | .agg x, q, h => by
    cases q <;> simp only [eqPV, Bool.false_eq_true] at h
    rw [eqPL_eq x _ h]
  | .sl f n x, q, h => by
    cases q <;> first | (cases f <;> simp [eqPV] at h; done) | skip
    rename_i f' m y
    cases f <;> cases f' <;> first | (simp [eqPV] at h; done) | skip
    all_goals
      simp only [eqPV, Bool.and_eq_true, Nat.beq_eq] at h
      rw [h.1, eqPE_eq x y h.2]
  | .fn a, q, h => by cases q <;> simp [eqPV] at h ⊢; exact h
  | .nilf, q, h => by cases q <;> simp [eqPV] at h ⊢
  | .nilp, q, h => by cases q <;> simp [eqPV] at h ⊢
  | .nilm, q, h => by cases q <;> simp [eqPV] at h ⊢
  | .nili, q, h => by cases q <;> simp [eqPV] at h ⊢
  | .ifc t v, q, h => by cases q <;> simp [eqPV] at h
theorem eqPL_eq : ∀ (p q : List PV), eqPL p q = true → p = q
  | [], q, h => by cases q <;> simp [eqPL] at h ⊢
  | a :: x, q, h => by
    cases q <;> simp only [eqPL, Bool.and_eq_true, Bool.false_eq_true] at h
    rw [eqPV_eq a _ h.1, eqPL_eq x _ h.2]
theorem eqPE_eq : ∀ (p q : List (List PV)), eqPE p q = true → p = q
  | [], q, h => by cases q <;> simp [eqPE] at h ⊢
  | a :: x, q, h => by
    cases q <;> simp only [eqPE, Bool.and_eq_true, Bool.false_eq_true] at h
    rw [eqPL_eq a _ h.1, eqPE_eq x _ h.2]
end
theorem eqAL_eq : ∀ (p q : List AV), eqAL p q = true → p = q
  | [], q, h => by cases q <;> simp [eqAL] at h ⊢
  | a :: x, q, h => by
    cases q with
    | nil => cases a <;> simp [eqAL] at h
    | cons b y =>
      cases a <;> cases b <;> first | (simp [eqAL] at h; done) | skip
      simp only [eqAL, Bool.and_eq_true] at h
      rw [eqPV_eq _ _ h.1, eqAL_eq x _ h.2]
theorem eqR_eq {x y : AV × Hp} (h : eqR x y = true) : x = y := by
  unfold eqR at h
  split at h
  · rw [eqPV_eq _ _ h]
  · rw [eqAL_eq _ _ h]
  · cases h
theorem mem_dedup : ∀ {l : List (AV × Hp)} {x : AV × Hp}, x ∈ dedup l ↔ x ∈ l
  | [], x => Iff.rfl
  | y :: r, x => by
    simp only [dedup]
    cases hb : r.any (eqR y) with
    | true =>
      simp only [cond_true, mem_dedup, List.mem_cons]
      refine ⟨.inr, fun h => ?_⟩
      rcases h with rfl | h
      · obtain ⟨z, hz, he⟩ := List.any_eq_true.1 hb
        rw [eqR_eq he]; exact hz
      · exact h
    | false => simp only [cond_false, List.mem_cons, mem_dedup]
theorem mem_dd {br : Bool} {l : List (AV × Hp)} {x : AV × Hp} : x ∈ (bif br then l else dedup l) ↔ x ∈ l := by
  cases br
  · exact mem_dedup
  · exact Iff.rfl
theorem evCall_ok (hC : CfgOK P C) (hd : ∀ call, CallOK P call → DrawOK P C call) : ∀ N, CallOK P (evCall C N)
  | 0 => fun br k args H outs h => by simp [evCall] at h
  | N + 1 => fun br k args H outs h => by
    have ih := evCall_ok hC hd N
    simp only [evCall] at h
    split at h
    · cases h
    · rename_i f hf
      split at h
      · cases h
      · rename_i c hc
        have hfn := hC.fn k f hf
        cases hle : Nat.ble args.length f.ntmps with
        | false => simp [hle] at h
        | true =>
          simp only [hle, Bool.not_true, cond_false] at h
          rw [Option.map_eq_some_iff] at h
          obtain ⟨outs, h, ho⟩ := h
          subst ho
          suffices hs : Enters P k ∧ (br = false → ∀ r ∈ outs, plRes r.1 = true) ∧ ((br = false → H = []) → ∀ X φ w vs, HR X φ H w → VRT w (YOf X φ) φ args vs → Calls P k vs.toArray w (Ret X φ H w outs)) from
            ⟨hs.1, fun hb r hr => hs.2.1 hb r (mem_dd.1 hr), fun hb X φ w vs hH hv => (hs.2.2 hb X φ w vs hH hv).mono fun e w' ⟨r, hr, h⟩ => ⟨r, mem_dd.2 hr, h⟩⟩
          obtain ⟨l, hl, hall⟩ := bindO_ok h
          refine ⟨enters_of hfn (hC.name k f hf) (by rw [hc]; rfl), fun hbr r hr => ?_, fun hbr0 X φ w vs hH hv => ?_⟩
          · subst hbr
            -- each outcome is plain
            have : ∀ r ∈ outs, plRes r.1 = true := by
              have key : ∀ (l : List (Ex × Tr × Hp)) (outs : List (AV × Hp)) (g : Ex × Tr × Hp → Outs (AV × Hp)), (∀ a o, g a = some o → ∀ y ∈ o, plRes y.1 = true) → bindO (some l) g = some outs → ∀ r ∈ outs, plRes r.1 = true := by
                intro l outs g hg hb
                have fl : ∀ (l : List (Ex × Tr × Hp)) (outs : List (AV × Hp)), flatO g l = some outs → ∀ r ∈ outs, plRes r.1 = true := by
                  intro l
                  induction l with
                  | nil => intro outs h r hr; simp only [flatO, Option.some.injEq] at h; subst h; cases hr
                  | cons x l ih =>
                    intro outs h r hr
                    simp only [flatO] at h
                    split at h
                    · rename_i o1 h1
                      split at h
                      · rename_i o2 h2
                        simp only [Option.some.injEq] at h; subst h
                        rcases List.mem_append.1 hr with hr | hr
                        · exact hg x o1 h1 r hr
                        · exact ih o2 h2 r hr
                      · cases h
                    · cases h
                unfold bindO at hb
                split at hb
                · cases hb
                · rename_i a0 heq
                  exact hg _ _ hb
                · rename_i l' hne heq
                  simp only [Option.some.injEq] at heq; subst heq
                  exact fl _ _ hb
              rw [hl] at h
              refine key l outs _ ?_ h
              intro a o ho y hy
              split at ho
              · cases ho
              · cases ho
              · split at ho
                · cases ho
                · rename_i v hv
                  simp only [cond_false] at ho
                  split at ho
                  · rename_i v' hv'
                    simp only [Option.some.injEq] at ho; subst ho
                    rw [List.mem_singleton.1 hy]; exact plainR_pl hv'
                  · cases ho
            exact this r hr
          · refine calls_of_wp hfn hc ?_
            have hlen := hv.length
            have hle' : vs.length ≤ f.ntmps := by rw [hlen]; simpa using hle
            have hS : SR [] X f.ntmps (initS args 0 .leaf) H φ { tmps := vs.toArray ++ Array.replicate (f.ntmps - vs.toArray.size) undef, defers := [] } w := by
              refine ⟨rfl, by simp; omega, fun t => ?_, hH⟩
              have := initS_ok 0 .leaf (fun _ => undef) hv (fun t => by rw [get_leaf]; simp only [VR]) t
              have he : (vs.toArray ++ Array.replicate (f.ntmps - vs.toArray.size) undef).getD t undef = if 0 ≤ t ∧ t < 0 + vs.length then (vs[t - 0]?).getD undef else undef := by
                rw [Array.getD_eq_getD_getElem?, Array.getElem?_append]
                by_cases ht : t < vs.length
                · simp [ht]
                · simp only [List.size_toArray, ht, if_false, Array.getElem?_replicate]
                  have hn : ¬ (0 ≤ t ∧ t < 0 + vs.length) := by omega
                  rw [if_neg hn]
                  split <;> rfl
              rw [he]; exact this
            refine Code.wp_mono ?_ (code_ok hC ih (hd _ ih) c (hC.code k f c hf hc) hl hS)
            intro e a' w' ⟨r, hr, he, φ', h1, h2, h3⟩
            obtain ⟨o, ho, hsub⟩ := hall r hr
            have fin : bodyPost P f (Ret X φ H w outs) .normal a' w' ∧ (∀ i, exOf r.1 ≠ .exit i) ∧ ∀ ch, r.1 ≠ .pan ch := by
              split at ho
              · cases ho
              · cases ho
              · rename_i hne hne2
                refine ⟨?_, fun i hi => ?_, fun ch hi => hne2 ch hi⟩
                · split at ho
                  · cases ho
                  · rename_i v hv'
                    obtain ⟨u, hu1, hu2⟩ := results_ok hC h1 hv'
                    refine ⟨h1.defers, u, hu1, ?_⟩
                    cases br with
                    | true =>
                      simp only [cond_true, Option.some.injEq] at ho; subst ho
                      exact ⟨_, hsub _ (List.mem_singleton.2 rfl), u, φ', rfl, hu2, h1.hr, h2, h3.1, h3.2⟩
                    | false =>
                      simp only [cond_false] at ho
                      split at ho
                      · rename_i v' hv2
                        simp only [Option.some.injEq] at ho; subst ho
                        have hH0 := hbr0 rfl
                        subst hH0
                        have hφ : φ = noPhi := funext fun o => hH.fresh o (Nat.zero_le _)
                        subst hφ
                        obtain ⟨φ1, H1, k1, k2, k3, k4⟩ := plainR_ok h1.hr hv2 hu2
                        refine ⟨_, hsub _ (List.mem_singleton.2 rfl), u, noPhi, rfl, plRes_vr (plainR_pl hv2) (fun b hb => hb.imp id fun hc => absurd hc (noBlk b)) k4, HR.empty h1.hr.xlt, ?_, Nat.le_refl _, fun _ _ _ => rfl⟩
                        exact ⟨h2.os, h2.tape, h2.output, h2.size, h2.heap, fun b hb hc => absurd hc (noBlk b), fun o ho => absurd rfl ho⟩
                      · cases ho
                · cases hr1 : r.1 with
                  | exit j => exact hne j hr1
                  | norm => rw [hr1] at hi; cases hi
                  | ret => rw [hr1] at hi; cases hi
                  | pan ch => rw [hr1] at hi; cases hi
            subst he
            cases hr1 : r.1 with
            | norm => exact fin.1
            | ret => exact fin.1
            | exit i => exact absurd (by rw [hr1]; rfl) (fin.2.1 i)
            | pan ch => exact absurd hr1 (fin.2.2 ch)
end
end Go.Proofs.Ytkcafackfihmiaa
namespace Go.Proofs.Ytkcafackfihmiaa
set_option linter.unusedSimpArgs false
set_option linter.unusedVariables false
open Go.RowKit
def unfl : Option Ob → Option Ob
  | some (.row _ sz es) => some (.row true sz es)
  | x => x
theorem unfl_cases {a b : Option Ob} (e : unfl b = unfl a) : b = a ∨ ∃ f f' sz es, a = some (.row f sz es) ∧ b = some (.row f' sz es) := by
  cases a with
  | none => cases b with
    | none => exact .inl rfl
    | some y => cases y <;> simp [unfl] at e
  | some x => cases b with
    | none => cases x <;> simp [unfl] at e
    | some y =>
      cases x <;> cases y <;> simp only [unfl] at e <;> first
        | exact .inl e
        | (simp at e; done)
        | (simp only [Option.some.injEq, Ob.row.injEq, true_and] at e; obtain ⟨rfl, rfl⟩ := e; exact .inr ⟨_, _, _, _, rfl, rfl⟩)
def Agu (R : List Nat) (H H2 : Hp) : Prop := ∀ o ∈ R, unfl (hget H2 o) = unfl (hget H o)
section
variable {C : Cfg} {H H' H2 : Hp} {nid : Nat}
theorem l_load {t : Nat} {p : AV} (h : Agu (ref1 p) H H2) : evLoad C H2 t p = evLoad C H t p := by
  cases p <;> first
    | rfl
    | (rcases unfl_cases (h _ (List.mem_singleton.2 rfl)) with e | ⟨f, f', sz, es, h1, h2⟩
       · simp only [evLoad, e]
       · simp only [evLoad, h1, h2])
theorem l_alive {o : Nat} (h : unfl (hget H2 o) = unfl (hget H o)) : alive H2 o = alive H o := by
  rcases unfl_cases h with e | ⟨f, f', sz, es, h1, h2⟩
  · simp only [alive, e]
  · simp only [alive, h1, h2]
theorem l_indexAddr {t : Nat} {p i : AV} (h : Agu (ref1 p) H H2) : evIndexAddr C H2 t p i = evIndexAddr C H t p i := by
  cases p with
  | own o =>
    rcases unfl_cases (h _ (List.mem_singleton.2 rfl)) with e | ⟨f, f', sz, es, h1, h2⟩
    · simp only [evIndexAddr, e]
    · simp only [evIndexAddr, h1, h2]
  | vw o _ _ =>
    rcases unfl_cases (h _ (List.mem_singleton.2 rfl)) with e | ⟨f, f', sz, es, h1, h2⟩
    · simp only [evIndexAddr, e]
    · simp only [evIndexAddr, h1, h2]
  | bp o _ => simp only [evIndexAddr, l_alive (h _ (List.mem_singleton.2 rfl))]
  | ep o _ _ => simp only [evIndexAddr, l_alive (h _ (List.mem_singleton.2 rfl))]
  | pl v => cases v <;> simp only [evIndexAddr]
  | _ => simp only [evIndexAddr]
theorem l_slice {t : Nat} {p : AV} {lo hi mx : Option AV} (h : Agu (ref1 p) H H2) : evSlice C H2 t p lo hi mx = evSlice C H t p lo hi mx := by
  cases h1 : C.ty t <;> cases h2 : optNat lo <;> cases h3 : optNat hi <;> rcases h4 : optNat mx with _ | _ | m <;> simp only [evSlice, h1, h2, h3, h4] <;> (
    cases p with
    | own o =>
      rcases unfl_cases (h _ (List.mem_singleton.2 rfl)) with e | ⟨f, f', sz, es, h1, h2⟩
      · simp only [e]
      · simp only [h1, h2]
    | vw o _ _ =>
      rcases unfl_cases (h _ (List.mem_singleton.2 rfl)) with e | ⟨f, f', sz, es, h1, h2⟩
      · simp only [e]
      · simp only [h1, h2]
    | pl v =>
      cases v <;> first | rfl | (rename_i f _ _; cases f <;> rfl)
    | _ => rfl)
theorem l_len {t : Nat} {p : AV} (h : Agu (ref1 p) H H2) : lenA C H2 t p = lenA C H t p := by
  cases p with
  | pl v => cases v <;> simp only [lenA]
  | own o =>
    rcases unfl_cases (h _ (List.mem_singleton.2 rfl)) with e | ⟨f, f', sz, es, h1, h2⟩
    · simp only [lenA, e]
    · simp only [lenA, h1, h2]
  | vw o _ _ => simp only [lenA, l_alive (h _ (List.mem_singleton.2 rfl))]
  | mp o =>
    rcases unfl_cases (h _ (List.mem_singleton.2 rfl)) with e | ⟨f, f', sz, es, h1, h2⟩
    · simp only [lenA, e]
    · simp only [lenA, h1, h2]
  | _ => simp only [lenA]
theorem l_eq {t : Nat} {p q : AV} (h : Agu (ref1 p) H H2) : evEq C H2 t p q = evEq C H t p q := by
  unfold evEq
  cases C.ty t with
  | none => rfl
  | some ti =>
    simp only []
    generalize ti.k = K
    split <;> first
      | rfl
      | (rcases unfl_cases (h _ (List.mem_singleton.2 rfl)) with e | ⟨f, f', sz, es, h1, h2⟩
         · simp only [e]
         · simp only [h1, h2] <;> (cases es <;> rfl))
      | (split <;> simp_all)
theorem l_bin {op : BinOp} {t : Nat} {p q : AV} (h : Agu (ref1 p) H H2) : evBin C H2 op t p q = evBin C H op t p q := by
  unfold evBin
  split <;> first | rfl | rw [l_eq h]
theorem l_elems {p : AV} (h : Agu (ref1 p) H H2) : elems H2 p = elems H p := by
  cases p <;> first
    | rfl
    | (rename_i v; cases v <;> rfl)
    | (rcases unfl_cases (h _ (List.mem_singleton.2 rfl)) with e | ⟨f, f', sz, es, h1, h2⟩
       · simp only [elems, e]
       · simp only [elems, h1, h2])
def RdAt (R : List Nat) (f : Hp → Option (AV × Hp)) (H : Hp) : Prop := ∀ r H', f H = some (r, H') → H' = H ∧ ∀ H2, Agu R H H2 → f H2 = some (r, H2)
theorem rd_map {R : List Nat} {g : Hp → Option AV} (hg : ∀ H2, Agu R H H2 → g H2 = g H) : RdAt R (fun H => (g H).map fun v => (v, H)) H := by
  intro r H' h
  obtain ⟨v, hv, he⟩ := Option.map_eq_some_iff.1 h
  simp only [Prod.mk.injEq] at he; obtain ⟨rfl, rfl⟩ := he
  exact ⟨rfl, fun H2 ha => by simp only [hg H2 ha, hv, Option.map_some]⟩
theorem mem_ref {ρ : Operand → AV} {l : List Operand} {x : Operand} (hx : x ∈ l) (h : Agu (l.flatMap fun x => ref1 (ρ x)) H H2) : Agu (ref1 (ρ x)) H H2 := fun o ho => h o (List.mem_flatMap.2 ⟨x, hx, ho⟩)
theorem rd_const {R : List Nat} {f : Hp → Option (AV × Hp)} (hf : ∀ H, f H = ((f []).map (·.1)).map fun v => (v, H)) : RdAt R f H := by
  intro r H' h
  rw [hf H] at h
  obtain ⟨v, hv, he⟩ := Option.map_eq_some_iff.1 h
  simp only [Prod.mk.injEq] at he; obtain ⟨rfl, rfl⟩ := he
  exact ⟨rfl, fun H2 _ => by rw [hf H2, hv]; rfl⟩
theorem footCall_ne {k : Nat} {args : List AV} {R : List Nat} : footCall C H k args ≠ .rd R := by
  unfold footCall
  cases C.byref k
  · simp only [cond_false]; split <;> simp
  · simp
theorem l_mapOf {p : AV} (h : Agu (ref1 p) H H2) : mapOf H2 p = mapOf H p := by
  cases p <;> first
    | rfl
    | (rename_i v; cases v <;> rfl)
    | (rcases unfl_cases (h _ (List.mem_singleton.2 rfl)) with e | ⟨f, f', sz, es, h1, h2⟩
       · simp only [mapOf, e]
       · simp only [mapOf, h1, h2])
theorem pure_rd {ρ : Operand → AV} {op : Op} {R : List Nat} (hf : foot C nid ρ H op = .rd R) : RdAt R (fun H => evPure C nid ρ H op) H := by
  have const : ∀ {g : Option AV} {R : List Nat}, RdAt R (fun H => g.map fun v => (v, H)) H := fun {g R} => rd_map (g := fun _ => g) fun _ _ => rfl
  cases op with
  | load t p =>
    simp only [foot, Fp.rd.injEq] at hf; subst hf
    exact rd_map (g := fun H => evLoad C H t (ρ p)) fun H2 ha => l_load (mem_ref (by simp [Op.operands]) ha)
  | binOp op t x y t' =>
    simp only [foot, Fp.rd.injEq] at hf; subst hf
    exact rd_map (g := fun H => evBin C H op t (ρ x) (ρ y)) fun H2 ha => l_bin (mem_ref (by simp [Op.operands]) ha)
  | slice t x lo hi mx =>
    simp only [foot, Fp.rd.injEq] at hf; subst hf
    exact rd_map (g := fun H => evSlice C H t (ρ x) (lo.map ρ) (hi.map ρ) (mx.map ρ)) fun H2 ha => l_slice (mem_ref (by simp [Op.operands]) ha)
  | indexAddr t x i =>
    simp only [foot, Fp.rd.injEq] at hf; subst hf
    exact rd_map (g := fun H => evIndexAddr C H t (ρ x) (ρ i)) fun H2 ha => l_indexAddr (mem_ref (by simp [Op.operands]) ha)
  | index t x i => exact const
  | lookup t x k ok =>
    simp only [foot, Fp.rd.injEq] at hf; subst hf
    exact rd_map (g := fun H => evLookup C H t (ρ x) (ρ k) ok) fun H2 ha => by unfold evLookup; rw [l_mapOf (mem_ref (by simp [Op.operands]) ha)]
  | unOp op t x => exact const
  | nilCheck x =>
    simp only [foot, Fp.rd.injEq] at hf; subst hf
    intro r H' h
    have hm : ∀ {H2 : Hp}, Agu ((Op.nilCheck x).operands.toList.flatMap fun x => ref1 (ρ x)) H H2 → Agu (ref1 (ρ x)) H H2 := fun ha => mem_ref (by simp [Op.operands]) ha
    cases hx : ρ x <;> simp only [evPure, hx] at h hm ⊢ <;> first
      | (cases h; done)
      | (simp only [Option.some.injEq, Prod.mk.injEq] at h; obtain ⟨rfl, rfl⟩ := h; exact ⟨rfl, fun H2 ha => rfl⟩)
      | (rename_i v; cases v <;> first
          | (simp at h; done)
          | (simp only [Option.some.injEq, Prod.mk.injEq] at h; obtain ⟨rfl, rfl⟩ := h; exact ⟨rfl, fun H2 ha => rfl⟩))
      | (revert h
         cases hb : alive H _ <;> intro h
         · simp at h
         · simp only [cond_true, Option.some.injEq, Prod.mk.injEq] at h; obtain ⟨rfl, rfl⟩ := h
           exact ⟨rfl, fun H2 ha => by rw [l_alive (hm ha _ (List.mem_singleton.2 rfl)), hb]; rfl⟩)
  | fieldAddr t x f =>
    simp only [foot, Fp.rd.injEq] at hf; subst hf
    intro r H' h
    simp only [evPure] at h ⊢
    cases hf : evField C t f with
    | none => rw [hf] at h; cases h
    | some q =>
      obtain ⟨ft, off⟩ := q
      rw [hf] at h
      simp only at h ⊢
      cases hp : posSize C ft with
      | false => rw [hp] at h; simp at h
      | true =>
        rw [hp] at h
        simp only [cond_true] at h ⊢
        have hm : ∀ {H2 : Hp}, Agu ((Op.fieldAddr t x f).operands.toList.flatMap fun x => ref1 (ρ x)) H H2 → Agu (ref1 (ρ x)) H H2 := fun ha => mem_ref (by simp [Op.operands]) ha
        cases hx : ρ x <;> simp only [hx] at h hm ⊢ <;> first
          | (cases h; done)
          | (simp only [Option.some.injEq, Prod.mk.injEq] at h; obtain ⟨rfl, rfl⟩ := h; exact ⟨rfl, fun H2 ha => rfl⟩)
          | (revert h
             cases hb : alive H _ <;> intro h
             · simp at h
             · simp only [cond_true, Option.some.injEq, Prod.mk.injEq] at h; obtain ⟨rfl, rfl⟩ := h
               exact ⟨rfl, fun H2 ha => by rw [l_alive (hm ha _ (List.mem_singleton.2 rfl)), hb]; rfl⟩)
  | move x => exact rd_const fun H => rfl
  | assign x => exact rd_const fun H => rfl
  | pick c x y => exact rd_const fun H => by simp only [evPure]; split <;> rfl
  | build t ps =>
    exact rd_const fun H => by
      simp only [evPure]
      split
      · split
        · split
          · simp [Option.map_map]; rfl
          · rfl
        · split
          · simp [Option.map_map]; rfl
          · rfl
        · rfl
      · rfl
  | convert s t x => exact rd_const fun H => by simp only [evPure]; cases evConv C s t (ρ x) <;> rfl
  | makeFunc fn first cs =>
    cases fn with
    | func k =>
      exact rd_const fun H => by
        simp only [evPure]
        cases first.isEmpty <;> simp only [cond_true, cond_false]
        · rfl
        · split <;> rfl
    | _ => exact rd_const fun H => rfl
  | field t x f =>
    exact rd_const fun H => by
      simp only [evPure]
      split
      · split
        · rename_i ft off _ _ tf _
          cases (Nat.ble (off + tf.size) (ρ x).cells.length && isAggA (ρ x) && !(Nat.beq tf.size 0)) <;> simp only [cond_true, cond_false]
          · rfl
          · cases tf.k.row <;> simp only [cond_true, cond_false]
            · simp [Option.map_map]; rfl
            · rfl
        · rfl
      · rfl
  | extract t i =>
    exact rd_const fun H => by
      simp only [evPure]
      split
      · simp [Option.map_map]; rfl
      · rfl
  | call c =>
    obtain ⟨callee, ⟨args⟩, ⟨ts⟩⟩ := c
    cases callee with
    | value f =>
      simp only [foot] at hf
      split at hf <;> first | exact absurd hf footCall_ne | cases hf
    | invoke _ _ => simp [foot] at hf
    | builtin b =>
      cases b with
      | len =>
        simp only [foot, Fp.rd.injEq] at hf; subst hf
        simp only [evPure]
        rcases args with _ | ⟨x, _ | ⟨y, r⟩⟩
        · rcases ts with _ | ⟨t, _ | ⟨u, r⟩⟩ <;> exact rd_const fun H => rfl
        · rcases ts with _ | ⟨t, _ | ⟨u, r⟩⟩
          · exact rd_const fun H => rfl
          · intro r H' h
            simp only [List.map_cons, List.map_nil, evBuiltin] at h ⊢
            cases hn : lenA C H t (ρ x) with
            | none => rw [hn] at h; cases h
            | some n =>
              rw [hn] at h
              simp only [Option.pure_def, Option.bind_eq_bind, Option.bind_some, Option.map_some, Option.some.injEq, Prod.mk.injEq] at h
              obtain ⟨rfl, rfl⟩ := h
              refine ⟨rfl, fun H2 ha => ?_⟩
              rw [l_len (mem_ref (x := x) (by simp) ha), hn]; rfl
          · exact rd_const fun H => rfl
        · rcases ts with _ | ⟨t, _ | ⟨u, r⟩⟩ <;> exact rd_const fun H => rfl
      | min =>
        exact rd_const fun H => by
          simp only [evPure, evBuiltin]
          simp [Option.map_map]; rfl
      | max =>
        exact rd_const fun H => by
          simp only [evPure, evBuiltin]
          simp [Option.map_map]; rfl
      | append => simp [foot] at hf
      | _ => simp [foot] at hf
  | alloc e => simp [foot] at hf
  | box e x => simp [foot] at hf
  | buildSlice t n ps => simp [foot] at hf
  | makeSlice t l c => simp [foot] at hf
  | store t p v => simp [foot] at hf
  | _ => first | (simp [foot] at hf; done) | (intro r H' h; simp [evPure] at h)
end
end Go.Proofs.Ytkcafackfihmiaa
namespace Go.Proofs.Ytkcafackfihmiaa
set_option linter.unusedSimpArgs false
set_option linter.unusedVariables false
open Go.RowKit
section
variable {C : Cfg} {H H' H2 : Hp} {nid m : Nat} {α β : Type}
def LocAt (m : Nat) (F W : List Nat) (f : Hp → Option (α × Hp)) (H : Hp) : Prop :=
  ∀ r H', f H = some (r, H') → H'.length = H.length ∧ (∀ o, o ∉ F → hget H' o = hget H o) ∧ (∀ o, o ∉ W → unfl (hget H' o) = unfl (hget H o)) ∧
    ∀ H2 : Hp, m ≤ H2.length → (∀ o, o ∈ F → hget H2 o = hget H o) → ∃ H2', f H2 = some (r, H2') ∧ H2'.length = H2.length ∧ ∀ o, hget H2' o = if o ∈ F then hget H' o else hget H2 o
theorem LocAt.pure {F W : List Nat} {r : α} : LocAt m F W (fun H => some (r, H)) H := by
  intro r' H' h
  simp only [Option.some.injEq, Prod.mk.injEq] at h; obtain ⟨rfl, rfl⟩ := h
  exact ⟨rfl, fun _ _ => rfl, fun _ _ => rfl, fun H2 hl ha => ⟨H2, rfl, rfl, fun o => by split <;> first | exact ha _ (by assumption) | rfl⟩⟩
theorem LocAt.none {F W : List Nat} {f : Hp → Option (α × Hp)} (h : f H = none) : LocAt m F W f H := fun r H' h' => by rw [h] at h'; cases h'
theorem LocAt.mono {F G W V : List Nat} {f : Hp → Option (α × Hp)} (h : LocAt m F W f H) (hF : ∀ o, o ∈ F → o ∈ G) (hW : ∀ o, o ∈ W → o ∈ V) : LocAt m G V f H := by
  intro r H' hf
  obtain ⟨h1, h2, h3, h4⟩ := h r H' hf
  refine ⟨h1, fun o ho => h2 o fun hc => ho (hF o hc), fun o ho => h3 o fun hc => ho (hW o hc), fun H2 hl ha => ?_⟩
  obtain ⟨H2', k1, k2, k3⟩ := h4 H2 hl fun o ho => ha o (hF o ho)
  refine ⟨H2', k1, k2, fun o => ?_⟩
  rw [k3 o]
  by_cases e : o ∈ F
  · rw [if_pos e, if_pos (hF o e)]
  · rw [if_neg e]
    by_cases e2 : o ∈ G
    · rw [if_pos e2, ha o e2, h2 o e]
    · rw [if_neg e2]
theorem LocAt.bind {F W : List Nat} {f : Hp → Option (α × Hp)} {g : α → Hp → Option (β × Hp)} (hf : LocAt m F W f H) (hg : ∀ a H1, f H = some (a, H1) → LocAt m F W (g a) H1) :
    LocAt m F W (fun H => match f H with | some (a, H1) => g a H1 | .none => Option.none) H := by
  intro r H' h
  simp only at h
  split at h
  · rename_i a H1 h1
    obtain ⟨k1, k2, k3, k4⟩ := hf a H1 h1
    obtain ⟨l1, l2, l3, l4⟩ := hg a H1 h1 r H' h
    refine ⟨l1.trans k1, fun o ho => (l2 o ho).trans (k2 o ho), fun o ho => (l3 o ho).trans (k3 o ho), fun H2 hl ha => ?_⟩
    obtain ⟨H3, m1, m2, m3⟩ := k4 H2 hl ha
    obtain ⟨H4, n1, n2, n3⟩ := l4 H3 (by rw [m2]; exact hl) fun o ho => by rw [m3 o, if_pos ho]
    refine ⟨H4, by simp only [m1, n1], n2.trans m2, fun o => ?_⟩
    rw [n3 o]
    by_cases e : o ∈ F
    · rw [if_pos e, if_pos e]
    · rw [if_neg e, if_neg e, m3 o, if_neg e]
  · cases h
theorem LocAt.congr {F W : List Nat} {f g : Hp → Option (α × Hp)} (h : ∀ H, f H = g H) (hg : LocAt m F W g H) : LocAt m F W f H := by
  have : f = g := funext h
  rw [this]; exact hg
theorem LocAt.map {F W : List Nat} {f : Hp → Option (α × Hp)} {g : α → β} (hf : LocAt m F W f H) : LocAt m F W (fun H => match f H with | some (a, H1) => some (g a, H1) | .none => Option.none) H :=
  hf.bind fun _ _ _ => LocAt.pure
theorem loc_put {F W : List Nat} {r : α} {x : Ob} (h : nid < H.length) (hm : nid < m) (hF : nid ∈ F) (hW : nid ∈ W) : LocAt m F W (fun H => some (r, hput H nid x)) H := by
  have hlen : ∀ {H : Hp}, nid < H.length → (hput H nid x).length = H.length := fun {H} h => by
    unfold hput; rw [show Nat.blt nid H.length = true from by rw [Nat.blt_eq]; exact h]; simp
  intro r' H' h'
  simp only [Option.some.injEq, Prod.mk.injEq] at h'; obtain ⟨rfl, rfl⟩ := h'
  refine ⟨hlen h, fun o ho => ?_, fun o ho => ?_, fun H2 hl ha => ⟨_, rfl, hlen (by omega), fun o => ?_⟩⟩
  · rw [hget_put (by omega), if_neg fun e => ho (by rw [e]; exact hF)]
  · rw [hget_put (by omega), if_neg fun e => ho (by rw [e]; exact hW)]
  · rw [hget_put (by omega), hget_put (by omega)]
    by_cases e : o = nid
    · subst e; rw [if_pos rfl, if_pos hF, if_pos rfl]
    · rw [if_neg e, if_neg e]
      split
      · rename_i ho; exact ha o ho
      · rfl
theorem loc_set {F W : List Nat} {r : α} {k : Nat} {y : Option Ob} (hs : ∃ x, hget H k = some x) (hF : k ∈ F) (hW : k ∈ W ∨ unfl y = unfl (hget H k)) : LocAt m F W (fun H => some (r, hset H k y)) H := by
  obtain ⟨x, hx⟩ := hs
  have h := hget_lt hx
  intro r' H' h'
  simp only [Option.some.injEq, Prod.mk.injEq] at h'; obtain ⟨rfl, rfl⟩ := h'
  refine ⟨length_set, fun o ho => ?_, fun o ho => ?_, fun H2 hl ha => ⟨_, rfl, length_set, fun o => ?_⟩⟩
  · rw [hget_set h, if_neg fun e => ho (by rw [e]; exact hF)]
  · rw [hget_set h]
    by_cases e : o = k
    · rw [if_pos e, e]
      rcases hW with hW | hW
      · exact absurd (by rw [e]; exact hW) ho
      · exact hW
    · rw [if_neg e]
  · rw [hget_set (hget_lt (x := x) (by rw [ha k hF]; exact hx)), hget_set h]
    by_cases e : o = k
    · subst e; rw [if_pos rfl, if_pos hF, if_pos rfl]
    · rw [if_neg e, if_neg e]
      split
      · rename_i ho; exact ha o ho
      · rfl
theorem loc_get {F W : List Nat} {o : Nat} {g : Option Ob → Hp → Option (α × Hp)} (ho : o ∈ F) (h : LocAt m F W (g (hget H o)) H) : LocAt m F W (fun H => g (hget H o) H) H := by
  intro r H' h'
  obtain ⟨h1, h2, h3, h4⟩ := h r H' h'
  refine ⟨h1, h2, h3, fun H2 hl ha => ?_⟩
  obtain ⟨H2', k1, k2, k3⟩ := h4 H2 hl ha
  exact ⟨H2', by simp only [ha o ho]; exact k1, k2, k3⟩
theorem loc_plain1 (v : AV) : LocAt m (ref1 v) [] (fun H => plain1 H v) H := by
  cases v with
  | pl p => exact LocAt.pure
  | own o =>
    refine loc_get (o := o) (g := fun x H => match x with | some (.row _ sz es) => some (PV.sl .any sz es, hset H o (some (.row true sz es))) | _ => none) (by simp [ref1]) ?_
    split
    · rename_i z sz es hx
      exact loc_set ⟨_, hx⟩ (by simp [ref1]) (.inr (by rw [hx]; rfl))
    · exact LocAt.none rfl
  | vw o off len =>
    refine loc_get (o := o) (g := fun x H => match x with | some (.row _ sz es) => bif Nat.ble (off + len) es.length then some (PV.sl .any sz ((es.drop off).take len), hset H o (some (.row true sz es))) else none | _ => none) (by simp [ref1]) ?_
    split
    · rename_i z sz es hx
      cases Nat.ble (off + len) es.length
      · exact LocAt.none rfl
      · exact loc_set ⟨_, hx⟩ (by simp [ref1]) (.inr (by rw [hx]; rfl))
    · exact LocAt.none rfl
  | clo f cs => cases cs with
    | nil => exact LocAt.pure
    | cons c r => exact LocAt.none rfl
  | _ => exact LocAt.none rfl
theorem sub_l {r : List AV} {v : AV} {f : AV → List Nat} : ∀ o, o ∈ f v → o ∈ (v :: r).flatMap f := fun o ho => by rw [List.flatMap_cons]; exact List.mem_append_left _ ho
theorem sub_r {r : List AV} {v : AV} {f : AV → List Nat} : ∀ o, o ∈ r.flatMap f → o ∈ (v :: r).flatMap f := fun o ho => by rw [List.flatMap_cons]; exact List.mem_append_right _ ho
theorem loc_plainL : ∀ (l : List AV) (H : Hp), LocAt m (l.flatMap ref1) [] (fun H => plainL H l) H
  | [], H => LocAt.pure
  | v :: r, H => by
    have h1 : LocAt m ((v :: r).flatMap ref1) [] (fun H => plain1 H v) H := (loc_plain1 v).mono sub_l (fun _ h => h)
    refine LocAt.congr (fun H => ?_) (h1.bind fun p H1 _ => LocAt.map (g := fun ps => p :: ps) ((loc_plainL r H1).mono (sub_r (v := v)) (fun _ h => h)))
    simp only [plainL]
    cases plain1 H v with
    | none => rfl
    | some q => obtain ⟨p, H1⟩ := q; simp only; cases plainL H1 r <;> rfl
theorem loc_plain (v : AV) (H : Hp) : LocAt m (refC v) [] (fun H => plain H v) H := by
  cases v with
  | agg cs =>
    have h1 : LocAt m (refC (.agg cs)) [] (fun H => plainL H cs) H := loc_plainL cs H
    refine LocAt.congr (fun H => ?_) (LocAt.map (g := fun ps => PV.agg ps) h1)
    simp only [plain]; cases plainL H cs <;> rfl
  | pl p => exact LocAt.pure
  | un => exact LocAt.none rfl
  | tup _ => exact LocAt.none rfl
  | clo f cs => exact (loc_plain1 (.clo f cs)).mono (fun o ho => by simp [ref1] at ho) (fun _ h => h)
  | own o => exact (loc_plain1 (.own o)).mono (fun k hk => by simpa [refC, AV.cells] using hk) (fun _ h => h)
  | vw o off len => exact (loc_plain1 (.vw o off len)).mono (fun k hk => by simpa [refC, AV.cells] using hk) (fun _ h => h)
  | bp _ _ => exact LocAt.none rfl
  | ep _ _ _ => exact LocAt.none rfl
  | ip _ _ => exact LocAt.none rfl
  | mp _ => exact LocAt.none rfl
  | it _ => exact LocAt.none rfl
theorem loc_plains : ∀ (l : List AV) (H : Hp), LocAt m (l.flatMap refC) [] (fun H => plains H l) H
  | [], H => LocAt.pure
  | v :: r, H => by
    have h1 : LocAt m ((v :: r).flatMap refC) [] (fun H => plain H v) H := (loc_plain v H).mono sub_l (fun _ h => h)
    refine LocAt.congr (fun H => ?_) (h1.bind fun p H1 _ => LocAt.map (g := fun ps => p :: ps) ((loc_plains r H1).mono (sub_r (v := v)) (fun _ h => h)))
    simp only [plains]
    cases plain H v with
    | none => rfl
    | some q => obtain ⟨p, H1⟩ := q; simp only; cases plains H1 r <;> rfl
theorem loc_fillE (sz : Nat) : ∀ (l : List (Nat × AV)) (es : List (List PV)) (H : Hp), LocAt m (l.flatMap fun p => refC p.2) [] (fun H => fillE sz H es l) H
  | [], es, H => LocAt.pure
  | (i, v) :: r, es, H => by
    have h1 : LocAt m (((i, v) :: r).flatMap fun p => refC p.2) [] (fun H => plain H v) H := (loc_plain v H).mono (fun o ho => by rw [List.flatMap_cons]; exact List.mem_append_left _ ho) (fun _ h => h)
    have h2 : ∀ p H1, plain H v = some (p, H1) → LocAt m (((i, v) :: r).flatMap fun p => refC p.2) [] (fun H => bif Nat.beq p.cells.length sz && Nat.blt i es.length then fillE sz H (es.set i p.cells) r else none) H1 := fun p H1 _ => by
      cases (Nat.beq p.cells.length sz && Nat.blt i es.length)
      · exact LocAt.none rfl
      · exact (loc_fillE sz r _ H1).mono (fun o ho => by rw [List.flatMap_cons]; exact List.mem_append_right _ ho) (fun _ h => h)
    refine LocAt.congr (fun H => ?_) (h1.bind h2)
    simp only [fillE]
    cases plain H v <;> rfl
end
end Go.Proofs.Ytkcafackfihmiaa
namespace Go.Proofs.Ytkcafackfihmiaa
set_option linter.unusedSimpArgs false
set_option linter.unusedVariables false
open Go.RowKit
section
variable {C : Cfg} {H H' H2 : Hp} {nid m : Nat} {α β : Type} {call : Bool → Nat → List AV → Hp → Outs (AV × Hp)}
theorem loc_read {γ : Type} {F W : List Nat} {r : Hp → γ} {g : γ → Hp → Option (α × Hp)} (hr : ∀ H2 : Hp, (∀ o, o ∈ F → hget H2 o = hget H o) → r H2 = r H) (h : LocAt m F W (g (r H)) H) : LocAt m F W (fun H => g (r H) H) H := by
  intro a H' h'
  obtain ⟨h1, h2, h3, h4⟩ := h a H' h'
  refine ⟨h1, h2, h3, fun H2 hl ha => ?_⟩
  obtain ⟨H2', k1, k2, k3⟩ := h4 H2 hl ha
  exact ⟨H2', by simp only [hr H2 ha]; exact k1, k2, k3⟩
theorem loc_setput {F W : List Nat} {r : α} {k : Nat} {y : Option Ob} {x : Ob} (hk : ∃ x, hget H k = some x) (hn : nid < H.length) (hm : nid < m) (hkF : k ∈ F) (hkW : k ∈ W) (hnF : nid ∈ F) (hnW : nid ∈ W) : LocAt m F W (fun H => some (r, hput (hset H k y) nid x)) H :=
  (loc_set (r := ()) hk hkF (.inl hkW)).bind (g := fun _ H => some (r, hput H nid x)) fun _ H1 h1 => by
    simp only [Option.some.injEq, Prod.mk.injEq] at h1
    obtain ⟨_, rfl⟩ := h1
    exact loc_put (by rw [length_set]; exact hn) hm hnF hnW
theorem agu_of {R F : List Nat} (hs : ∀ o, o ∈ R → o ∈ F) (h : ∀ o, o ∈ F → hget H2 o = hget H o) : Agu R H H2 := fun o ho => by rw [h o (hs o ho)]
theorem src_eq {y : AV} (h : Agu (ref1 y) H H2) : srcElems H2 y = srcElems H y := by
  unfold srcElems
  split
  · rfl
  · rw [l_elems h]
def appB (C : Cfg) (nid t : Nat) (x : AV) (src : Option (List (List PV))) (H : Hp) : Option (AV × Hp) :=
  match C.ty t, src with
      | some ti, some news => match ti.k with
        | .sl e => match C.ty e with
          | none => none
          | some te => bif !(news.all fun c => Nat.beq c.length te.size) || Nat.beq te.size 0 then none else
            match news with
            | [] => match x with | .pl (.sl f sz es) => some (AV.pl (.sl f sz es), H) | .own o => (match hget H o with | some (.row _ _ _) => some (.own o, H) | _ => none) | .vw o a n => (match hget H o with | some (.row _ _ _) => some (.vw o a n, H) | _ => none) | _ => none
            | _ :: _ =>
              match x with
              | .pl (.sl .nil _ []) => bif fitsB news.length te then some (.own nid, hput H nid (.row false te.size news)) else none
              | .pl (.sl .zc _ []) => bif fitsB news.length te then some (.own nid, hput H nid (.row false te.size news)) else none
              | .own o => match hget H o with
                | some (.row false sz es) => bif fitsB (es.length + news.length) te && Nat.beq sz te.size then some (.own nid, hput (hset H o none) nid (.row false sz (es ++ news))) else none
                | _ => none
              | .vw o off len => match hget H o with
                | some (.row false sz es) =>
                  bif !(fitsB (len + news.length) te && Nat.beq sz te.size) then none
                  else bif Nat.ble (off + len + news.length) es.length then some (.vw o off (len + news.length), hset H o (some (.row false sz (es.take (off + len) ++ news ++ es.drop (off + len + news.length)))))
                  else bif Nat.beq (off + len) es.length then some (.own nid, hput (hset H o none) nid (.row false sz (es.drop off ++ news)))
                  else none
                | _ => none
              | _ => none
        | _ => none
      | _, _ => none
theorem loc_append {F : List Nat} {t t1 : Nat} {x y : AV} (hn : nid < H.length) (hm : nid < m) (hnF : nid ∈ F) (hx : ∀ o, o ∈ ref1 x → o ∈ F) (hy : ∀ o, o ∈ ref1 y → o ∈ F) : LocAt m F F (fun H => evAppend C nid H t t1 x y) H := by
  have body : ∀ src : Option (List (List PV)), LocAt m F F (fun H => appB C nid t x src H) H := by
    intro src
    unfold appB
    cases C.ty t with
    | none => exact LocAt.none rfl
    | some ti => cases src with
      | none => exact LocAt.none rfl
      | some news =>
        simp only
        cases ti.k with
        | sl e =>
          simp only
          cases C.ty e with
          | none => exact LocAt.none rfl
          | some te =>
            simp only
            cases (!(news.all fun c => Nat.beq c.length te.size) || Nat.beq te.size 0) with
            | true => exact LocAt.none rfl
            | false =>
              simp only [cond_false]
              cases news with
              | nil =>
                cases x with
                | pl v => cases v with
                  | sl f sz es => exact LocAt.pure
                  | _ => exact LocAt.none rfl
                | own o =>
                  refine loc_get (o := o) (g := fun b H => match b with | some (.row _ _ _) => some (AV.own o, H) | _ => none) (hx o (List.mem_singleton.2 rfl)) ?_
                  split
                  · exact LocAt.pure
                  · exact LocAt.none rfl
                | vw o a n =>
                  refine loc_get (o := o) (g := fun b H => match b with | some (.row _ _ _) => some (AV.vw o a n, H) | _ => none) (hx o (List.mem_singleton.2 rfl)) ?_
                  split
                  · exact LocAt.pure
                  · exact LocAt.none rfl
                | _ => exact LocAt.none rfl
              | cons e0 es0 =>
                cases x with
                | pl v => cases v with
                  | sl f sz es =>
                    cases f <;> cases es <;> first
                      | exact LocAt.none rfl
                      | (simp only
                         cases fitsB _ te <;> first
                           | exact LocAt.none rfl
                           | exact loc_put hn hm hnF hnF)
                  | _ => exact LocAt.none rfl
                | own o =>
                  have hoF := hx o (List.mem_singleton.2 rfl)
                  refine loc_get (o := o) (g := fun b H => match b with | some (.row false sz es) => bif fitsB (es.length + (e0 :: es0).length) te && Nat.beq sz te.size then some (AV.own nid, hput (hset H o none) nid (.row false sz (es ++ e0 :: es0))) else none | _ => none) hoF ?_
                  split
                  · rename_i sz es hg
                    cases (fitsB (es.length + (e0 :: es0).length) te && Nat.beq sz te.size)
                    · exact LocAt.none rfl
                    · exact loc_setput ⟨_, hg⟩ hn hm hoF hoF hnF hnF
                  · exact LocAt.none rfl
                | vw o off len =>
                  have hoF := hx o (List.mem_singleton.2 rfl)
                  refine loc_get (o := o) (g := fun b H => match b with
                    | some (.row false sz es) =>
                      bif !(fitsB (len + (e0 :: es0).length) te && Nat.beq sz te.size) then none
                      else bif Nat.ble (off + len + (e0 :: es0).length) es.length then some (AV.vw o off (len + (e0 :: es0).length), hset H o (some (.row false sz (es.take (off + len) ++ (e0 :: es0) ++ es.drop (off + len + (e0 :: es0).length)))))
                      else bif Nat.beq (off + len) es.length then some (AV.own nid, hput (hset H o none) nid (.row false sz (es.drop off ++ (e0 :: es0))))
                      else none
                    | _ => none) hoF ?_
                  split
                  · rename_i sz es hg
                    cases !(fitsB (len + (e0 :: es0).length) te && Nat.beq sz te.size)
                    · cases Nat.ble (off + len + (e0 :: es0).length) es.length
                      · cases Nat.beq (off + len) es.length
                        · exact LocAt.none rfl
                        · exact loc_setput ⟨_, hg⟩ hn hm hoF hoF hnF hnF
                      · exact loc_set ⟨_, hg⟩ hoF (.inl hoF)
                    · exact LocAt.none rfl
                  · exact LocAt.none rfl
                | _ => exact LocAt.none rfl
        | _ => exact LocAt.none rfl
  have := loc_read (F := F) (W := F) (r := fun H => bif srcTy C t1 y then srcElems H y else none) (g := fun src H => appB C nid t x src H) (H := H) (fun H2 ha => by simp only [src_eq (agu_of hy ha)]) (body _)
  exact this

theorem loc_store {t : Nat} {p v : AV} : LocAt m (refC v ++ ref1 p) (ref1 p) (fun H => (evStore C H t p v).map fun H1 => (AV.tup [], H1)) H := by
  cases hti : C.ty t with
  | none => exact LocAt.none (by simp [evStore, hti])
  | some ti =>
    cases p with
    | bp o off =>
      have hF : o ∈ refC v ++ ref1 (.bp o off) := List.mem_append_right _ (List.mem_singleton.2 rfl)
      have main := loc_get (m := m) (F := refC v ++ ref1 (.bp o off)) (W := ref1 (.bp o off)) (H := H) (o := o) (g := fun b H => match b with
        | some (.box cs) => bif Nat.beq v.cells.length ti.size && v.cells.all oneA then (match putAt cs off v.cells with | some cs' => some (AV.tup [], hset H o (some (.box cs'))) | none => none) else none
        | _ => none) hF (by
          split
          · rename_i cs hg
            cases (Nat.beq v.cells.length ti.size && v.cells.all oneA)
            · exact LocAt.none rfl
            · simp only [cond_true]
              cases putAt cs off v.cells with
              | none => exact LocAt.none rfl
              | some cs' => exact loc_set ⟨_, hg⟩ hF (.inl (List.mem_singleton.2 rfl))
          · exact LocAt.none rfl)
      refine LocAt.congr (fun H => ?_) main
      simp only [evStore, hti]
      cases hget H o with
      | none => rfl
      | some x =>
        cases x with
        | box cs =>
          simp only
          cases (Nat.beq v.cells.length ti.size && v.cells.all oneA) with
          | false => rfl
          | true =>
            simp only [cond_true]
            cases putAt cs off v.cells <;> rfl
        | _ => rfl
    | ep o i off =>
      have hF : o ∈ refC v ++ ref1 (.ep o i off) := List.mem_append_right _ (List.mem_singleton.2 rfl)
      have h1 : LocAt m (refC v ++ ref1 (.ep o i off)) (ref1 (.ep o i off)) (fun H => plain H v) H := (loc_plain v H).mono (fun k hk => List.mem_append_left _ hk) (fun _ hk => by cases hk)
      have h2 : ∀ (q : PV) (H1 : Hp), LocAt m (refC v ++ ref1 (.ep o i off)) (ref1 (.ep o i off)) (fun H => (fun b H => match b with
        | some (.row false sz es) => (match es[i]? with
          | some c => bif Nat.beq q.cells.length ti.size then (match putAt c off q.cells with | some c' => some (AV.tup [], hset H o (some (.row false sz (es.set i c')))) | none => none) else none
          | none => none)
        | _ => none : Option Ob → Hp → Option (AV × Hp)) (hget H o) H) H1 := fun q H1 => loc_get (o := o) (g := fun b H => match b with
        | some (.row false sz es) => (match es[i]? with
          | some c => bif Nat.beq q.cells.length ti.size then (match putAt c off q.cells with | some c' => some (AV.tup [], hset H o (some (.row false sz (es.set i c')))) | none => none) else none
          | none => none)
        | _ => none) hF (by
          split
          · rename_i sz es hg
            cases es[i]? with
            | none => exact LocAt.none rfl
            | some c =>
              simp only
              cases Nat.beq q.cells.length ti.size
              · exact LocAt.none rfl
              · simp only [cond_true]
                cases putAt c off q.cells with
                | none => exact LocAt.none rfl
                | some c' => exact loc_set ⟨_, hg⟩ hF (.inl (List.mem_singleton.2 rfl))
          · exact LocAt.none rfl)
      refine LocAt.congr (fun H => ?_) (h1.bind fun q H1 _ => h2 q H1)
      simp only [evStore, hti]
      cases plain H v with
      | none => rfl
      | some r =>
        obtain ⟨q, H1⟩ := r
        simp only
        cases hget H1 o with
        | none => rfl
        | some x =>
          cases x with
          | row z sz es =>
            cases z with
            | true => rfl
            | false =>
              simp only
              cases es[i]? with
              | none => rfl
              | some c =>
                simp only
                cases Nat.beq q.cells.length ti.size with
                | false => rfl
                | true =>
                  simp only [cond_true]
                  cases putAt c off q.cells <;> rfl
          | _ => rfl
    | _ => exact LocAt.none (by simp [evStore, hti])
theorem loc_upd {o : Nat} {F W : List Nat} {r : α} {g : List (PV × PV) → Option (α × List (PV × PV))} (hF : o ∈ F) (hW : o ∈ W) : LocAt m F W (fun H => match hget H o with | some (.map kvs) => (match g kvs with | some (a, kvs') => some (a, hset H o (some (.map kvs'))) | none => none) | _ => none) H := by
  refine loc_get (o := o) (g := fun b H => match b with | some (.map kvs) => (match g kvs with | some (a, kvs') => some (a, hset H o (some (.map kvs'))) | none => none) | _ => none) hF ?_
  split
  · rename_i kvs hg
    cases g kvs with
    | none => exact LocAt.none rfl
    | some q => exact loc_set ⟨_, hg⟩ hF (.inl hW)
  · exact LocAt.none rfl
theorem loc_mapUpdate {t : Nat} {x k v : AV} : LocAt m (refC v ++ ref1 x) (ref1 x) (fun H => (evMapUpdate C H t x k v).map fun H1 => (AV.tup [], H1)) H := by
  cases hmt : mapTy C t with
  | none => exact LocAt.none (by simp [evMapUpdate, hmt])
  | some q =>
    cases x with
    | mp o =>
      cases k with
      | pl k =>
        obtain ⟨kt, e⟩ := q
        have h1 : LocAt m (refC v ++ ref1 (.mp o)) (ref1 (.mp o)) (fun H => plain H v) H := (loc_plain v H).mono (fun o ho => List.mem_append_left _ ho) (fun _ h => by cases h)
        refine LocAt.congr (fun H => ?_) (h1.bind fun p H1 _ => loc_upd (o := o) (r := AV.tup []) (g := fun kvs => (mset C.ty kt k p kvs).map fun l => (AV.tup [], l)) (List.mem_append_right _ (List.mem_singleton.2 rfl)) (List.mem_singleton.2 rfl))
        simp only [evMapUpdate, hmt]
        cases plain H v with
        | none => rfl
        | some q2 =>
          obtain ⟨p, H1⟩ := q2
          simp only
          cases hget H1 o with
          | none => rfl
          | some b => cases b with
            | map kvs => simp only; cases mset C.ty kt k p kvs <;> rfl
            | _ => rfl
      | _ => exact LocAt.none (by simp [evMapUpdate, hmt])
    | _ => exact LocAt.none (by simp [evMapUpdate, hmt])
theorem loc_mapEntry {t : Nat} {x k : AV} : LocAt m ([] ++ ref1 x) (ref1 x) (fun H => evMapEntry C H t x k) H := by
  cases hmt : mapTy C t with
  | none => exact LocAt.none (by simp [evMapEntry, hmt])
  | some q =>
    cases x with
    | mp o =>
      cases k with
      | pl k =>
        obtain ⟨kt, e⟩ := q
        refine LocAt.congr (fun H => ?_) (loc_upd (H := H) (m := m) (F := [] ++ ref1 (.mp o)) (W := ref1 (.mp o)) (o := o) (r := AV.tup []) (g := fun kvs => (ment C kt e k kvs).map fun q => (AV.tup [.pl q.1, .pl (.int .i64 (q.2.1 : Int))], q.2.2)) (List.mem_append_right _ (List.mem_singleton.2 rfl)) (List.mem_singleton.2 rfl))
        simp only [evMapEntry, hmt]
        cases hget H o with
        | none => rfl
        | some b => cases b with
          | map kvs => simp only; cases ment C kt e k kvs <;> rfl
          | _ => rfl
      | _ => exact LocAt.none (by simp [evMapEntry, hmt])
    | _ => exact LocAt.none (by simp [evMapEntry, hmt])
theorem loc_entryStore {x s v : AV} : LocAt m (refC v ++ ref1 x) (ref1 x) (fun H => (evEntryStore H x s v).map fun H1 => (AV.tup [], H1)) H := by
  have none_ : (∀ H, evEntryStore H x s v = none) → LocAt m (refC v ++ ref1 x) (ref1 x) (fun H => (evEntryStore H x s v).map fun H1 => (AV.tup [], H1)) H := fun h => LocAt.none (by simp only [h H]; rfl)
  cases x with
  | mp o =>
    cases s with
    | pl s =>
      cases s with
      | int k n =>
        have h1 : LocAt m (refC v ++ ref1 (.mp o)) (ref1 (.mp o)) (fun H => plain H v) H := (loc_plain v H).mono (fun o ho => List.mem_append_left _ ho) (fun _ h => by cases h)
        refine LocAt.congr (fun H => ?_) (h1.bind fun p H1 _ => loc_upd (o := o) (r := AV.tup []) (g := fun kvs => match natOf n with | some i => (match kvs[i]? with | some (k, _) => some (AV.tup [], kvs.set i (k, p)) | none => none) | none => none) (List.mem_append_right _ (List.mem_singleton.2 rfl)) (List.mem_singleton.2 rfl))
        simp only [evEntryStore]
        cases plain H v with
        | none => rfl
        | some q2 =>
          obtain ⟨p, H1⟩ := q2
          simp only
          cases hget H1 o with
          | none => cases natOf n <;> rfl
          | some b => cases b with
            | map kvs =>
              simp only
              cases natOf n with
              | none => rfl
              | some i => simp only; cases kvs[i]? <;> rfl
            | _ => cases natOf n <;> rfl
      | _ => exact none_ fun H => rfl
    | _ => exact none_ fun H => rfl
  | _ => exact none_ fun H => rfl
theorem loc_rowOf {F W : List Nat} {x : AV} {g : Option (Nat × Nat × Nat × Nat × List (List PV)) → Hp → Option (α × Hp)} (hx : ∀ o, o ∈ ref1 x → o ∈ F) (h : LocAt m F W (g (rowOf H x)) H) : LocAt m F W (fun H => g (rowOf H x) H) H := by
  refine loc_read (F := F) (W := W) (r := fun H => rowOf H x) (g := g) (H := H) (fun H2 ha => ?_) h
  cases x <;> first
    | rfl
    | (simp only [rowOf, ha _ (hx _ (List.mem_singleton.2 rfl))])
theorem loc_rowSet {F : List Nat} {x : AV} {te : TI} {r : Nat → AV} {news : Nat → List (List PV)} (hx : ∀ o, o ∈ ref1 x → o ∈ F) : LocAt m F F (fun H => match rowOf H x with
      | some (o, off, len, sz, es) => bif Nat.beq sz te.size then some (r len, hset H o (some (.row false sz (rowPut es off (news len))))) else none
      | none => none) H := by
  refine loc_rowOf (x := x) (g := fun q H => match q with
      | some (o, off, len, sz, es) => bif Nat.beq sz te.size then some (r len, hset H o (some (.row false sz (rowPut es off (news len))))) else none
      | none => none) hx ?_
  cases hr : rowOf H x with
  | none => exact LocAt.none rfl
  | some q =>
    obtain ⟨o, off, len, sz, es⟩ := q
    simp only
    have key : o ∈ ref1 x ∧ ∃ b, hget H o = some b := by
      unfold rowOf at hr
      split at hr
      · split at hr
        · rename_i hg
          simp only [Option.some.injEq, Prod.mk.injEq] at hr; obtain ⟨rfl, _⟩ := hr
          exact ⟨List.mem_singleton.2 rfl, _, hg⟩
        · cases hr
      · split at hr
        · rename_i o' off' len' _ sz' es' hg
          cases hb : Nat.ble (off' + len') es'.length with
          | false => simp [hb] at hr
          | true =>
            simp only [hb, cond_true, Option.some.injEq, Prod.mk.injEq] at hr; obtain ⟨rfl, _⟩ := hr
            exact ⟨List.mem_singleton.2 rfl, _, hg⟩
        · cases hr
      · cases hr
    cases Nat.beq sz te.size with
    | false => exact LocAt.none rfl
    | true => exact loc_set key.2 (hx o key.1) (.inl (hx o key.1))
theorem loc_clear {F : List Nat} {t : Nat} {x : AV} (hx : ∀ o, o ∈ ref1 x → o ∈ F) : LocAt m F F (fun H => evClear C H t x) H := by
  cases hte : elemTy C t with
  | none => exact LocAt.none (by simp [evClear, hte])
  | some te =>
    cases hz : Nat.beq te.size 0 with
    | true => exact LocAt.none (by simp [evClear, hte, hz])
    | false =>
      have main := loc_rowSet (m := m) (H := H) (te := te) (r := fun _ => AV.tup []) (news := fun len => List.replicate len te.zero) hx
      cases x with
      | pl v => cases v with
        | sl f sz es => cases es with
          | nil => exact LocAt.congr (fun H => by simp only [evClear, hte, hz, cond_false]) (LocAt.pure (r := AV.tup []))
          | cons _ _ => exact LocAt.none (by simp [evClear, hte, hz, rowOf])
        | _ => exact LocAt.none (by simp [evClear, hte, hz, rowOf])
      | _ => exact LocAt.congr (fun H => by simp only [evClear, hte, hz, cond_false] <;> rfl) main
theorem loc_copy {F : List Nat} {t t1 : Nat} {x y : AV} (hx : ∀ o, o ∈ ref1 x → o ∈ F) (hy : ∀ o, o ∈ ref1 y → o ∈ F) : LocAt m F F (fun H => evCopy C H t t1 x y) H := by
  have body : ∀ src : Option (List (List PV)), LocAt m F F (fun H => match src, elemTy C t with
      | some src, some te => bif !(src.all fun c => Nat.beq c.length te.size) || Nat.beq te.size 0 then none else match x with
        | .pl (.sl _ _ []) => some (AV.pl (.int .i64 0), H)
        | x => match rowOf H x with
          | some (o, off, len, sz, es) => bif Nat.beq sz te.size then some (.pl (.int .i64 (Nat.min src.length len : Nat)), hset H o (some (.row false sz (rowPut es off (src.take (Nat.min src.length len)))))) else none
          | none => none
      | _, _ => none) H := by
    intro src
    cases src with
    | none => exact LocAt.none rfl
    | some src =>
      cases elemTy C t with
      | none => exact LocAt.none rfl
      | some te =>
        simp only
        cases (!(src.all fun c => Nat.beq c.length te.size) || Nat.beq te.size 0) with
        | true => exact LocAt.none rfl
        | false =>
          simp only [cond_false]
          have main := loc_rowSet (m := m) (H := H) (te := te) (r := fun len => AV.pl (.int .i64 (Nat.min src.length len : Nat))) (news := fun len => src.take (Nat.min src.length len)) hx
          cases x with
          | pl v => cases v with
            | sl f sz es => cases es with
              | nil => exact LocAt.pure
              | cons _ _ => exact LocAt.none rfl
            | _ => exact LocAt.none rfl
          | _ => exact main
  exact loc_read (F := F) (W := F) (r := fun H => bif srcTy C t1 y then srcElems H y else none) (g := fun src H => match src, elemTy C t with
      | some src, some te => bif !(src.all fun c => Nat.beq c.length te.size) || Nat.beq te.size 0 then none else match x with
        | .pl (.sl _ _ []) => some (AV.pl (.int .i64 0), H)
        | x => match rowOf H x with
          | some (o, off, len, sz, es) => bif Nat.beq sz te.size then some (.pl (.int .i64 (Nat.min src.length len : Nat)), hset H o (some (.row false sz (rowPut es off (src.take (Nat.min src.length len)))))) else none
          | none => none
      | _, _ => none) (H := H) (fun H2 ha => by simp only [src_eq (agu_of hy ha)]) (body _)

def evOne (C : Cfg) (call : Bool → Nat → List AV → Hp → Outs (AV × Hp)) (nid : Nat) (ρ : Operand → AV) (op : Op) (H : Hp) : Option (AV × Hp) := match evOp C call nid ρ H op with | some [r] => some r | _ => none
def isVal : Op → Bool
  | .call c => match c.callee with | .value _ => true | _ => false
  | .next _ _ => true
  | _ => false
theorem evOne_pure {ρ : Operand → AV} {op : Op} (hv : isVal op = false) : evOne C call nid ρ op H = evPure C nid ρ H op := by
  have fin : (match (match evPure C nid ρ H op with | some r => some [r] | none => none : Outs (AV × Hp)) with | some [r] => some r | _ => none) = evPure C nid ρ H op := by
    cases evPure C nid ρ H op <;> rfl
  unfold evOne evOp
  cases op with
  | call c =>
    obtain ⟨callee, args, ts⟩ := c
    cases callee with
    | value f => simp [isVal] at hv
    | _ => exact fin
  | next _ _ => simp [isVal] at hv
  | _ => exact fin
theorem foot_val {ρ : Operand → AV} {op : Op} {R : List Nat} (h : foot C nid ρ H op = .rd R) : isVal op = false := by
  cases op with
  | call c =>
    obtain ⟨callee, args, ts⟩ := c
    cases callee with
    | value f =>
      simp only [foot] at h
      split at h <;> first | exact absurd h footCall_ne | cases h
    | _ => rfl
  | next _ _ => simp [foot] at h
  | _ => rfl
theorem op_rd {ρ : Operand → AV} {op : Op} {R : List Nat} (hf : foot C nid ρ H op = .rd R) : RdAt R (fun H => evOne C call nid ρ op H) H := by
  intro r H' h
  have hv := foot_val hf
  simp only [evOne_pure hv] at h ⊢
  exact pure_rd hf r H' h
theorem footCall_wr {k : Nat} {args : List AV} {Z W : List Nat} (h : footCall C H k args = .wr Z W) : C.byref k = false ∧ Z = args.flatMap refC ∧ W = [] ∧ ∃ q, plains H args = some q := by
  unfold footCall at h
  cases hb : C.byref k with
  | true => rw [hb] at h; cases h
  | false =>
    rw [hb] at h
    simp only [cond_false] at h
    split at h
    · rename_i q hq
      simp only [Fp.wr.injEq] at h
      exact ⟨rfl, h.1.symm, h.2.symm, q, hq⟩
    · cases h
theorem loc_invoke (hx : ∀ k, C.ext k = none) {k : Nat} {args : List AV} {Z W : List Nat} (hf : footCall C H k args = .wr Z W) : LocAt m (Z ++ W) W (fun H => match evInvoke C call k args H with | some [r] => some r | _ => none) H := by
  obtain ⟨hb, rfl, rfl, ⟨ps, H1⟩, hp⟩ := footCall_wr hf
  rw [List.append_nil]
  have ev : ∀ {H : Hp} {H1 : Hp}, plains H args = some (ps, H1) → (match evInvoke C call k args H with | some [r] => some r | _ => none) = (match call false k (ps.map .pl) [] with | some [r] => some (r.1, bif flatA r.1 then H else H1) | _ => none) := by
    intro H H1 hp
    unfold evInvoke
    rw [hx k]
    simp only [hb, cond_false, hp]
    rcases call false k (ps.map .pl) [] with _ | _ | ⟨r, _ | ⟨_, _⟩⟩ <;> rfl
  intro r H' h
  simp only at h ⊢
  obtain ⟨k1, k2, k3, k4⟩ := loc_plains args H _ _ hp
  rw [ev hp] at h
  split at h
  · rename_i r0 hc
    simp only [Option.some.injEq] at h
    cases hfl : flatA r0.1 with
    | true =>
      rw [hfl] at h
      simp only [cond_true, Prod.mk.injEq] at h; obtain ⟨rfl, rfl⟩ := h
      refine ⟨rfl, fun _ _ => rfl, fun _ _ => rfl, fun H2 hl ha => ?_⟩
      obtain ⟨H2', m1, m2, m3⟩ := k4 H2 hl ha
      refine ⟨H2, by rw [ev m1, hc]; simp only [hfl, cond_true], rfl, fun o => ?_⟩
      by_cases e : o ∈ args.flatMap refC
      · rw [if_pos e]; exact ha o e
      · rw [if_neg e]
    | false =>
      rw [hfl] at h
      simp only [cond_false, Prod.mk.injEq] at h; obtain ⟨rfl, rfl⟩ := h
      refine ⟨k1, k2, k3, fun H2 hl ha => ?_⟩
      obtain ⟨H2', m1, m2, m3⟩ := k4 H2 hl ha
      exact ⟨H2', by rw [ev m1, hc]; simp only [hfl, cond_false], m2, m3⟩
  · cases h
theorem op_wr (hx : ∀ k, C.ext k = none) {ρ : Operand → AV} {op : Op} {Z W : List Nat} (hn : nid < H.length) (hm : nid < m) (hf : foot C nid ρ H op = .wr Z W) : LocAt m (Z ++ W) W (fun H => evOne C call nid ρ op H) H := by
  · skip
    cases hv : isVal op with
    | true =>
      cases op <;> first | (simp [isVal] at hv; done) | (simp [foot] at hf; done) | skip
      rename_i c
      obtain ⟨callee, args, ts⟩ := c
      cases callee <;> first | (simp [isVal] at hv; done) | skip
      rename_i f
      simp only [foot] at hf
      split at hf
      · rename_i k hk
        refine LocAt.congr (fun H => ?_) (loc_invoke (call := call) hx hf)
        unfold evOne evOp; simp only [hk]
      · rename_i k cs hk
        refine LocAt.congr (fun H => ?_) (loc_invoke (call := call) hx hf)
        unfold evOne evOp; simp only [hk]
      · cases hf
    | false =>
      refine LocAt.congr (fun H => evOne_pure hv) ?_
      cases op <;> first | (simp [foot] at hf; done) | skip
      · -- alloc
        rename_i e
        simp only [foot, Fp.wr.injEq] at hf; obtain ⟨rfl, rfl⟩ := hf
        simp only [evPure]
        cases C.ty e with
        | none => exact LocAt.none rfl
        | some ti => exact loc_put hn hm (by simp) (by simp)
      · -- box
        rename_i e x
        simp only [foot, Fp.wr.injEq] at hf; obtain ⟨rfl, rfl⟩ := hf
        simp only [evPure]
        cases (ρ x).cells.all oneA
        · exact LocAt.none rfl
        · exact loc_put hn hm (by simp) (by simp)
      · -- buildSlice
        rename_i t n ps
        simp only [foot, Fp.wr.injEq] at hf; obtain ⟨rfl, rfl⟩ := hf
        simp only [evPure]
        cases C.ty t with
        | none => exact LocAt.none rfl
        | some ti =>
          simp only
          cases ti.k with
          | sl e =>
            simp only
            cases C.ty e with
            | none => exact LocAt.none rfl
            | some te =>
              simp only
              cases (Nat.ble (n * te.size) 16777216 && !(Nat.beq te.size 0)) with
              | false => exact LocAt.none rfl
              | true =>
                simp only [cond_true]
                have h1 := (loc_fillE (m := m) te.size (ps.toList.map fun p => (p.1, ρ p.2)) (List.replicate n te.zero) H).mono (G := (ps.toList.flatMap fun p => refC (ρ p.2)) ++ [nid]) (V := [nid]) (fun o ho => by
                  rw [List.flatMap_map] at ho; exact List.mem_append_left _ ho) (fun _ h => by cases h)
                refine LocAt.congr (fun H => ?_) (h1.bind (g := fun es H => some (AV.own nid, hput H nid (.row false te.size es))) fun es H1 he => loc_put ?_ hm (by simp) (by simp))
                · cases fillE te.size H (List.replicate n te.zero) (ps.toList.map fun p => (p.1, ρ p.2)) <;> rfl
                · rw [(h1 es H1 he).1]; exact hn
          | _ => exact LocAt.none rfl
      · -- insert
        rename_i t m' k v
        simp only [foot, Fp.wr.injEq] at hf; obtain ⟨rfl, rfl⟩ := hf
        exact loc_mapUpdate
      · -- store
        rename_i t p v
        simp only [foot, Fp.wr.injEq] at hf; obtain ⟨rfl, rfl⟩ := hf
        exact loc_store
      · -- makeMap
        rename_i t r
        simp only [foot, Fp.wr.injEq] at hf; obtain ⟨rfl, rfl⟩ := hf
        cases r with
        | none => simp only [evPure]; exact loc_put hn hm (by simp) (by simp)
        | some _ => exact LocAt.none rfl
      · -- makeSlice
        rename_i t l c
        simp only [foot, Fp.wr.injEq] at hf; obtain ⟨rfl, rfl⟩ := hf
        intro r H' h
        simp only [evPure] at h
        have : ∃ x, ∀ H : Hp, evPure C nid ρ H (.makeSlice t l c) = some (.own nid, hput H nid x) := by
          simp only [evPure]
          split at h
          · rename_i ti k n k' m hti hl' hc
            split at h
            · rename_i e n' hk hn'
              split at h
              · rename_i te hte
                cases hb : (decide (m = (n' : Int)) && fitsB n' te && !Nat.beq te.size 0) with
                | false => simp [hb] at h
                | true => exact ⟨.row false te.size (List.replicate n' te.zero), fun H => by simp only [hti, hl', hc, hk, hn', hte, hb, cond_true]⟩
              · cases h
            · cases h
          · cases h
        obtain ⟨x, hx'⟩ := this
        have := (loc_put (r := AV.own nid) (x := x) (F := [nid]) (W := [nid]) hn hm (by simp) (by simp)).congr (f := fun H => evPure C nid ρ H (.makeSlice t l c)) hx'
        exact this r H' (by simpa only [evPure] using h)
      · -- mapUpdate
        rename_i t m' k v
        simp only [foot, Fp.wr.injEq] at hf; obtain ⟨rfl, rfl⟩ := hf
        exact loc_mapUpdate
      · -- mapEntry
        rename_i t m' k
        simp only [foot, Fp.wr.injEq] at hf; obtain ⟨rfl, rfl⟩ := hf
        exact loc_mapEntry
      · -- entryStore
        rename_i t m' k v
        simp only [foot, Fp.wr.injEq] at hf; obtain ⟨rfl, rfl⟩ := hf
        exact loc_entryStore
      · -- call
        rename_i c
        obtain ⟨callee, ⟨args⟩, ⟨ts⟩⟩ := c
        cases callee with
        | builtin b =>
          cases b <;> first | (simp [foot] at hf; done) | skip
          · simp only [foot, Fp.wr.injEq] at hf; obtain ⟨rfl, rfl⟩ := hf
            simp only [evPure, List.nil_append]
            rcases args with _ | ⟨x, _ | ⟨y, _ | ⟨z, r⟩⟩⟩ <;> rcases ts with _ | ⟨t, _ | ⟨u, _ | ⟨v, r'⟩⟩⟩ <;> first | exact LocAt.none rfl | skip
            refine loc_append hn hm (by simp) (fun o ho => ?_) (fun o ho => ?_)
            · simp [ho]
            · simp [ho]
          · simp only [foot, Fp.wr.injEq] at hf; obtain ⟨rfl, rfl⟩ := hf
            simp only [evPure, List.nil_append]
            rcases args with _ | ⟨x, _ | ⟨y, _ | ⟨z, r⟩⟩⟩ <;> rcases ts with _ | ⟨t, _ | ⟨u, _ | ⟨v, r'⟩⟩⟩ <;> first | exact LocAt.none rfl | skip
            exact loc_clear fun o ho => by simp [ho]
          · simp only [foot, Fp.wr.injEq] at hf; obtain ⟨rfl, rfl⟩ := hf
            simp only [evPure, List.nil_append]
            rcases args with _ | ⟨x, _ | ⟨y, _ | ⟨z, r⟩⟩⟩ <;> rcases ts with _ | ⟨t, _ | ⟨u, _ | ⟨v, r'⟩⟩⟩ <;> first | exact LocAt.none rfl | skip
            exact loc_copy (fun o ho => by simp [ho]) (fun o ho => by simp [ho])
        | value f => simp [isVal] at hv
        | invoke _ _ => simp [foot] at hf
theorem foot_eq (hx : ∀ k, C.ext k = none) {ρ : Operand → AV} {op : Op} (hne : foot C nid ρ H op ≠ .all) (hns : ∀ F n, foot C nid ρ H op ≠ .sh F n) (hag : ∀ Z W, foot C nid ρ H op = .wr Z W → ∀ o, o ∈ Z ++ W → hget H2 o = hget H o) : foot C nid ρ H2 op = foot C nid ρ H op := by
  cases op <;> first | rfl | skip
  rename_i c
  obtain ⟨callee, args, ts⟩ := c
  cases callee <;> first | rfl | (rename_i b; cases b <;> rfl) | skip
  rename_i f
  simp only [foot] at hne hns hag ⊢
  have key : ∀ k args, footCall C H k args ≠ .all → (∀ F n, footCall C H k args ≠ .sh F n) → (∀ Z W, footCall C H k args = .wr Z W → ∀ o, o ∈ Z ++ W → hget H2 o = hget H o) → footCall C H2 k args = footCall C H k args := by
    intro k args hne hns hag
    cases hf : footCall C H k args with
    | all => exact absurd hf hne
    | sh F n => exact absurd hf (hns F n)
    | rd R => exact absurd hf footCall_ne
    | wr Z W =>
      have := hag Z W hf
      obtain ⟨hb, rfl, rfl, ⟨ps, H1⟩, hp⟩ := footCall_wr hf
      obtain ⟨_, _, _, k4⟩ := loc_plains (m := 0) args H _ _ hp
      obtain ⟨H2', m1, _⟩ := k4 H2 (Nat.zero_le _) fun o ho => this o (List.mem_append_left _ ho)
      unfold footCall; simp only [hb, cond_false, m1]
  split <;> rename_i hk <;> simp only [hk] at hne hns hag ⊢ <;> first | exact key _ _ hne hns hag | rfl
theorem bit_eq (m i : Nat) : bit m i = Nat.testBit m i := by
  unfold bit
  rw [Nat.testBit_eq_decide_div_mod_eq]
  change Nat.beq ((m >>> i) &&& 1) 1 = _
  rw [Nat.and_one_is_mod, Nat.shiftRight_eq_div_pow]
  rcases beq_cases (m / 2 ^ i % 2) 1 with ⟨h, e⟩ | ⟨h, e⟩ <;> rw [h] <;> simp [e]
theorem bit_orBit (m i j : Nat) : bit (orBit m i) j = (bit m j || decide (i = j)) := by
  rw [bit_eq, bit_eq]
  unfold orBit
  change Nat.testBit (m ||| (1 <<< i)) j = _
  rw [Nat.testBit_or, Nat.one_shiftLeft, Nat.testBit_two_pow]
theorem bit_or (a b j : Nat) : bit (Nat.lor a b) j = (bit a j || bit b j) := by
  rw [bit_eq, bit_eq, bit_eq]; exact Nat.testBit_or a b j
theorem reach_mono : ∀ (f F : Nat) (todo : List Nat) {k : Nat}, bit F k = true → bit (reach H f F todo) k = true
  | 0, F, todo, k, h => by simpa only [reach] using h
  | f + 1, F, [], k, h => by simpa only [reach] using h
  | f + 1, F, o :: r, k, h => by
    simp only [reach]
    cases bit F o with
    | true => exact reach_mono f F r h
    | false =>
      refine reach_mono f _ _ ?_
      have := bit_orBit F o k
      unfold orBit at this
      rw [this, h]; rfl
theorem reach_eq : ∀ (f F : Nat) (todo : List Nat), (∀ o, bit (reach H f F todo) o = true → hget H2 o = hget H o) → reach H2 f F todo = reach H f F todo
  | 0, F, todo, _ => by simp only [reach]
  | f + 1, F, [], _ => by simp only [reach]
  | f + 1, F, o :: r, h => by
    simp only [reach] at h ⊢
    cases hb : bit F o with
    | true => rw [hb] at h; exact reach_eq f F r h
    | false =>
      rw [hb] at h
      simp only [cond_false] at h ⊢
      have ho : hget H2 o = hget H o := h o (reach_mono f _ _ (by
        have := bit_orBit F o o
        unfold orBit at this
        rw [this]; simp))
      rw [ho]
      exact reach_eq f _ _ h
theorem hp_ext {H1 H2 : Hp} (hl : H1.length = H2.length) (h : ∀ o, hget H1 o = hget H2 o) : H1 = H2 := by
  apply List.ext_getElem?
  intro o
  have := h o
  unfold hget at this
  rcases Nat.lt_or_ge o H1.length with hlt | hge
  · rw [List.getElem?_eq_getElem hlt, List.getElem?_eq_getElem (by omega)] at this ⊢
    generalize H1[o] = a at *; generalize H2[o] = b at *
    cases a <;> cases b <;> simp_all
  · rw [List.getElem?_eq_none hge, List.getElem?_eq_none (by omega)]
def ShAt (F n : Nat) (f : Hp → Option (AV × Hp)) (H : Hp) : Prop :=
  ∀ r H', f H = some (r, H') → H.length = n ∧ n ≤ H'.length ∧ (∀ o, o < n → bit F o = false → hget H' o = hget H o) ∧
    ∀ H2 : Hp, H2.length = n → (∀ o, bit F o = true → hget H2 o = hget H o) → ∃ H2', f H2 = some (r, H2') ∧ H2'.length = H'.length ∧ ∀ o, hget H2' o = if o < n ∧ bit F o = false then hget H2 o else hget H' o
theorem sh_at {k : Nat} {args : List AV} {F : Nat} (hF : ∀ H2 : Hp, H2.length = H.length → (∀ o, bit F o = true → hget H2 o = hget H o) → reach H2 100000 0 (refDL args) = F) (hF0 : reach H 100000 0 (refDL args) = F) :
    ShAt F H.length (fun H => match evShared call k args H (reach H 100000 0 (refDL args)) with | some [r] => some r | _ => none) H := by
  intro r H' h
  simp only [hF0] at h
  unfold evShared at h
  cases hc : call true k args (maskH F 0 H) with
  | none => rw [hc] at h; cases h
  | some l =>
    rw [hc] at h
    simp only at h
    cases hb : l.all (fun r => inF F H.length (refD r.1) && objsIn F H.length r.2 && Nat.ble H.length r.2.length) with
    | false => rw [hb] at h; cases h
    | true =>
      rw [hb] at h
      rcases l with _ | ⟨r0, _ | ⟨_, _⟩⟩
      · cases h
      · simp only [cond_true, List.map_cons, List.map_nil, Option.some.injEq, Prod.mk.injEq] at h
        obtain ⟨rfl, rfl⟩ := h
        have hlen : H.length ≤ r0.2.length := by
          have := List.all_eq_true.1 hb r0 (by simp)
          simp only [Bool.and_eq_true] at this
          simpa using this.2
        refine ⟨rfl, by rw [length_patch _ _ _ hlen]; exact hlen, fun o h1 h2 => by rw [hget_patch _ _ _ _ hlen, Nat.zero_add, if_pos ⟨h1, h2⟩], fun H2 hl ha => ?_⟩
        have hm : maskH F 0 H2 = maskH F 0 H := hp_ext (by rw [length_mask, length_mask, hl]) fun o => by
          rw [hget_mask, hget_mask, Nat.zero_add]
          split
          · rename_i ho; exact ha o ho
          · rfl
        have hlen2 : H2.length ≤ r0.2.length := by rw [hl]; exact hlen
        refine ⟨patchH F 0 H2 r0.2, ?_, by rw [length_patch _ _ _ hlen2, length_patch _ _ _ hlen], fun o => ?_⟩
        · simp only [hF H2 hl ha]
          unfold evShared
          rw [hm, hc]
          simp only [hl, hb, cond_true, List.map_cons, List.map_nil]
        · rw [hget_patch _ _ _ _ hlen2, hget_patch _ _ _ _ hlen, Nat.zero_add, hl]
          by_cases hc : o < H.length ∧ bit F o = false
          · rw [if_pos hc, if_pos hc]
          · rw [if_neg hc, if_neg hc, if_neg hc]
      · cases h
theorem footCall_sh {k : Nat} {args : List AV} {F n : Nat} (h : footCall C H k args = .sh F n) : C.byref k = true ∧ reach H 100000 0 (refDL args) = F ∧ H.length = n := by
  unfold footCall at h
  cases hb : C.byref k with
  | true => rw [hb] at h; simp only [cond_true, Fp.sh.injEq] at h; exact ⟨rfl, h⟩
  | false => rw [hb] at h; simp only [cond_false] at h; split at h <;> cases h
theorem op_sh (hx : ∀ k, C.ext k = none) {ρ : Operand → AV} {op : Op} {F n : Nat} (hf : foot C nid ρ H op = .sh F n) :
    ShAt F n (fun H => evOne C call nid ρ op H) H ∧ ∀ H2 : Hp, H2.length = n → (∀ o, bit F o = true → hget H2 o = hget H o) → foot C nid ρ H2 op = .sh F n := by
  cases op <;> first | (simp [foot] at hf; done) | skip
  rename_i c
  obtain ⟨callee, args, ts⟩ := c
  cases callee with
  | builtin b => cases b <;> simp [foot] at hf
  | invoke _ _ => simp [foot] at hf
  | value f =>
    have go : ∀ k as, footCall C H k as = .sh F n → (∀ H : Hp, evOp C call nid ρ H (.call ⟨.value f, args, ts⟩) = evInvoke C call k as H) → (∀ H : Hp, foot C nid ρ H (.call ⟨.value f, args, ts⟩) = footCall C H k as) →
        ShAt F n (fun H => evOne C call nid ρ (.call ⟨.value f, args, ts⟩) H) H ∧ ∀ H2 : Hp, H2.length = n → (∀ o, bit F o = true → hget H2 o = hget H o) → foot C nid ρ H2 (.call ⟨.value f, args, ts⟩) = .sh F n := by
      intro k as h1 h2 h3
      obtain ⟨hb, hF, rfl⟩ := footCall_sh h1
      have hr : ∀ H2 : Hp, H2.length = H.length → (∀ o, bit F o = true → hget H2 o = hget H o) → reach H2 100000 0 (refDL as) = F := fun H2 _ ha => by
        rw [← hF] at ha ⊢; exact reach_eq _ _ _ ha
      constructor
      · have := sh_at (call := call) (k := k) hr hF
        have e : (fun H => evOne C call nid ρ (.call ⟨.value f, args, ts⟩) H) = fun H => match evShared call k as H (reach H 100000 0 (refDL as)) with | some [r] => some r | _ => none := by
          funext H
          unfold evOne
          rw [h2]
          unfold evInvoke
          rw [hx k, hb]
          rfl
        rw [e]; exact this
      · intro H2 hl ha
        rw [h3]; unfold footCall; rw [hb]; simp only [cond_true, hr H2 hl ha, hl]
    simp only [foot] at hf
    split at hf
    · rename_i k hk
      exact go k _ hf (fun H => by unfold evOp; simp only [hk]) (fun H => by simp only [foot, hk])
    · rename_i k cs hk
      exact go k _ hf (fun H => by unfold evOp; simp only [hk]) (fun H => by simp only [foot, hk])
    · cases hf
end
end Go.Proofs.Ytkcafackfihmiaa
namespace Go.Proofs.Ytkcafackfihmiaa
set_option linter.unusedSimpArgs false
set_option linter.unusedVariables false
open Go.RowKit
section
variable {C : Cfg} {H H' H1 H2 : Hp} {nid n base : Nat} {α β : Type} {call : Bool → Nat → List AV → Hp → Outs (AV × Hp)} {ops : List Oper} {s : Tr}
theorem fm_congr {f g : Operand → List Nat} : ∀ {l : List Operand}, (∀ x ∈ l, f x = g x) → l.flatMap f = l.flatMap g
  | [], _ => rfl
  | x :: l, h => by rw [List.flatMap_cons, List.flatMap_cons, h x (by simp), fm_congr fun y hy => h y (List.mem_cons_of_mem _ hy)]
theorem pairs_congr {ρ ρ' : Operand → AV} {ps : List (Nat × Operand)} (h : ∀ p ∈ ps, ρ p.2 = ρ' p.2) : (ps.map fun p => (p.1, ρ p.2)) = ps.map fun p => (p.1, ρ' p.2) := List.map_congr_left fun p hp => by rw [h p hp]
theorem ev_congr {ρ ρ' : Operand → AV} {op : Op} (h : ∀ x ∈ op.operands, ρ x = ρ' x) : evOp C call nid ρ H op = evOp C call nid ρ' H op ∧ foot C nid ρ H op = foot C nid ρ' H op := by
  have hd : op.operands.toList.flatMap (fun x => ref1 (ρ x)) = op.operands.toList.flatMap (fun x => ref1 (ρ' x)) := fm_congr fun x hx => by rw [h x (by simpa using hx)]
  · skip
    cases op with
    | call c =>
      obtain ⟨callee, args, ts⟩ := c
      have ha : args.toList.map ρ = args.toList.map ρ' := List.map_congr_left fun x hx => h x (by simp [Op.operands, Call.operands]; exact .inr (by simpa using hx))
      have hr : args.toList.flatMap (fun x => ref1 (ρ x)) = args.toList.flatMap (fun x => ref1 (ρ' x)) := fm_congr fun x hx => by rw [h x (by simp [Op.operands, Call.operands]; exact .inr (by simpa using hx))]
      cases callee with
      | value f =>
        have hf : ρ f = ρ' f := h f (by simp [Op.operands, Call.operands])
        constructor
        · unfold evOp; simp only [hf, ha]
        · simp only [foot, hf, ha]
      | invoke r m =>
        constructor
        · rfl
        · rfl
      | builtin b =>
        constructor
        · unfold evOp; simp only [evPure, ha]
        · cases b <;> first | rfl | (simp only [foot, hr])
    | build t ps =>
      have hp := pairs_congr (ρ := ρ) (ρ' := ρ') (ps := ps.toList) fun p hp => h p.2 (by simp [Op.operands]; exact ⟨p.1, by simpa using hp⟩)
      exact ⟨by unfold evOp; simp only [evPure, hp], rfl⟩
    | buildSlice t k ps =>
      have hp := pairs_congr (ρ := ρ) (ρ' := ρ') (ps := ps.toList) fun p hp => h p.2 (by simp [Op.operands]; exact ⟨p.1, by simpa using hp⟩)
      refine ⟨by unfold evOp; simp only [evPure, hp], ?_⟩
      have hz : (ps.toList.flatMap fun p => refC (ρ p.2)) = ps.toList.flatMap fun p => refC (ρ' p.2) := by
        have e : ∀ ρ : Operand → AV, (ps.toList.flatMap fun p => refC (ρ p.2)) = (ps.toList.map fun p => (p.1, ρ p.2)).flatMap fun q => refC q.2 := fun ρ => by rw [List.flatMap_map]
        rw [e ρ, e ρ', hp]
      simp only [foot, hz]
    | makeFunc fn first cs =>
      have hp : cs.toList.map ρ = cs.toList.map ρ' := List.map_congr_left fun x hx => h x (by simp [Op.operands]; exact .inr (by simpa using hx))
      refine ⟨?_, rfl⟩
      unfold evOp; cases fn <;> simp only [evPure, hp]
    | slice t x lo hi mx =>
      have hx := h x (by simp [Op.operands])
      have h1 : lo.map ρ = lo.map ρ' := by cases lo with | none => rfl | some y => simp only [Option.map_some, h y (by simp [Op.operands])]
      have h2 : hi.map ρ = hi.map ρ' := by cases hi with | none => rfl | some y => simp only [Option.map_some, h y (by simp [Op.operands])]
      have h3 : mx.map ρ = mx.map ρ' := by cases mx with | none => rfl | some y => simp only [Option.map_some, h y (by simp [Op.operands])]
      exact ⟨by unfold evOp; simp only [evPure, hx, h1, h2, h3], congrArg Fp.rd hd⟩
    | move x => exact ⟨by unfold evOp; simp only [evPure, h x (by simp [Op.operands])], rfl⟩
    | assign x => exact ⟨by unfold evOp; simp only [evPure, h x (by simp [Op.operands])], rfl⟩
    | pick c x y => exact ⟨by unfold evOp; simp only [evPure, h c (by simp [Op.operands]), h x (by simp [Op.operands]), h y (by simp [Op.operands])], rfl⟩
    | alloc e => exact ⟨rfl, rfl⟩
    | box e x => exact ⟨by unfold evOp; simp only [evPure, h x (by simp [Op.operands])], rfl⟩
    | load t x => exact ⟨by unfold evOp; simp only [evPure, h x (by simp [Op.operands])], congrArg Fp.rd hd⟩
    | store t x y => exact ⟨by unfold evOp; simp only [evPure, h x (by simp [Op.operands]), h y (by simp [Op.operands])], by simp only [foot, h x (by simp [Op.operands]), h y (by simp [Op.operands])]⟩
    | nilCheck x => exact ⟨by unfold evOp; simp only [evPure, h x (by simp [Op.operands])], congrArg Fp.rd hd⟩
    | binOp op t x y t' => exact ⟨by unfold evOp; simp only [evPure, h x (by simp [Op.operands]), h y (by simp [Op.operands])], congrArg Fp.rd hd⟩
    | unOp op t x => exact ⟨by unfold evOp; simp only [evPure, h x (by simp [Op.operands])], rfl⟩
    | convert _ _ x => exact ⟨by unfold evOp; simp only [evPure, h x (by simp [Op.operands])], rfl⟩
    | makeSlice t x y => exact ⟨by unfold evOp; simp only [evPure, h x (by simp [Op.operands]), h y (by simp [Op.operands])], rfl⟩
    | fieldAddr t x f => exact ⟨by unfold evOp; simp only [evPure, h x (by simp [Op.operands])], congrArg Fp.rd hd⟩
    | field t x f => exact ⟨by unfold evOp; simp only [evPure, h x (by simp [Op.operands])], rfl⟩
    | indexAddr t x y => exact ⟨by unfold evOp; simp only [evPure, h x (by simp [Op.operands]), h y (by simp [Op.operands])], congrArg Fp.rd hd⟩
    | index t x y => exact ⟨by unfold evOp; simp only [evPure, h x (by simp [Op.operands]), h y (by simp [Op.operands])], rfl⟩
    | extract x i => exact ⟨by unfold evOp; simp only [evPure, h x (by simp [Op.operands])], rfl⟩
    | makeMap t r => exact ⟨by unfold evOp; cases r <;> rfl, rfl⟩
    | lookup t x y ok => exact ⟨by unfold evOp; simp only [evPure, h x (by simp [Op.operands]), h y (by simp [Op.operands])], congrArg Fp.rd hd⟩
    | mapUpdate t x y z => exact ⟨by unfold evOp; simp only [evPure, h x (by simp [Op.operands]), h y (by simp [Op.operands]), h z (by simp [Op.operands])], by simp only [foot, h x (by simp [Op.operands]), h z (by simp [Op.operands])]⟩
    | insert t x y z => exact ⟨by unfold evOp; simp only [evPure, h x (by simp [Op.operands]), h y (by simp [Op.operands]), h z (by simp [Op.operands])], by simp only [foot, h x (by simp [Op.operands]), h z (by simp [Op.operands])]⟩
    | mapEntry t x y => exact ⟨by unfold evOp; simp only [evPure, h x (by simp [Op.operands]), h y (by simp [Op.operands])], by simp only [foot, h x (by simp [Op.operands])]⟩
    | entryStore t x y z => exact ⟨by unfold evOp; simp only [evPure, h x (by simp [Op.operands]), h y (by simp [Op.operands]), h z (by simp [Op.operands])], by simp only [foot, h x (by simp [Op.operands]), h z (by simp [Op.operands])]⟩
    | range t x => exact ⟨by unfold evOp; simp only [evPure, h x (by simp [Op.operands])], rfl⟩
    | next x b => exact ⟨by unfold evOp; cases b <;> simp only [evPure, h x (by simp [Op.operands])], rfl⟩
    | entry x => exact ⟨by unfold evOp; simp only [evPure, h x (by simp [Op.operands])], rfl⟩
    | _ => exact ⟨rfl, congrArg Fp.rd hd⟩
theorem foot_rd {ρ : Operand → AV} {op : Op} {R : List Nat} (h : foot C nid ρ H op = .rd R) (H2 : Hp) : foot C nid ρ H2 op = .rd R := by
  have hv := foot_val h
  cases op <;> first | exact h | skip
  rename_i c
  obtain ⟨callee, args, ts⟩ := c
  cases callee with
  | value f => simp [isVal] at hv
  | invoke _ _ => exact h
  | builtin b => cases b <;> exact h

def actD (C : Cfg) (call : Bool → Nat → List AV → Hp → Outs (AV × Hp)) (ops : List Oper) (base : Nat) (x : It) (s : Tr) (H : Hp) : Option (AV × Hp) :=
  match want ops s x.o.guard with
  | none => none
  | some false => some (.tup [], H)
  | some true => match evOne C call (base + x.nid) (val s) x.o.op H with
    | some r => bif okLen H r.2 (foot C (base + x.nid) (val s) H x.o.op) then some r else none
    | none => none
def ftD (C : Cfg) (ops : List Oper) (base : Nat) (x : It) (s : Tr) (H : Hp) : Fp :=
  match want ops s x.o.guard with
  | some true => foot C (base + x.nid) (val s) H x.o.op
  | _ => .rd []
theorem stepD_eq {x : It} : stepD C call n ops base x (s, H) = (actD C call ops base x s H).map fun r => ((putO n s x.o.dst r.1, r.2), ftD C ops base x s H) := by
  unfold stepD actD ftD evOne
  simp only
  cases want ops s x.o.guard with
  | none => rfl
  | some b => cases b with
    | false => rfl
    | true =>
      simp only
      rcases evOp C call (base + x.nid) (val s) H x.o.op with _ | _ | ⟨r, _ | ⟨_, _⟩⟩ <;> first | rfl | skip
      simp only
      cases okLen H r.2 (foot C (base + x.nid) (val s) H x.o.op) <;> rfl
theorem act_rd {x : It} {R : List Nat} (h : ftD C ops base x s H = .rd R) : RdAt R (actD C call ops base x s) H := by
  unfold ftD at h
  intro r H' hr
  unfold actD at hr ⊢
  cases hw : want ops s x.o.guard with
  | none => rw [hw] at hr; cases hr
  | some b => cases b with
    | false =>
      rw [hw] at hr; simp only [Option.some.injEq, Prod.mk.injEq] at hr; obtain ⟨rfl, rfl⟩ := hr
      exact ⟨rfl, fun H2 _ => rfl⟩
    | true =>
      rw [hw] at hr h; simp only at hr h ⊢
      split at hr
      · rename_i r0 h0
        rw [h] at hr
        simp only [okLen, cond_true, Option.some.injEq] at hr; subst hr
        obtain ⟨rfl, h2⟩ := op_rd (call := call) h _ _ h0
        refine ⟨rfl, fun H2 ha => ?_⟩
        have e := h2 H2 ha
        simp only at e
        rw [e]
        simp only [foot_rd h H2, okLen, cond_true]
      · cases hr
theorem act_wr (hx : ∀ k, C.ext k = none) {x : It} {Z W : List Nat} (hn : base + x.nid < H.length) (h : ftD C ops base x s H = .wr Z W) : LocAt (base + x.nid + 1) (Z ++ W) W (actD C call ops base x s) H := by
  unfold ftD at h
  cases hw : want ops s x.o.guard with
  | none => exact LocAt.none (by unfold actD; rw [hw])
  | some b => cases b with
    | false => rw [hw] at h; cases h
    | true =>
      rw [hw] at h; simp only at h
      have h0 := op_wr (call := call) (m := base + x.nid + 1) hx hn (Nat.lt_succ_self _) h
      intro r H' hr
      unfold actD at hr ⊢
      rw [hw] at hr; simp only at hr ⊢
      rw [h] at hr
      split at hr
      · rename_i r0 he
        simp only [okLen, cond_true, Option.some.injEq] at hr; subst hr
        obtain ⟨k1, k2, k3, k4⟩ := h0 _ _ he
        refine ⟨k1, k2, k3, fun H2 hl ha => ?_⟩
        obtain ⟨H2', m1, m2, m3⟩ := k4 H2 hl ha
        refine ⟨H2', ?_, m2, m3⟩
        have hf2 : foot C (base + x.nid) (val s) H2 x.o.op = .wr Z W := by
          rw [foot_eq hx (H := H) (by rw [h]; intro e; cases e) (fun _ _ => by rw [h]; intro e; cases e) (fun Z' W' e => by rw [h] at e; cases e; exact ha), h]
        simp only at m1
        rw [m1]; simp only [hw, hf2, okLen, cond_true]
      · cases hr
theorem ft_rd {x : It} {R : List Nat} (h : ftD C ops base x s H = .rd R) (H2 : Hp) : ftD C ops base x s H2 = .rd R := by
  unfold ftD at h ⊢
  cases hw : want ops s x.o.guard with
  | none => rw [hw] at h; exact h
  | some b => cases b with
    | false => rw [hw] at h; exact h
    | true => rw [hw] at h; exact foot_rd h H2
theorem ft_wr (hx : ∀ k, C.ext k = none) {x : It} {Z W : List Nat} (h : ftD C ops base x s H = .wr Z W) (ha : ∀ o, o ∈ Z ++ W → hget H2 o = hget H o) : ftD C ops base x s H2 = .wr Z W := by
  unfold ftD at h ⊢
  cases hw : want ops s x.o.guard with
  | none => rw [hw] at h; cases h
  | some b => cases b with
    | false => rw [hw] at h; cases h
    | true =>
      rw [hw] at h; simp only at h ⊢
      rw [foot_eq hx (H := H) (by rw [h]; intro e; cases e) (fun _ _ => by rw [h]; intro e; cases e) (fun Z' W' e => by rw [h] at e; cases e; exact ha), h]
theorem act_sh (hx : ∀ k, C.ext k = none) {x : It} {F m : Nat} (h : ftD C ops base x s H = .sh F m) : ShAt F m (actD C call ops base x s) H ∧ ∀ H2 : Hp, H2.length = m → (∀ o, bit F o = true → hget H2 o = hget H o) → ftD C ops base x s H2 = .sh F m := by
  unfold ftD at h
  cases hw : want ops s x.o.guard with
  | none => rw [hw] at h; cases h
  | some b => cases b with
    | false => rw [hw] at h; cases h
    | true =>
      rw [hw] at h; simp only at h
      obtain ⟨h0, hf⟩ := op_sh (call := call) hx h
      refine ⟨fun r H' hr => ?_, fun H2 hl ha => by unfold ftD; rw [hw]; exact hf H2 hl ha⟩
      unfold actD at hr ⊢
      rw [hw] at hr; simp only at hr
      rw [h] at hr
      split at hr
      · rename_i r0 he
        cases hb : okLen H r0.2 (.sh F m) with
        | false => rw [hb] at hr; cases hr
        | true =>
          rw [hb] at hr; simp only [cond_true, Option.some.injEq] at hr; subst hr
          obtain ⟨k1, k2, k3, k4⟩ := h0 _ _ he
          refine ⟨k1, k2, k3, fun H2 hl ha => ?_⟩
          obtain ⟨H2', m1, m2, m3⟩ := k4 H2 hl ha
          refine ⟨H2', ?_, m2, m3⟩
          simp only at m1
          have hb2 : okLen H2 H2' (.sh F m) = true := by simp only [okLen, Nat.ble_eq]; omega
          simp only [hw, m1, hf H2 hl ha, hb2, cond_true]
      · cases hr
theorem disj_ok {a b : List Nat} (h : disj a b = true) {o : Nat} (ha : o ∈ a) (hb : o ∈ b) : False := by
  unfold disj at h
  rw [List.all_eq_true] at h
  have := h o ha
  rw [List.all_eq_true] at this
  have := this o hb
  simp at this
theorem outF_ok {F m : Nat} {l : List Nat} (h : outF F m l = true) {o : Nat} (ho : o ∈ l) : bit F o = false ∧ o < m := by
  unfold outF at h
  have := List.all_eq_true.1 h o ho
  simpa using this
theorem swapH (hx : ∀ k, C.ext k = none) {x y : It} {v u : AV} (hy : actD C call ops base y s H = some (v, H1)) (hxx : actD C call ops base x s H1 = some (u, H2)) (hok : okF (ftD C ops base y s H) (ftD C ops base x s H1) = true)
    (hny : base + y.nid < H.length) (hnx : base + x.nid < H.length) :
    ∃ H1', actD C call ops base x s H = some (u, H1') ∧ actD C call ops base y s H1' = some (v, H2) ∧ ftD C ops base x s H = ftD C ops base x s H1 ∧ ftD C ops base y s H1' = ftD C ops base y s H := by
  cases fy : ftD C ops base y s H with
  | rd R =>
    obtain ⟨rfl, ry⟩ := act_rd fy _ _ hy
    cases fx : ftD C ops base x s H1 with
    | rd R' =>
      obtain ⟨rfl, _⟩ := act_rd fx _ _ hxx
      exact ⟨_, hxx, hy, rfl, fy⟩
    | wr Z W =>
      rw [fy, fx] at hok
      obtain ⟨k1, k2, k3, _⟩ := act_wr hx hnx fx _ _ hxx
      exact ⟨H2, hxx, ry H2 fun o ho => k3 o fun hw => disj_ok hok ho hw, rfl, ft_rd fy H2⟩
    | sh F m =>
      rw [fy, fx] at hok
      obtain ⟨k0, k1, k2, _⟩ := (act_sh hx fx).1 _ _ hxx
      exact ⟨H2, hxx, ry H2 fun o ho => by rw [k2 o (outF_ok hok ho).2 (outF_ok hok ho).1], rfl, ft_rd fy H2⟩
    | all =>
      rw [fy, fx] at hok
      cases R with
      | nil => exact ⟨H2, hxx, ry H2 (fun o ho => by cases ho), rfl, ft_rd fy H2⟩
      | cons _ _ => cases hok
  | wr Z W =>
    obtain ⟨k1, k2, k3, k4⟩ := act_wr hx hny fy _ _ hy
    cases fx : ftD C ops base x s H1 with
    | rd R =>
      rw [fy, fx] at hok
      obtain ⟨rfl, rx⟩ := act_rd fx _ _ hxx
      exact ⟨H, rx H fun o ho => (k3 o fun hw => disj_ok hok ho hw).symm, hy, ft_rd fx H, fy⟩
    | wr Z' W' =>
      rw [fy, fx] at hok
      simp only [okF] at hok
      obtain ⟨l1, l2, l3, l4⟩ := act_wr hx (by rw [k1]; exact hnx) fx _ _ hxx
      obtain ⟨H1', m1, m2, m3⟩ := l4 H hnx fun o ho => (k2 o fun hw => disj_ok hok hw ho).symm
      obtain ⟨H2', n1, n2, n3⟩ := k4 H1' (by rw [m2]; exact hny) fun o ho => by rw [m3 o, if_neg fun hw => disj_ok hok ho hw]
      have e : H2' = H2 := by
        refine hp_ext (by rw [n2, m2, l1, k1]) fun o => ?_
        rw [n3 o]
        by_cases e1 : o ∈ Z ++ W
        · rw [if_pos e1, l2 o fun hw => disj_ok hok e1 hw]
        · rw [if_neg e1, m3 o]
          by_cases e2 : o ∈ Z' ++ W'
          · rw [if_pos e2]
          · rw [if_neg e2, l2 o e2, k2 o e1]
      subst e
      refine ⟨H1', m1, n1, ?_, ?_⟩
      · exact ft_wr hx fx fun o ho => (k2 o fun hw => disj_ok hok hw ho).symm
      · exact ft_wr hx fy fun o ho => by rw [m3 o, if_neg fun hw => disj_ok hok ho hw]
    | sh F m =>
      rw [fy, fx] at hok
      simp only [okF] at hok
      obtain ⟨l0, l1, l2, l3⟩ := (act_sh hx fx).1 _ _ hxx
      have hno : ∀ o, bit F o = true → o ∉ Z ++ W := fun o ho hc => by rw [(outF_ok hok hc).1] at ho; cases ho
      obtain ⟨H1', m1, m2, m3⟩ := l3 H (by rw [← k1]; exact l0) fun o ho => (k2 o (hno o ho)).symm
      have hag : ∀ o, o ∈ Z ++ W → hget H1' o = hget H o := fun o ho => by rw [m3 o, if_pos ⟨(outF_ok hok ho).2, (outF_ok hok ho).1⟩]
      obtain ⟨H2', n1, n2, n3⟩ := k4 H1' (by rw [m2]; omega) hag
      have e : H2' = H2 := by
        refine hp_ext (by rw [n2, m2]) fun o => ?_
        rw [n3 o]
        by_cases e1 : o ∈ Z ++ W
        · rw [if_pos e1, l2 o (outF_ok hok e1).2 (outF_ok hok e1).1]
        · rw [if_neg e1, m3 o]
          by_cases e2 : o < m ∧ bit F o = false
          · rw [if_pos e2, l2 o e2.1 e2.2, k2 o e1]
          · rw [if_neg e2]
      subst e
      exact ⟨H1', m1, n1, by rw [(act_sh (call := call) hx fx).2 H (by rw [← k1]; exact l0) fun o ho => (k2 o (hno o ho)).symm], ft_wr hx fy hag⟩
    | all => rw [fy, fx] at hok; cases hok
  | sh F m =>
    obtain ⟨k0, k1, k2, k3⟩ := (act_sh hx fy).1 _ _ hy
    cases fx : ftD C ops base x s H1 with
    | rd R =>
      rw [fy, fx] at hok
      obtain ⟨rfl, rx⟩ := act_rd fx _ _ hxx
      exact ⟨H, rx H fun o ho => by rw [k2 o (outF_ok hok ho).2 (outF_ok hok ho).1], hy, ft_rd fx H, fy⟩
    | wr Z W =>
      rw [fy, fx] at hok
      simp only [okF] at hok
      obtain ⟨l1, l2, l3, l4⟩ := act_wr hx (by omega) fx _ _ hxx
      have hag : ∀ o, o ∈ Z ++ W → hget H o = hget H1 o := fun o ho => (k2 o (outF_ok hok ho).2 (outF_ok hok ho).1).symm
      obtain ⟨H1', m1, m2, m3⟩ := l4 H hnx hag
      have hno : ∀ o, bit F o = true → o ∉ Z ++ W := fun o ho hc => by rw [(outF_ok hok hc).1] at ho; cases ho
      obtain ⟨H2', n1, n2, n3⟩ := k3 H1' (by rw [m2]; exact k0) fun o ho => by rw [m3 o, if_neg (hno o ho)]
      have e : H2' = H2 := by
        refine hp_ext (by rw [n2, l1]) fun o => ?_
        rw [n3 o]
        by_cases e2 : o < m ∧ bit F o = false
        · rw [if_pos e2, m3 o]
          by_cases e1 : o ∈ Z ++ W
          · rw [if_pos e1]
          · rw [if_neg e1, l2 o e1, k2 o e2.1 e2.2]
        · rw [if_neg e2, l2 o fun hc => e2 ⟨(outF_ok hok hc).2, (outF_ok hok hc).1⟩]
      subst e
      exact ⟨H1', m1, n1, ft_wr hx fx hag, by rw [(act_sh (call := call) hx fy).2 H1' (by rw [m2]; exact k0) fun o ho => by rw [m3 o, if_neg (hno o ho)]]⟩
    | sh _ _ => rw [fy, fx] at hok; cases hok
    | all => rw [fy, fx] at hok; cases hok
  | all =>
    cases fx : ftD C ops base x s H1 with
    | rd R =>
      rw [fy, fx] at hok
      cases R with
      | nil =>
        obtain ⟨rfl, rx⟩ := act_rd fx _ _ hxx
        exact ⟨H, rx H (fun o ho => by cases ho), hy, ft_rd fx H, fy⟩
      | cons _ _ => cases hok
    | sh _ _ => rw [fy, fx] at hok; cases hok
    | wr _ _ => rw [fy, fx] at hok; cases hok
    | all => rw [fy, fx] at hok; cases hok

theorem eqF_some {T : Nat → Option TI} {rec : Nat → List PV → Bool} {eq : Nat → List PV → List PV → Option Bool} (ih : ∀ t x y, rec t x = true → rec t y = true → ∃ b, eq t x y = some b) : ∀ (fs : List (Nat × Nat)) (x y : List PV), keyF T rec fs x = true → keyF T rec fs y = true → ∃ b, eqF T eq fs x y = some b
  | [], x, y, _, _ => ⟨true, rfl⟩
  | (t, off) :: fs, x, y, hx, hy => by
    simp only [keyF, Bool.and_eq_true] at hx hy
    obtain ⟨hx, hx2⟩ := hx
    obtain ⟨hy, hy2⟩ := hy
    simp only [eqF]
    cases hti : T t with
    | none => simp [hti] at hx
    | some ti =>
      simp only [hti, Bool.and_eq_true] at hx hy
      obtain ⟨b, hb⟩ := ih t _ _ hx.2 hy.2
      simp only [hx.1.1, hy.1.1, Bool.and_self, cond_true, hb]
      cases b with
      | true => exact eqF_some ih fs x y hx2 hy2
      | false => exact ⟨false, rfl⟩
theorem eqP_some {T : Nat → Option TI} : ∀ (d t : Nat) (x y : List PV), keyP T d t x = true → keyP T d t y = true → ∃ b, eqP T d t x y = some b
  | 0, t, x, y, h, _ => by simp [keyP] at h
  | d + 1, t, x, y, hx, hy => by
    simp only [keyP] at hx hy
    simp only [eqP]
    cases hti : T t with
    | none => simp [hti] at hx
    | some ti =>
      simp only [hti] at hx hy ⊢
      split at hx
      · rename_i k k2 n hk
        rw [hk] at hy ⊢
        split at hy
        · rename_i k' k2' n' hk'
          simp only [TK.int.injEq] at hk'
          subst hk'
          cases kindEq_eq hx; cases kindEq_eq hy
          simp only [kindEq_refl, cond_true]
          exact ⟨_, rfl⟩
        · rename_i h; cases h
        · rename_i h; cases h
        · rename_i h; cases h
        · cases hy
      · rename_i b hk
        rw [hk] at hy ⊢
        split at hy
        · rename_i h; cases h
        · exact ⟨_, rfl⟩
        · rename_i h; cases h
        · rename_i h; cases h
        · cases hy
      · rename_i b hk
        rw [hk] at hy ⊢
        split at hy
        · rename_i h; cases h
        · rename_i h; cases h
        · exact ⟨_, rfl⟩
        · rename_i h; cases h
        · cases hy
      · rename_i fs hk
        rw [hk] at hy ⊢
        replace hy : (y.all simp1 && keyF T (keyP T d) fs y) = true := hy
        rw [Bool.and_eq_true] at hx hy
        exact eqF_some (fun t x y h1 h2 => eqP_some d t x y h1 h2) fs _ _ hx.2 hy.2
      · cases hx
theorem eqV_some {T : Nat → Option TI} {t : Nat} {p q : PV} (hp : keyV T t p = true) (hq : keyV T t q = true) : ∃ b, eqV T t p q = some b := by
  unfold keyV at hp hq
  unfold eqV
  cases hti : T t with
  | none => simp [hti] at hp
  | some ti =>
    simp only [hti] at hp hq ⊢
    cases hr : ti.k.row with
    | true =>
      simp only [hr, cond_true] at hp hq ⊢
      split at hp
      · split at hq
        · exact eqP_some 20 t _ _ hp hq
        · cases hq
      · cases hp
    | false =>
      simp only [hr, cond_false, Bool.and_eq_true] at hp hq ⊢
      simp only [hp.1, hq.1, Bool.and_self, cond_true]
      exact eqP_some 20 t _ _ hp.2 hq.2
theorem mfind_app {T : Nat → Option TI} {kt : Nat} {k k' z : PV} : ∀ (kvs : List (PV × PV)) (i : Nat), mfind T kt k (kvs ++ [(k', z)]) i = match mfind T kt k kvs i with
    | some none => (match eqV T kt k k' with | some true => some (some (i + kvs.length, z)) | some false => some none | none => none)
    | r => r
  | [], i => by
    simp only [List.nil_append, mfind, List.length_nil, Nat.add_zero]
    cases eqV T kt k k' with
    | none => rfl
    | some b => cases b <;> rfl
  | (q, v) :: r, i => by
    simp only [List.cons_append, mfind]
    cases eqV T kt k q with
    | none => rfl
    | some b => cases b with
      | true => rfl
      | false =>
        simp only [mfind_app r (i + 1), List.length_cons]
        rw [show i + 1 + r.length = i + (r.length + 1) from by omega]
theorem lk_eq {t : Nat} {m k x q : AV} {r : AV × Hp} (h : evMapEntry C H t m k = some r) : evLookup C r.2 t x q false = evLookup C H t x q false := by
  unfold evMapEntry at h
  split at h
  · rename_i kt e o kp hmt
    split at h
    · rename_i kvs ho
      split at h
      · rename_i z i kvs' hms
        simp only [Option.some.injEq] at h; subst h
        unfold evLookup
        simp only [hmt]
        have hlt := hget_lt ho
        cases q with
        | pl qp =>
          by_cases hxo : x = .mp o
          · subst hxo
            simp only [mapOf, hget_set hlt, if_true, ho]
            unfold ment at hms
            cases hkk : keyV C.ty kt kp with
            | false => simp [hkk] at hms
            | true =>
              simp only [hkk, cond_true] at hms
              split at hms
              · split at hms
                · rename_i kq _ _
                  cases hq : eqC kp kq with
                  | false => simp [hq] at hms
                  | true => simp only [hq, cond_true, Option.some.injEq, Prod.mk.injEq] at hms; rw [hms.2.2]
                · cases hms
              · split at hms
                · rename_i z0 hz
                  simp only [Option.some.injEq, Prod.mk.injEq] at hms; obtain ⟨rfl, _, rfl⟩ := hms
                  cases hqk : keyV C.ty kt qp with
                  | false => rfl
                  | true =>
                    simp only [cond_true, mfind_app]
                    obtain ⟨b, hb⟩ := eqV_some hqk hkk
                    cases mfind C.ty kt qp kvs 0 with
                    | none => rfl
                    | some p => cases p with
                      | some _ => rfl
                      | none => cases b <;> simp only [hb, hz, cond_false]
                · cases hms
              · cases hms
          · have : mapOf (hset H o (some (.map kvs'))) x = mapOf H x := by
              cases x with
              | mp o' =>
                have : o' ≠ o := fun e => hxo (by rw [e])
                simp only [mapOf, hget_set hlt, if_neg this]
              | pl v => cases v <;> rfl
              | _ => rfl
            rw [this]
        | _ => rfl
      · cases h
    · cases h
  · cases h
theorem swapLk {x y : It} {v u : AV} (hy : actD C call ops base y s H = some (v, H1)) (hxx : actD C call ops base x s H1 = some (u, H2)) (hok : okP y.o x.o = true) :
    ∃ H1', actD C call ops base x s H = some (u, H1') ∧ actD C call ops base y s H1' = some (v, H2) ∧ ftD C ops base x s H = ftD C ops base x s H1 ∧ ftD C ops base y s H1' = ftD C ops base y s H := by
  have lk : ∀ {z : It} {t : Nat} {a b : Operand} (H : Hp), z.o.guard = none → z.o.op = .lookup t a b false → actD C call ops base z s H = (evLookup C H t (val s a) (val s b) false).map (fun v => (v, H)) ∧ ftD C ops base z s H = .rd ((Op.lookup t a b false).operands.toList.flatMap fun x => ref1 (val s x)) := fun {z t a b} H hg ho => by
    unfold actD ftD
    rw [hg, ho]
    simp only [want, foot, evOne_pure (C := C) (call := call) (op := .lookup t a b false) rfl, evPure]
    cases evLookup C H t (val s a) (val s b) false with
    | none => exact ⟨rfl, trivial⟩
    | some v => exact ⟨rfl, trivial⟩
  have me : ∀ {z : It} {t : Nat} {a b : Operand} (H : Hp), z.o.guard = none → z.o.op = .mapEntry t a b → actD C call ops base z s H = evMapEntry C H t (val s a) (val s b) ∧ ftD C ops base z s H = .wr [] (ref1 (val s a)) := fun {z t a b} H hg ho => by
    unfold actD ftD
    rw [hg, ho]
    simp only [want, foot, evOne_pure (C := C) (call := call) (op := .mapEntry t a b) rfl, evPure]
    cases evMapEntry C H t (val s a) (val s b) with
    | none => exact ⟨rfl, trivial⟩
    | some v => exact ⟨rfl, trivial⟩
  unfold okP at hok
  split at hok
  · rename_i gy gx
    split at hok
    · rename_i t a b t' a' b' oy ox
      rcases beq_cases t t' with ⟨hb, e⟩ | ⟨hb, e⟩
      · subst e
        rw [(lk H gy oy).1] at hy
        obtain ⟨v', h1, h2⟩ := Option.map_eq_some_iff.1 hy
        simp only [Prod.mk.injEq] at h2; obtain ⟨rfl, rfl⟩ := h2
        refine ⟨H2, hxx, ?_, rfl, ?_⟩
        · rw [(me H gx ox).1] at hxx
          rw [(lk H2 gy oy).1, lk_eq hxx, h1]; rfl
        · rw [(lk H2 gy oy).2, (lk H gy oy).2]
      · rw [hb] at hok; cases hok
    · rename_i t' a' b' t a b oy ox
      rcases beq_cases t t' with ⟨hb, e⟩ | ⟨hb, e⟩
      · subst e
        rw [(lk H1 gx ox).1] at hxx
        obtain ⟨v', h1, h2⟩ := Option.map_eq_some_iff.1 hxx
        simp only [Prod.mk.injEq] at h2; obtain ⟨rfl, rfl⟩ := h2
        have hy' := hy
        rw [(me H gy oy).1] at hy'
        refine ⟨H, ?_, hy, ?_, rfl⟩
        · rw [(lk H gx ox).1, ← lk_eq hy', h1]; rfl
        · rw [(lk H gx ox).2, (lk H1 gx ox).2]
      · rw [hb] at hok; cases hok
    · cases hok
  · cases hok

theorem val_put {d : Option Nat} {v : AV} {x : Operand} (h : ∀ t, d = some t → x ≠ .tmp t) : val (putO n s d v) x = val s x := by
  cases d with
  | none => rfl
  | some t =>
    cases x with
    | tmp k =>
      have hne : k ≠ t := fun e => h t rfl (by rw [e])
      simp only [val, putO]
      cases Nat.blt t n with
      | false => rfl
      | true => exact get_put_ne 12 s t k v hne
    | _ => rfl
theorem dstOf_eq {j : Nat} : (ops.toArray[j]?).bind (·.dst) = dstOf ops j := by
  unfold dstOf; rw [List.getElem?_toArray]; cases ops[j]? <;> rfl
theorem want_put {d : Option Nat} {v : AV} {o : Oper} (h : ∀ t, d = some t → t ∉ o.looksAt ops.toArray) : want ops (putO n s d v) o.guard = want ops s o.guard := by
  cases d with
  | none => rfl
  | some t =>
    unfold want
    cases hg : o.guard with
    | none => rfl
    | some q =>
      obtain ⟨j, b⟩ := q
      simp only
      cases hd : dstOf ops j with
      | none => rfl
      | some k =>
        have hne : k ≠ t := fun e => h t rfl (by
          unfold Oper.looksAt
          simp only [hg]
          rw [dstOf_eq, hd, e]; simp)
        simp only [putO]
        cases Nat.blt t n with
        | false => rfl
        | true => simp only [cond_true, get_put_ne 12 s t k v hne]
theorem act_put {x : It} {d : Option Nat} {v : AV} (h : ∀ t, d = some t → t ∉ x.o.looksAt ops.toArray) : actD C call ops base x (putO n s d v) H = actD C call ops base x s H ∧ ftD C ops base x (putO n s d v) H = ftD C ops base x s H := by
  have hv : ∀ y ∈ x.o.op.operands, val (putO n s d v) y = val s y := fun y hy => val_put fun t ht hyt => h t ht (by
    subst hyt
    exact List.mem_append_left _ (List.mem_filterMap.2 ⟨.tmp t, by simpa using hy, rfl⟩))
  have e := ev_congr (C := C) (call := call) (nid := base + x.nid) (H := H) hv
  unfold actD ftD evOne
  rw [want_put h, e.1, e.2]
  exact ⟨rfl, rfl⟩
theorem putO_comm {d e : Option Nat} {v u : AV} (h : ∀ t, d = some t → e ≠ some t) : putO n (putO n s d v) e u = putO n (putO n s e u) d v := by
  cases d with
  | none => rfl
  | some t => cases e with
    | none => rfl
    | some k =>
      have hne : k ≠ t := fun he => h t rfl (by rw [he])
      simp only [putO]
      cases Nat.blt t n <;> cases Nat.blt k n <;> simp only [cond_true, cond_false]
      exact put_comm 12 s t k v u hne
theorem swapD (hx : ∀ k, C.ext k = none) {x y : It} {st1 st2 : Tr × Hp} {fy fx : Fp} (hap : Oper.apart ops.toArray y.o x.o = true) (hy : stepD C call n ops base y (s, H) = some (st1, fy)) (hxx : stepD C call n ops base x st1 = some (st2, fx)) (hok : (okP y.o x.o || okF fy fx) = true)
    (hny : base + y.nid < H.length) (hnx : base + x.nid < H.length) : ∃ st1', stepD C call n ops base x (s, H) = some (st1', fx) ∧ stepD C call n ops base y st1' = some (st2, fy) := by
  obtain ⟨a1, a2, a3⟩ := Oper.apart_spec hap
  rw [stepD_eq] at hy
  obtain ⟨⟨v, H1⟩, e1, e2⟩ := Option.map_eq_some_iff.1 hy
  simp only [Prod.mk.injEq] at e2; obtain ⟨rfl, rfl⟩ := e2
  rw [stepD_eq] at hxx
  obtain ⟨⟨u, H2⟩, e3, e4⟩ := Option.map_eq_some_iff.1 hxx
  simp only [Prod.mk.injEq] at e4; obtain ⟨rfl, rfl⟩ := e4
  have p1 := fun H => act_put (C := C) (call := call) (n := n) (ops := ops) (base := base) (s := s) (H := H) (x := x) (d := y.o.dst) (v := v) a1
  rw [(p1 _).1] at e3
  rw [(p1 _).2] at hok
  obtain ⟨H1', b1, b2, b3, b4⟩ : ∃ H1', actD C call ops base x s H = some (u, H1') ∧ actD C call ops base y s H1' = some (v, H2) ∧ ftD C ops base x s H = ftD C ops base x s H1 ∧ ftD C ops base y s H1' = ftD C ops base y s H := by
    rcases Bool.or_eq_true _ _ ▸ hok with hok | hok
    · exact swapLk e1 e3 hok
    · exact swapH hx e1 e3 hok hny hnx
  have p2 := fun H => act_put (C := C) (call := call) (n := n) (ops := ops) (base := base) (s := s) (H := H) (x := y) (d := x.o.dst) (v := u) a3
  refine ⟨(putO n s x.o.dst u, H1'), ?_, ?_⟩
  · rw [stepD_eq, b1, Option.map_some, (p1 _).2, b3]
  · rw [stepD_eq, (p2 _).1, b2, Option.map_some, (p2 _).2, b4]
    simp only
    rw [putO_comm a2]
end
end Go.Proofs.Ytkcafackfihmiaa
