/- The clean machine: two operations of a drawn region swapped. No condition. -/
import Derived.Test.YtelblamgfbkhbaaZS
namespace Go.Proofs.Ytelblamgfbkhbaa
set_option linter.unusedSimpArgs false
set_option linter.unusedVariables false
open Go.RowKit
section
variable {C : Cfg} {H H' H1 H2 : Hp} {nid n base : Nat} {α β : Type} {call : Bool → Nat → List AV → Hp → Outs (AV × Hp)} {ops : List Oper} {s : Tr}
theorem fm_congr {f g : Operand → List Nat} : ∀ {l : List Operand}, (∀ x ∈ l, f x = g x) → l.flatMap f = l.flatMap g
  | [], _ => rfl
  | x :: l, h => by rw [List.flatMap_cons, List.flatMap_cons, h x (by simp), fm_congr fun y hy => h y (List.mem_cons_of_mem _ hy)]
theorem pairs_congr {ρ ρ' : Operand → AV} {ps : List (Nat × Operand)} (h : ∀ p ∈ ps, ρ p.2 = ρ' p.2) : (ps.map fun p => (p.1, ρ p.2)) = ps.map fun p => (p.1, ρ' p.2) := List.map_congr_left fun p hp => by rw [h p hp]
theorem ev_congr {ρ ρ' : Operand → AV} {op : Op} (h : ∀ x ∈ op.operands, ρ x = ρ' x) : evOp C call nid ρ H op = evOp C call nid ρ' H op ∧ foot C nid ρ H op = foot C nid ρ' H op := by
  have hd : op.operands.toList.flatMap (fun x => ref1 (ρ x)) = op.operands.toList.flatMap (fun x => ref1 (ρ' x)) := fm_congr fun x hx => by rw [h x (by simpa using hx)]
  · skip
    cases op with
    | call c =>
      obtain ⟨callee, args, ts⟩ := c
      have ha : args.toList.map ρ = args.toList.map ρ' := List.map_congr_left fun x hx => h x (by simp [Op.operands, Call.operands]; exact .inr (by simpa using hx))
      have hr : args.toList.flatMap (fun x => ref1 (ρ x)) = args.toList.flatMap (fun x => ref1 (ρ' x)) := fm_congr fun x hx => by rw [h x (by simp [Op.operands, Call.operands]; exact .inr (by simpa using hx))]
      cases callee with
      | value f =>
        have hf : ρ f = ρ' f := h f (by simp [Op.operands, Call.operands])
        constructor
        · unfold evOp; simp only [hf, ha]
        · simp only [foot, hf, ha]
      | invoke r m =>
        constructor
        · rfl
        · rfl
      | builtin b =>
        constructor
        · unfold evOp; simp only [evPure, ha]
        · cases b <;> first | rfl | (simp only [foot, hr])
    | build t ps =>
      have hp := pairs_congr (ρ := ρ) (ρ' := ρ') (ps := ps.toList) fun p hp => h p.2 (by simp [Op.operands]; exact ⟨p.1, by simpa using hp⟩)
      exact ⟨by unfold evOp; simp only [evPure, hp], rfl⟩
    | buildSlice t k ps =>
      have hp := pairs_congr (ρ := ρ) (ρ' := ρ') (ps := ps.toList) fun p hp => h p.2 (by simp [Op.operands]; exact ⟨p.1, by simpa using hp⟩)
      refine ⟨by unfold evOp; simp only [evPure, hp], ?_⟩
      have hz : (ps.toList.flatMap fun p => refC (ρ p.2)) = ps.toList.flatMap fun p => refC (ρ' p.2) := by
        have e : ∀ ρ : Operand → AV, (ps.toList.flatMap fun p => refC (ρ p.2)) = (ps.toList.map fun p => (p.1, ρ p.2)).flatMap fun q => refC q.2 := fun ρ => by rw [List.flatMap_map]
        rw [e ρ, e ρ', hp]
      simp only [foot, hz]
    | makeFunc fn first cs =>
      have hp : cs.toList.map ρ = cs.toList.map ρ' := List.map_congr_left fun x hx => h x (by simp [Op.operands]; exact .inr (by simpa using hx))
      refine ⟨?_, rfl⟩
      unfold evOp; cases fn <;> simp only [evPure, hp]
    | slice t x lo hi mx =>
      have hx := h x (by simp [Op.operands])
      have h1 : lo.map ρ = lo.map ρ' := by cases lo with | none => rfl | some y => simp only [Option.map_some, h y (by simp [Op.operands])]
      have h2 : hi.map ρ = hi.map ρ' := by cases hi with | none => rfl | some y => simp only [Option.map_some, h y (by simp [Op.operands])]
      have h3 : mx.map ρ = mx.map ρ' := by cases mx with | none => rfl | some y => simp only [Option.map_some, h y (by simp [Op.operands])]
      exact ⟨by unfold evOp; simp only [evPure, hx, h1, h2, h3], congrArg Fp.rd hd⟩
    | move x => exact ⟨by unfold evOp; simp only [evPure, h x (by simp [Op.operands])], rfl⟩
    | assign x => exact ⟨by unfold evOp; simp only [evPure, h x (by simp [Op.operands])], rfl⟩
    | pick c x y => exact ⟨by unfold evOp; simp only [evPure, h c (by simp [Op.operands]), h x (by simp [Op.operands]), h y (by simp [Op.operands])], rfl⟩
    | alloc e => exact ⟨rfl, rfl⟩
    | box e x => exact ⟨by unfold evOp; simp only [evPure, h x (by simp [Op.operands])], rfl⟩
    | load t x => exact ⟨by unfold evOp; simp only [evPure, h x (by simp [Op.operands])], congrArg Fp.rd hd⟩
    | store t x y => exact ⟨by unfold evOp; simp only [evPure, h x (by simp [Op.operands]), h y (by simp [Op.operands])], by simp only [foot, h x (by simp [Op.operands]), h y (by simp [Op.operands])]⟩
    | nilCheck x => exact ⟨by unfold evOp; simp only [evPure, h x (by simp [Op.operands])], congrArg Fp.rd hd⟩
    | binOp op t x y t' => exact ⟨by unfold evOp; simp only [evPure, h x (by simp [Op.operands]), h y (by simp [Op.operands])], congrArg Fp.rd hd⟩
    | unOp op t x => exact ⟨by unfold evOp; simp only [evPure, h x (by simp [Op.operands])], rfl⟩
    | convert _ _ x => exact ⟨by unfold evOp; simp only [evPure, h x (by simp [Op.operands])], rfl⟩
    | makeSlice t x y => exact ⟨by unfold evOp; simp only [evPure, h x (by simp [Op.operands]), h y (by simp [Op.operands])], rfl⟩
    | fieldAddr t x f => exact ⟨by unfold evOp; simp only [evPure, h x (by simp [Op.operands])], congrArg Fp.rd hd⟩
    | field t x f => exact ⟨by unfold evOp; simp only [evPure, h x (by simp [Op.operands])], rfl⟩
    | indexAddr t x y => exact ⟨by unfold evOp; simp only [evPure, h x (by simp [Op.operands]), h y (by simp [Op.operands])], congrArg Fp.rd hd⟩
    | index t x y => exact ⟨by unfold evOp; simp only [evPure, h x (by simp [Op.operands]), h y (by simp [Op.operands])], rfl⟩
    | extract x i => exact ⟨by unfold evOp; simp only [evPure, h x (by simp [Op.operands])], rfl⟩
    | makeMap t r => exact ⟨by unfold evOp; cases r <;> rfl, rfl⟩
    | lookup t x y ok => exact ⟨by unfold evOp; simp only [evPure, h x (by simp [Op.operands]), h y (by simp [Op.operands])], congrArg Fp.rd hd⟩
    | mapUpdate t x y z => exact ⟨by unfold evOp; simp only [evPure, h x (by simp [Op.operands]), h y (by simp [Op.operands]), h z (by simp [Op.operands])], by simp only [foot, h x (by simp [Op.operands]), h z (by simp [Op.operands])]⟩
    | insert t x y z => exact ⟨by unfold evOp; simp only [evPure, h x (by simp [Op.operands]), h y (by simp [Op.operands]), h z (by simp [Op.operands])], by simp only [foot, h x (by simp [Op.operands]), h z (by simp [Op.operands])]⟩
    | mapEntry t x y => exact ⟨by unfold evOp; simp only [evPure, h x (by simp [Op.operands]), h y (by simp [Op.operands])], by simp only [foot, h x (by simp [Op.operands])]⟩
    | entryStore t x y z => exact ⟨by unfold evOp; simp only [evPure, h x (by simp [Op.operands]), h y (by simp [Op.operands]), h z (by simp [Op.operands])], by simp only [foot, h x (by simp [Op.operands]), h z (by simp [Op.operands])]⟩
    | range t x => exact ⟨by unfold evOp; simp only [evPure, h x (by simp [Op.operands])], rfl⟩
    | next x b => exact ⟨by unfold evOp; cases b <;> simp only [evPure, h x (by simp [Op.operands])], rfl⟩
    | entry x => exact ⟨by unfold evOp; simp only [evPure, h x (by simp [Op.operands])], rfl⟩
    | _ => exact ⟨rfl, congrArg Fp.rd hd⟩
theorem foot_rd {ρ : Operand → AV} {op : Op} {R : List Nat} (h : foot C nid ρ H op = .rd R) (H2 : Hp) : foot C nid ρ H2 op = .rd R := by
  have hv := foot_val h
  cases op <;> first | exact h | skip
  rename_i c
  obtain ⟨callee, args, ts⟩ := c
  cases callee with
  | value f => simp [isVal] at hv
  | invoke _ _ => exact h
  | builtin b => cases b <;> exact h
/-! ### a step, as a function of own memory -/
def actD (C : Cfg) (call : Bool → Nat → List AV → Hp → Outs (AV × Hp)) (ops : List Oper) (base : Nat) (x : It) (s : Tr) (H : Hp) : Option (AV × Hp) :=
  match want ops s x.o.guard with
  | none => none
  | some false => some (.tup [], H)
  | some true => match evOne C call (base + x.nid) (val s) x.o.op H with
    | some r => bif okLen H r.2 (foot C (base + x.nid) (val s) H x.o.op) then some r else none
    | none => none
def ftD (C : Cfg) (ops : List Oper) (base : Nat) (x : It) (s : Tr) (H : Hp) : Fp :=
  match want ops s x.o.guard with
  | some true => foot C (base + x.nid) (val s) H x.o.op
  | _ => .rd []
theorem stepD_eq {x : It} : stepD C call n ops base x (s, H) = (actD C call ops base x s H).map fun r => ((putO n s x.o.dst r.1, r.2), ftD C ops base x s H) := by
  unfold stepD actD ftD evOne
  simp only
  cases want ops s x.o.guard with
  | none => rfl
  | some b => cases b with
    | false => rfl
    | true =>
      simp only
      rcases evOp C call (base + x.nid) (val s) H x.o.op with _ | _ | ⟨r, _ | ⟨_, _⟩⟩ <;> first | rfl | skip
      simp only
      cases okLen H r.2 (foot C (base + x.nid) (val s) H x.o.op) <;> rfl
theorem act_rd {x : It} {R : List Nat} (h : ftD C ops base x s H = .rd R) : RdAt R (actD C call ops base x s) H := by
  unfold ftD at h
  intro r H' hr
  unfold actD at hr ⊢
  cases hw : want ops s x.o.guard with
  | none => rw [hw] at hr; cases hr
  | some b => cases b with
    | false =>
      rw [hw] at hr; simp only [Option.some.injEq, Prod.mk.injEq] at hr; obtain ⟨rfl, rfl⟩ := hr
      exact ⟨rfl, fun H2 _ => rfl⟩
    | true =>
      rw [hw] at hr h; simp only at hr h ⊢
      split at hr
      · rename_i r0 h0
        rw [h] at hr
        simp only [okLen, cond_true, Option.some.injEq] at hr; subst hr
        obtain ⟨rfl, h2⟩ := op_rd (call := call) h _ _ h0
        refine ⟨rfl, fun H2 ha => ?_⟩
        have e := h2 H2 ha
        simp only at e
        rw [e]
        simp only [foot_rd h H2, okLen, cond_true]
      · cases hr
theorem act_wr (hx : ∀ k, C.ext k = none) {x : It} {Z W : List Nat} (hn : base + x.nid < H.length) (h : ftD C ops base x s H = .wr Z W) : LocAt (base + x.nid + 1) (Z ++ W) W (actD C call ops base x s) H := by
  unfold ftD at h
  cases hw : want ops s x.o.guard with
  | none => exact LocAt.none (by unfold actD; rw [hw])
  | some b => cases b with
    | false => rw [hw] at h; cases h
    | true =>
      rw [hw] at h; simp only at h
      have h0 := op_wr (call := call) (m := base + x.nid + 1) hx hn (Nat.lt_succ_self _) h
      intro r H' hr
      unfold actD at hr ⊢
      rw [hw] at hr; simp only at hr ⊢
      rw [h] at hr
      split at hr
      · rename_i r0 he
        simp only [okLen, cond_true, Option.some.injEq] at hr; subst hr
        obtain ⟨k1, k2, k3, k4⟩ := h0 _ _ he
        refine ⟨k1, k2, k3, fun H2 hl ha => ?_⟩
        obtain ⟨H2', m1, m2, m3⟩ := k4 H2 hl ha
        refine ⟨H2', ?_, m2, m3⟩
        have hf2 : foot C (base + x.nid) (val s) H2 x.o.op = .wr Z W := by
          rw [foot_eq hx (H := H) (by rw [h]; intro e; cases e) (fun _ _ => by rw [h]; intro e; cases e) (fun Z' W' e => by rw [h] at e; cases e; exact ha), h]
        simp only at m1
        rw [m1]; simp only [hw, hf2, okLen, cond_true]
      · cases hr
theorem ft_rd {x : It} {R : List Nat} (h : ftD C ops base x s H = .rd R) (H2 : Hp) : ftD C ops base x s H2 = .rd R := by
  unfold ftD at h ⊢
  cases hw : want ops s x.o.guard with
  | none => rw [hw] at h; exact h
  | some b => cases b with
    | false => rw [hw] at h; exact h
    | true => rw [hw] at h; exact foot_rd h H2
theorem ft_wr (hx : ∀ k, C.ext k = none) {x : It} {Z W : List Nat} (h : ftD C ops base x s H = .wr Z W) (ha : ∀ o, o ∈ Z ++ W → hget H2 o = hget H o) : ftD C ops base x s H2 = .wr Z W := by
  unfold ftD at h ⊢
  cases hw : want ops s x.o.guard with
  | none => rw [hw] at h; cases h
  | some b => cases b with
    | false => rw [hw] at h; cases h
    | true =>
      rw [hw] at h; simp only at h ⊢
      rw [foot_eq hx (H := H) (by rw [h]; intro e; cases e) (fun _ _ => by rw [h]; intro e; cases e) (fun Z' W' e => by rw [h] at e; cases e; exact ha), h]
theorem act_sh (hx : ∀ k, C.ext k = none) {x : It} {F m : Nat} (h : ftD C ops base x s H = .sh F m) : ShAt F m (actD C call ops base x s) H ∧ ∀ H2 : Hp, H2.length = m → (∀ o, bit F o = true → hget H2 o = hget H o) → ftD C ops base x s H2 = .sh F m := by
  unfold ftD at h
  cases hw : want ops s x.o.guard with
  | none => rw [hw] at h; cases h
  | some b => cases b with
    | false => rw [hw] at h; cases h
    | true =>
      rw [hw] at h; simp only at h
      obtain ⟨h0, hf⟩ := op_sh (call := call) hx h
      refine ⟨fun r H' hr => ?_, fun H2 hl ha => by unfold ftD; rw [hw]; exact hf H2 hl ha⟩
      unfold actD at hr ⊢
      rw [hw] at hr; simp only at hr
      rw [h] at hr
      split at hr
      · rename_i r0 he
        cases hb : okLen H r0.2 (.sh F m) with
        | false => rw [hb] at hr; cases hr
        | true =>
          rw [hb] at hr; simp only [cond_true, Option.some.injEq] at hr; subst hr
          obtain ⟨k1, k2, k3, k4⟩ := h0 _ _ he
          refine ⟨k1, k2, k3, fun H2 hl ha => ?_⟩
          obtain ⟨H2', m1, m2, m3⟩ := k4 H2 hl ha
          refine ⟨H2', ?_, m2, m3⟩
          simp only at m1
          have hb2 : okLen H2 H2' (.sh F m) = true := by simp only [okLen, Nat.ble_eq]; omega
          simp only [hw, m1, hf H2 hl ha, hb2, cond_true]
      · cases hr
theorem disj_ok {a b : List Nat} (h : disj a b = true) {o : Nat} (ha : o ∈ a) (hb : o ∈ b) : False := by
  unfold disj at h
  rw [List.all_eq_true] at h
  have := h o ha
  rw [List.all_eq_true] at this
  have := this o hb
  simp at this
theorem outF_ok {F m : Nat} {l : List Nat} (h : outF F m l = true) {o : Nat} (ho : o ∈ l) : bit F o = false ∧ o < m := by
  unfold outF at h
  have := List.all_eq_true.1 h o ho
  simpa using this
/-- Two steps on own memory whose footprints agree may be swapped. -/
theorem swapH (hx : ∀ k, C.ext k = none) {x y : It} {v u : AV} (hy : actD C call ops base y s H = some (v, H1)) (hxx : actD C call ops base x s H1 = some (u, H2)) (hok : okF (ftD C ops base y s H) (ftD C ops base x s H1) = true)
    (hny : base + y.nid < H.length) (hnx : base + x.nid < H.length) :
    ∃ H1', actD C call ops base x s H = some (u, H1') ∧ actD C call ops base y s H1' = some (v, H2) ∧ ftD C ops base x s H = ftD C ops base x s H1 ∧ ftD C ops base y s H1' = ftD C ops base y s H := by
  cases fy : ftD C ops base y s H with
  | rd R =>
    obtain ⟨rfl, ry⟩ := act_rd fy _ _ hy
    cases fx : ftD C ops base x s H1 with
    | rd R' =>
      obtain ⟨rfl, _⟩ := act_rd fx _ _ hxx
      exact ⟨_, hxx, hy, rfl, fy⟩
    | wr Z W =>
      rw [fy, fx] at hok
      obtain ⟨k1, k2, k3, _⟩ := act_wr hx hnx fx _ _ hxx
      exact ⟨H2, hxx, ry H2 fun o ho => k3 o fun hw => disj_ok hok ho hw, rfl, ft_rd fy H2⟩
    | sh F m =>
      rw [fy, fx] at hok
      obtain ⟨k0, k1, k2, _⟩ := (act_sh hx fx).1 _ _ hxx
      exact ⟨H2, hxx, ry H2 fun o ho => by rw [k2 o (outF_ok hok ho).2 (outF_ok hok ho).1], rfl, ft_rd fy H2⟩
    | all =>
      rw [fy, fx] at hok
      cases R with
      | nil => exact ⟨H2, hxx, ry H2 (fun o ho => by cases ho), rfl, ft_rd fy H2⟩
      | cons _ _ => cases hok
  | wr Z W =>
    obtain ⟨k1, k2, k3, k4⟩ := act_wr hx hny fy _ _ hy
    cases fx : ftD C ops base x s H1 with
    | rd R =>
      rw [fy, fx] at hok
      obtain ⟨rfl, rx⟩ := act_rd fx _ _ hxx
      exact ⟨H, rx H fun o ho => (k3 o fun hw => disj_ok hok ho hw).symm, hy, ft_rd fx H, fy⟩
    | wr Z' W' =>
      rw [fy, fx] at hok
      simp only [okF] at hok
      obtain ⟨l1, l2, l3, l4⟩ := act_wr hx (by rw [k1]; exact hnx) fx _ _ hxx
      obtain ⟨H1', m1, m2, m3⟩ := l4 H hnx fun o ho => (k2 o fun hw => disj_ok hok hw ho).symm
      obtain ⟨H2', n1, n2, n3⟩ := k4 H1' (by rw [m2]; exact hny) fun o ho => by rw [m3 o, if_neg fun hw => disj_ok hok ho hw]
      have e : H2' = H2 := by
        refine hp_ext (by rw [n2, m2, l1, k1]) fun o => ?_
        rw [n3 o]
        by_cases e1 : o ∈ Z ++ W
        · rw [if_pos e1, l2 o fun hw => disj_ok hok e1 hw]
        · rw [if_neg e1, m3 o]
          by_cases e2 : o ∈ Z' ++ W'
          · rw [if_pos e2]
          · rw [if_neg e2, l2 o e2, k2 o e1]
      subst e
      refine ⟨H1', m1, n1, ?_, ?_⟩
      · exact ft_wr hx fx fun o ho => (k2 o fun hw => disj_ok hok hw ho).symm
      · exact ft_wr hx fy fun o ho => by rw [m3 o, if_neg fun hw => disj_ok hok ho hw]
    | sh F m =>
      rw [fy, fx] at hok
      simp only [okF] at hok
      obtain ⟨l0, l1, l2, l3⟩ := (act_sh hx fx).1 _ _ hxx
      have hno : ∀ o, bit F o = true → o ∉ Z ++ W := fun o ho hc => by rw [(outF_ok hok hc).1] at ho; cases ho
      obtain ⟨H1', m1, m2, m3⟩ := l3 H (by rw [← k1]; exact l0) fun o ho => (k2 o (hno o ho)).symm
      have hag : ∀ o, o ∈ Z ++ W → hget H1' o = hget H o := fun o ho => by rw [m3 o, if_pos ⟨(outF_ok hok ho).2, (outF_ok hok ho).1⟩]
      obtain ⟨H2', n1, n2, n3⟩ := k4 H1' (by rw [m2]; omega) hag
      have e : H2' = H2 := by
        refine hp_ext (by rw [n2, m2]) fun o => ?_
        rw [n3 o]
        by_cases e1 : o ∈ Z ++ W
        · rw [if_pos e1, l2 o (outF_ok hok e1).2 (outF_ok hok e1).1]
        · rw [if_neg e1, m3 o]
          by_cases e2 : o < m ∧ bit F o = false
          · rw [if_pos e2, l2 o e2.1 e2.2, k2 o e1]
          · rw [if_neg e2]
      subst e
      exact ⟨H1', m1, n1, by rw [(act_sh (call := call) hx fx).2 H (by rw [← k1]; exact l0) fun o ho => (k2 o (hno o ho)).symm], ft_wr hx fy hag⟩
    | all => rw [fy, fx] at hok; cases hok
  | sh F m =>
    obtain ⟨k0, k1, k2, k3⟩ := (act_sh hx fy).1 _ _ hy
    cases fx : ftD C ops base x s H1 with
    | rd R =>
      rw [fy, fx] at hok
      obtain ⟨rfl, rx⟩ := act_rd fx _ _ hxx
      exact ⟨H, rx H fun o ho => by rw [k2 o (outF_ok hok ho).2 (outF_ok hok ho).1], hy, ft_rd fx H, fy⟩
    | wr Z W =>
      rw [fy, fx] at hok
      simp only [okF] at hok
      obtain ⟨l1, l2, l3, l4⟩ := act_wr hx (by omega) fx _ _ hxx
      have hag : ∀ o, o ∈ Z ++ W → hget H o = hget H1 o := fun o ho => (k2 o (outF_ok hok ho).2 (outF_ok hok ho).1).symm
      obtain ⟨H1', m1, m2, m3⟩ := l4 H hnx hag
      have hno : ∀ o, bit F o = true → o ∉ Z ++ W := fun o ho hc => by rw [(outF_ok hok hc).1] at ho; cases ho
      obtain ⟨H2', n1, n2, n3⟩ := k3 H1' (by rw [m2]; exact k0) fun o ho => by rw [m3 o, if_neg (hno o ho)]
      have e : H2' = H2 := by
        refine hp_ext (by rw [n2, l1]) fun o => ?_
        rw [n3 o]
        by_cases e2 : o < m ∧ bit F o = false
        · rw [if_pos e2, m3 o]
          by_cases e1 : o ∈ Z ++ W
          · rw [if_pos e1]
          · rw [if_neg e1, l2 o e1, k2 o e2.1 e2.2]
        · rw [if_neg e2, l2 o fun hc => e2 ⟨(outF_ok hok hc).2, (outF_ok hok hc).1⟩]
      subst e
      exact ⟨H1', m1, n1, ft_wr hx fx hag, by rw [(act_sh (call := call) hx fy).2 H1' (by rw [m2]; exact k0) fun o ho => by rw [m3 o, if_neg (hno o ho)]]⟩
    | sh _ _ => rw [fy, fx] at hok; cases hok
    | all => rw [fy, fx] at hok; cases hok
  | all =>
    cases fx : ftD C ops base x s H1 with
    | rd R =>
      rw [fy, fx] at hok
      cases R with
      | nil =>
        obtain ⟨rfl, rx⟩ := act_rd fx _ _ hxx
        exact ⟨H, rx H (fun o ho => by cases ho), hy, ft_rd fx H, fy⟩
      | cons _ _ => cases hok
    | sh _ _ => rw [fy, fx] at hok; cases hok
    | wr _ _ => rw [fy, fx] at hok; cases hok
    | all => rw [fy, fx] at hok; cases hok
/-! ### a look-up and the making of an entry -/
theorem eqF_some {T : Nat → Option TI} {rec : Nat → List PV → Bool} {eq : Nat → List PV → List PV → Option Bool} (ih : ∀ t x y, rec t x = true → rec t y = true → ∃ b, eq t x y = some b) : ∀ (fs : List (Nat × Nat)) (x y : List PV), keyF T rec fs x = true → keyF T rec fs y = true → ∃ b, eqF T eq fs x y = some b
  | [], x, y, _, _ => ⟨true, rfl⟩
  | (t, off) :: fs, x, y, hx, hy => by
    simp only [keyF, Bool.and_eq_true] at hx hy
    obtain ⟨hx, hx2⟩ := hx
    obtain ⟨hy, hy2⟩ := hy
    simp only [eqF]
    cases hti : T t with
    | none => simp [hti] at hx
    | some ti =>
      simp only [hti, Bool.and_eq_true] at hx hy
      obtain ⟨b, hb⟩ := ih t _ _ hx.2 hy.2
      simp only [hx.1.1, hy.1.1, Bool.and_self, cond_true, hb]
      cases b with
      | true => exact eqF_some ih fs x y hx2 hy2
      | false => exact ⟨false, rfl⟩
theorem eqP_some {T : Nat → Option TI} : ∀ (d t : Nat) (x y : List PV), keyP T d t x = true → keyP T d t y = true → ∃ b, eqP T d t x y = some b
  | 0, t, x, y, h, _ => by simp [keyP] at h
  | d + 1, t, x, y, hx, hy => by
    simp only [keyP] at hx hy
    simp only [eqP]
    cases hti : T t with
    | none => simp [hti] at hx
    | some ti =>
      simp only [hti] at hx hy ⊢
      split at hx
      · rename_i k k2 n hk
        rw [hk] at hy ⊢
        split at hy
        · rename_i k' k2' n' hk'
          simp only [TK.int.injEq] at hk'
          subst hk'
          cases kindEq_eq hx; cases kindEq_eq hy
          simp only [kindEq_refl, cond_true]
          exact ⟨_, rfl⟩
        · rename_i h; cases h
        · rename_i h; cases h
        · rename_i h; cases h
        · cases hy
      · rename_i b hk
        rw [hk] at hy ⊢
        split at hy
        · rename_i h; cases h
        · exact ⟨_, rfl⟩
        · rename_i h; cases h
        · rename_i h; cases h
        · cases hy
      · rename_i b hk
        rw [hk] at hy ⊢
        split at hy
        · rename_i h; cases h
        · rename_i h; cases h
        · exact ⟨_, rfl⟩
        · rename_i h; cases h
        · cases hy
      · rename_i fs hk
        rw [hk] at hy ⊢
        replace hy : (y.all simp1 && keyF T (keyP T d) fs y) = true := hy
        rw [Bool.and_eq_true] at hx hy
        exact eqF_some (fun t x y h1 h2 => eqP_some d t x y h1 h2) fs _ _ hx.2 hy.2
      · cases hx
theorem eqV_some {T : Nat → Option TI} {t : Nat} {p q : PV} (hp : keyV T t p = true) (hq : keyV T t q = true) : ∃ b, eqV T t p q = some b := by
  unfold keyV at hp hq
  unfold eqV
  cases hti : T t with
  | none => simp [hti] at hp
  | some ti =>
    simp only [hti] at hp hq ⊢
    cases hr : ti.k.row with
    | true =>
      simp only [hr, cond_true] at hp hq ⊢
      split at hp
      · split at hq
        · exact eqP_some 20 t _ _ hp hq
        · cases hq
      · cases hp
    | false =>
      simp only [hr, cond_false, Bool.and_eq_true] at hp hq ⊢
      simp only [hp.1, hq.1, Bool.and_self, cond_true]
      exact eqP_some 20 t _ _ hp.2 hq.2
theorem mfind_app {T : Nat → Option TI} {kt : Nat} {k k' z : PV} : ∀ (kvs : List (PV × PV)) (i : Nat), mfind T kt k (kvs ++ [(k', z)]) i = match mfind T kt k kvs i with
    | some none => (match eqV T kt k k' with | some true => some (some (i + kvs.length, z)) | some false => some none | none => none)
    | r => r
  | [], i => by
    simp only [List.nil_append, mfind, List.length_nil, Nat.add_zero]
    cases eqV T kt k k' with
    | none => rfl
    | some b => cases b <;> rfl
  | (q, v) :: r, i => by
    simp only [List.cons_append, mfind]
    cases eqV T kt k q with
    | none => rfl
    | some b => cases b with
      | true => rfl
      | false =>
        simp only [mfind_app r (i + 1), List.length_cons]
        rw [show i + 1 + r.length = i + (r.length + 1) from by omega]
theorem lk_eq {t : Nat} {m k x q : AV} {r : AV × Hp} (h : evMapEntry C H t m k = some r) : evLookup C r.2 t x q false = evLookup C H t x q false := by
  unfold evMapEntry at h
  split at h
  · rename_i kt e o kp hmt
    split at h
    · rename_i kvs ho
      split at h
      · rename_i z i kvs' hms
        simp only [Option.some.injEq] at h; subst h
        unfold evLookup
        simp only [hmt]
        have hlt := hget_lt ho
        cases q with
        | pl qp =>
          by_cases hxo : x = .mp o
          · subst hxo
            simp only [mapOf, hget_set hlt, if_true, ho]
            unfold ment at hms
            cases hkk : keyV C.ty kt kp with
            | false => simp [hkk] at hms
            | true =>
              simp only [hkk, cond_true] at hms
              split at hms
              · split at hms
                · rename_i kq _ _
                  cases hq : eqC kp kq with
                  | false => simp [hq] at hms
                  | true => simp only [hq, cond_true, Option.some.injEq, Prod.mk.injEq] at hms; rw [hms.2.2]
                · cases hms
              · split at hms
                · rename_i z0 hz
                  simp only [Option.some.injEq, Prod.mk.injEq] at hms; obtain ⟨rfl, _, rfl⟩ := hms
                  cases hqk : keyV C.ty kt qp with
                  | false => rfl
                  | true =>
                    simp only [cond_true, mfind_app]
                    obtain ⟨b, hb⟩ := eqV_some hqk hkk
                    cases mfind C.ty kt qp kvs 0 with
                    | none => rfl
                    | some p => cases p with
                      | some _ => rfl
                      | none => cases b <;> simp only [hb, hz, cond_false]
                · cases hms
              · cases hms
          · have : mapOf (hset H o (some (.map kvs'))) x = mapOf H x := by
              cases x with
              | mp o' =>
                have : o' ≠ o := fun e => hxo (by rw [e])
                simp only [mapOf, hget_set hlt, if_neg this]
              | pl v => cases v <;> rfl
              | _ => rfl
            rw [this]
        | _ => rfl
      · cases h
    · cases h
  · cases h
theorem swapLk {x y : It} {v u : AV} (hy : actD C call ops base y s H = some (v, H1)) (hxx : actD C call ops base x s H1 = some (u, H2)) (hok : okP y.o x.o = true) :
    ∃ H1', actD C call ops base x s H = some (u, H1') ∧ actD C call ops base y s H1' = some (v, H2) ∧ ftD C ops base x s H = ftD C ops base x s H1 ∧ ftD C ops base y s H1' = ftD C ops base y s H := by
  have lk : ∀ {z : It} {t : Nat} {a b : Operand} (H : Hp), z.o.guard = none → z.o.op = .lookup t a b false → actD C call ops base z s H = (evLookup C H t (val s a) (val s b) false).map (fun v => (v, H)) ∧ ftD C ops base z s H = .rd ((Op.lookup t a b false).operands.toList.flatMap fun x => ref1 (val s x)) := fun {z t a b} H hg ho => by
    unfold actD ftD
    rw [hg, ho]
    simp only [want, foot, evOne_pure (C := C) (call := call) (op := .lookup t a b false) rfl, evPure]
    cases evLookup C H t (val s a) (val s b) false with
    | none => exact ⟨rfl, trivial⟩
    | some v => exact ⟨rfl, trivial⟩
  have me : ∀ {z : It} {t : Nat} {a b : Operand} (H : Hp), z.o.guard = none → z.o.op = .mapEntry t a b → actD C call ops base z s H = evMapEntry C H t (val s a) (val s b) ∧ ftD C ops base z s H = .wr [] (ref1 (val s a)) := fun {z t a b} H hg ho => by
    unfold actD ftD
    rw [hg, ho]
    simp only [want, foot, evOne_pure (C := C) (call := call) (op := .mapEntry t a b) rfl, evPure]
    cases evMapEntry C H t (val s a) (val s b) with
    | none => exact ⟨rfl, trivial⟩
    | some v => exact ⟨rfl, trivial⟩
  unfold okP at hok
  split at hok
  · rename_i gy gx
    split at hok
    · rename_i t a b t' a' b' oy ox
      rcases beq_cases t t' with ⟨hb, e⟩ | ⟨hb, e⟩
      · subst e
        rw [(lk H gy oy).1] at hy
        obtain ⟨v', h1, h2⟩ := Option.map_eq_some_iff.1 hy
        simp only [Prod.mk.injEq] at h2; obtain ⟨rfl, rfl⟩ := h2
        refine ⟨H2, hxx, ?_, rfl, ?_⟩
        · rw [(me H gx ox).1] at hxx
          rw [(lk H2 gy oy).1, lk_eq hxx, h1]; rfl
        · rw [(lk H2 gy oy).2, (lk H gy oy).2]
      · rw [hb] at hok; cases hok
    · rename_i t' a' b' t a b oy ox
      rcases beq_cases t t' with ⟨hb, e⟩ | ⟨hb, e⟩
      · subst e
        rw [(lk H1 gx ox).1] at hxx
        obtain ⟨v', h1, h2⟩ := Option.map_eq_some_iff.1 hxx
        simp only [Prod.mk.injEq] at h2; obtain ⟨rfl, rfl⟩ := h2
        have hy' := hy
        rw [(me H gy oy).1] at hy'
        refine ⟨H, ?_, hy, ?_, rfl⟩
        · rw [(lk H gx ox).1, ← lk_eq hy', h1]; rfl
        · rw [(lk H gx ox).2, (lk H1 gx ox).2]
      · rw [hb] at hok; cases hok
    · cases hok
  · cases hok
/-! ### slots -/
theorem val_put {d : Option Nat} {v : AV} {x : Operand} (h : ∀ t, d = some t → x ≠ .tmp t) : val (putO n s d v) x = val s x := by
  cases d with
  | none => rfl
  | some t =>
    cases x with
    | tmp k =>
      have hne : k ≠ t := fun e => h t rfl (by rw [e])
      simp only [val, putO]
      cases Nat.blt t n with
      | false => rfl
      | true => exact get_put_ne 12 s t k v hne
    | _ => rfl
theorem dstOf_eq {j : Nat} : (ops.toArray[j]?).bind (·.dst) = dstOf ops j := by
  unfold dstOf; rw [List.getElem?_toArray]; cases ops[j]? <;> rfl
theorem want_put {d : Option Nat} {v : AV} {o : Oper} (h : ∀ t, d = some t → t ∉ o.looksAt ops.toArray) : want ops (putO n s d v) o.guard = want ops s o.guard := by
  cases d with
  | none => rfl
  | some t =>
    unfold want
    cases hg : o.guard with
    | none => rfl
    | some q =>
      obtain ⟨j, b⟩ := q
      simp only
      cases hd : dstOf ops j with
      | none => rfl
      | some k =>
        have hne : k ≠ t := fun e => h t rfl (by
          unfold Oper.looksAt
          simp only [hg]
          rw [dstOf_eq, hd, e]; simp)
        simp only [putO]
        cases Nat.blt t n with
        | false => rfl
        | true => simp only [cond_true, get_put_ne 12 s t k v hne]
theorem act_put {x : It} {d : Option Nat} {v : AV} (h : ∀ t, d = some t → t ∉ x.o.looksAt ops.toArray) : actD C call ops base x (putO n s d v) H = actD C call ops base x s H ∧ ftD C ops base x (putO n s d v) H = ftD C ops base x s H := by
  have hv : ∀ y ∈ x.o.op.operands, val (putO n s d v) y = val s y := fun y hy => val_put fun t ht hyt => h t ht (by
    subst hyt
    exact List.mem_append_left _ (List.mem_filterMap.2 ⟨.tmp t, by simpa using hy, rfl⟩))
  have e := ev_congr (C := C) (call := call) (nid := base + x.nid) (H := H) hv
  unfold actD ftD evOne
  rw [want_put h, e.1, e.2]
  exact ⟨rfl, rfl⟩
theorem putO_comm {d e : Option Nat} {v u : AV} (h : ∀ t, d = some t → e ≠ some t) : putO n (putO n s d v) e u = putO n (putO n s e u) d v := by
  cases d with
  | none => rfl
  | some t => cases e with
    | none => rfl
    | some k =>
      have hne : k ≠ t := fun he => h t rfl (by rw [he])
      simp only [putO]
      cases Nat.blt t n <;> cases Nat.blt k n <;> simp only [cond_true, cond_false]
      exact put_comm 12 s t k v u hne
/-- Two steps of a region may be swapped. -/
theorem swapD (hx : ∀ k, C.ext k = none) {x y : It} {st1 st2 : Tr × Hp} {fy fx : Fp} (hap : Oper.apart ops.toArray y.o x.o = true) (hy : stepD C call n ops base y (s, H) = some (st1, fy)) (hxx : stepD C call n ops base x st1 = some (st2, fx)) (hok : (okP y.o x.o || okF fy fx) = true)
    (hny : base + y.nid < H.length) (hnx : base + x.nid < H.length) : ∃ st1', stepD C call n ops base x (s, H) = some (st1', fx) ∧ stepD C call n ops base y st1' = some (st2, fy) := by
  obtain ⟨a1, a2, a3⟩ := Oper.apart_spec hap
  rw [stepD_eq] at hy
  obtain ⟨⟨v, H1⟩, e1, e2⟩ := Option.map_eq_some_iff.1 hy
  simp only [Prod.mk.injEq] at e2; obtain ⟨rfl, rfl⟩ := e2
  rw [stepD_eq] at hxx
  obtain ⟨⟨u, H2⟩, e3, e4⟩ := Option.map_eq_some_iff.1 hxx
  simp only [Prod.mk.injEq] at e4; obtain ⟨rfl, rfl⟩ := e4
  have p1 := fun H => act_put (C := C) (call := call) (n := n) (ops := ops) (base := base) (s := s) (H := H) (x := x) (d := y.o.dst) (v := v) a1
  rw [(p1 _).1] at e3
  rw [(p1 _).2] at hok
  obtain ⟨H1', b1, b2, b3, b4⟩ : ∃ H1', actD C call ops base x s H = some (u, H1') ∧ actD C call ops base y s H1' = some (v, H2) ∧ ftD C ops base x s H = ftD C ops base x s H1 ∧ ftD C ops base y s H1' = ftD C ops base y s H := by
    rcases Bool.or_eq_true _ _ ▸ hok with hok | hok
    · exact swapLk e1 e3 hok
    · exact swapH hx e1 e3 hok hny hnx
  have p2 := fun H => act_put (C := C) (call := call) (n := n) (ops := ops) (base := base) (s := s) (H := H) (x := y) (d := x.o.dst) (v := u) a3
  refine ⟨(putO n s x.o.dst u, H1'), ?_, ?_⟩
  · rw [stepD_eq, b1, Option.map_some, (p1 _).2, b3]
  · rw [stepD_eq, (p2 _).1, b2, Option.map_some, (p2 _).2, b4]
    simp only
    rw [putO_comm a2]
end
end Go.Proofs.Ytelblamgfbkhbaa
