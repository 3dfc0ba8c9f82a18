/- The clean machine: one operation, looked at by its footprint; two operations swapped. No condition. -/
import Derived.Test.YtelblamgfbkhbaaZR
namespace Go.Proofs.Ytelblamgfbkhbaa
set_option linter.unusedSimpArgs false
set_option linter.unusedVariables false
open Go.RowKit
section
variable {C : Cfg} {H H' H2 : Hp} {nid m : Nat} {α β : Type} {call : Bool → Nat → List AV → Hp → Outs (AV × Hp)}
theorem loc_read {γ : Type} {F W : List Nat} {r : Hp → γ} {g : γ → Hp → Option (α × Hp)} (hr : ∀ H2 : Hp, (∀ o, o ∈ F → hget H2 o = hget H o) → r H2 = r H) (h : LocAt m F W (g (r H)) H) : LocAt m F W (fun H => g (r H) H) H := by
  intro a H' h'
  obtain ⟨h1, h2, h3, h4⟩ := h a H' h'
  refine ⟨h1, h2, h3, fun H2 hl ha => ?_⟩
  obtain ⟨H2', k1, k2, k3⟩ := h4 H2 hl ha
  exact ⟨H2', by simp only [hr H2 ha]; exact k1, k2, k3⟩
theorem loc_setput {F W : List Nat} {r : α} {k : Nat} {y : Option Ob} {x : Ob} (hk : ∃ x, hget H k = some x) (hn : nid < H.length) (hm : nid < m) (hkF : k ∈ F) (hkW : k ∈ W) (hnF : nid ∈ F) (hnW : nid ∈ W) : LocAt m F W (fun H => some (r, hput (hset H k y) nid x)) H :=
  (loc_set (r := ()) hk hkF (.inl hkW)).bind (g := fun _ H => some (r, hput H nid x)) fun _ H1 h1 => by
    simp only [Option.some.injEq, Prod.mk.injEq] at h1
    obtain ⟨_, rfl⟩ := h1
    exact loc_put (by rw [length_set]; exact hn) hm hnF hnW
theorem agu_of {R F : List Nat} (hs : ∀ o, o ∈ R → o ∈ F) (h : ∀ o, o ∈ F → hget H2 o = hget H o) : Agu R H H2 := fun o ho => by rw [h o (hs o ho)]
theorem src_eq {y : AV} (h : Agu (ref1 y) H H2) : srcElems H2 y = srcElems H y := by
  unfold srcElems
  split
  · rfl
  · rw [l_elems h]
def appB (C : Cfg) (nid t : Nat) (x : AV) (src : Option (List (List PV))) (H : Hp) : Option (AV × Hp) :=
  match C.ty t, src with
      | some ti, some news => match ti.k with
        | .sl e => match C.ty e with
          | none => none
          | some te => bif !(news.all fun c => Nat.beq c.length te.size) || Nat.beq te.size 0 then none else
            match news with
            | [] => match x with | .pl (.sl f sz es) => some (AV.pl (.sl f sz es), H) | .own o => (match hget H o with | some (.row _ _ _) => some (.own o, H) | _ => none) | .vw o a n => (match hget H o with | some (.row _ _ _) => some (.vw o a n, H) | _ => none) | _ => none
            | _ :: _ =>
              match x with
              | .pl (.sl .nil _ []) => bif fitsB news.length te then some (.own nid, hput H nid (.row false te.size news)) else none
              | .pl (.sl .zc _ []) => bif fitsB news.length te then some (.own nid, hput H nid (.row false te.size news)) else none
              | .own o => match hget H o with
                | some (.row false sz es) => bif fitsB (es.length + news.length) te && Nat.beq sz te.size then some (.own nid, hput (hset H o none) nid (.row false sz (es ++ news))) else none
                | _ => none
              | .vw o off len => match hget H o with
                | some (.row false sz es) =>
                  bif !(fitsB (len + news.length) te && Nat.beq sz te.size) then none
                  else bif Nat.ble (off + len + news.length) es.length then some (.vw o off (len + news.length), hset H o (some (.row false sz (es.take (off + len) ++ news ++ es.drop (off + len + news.length)))))
                  else bif Nat.beq (off + len) es.length then some (.own nid, hput (hset H o none) nid (.row false sz (es.drop off ++ news)))
                  else none
                | _ => none
              | _ => none
        | _ => none
      | _, _ => none
theorem appB_eq {t t1 : Nat} {x y : AV} : evAppend C nid H t t1 x y = appB C nid t x (bif srcTy C t1 y then srcElems H y else none) H := rfl
theorem loc_append {F : List Nat} {t t1 : Nat} {x y : AV} (hn : nid < H.length) (hm : nid < m) (hnF : nid ∈ F) (hx : ∀ o, o ∈ ref1 x → o ∈ F) (hy : ∀ o, o ∈ ref1 y → o ∈ F) : LocAt m F F (fun H => evAppend C nid H t t1 x y) H := by
  have body : ∀ src : Option (List (List PV)), LocAt m F F (fun H => appB C nid t x src H) H := by
    intro src
    unfold appB
    cases C.ty t with
    | none => exact LocAt.none rfl
    | some ti => cases src with
      | none => exact LocAt.none rfl
      | some news =>
        simp only
        cases ti.k with
        | sl e =>
          simp only
          cases C.ty e with
          | none => exact LocAt.none rfl
          | some te =>
            simp only
            cases (!(news.all fun c => Nat.beq c.length te.size) || Nat.beq te.size 0) with
            | true => exact LocAt.none rfl
            | false =>
              simp only [cond_false]
              cases news with
              | nil =>
                cases x with
                | pl v => cases v with
                  | sl f sz es => exact LocAt.pure
                  | _ => exact LocAt.none rfl
                | own o =>
                  refine loc_get (o := o) (g := fun b H => match b with | some (.row _ _ _) => some (AV.own o, H) | _ => none) (hx o (List.mem_singleton.2 rfl)) ?_
                  split
                  · exact LocAt.pure
                  · exact LocAt.none rfl
                | vw o a n =>
                  refine loc_get (o := o) (g := fun b H => match b with | some (.row _ _ _) => some (AV.vw o a n, H) | _ => none) (hx o (List.mem_singleton.2 rfl)) ?_
                  split
                  · exact LocAt.pure
                  · exact LocAt.none rfl
                | _ => exact LocAt.none rfl
              | cons e0 es0 =>
                cases x with
                | pl v => cases v with
                  | sl f sz es =>
                    cases f <;> cases es <;> first
                      | exact LocAt.none rfl
                      | (simp only
                         cases fitsB _ te <;> first
                           | exact LocAt.none rfl
                           | exact loc_put hn hm hnF hnF)
                  | _ => exact LocAt.none rfl
                | own o =>
                  have hoF := hx o (List.mem_singleton.2 rfl)
                  refine loc_get (o := o) (g := fun b H => match b with | some (.row false sz es) => bif fitsB (es.length + (e0 :: es0).length) te && Nat.beq sz te.size then some (AV.own nid, hput (hset H o none) nid (.row false sz (es ++ e0 :: es0))) else none | _ => none) hoF ?_
                  split
                  · rename_i sz es hg
                    cases (fitsB (es.length + (e0 :: es0).length) te && Nat.beq sz te.size)
                    · exact LocAt.none rfl
                    · exact loc_setput ⟨_, hg⟩ hn hm hoF hoF hnF hnF
                  · exact LocAt.none rfl
                | vw o off len =>
                  have hoF := hx o (List.mem_singleton.2 rfl)
                  refine loc_get (o := o) (g := fun b H => match b with
                    | some (.row false sz es) =>
                      bif !(fitsB (len + (e0 :: es0).length) te && Nat.beq sz te.size) then none
                      else bif Nat.ble (off + len + (e0 :: es0).length) es.length then some (AV.vw o off (len + (e0 :: es0).length), hset H o (some (.row false sz (es.take (off + len) ++ (e0 :: es0) ++ es.drop (off + len + (e0 :: es0).length)))))
                      else bif Nat.beq (off + len) es.length then some (AV.own nid, hput (hset H o none) nid (.row false sz (es.drop off ++ (e0 :: es0))))
                      else none
                    | _ => none) hoF ?_
                  split
                  · rename_i sz es hg
                    cases !(fitsB (len + (e0 :: es0).length) te && Nat.beq sz te.size)
                    · cases Nat.ble (off + len + (e0 :: es0).length) es.length
                      · cases Nat.beq (off + len) es.length
                        · exact LocAt.none rfl
                        · exact loc_setput ⟨_, hg⟩ hn hm hoF hoF hnF hnF
                      · exact loc_set ⟨_, hg⟩ hoF (.inl hoF)
                    · exact LocAt.none rfl
                  · exact LocAt.none rfl
                | _ => exact LocAt.none rfl
        | _ => exact LocAt.none rfl
  have := loc_read (F := F) (W := F) (r := fun H => bif srcTy C t1 y then srcElems H y else none) (g := fun src H => appB C nid t x src H) (H := H) (fun H2 ha => by simp only [src_eq (agu_of hy ha)]) (body _)
  exact this

theorem loc_store {t : Nat} {p v : AV} : LocAt m (refC v ++ ref1 p) (ref1 p) (fun H => (evStore C H t p v).map fun H1 => (AV.tup [], H1)) H := by
  cases hti : C.ty t with
  | none => exact LocAt.none (by simp [evStore, hti])
  | some ti =>
    cases p with
    | bp o off =>
      have hF : o ∈ refC v ++ ref1 (.bp o off) := List.mem_append_right _ (List.mem_singleton.2 rfl)
      have main := loc_get (m := m) (F := refC v ++ ref1 (.bp o off)) (W := ref1 (.bp o off)) (H := H) (o := o) (g := fun b H => match b with
        | some (.box cs) => bif Nat.beq v.cells.length ti.size && v.cells.all oneA then (match putAt cs off v.cells with | some cs' => some (AV.tup [], hset H o (some (.box cs'))) | none => none) else none
        | _ => none) hF (by
          split
          · rename_i cs hg
            cases (Nat.beq v.cells.length ti.size && v.cells.all oneA)
            · exact LocAt.none rfl
            · simp only [cond_true]
              cases putAt cs off v.cells with
              | none => exact LocAt.none rfl
              | some cs' => exact loc_set ⟨_, hg⟩ hF (.inl (List.mem_singleton.2 rfl))
          · exact LocAt.none rfl)
      refine LocAt.congr (fun H => ?_) main
      simp only [evStore, hti]
      cases hget H o with
      | none => rfl
      | some x =>
        cases x with
        | box cs =>
          simp only
          cases (Nat.beq v.cells.length ti.size && v.cells.all oneA) with
          | false => rfl
          | true =>
            simp only [cond_true]
            cases putAt cs off v.cells <;> rfl
        | _ => rfl
    | ep o i off =>
      have hF : o ∈ refC v ++ ref1 (.ep o i off) := List.mem_append_right _ (List.mem_singleton.2 rfl)
      have h1 : LocAt m (refC v ++ ref1 (.ep o i off)) (ref1 (.ep o i off)) (fun H => plain H v) H := (loc_plain v H).mono (fun k hk => List.mem_append_left _ hk) (fun _ hk => by cases hk)
      have h2 : ∀ (q : PV) (H1 : Hp), LocAt m (refC v ++ ref1 (.ep o i off)) (ref1 (.ep o i off)) (fun H => (fun b H => match b with
        | some (.row false sz es) => (match es[i]? with
          | some c => bif Nat.beq q.cells.length ti.size then (match putAt c off q.cells with | some c' => some (AV.tup [], hset H o (some (.row false sz (es.set i c')))) | none => none) else none
          | none => none)
        | _ => none : Option Ob → Hp → Option (AV × Hp)) (hget H o) H) H1 := fun q H1 => loc_get (o := o) (g := fun b H => match b with
        | some (.row false sz es) => (match es[i]? with
          | some c => bif Nat.beq q.cells.length ti.size then (match putAt c off q.cells with | some c' => some (AV.tup [], hset H o (some (.row false sz (es.set i c')))) | none => none) else none
          | none => none)
        | _ => none) hF (by
          split
          · rename_i sz es hg
            cases es[i]? with
            | none => exact LocAt.none rfl
            | some c =>
              simp only
              cases Nat.beq q.cells.length ti.size
              · exact LocAt.none rfl
              · simp only [cond_true]
                cases putAt c off q.cells with
                | none => exact LocAt.none rfl
                | some c' => exact loc_set ⟨_, hg⟩ hF (.inl (List.mem_singleton.2 rfl))
          · exact LocAt.none rfl)
      refine LocAt.congr (fun H => ?_) (h1.bind fun q H1 _ => h2 q H1)
      simp only [evStore, hti]
      cases plain H v with
      | none => rfl
      | some r =>
        obtain ⟨q, H1⟩ := r
        simp only
        cases hget H1 o with
        | none => rfl
        | some x =>
          cases x with
          | row z sz es =>
            cases z with
            | true => rfl
            | false =>
              simp only
              cases es[i]? with
              | none => rfl
              | some c =>
                simp only
                cases Nat.beq q.cells.length ti.size with
                | false => rfl
                | true =>
                  simp only [cond_true]
                  cases putAt c off q.cells <;> rfl
          | _ => rfl
    | _ => exact LocAt.none (by simp [evStore, hti])
theorem loc_upd {o : Nat} {F W : List Nat} {r : α} {g : List (PV × PV) → Option (α × List (PV × PV))} (hF : o ∈ F) (hW : o ∈ W) : LocAt m F W (fun H => match hget H o with | some (.map kvs) => (match g kvs with | some (a, kvs') => some (a, hset H o (some (.map kvs'))) | none => none) | _ => none) H := by
  refine loc_get (o := o) (g := fun b H => match b with | some (.map kvs) => (match g kvs with | some (a, kvs') => some (a, hset H o (some (.map kvs'))) | none => none) | _ => none) hF ?_
  split
  · rename_i kvs hg
    cases g kvs with
    | none => exact LocAt.none rfl
    | some q => exact loc_set ⟨_, hg⟩ hF (.inl hW)
  · exact LocAt.none rfl
theorem loc_mapUpdate {t : Nat} {x k v : AV} : LocAt m (refC v ++ ref1 x) (ref1 x) (fun H => (evMapUpdate C H t x k v).map fun H1 => (AV.tup [], H1)) H := by
  cases hmt : mapTy C t with
  | none => exact LocAt.none (by simp [evMapUpdate, hmt])
  | some q =>
    cases x with
    | mp o =>
      cases k with
      | pl k =>
        obtain ⟨kt, e⟩ := q
        have h1 : LocAt m (refC v ++ ref1 (.mp o)) (ref1 (.mp o)) (fun H => plain H v) H := (loc_plain v H).mono (fun o ho => List.mem_append_left _ ho) (fun _ h => by cases h)
        refine LocAt.congr (fun H => ?_) (h1.bind fun p H1 _ => loc_upd (o := o) (r := AV.tup []) (g := fun kvs => (mset C.ty kt k p kvs).map fun l => (AV.tup [], l)) (List.mem_append_right _ (List.mem_singleton.2 rfl)) (List.mem_singleton.2 rfl))
        simp only [evMapUpdate, hmt]
        cases plain H v with
        | none => rfl
        | some q2 =>
          obtain ⟨p, H1⟩ := q2
          simp only
          cases hget H1 o with
          | none => rfl
          | some b => cases b with
            | map kvs => simp only; cases mset C.ty kt k p kvs <;> rfl
            | _ => rfl
      | _ => exact LocAt.none (by simp [evMapUpdate, hmt])
    | _ => exact LocAt.none (by simp [evMapUpdate, hmt])
theorem loc_mapEntry {t : Nat} {x k : AV} : LocAt m ([] ++ ref1 x) (ref1 x) (fun H => evMapEntry C H t x k) H := by
  cases hmt : mapTy C t with
  | none => exact LocAt.none (by simp [evMapEntry, hmt])
  | some q =>
    cases x with
    | mp o =>
      cases k with
      | pl k =>
        obtain ⟨kt, e⟩ := q
        refine LocAt.congr (fun H => ?_) (loc_upd (H := H) (m := m) (F := [] ++ ref1 (.mp o)) (W := ref1 (.mp o)) (o := o) (r := AV.tup []) (g := fun kvs => (ment C kt e k kvs).map fun q => (AV.tup [.pl q.1, .pl (.int .i64 (q.2.1 : Int))], q.2.2)) (List.mem_append_right _ (List.mem_singleton.2 rfl)) (List.mem_singleton.2 rfl))
        simp only [evMapEntry, hmt]
        cases hget H o with
        | none => rfl
        | some b => cases b with
          | map kvs => simp only; cases ment C kt e k kvs <;> rfl
          | _ => rfl
      | _ => exact LocAt.none (by simp [evMapEntry, hmt])
    | _ => exact LocAt.none (by simp [evMapEntry, hmt])
theorem loc_entryStore {x s v : AV} : LocAt m (refC v ++ ref1 x) (ref1 x) (fun H => (evEntryStore H x s v).map fun H1 => (AV.tup [], H1)) H := by
  have none_ : (∀ H, evEntryStore H x s v = none) → LocAt m (refC v ++ ref1 x) (ref1 x) (fun H => (evEntryStore H x s v).map fun H1 => (AV.tup [], H1)) H := fun h => LocAt.none (by simp only [h H]; rfl)
  cases x with
  | mp o =>
    cases s with
    | pl s =>
      cases s with
      | int k n =>
        have h1 : LocAt m (refC v ++ ref1 (.mp o)) (ref1 (.mp o)) (fun H => plain H v) H := (loc_plain v H).mono (fun o ho => List.mem_append_left _ ho) (fun _ h => by cases h)
        refine LocAt.congr (fun H => ?_) (h1.bind fun p H1 _ => loc_upd (o := o) (r := AV.tup []) (g := fun kvs => match natOf n with | some i => (match kvs[i]? with | some (k, _) => some (AV.tup [], kvs.set i (k, p)) | none => none) | none => none) (List.mem_append_right _ (List.mem_singleton.2 rfl)) (List.mem_singleton.2 rfl))
        simp only [evEntryStore]
        cases plain H v with
        | none => rfl
        | some q2 =>
          obtain ⟨p, H1⟩ := q2
          simp only
          cases hget H1 o with
          | none => cases natOf n <;> rfl
          | some b => cases b with
            | map kvs =>
              simp only
              cases natOf n with
              | none => rfl
              | some i => simp only; cases kvs[i]? <;> rfl
            | _ => cases natOf n <;> rfl
      | _ => exact none_ fun H => rfl
    | _ => exact none_ fun H => rfl
  | _ => exact none_ fun H => rfl
theorem loc_rowOf {F W : List Nat} {x : AV} {g : Option (Nat × Nat × Nat × Nat × List (List PV)) → Hp → Option (α × Hp)} (hx : ∀ o, o ∈ ref1 x → o ∈ F) (h : LocAt m F W (g (rowOf H x)) H) : LocAt m F W (fun H => g (rowOf H x) H) H := by
  refine loc_read (F := F) (W := W) (r := fun H => rowOf H x) (g := g) (H := H) (fun H2 ha => ?_) h
  cases x <;> first
    | rfl
    | (simp only [rowOf, ha _ (hx _ (List.mem_singleton.2 rfl))])
theorem loc_rowSet {F : List Nat} {x : AV} {te : TI} {r : Nat → AV} {news : Nat → List (List PV)} (hx : ∀ o, o ∈ ref1 x → o ∈ F) : LocAt m F F (fun H => match rowOf H x with
      | some (o, off, len, sz, es) => bif Nat.beq sz te.size then some (r len, hset H o (some (.row false sz (rowPut es off (news len))))) else none
      | none => none) H := by
  refine loc_rowOf (x := x) (g := fun q H => match q with
      | some (o, off, len, sz, es) => bif Nat.beq sz te.size then some (r len, hset H o (some (.row false sz (rowPut es off (news len))))) else none
      | none => none) hx ?_
  cases hr : rowOf H x with
  | none => exact LocAt.none rfl
  | some q =>
    obtain ⟨o, off, len, sz, es⟩ := q
    simp only
    have key : o ∈ ref1 x ∧ ∃ b, hget H o = some b := by
      unfold rowOf at hr
      split at hr
      · split at hr
        · rename_i hg
          simp only [Option.some.injEq, Prod.mk.injEq] at hr; obtain ⟨rfl, _⟩ := hr
          exact ⟨List.mem_singleton.2 rfl, _, hg⟩
        · cases hr
      · split at hr
        · rename_i o' off' len' _ sz' es' hg
          cases hb : Nat.ble (off' + len') es'.length with
          | false => simp [hb] at hr
          | true =>
            simp only [hb, cond_true, Option.some.injEq, Prod.mk.injEq] at hr; obtain ⟨rfl, _⟩ := hr
            exact ⟨List.mem_singleton.2 rfl, _, hg⟩
        · cases hr
      · cases hr
    cases Nat.beq sz te.size with
    | false => exact LocAt.none rfl
    | true => exact loc_set key.2 (hx o key.1) (.inl (hx o key.1))
theorem loc_clear {F : List Nat} {t : Nat} {x : AV} (hx : ∀ o, o ∈ ref1 x → o ∈ F) : LocAt m F F (fun H => evClear C H t x) H := by
  cases hte : elemTy C t with
  | none => exact LocAt.none (by simp [evClear, hte])
  | some te =>
    cases hz : Nat.beq te.size 0 with
    | true => exact LocAt.none (by simp [evClear, hte, hz])
    | false =>
      have main := loc_rowSet (m := m) (H := H) (te := te) (r := fun _ => AV.tup []) (news := fun len => List.replicate len te.zero) hx
      cases x with
      | pl v => cases v with
        | sl f sz es => cases es with
          | nil => exact LocAt.congr (fun H => by simp only [evClear, hte, hz, cond_false]) (LocAt.pure (r := AV.tup []))
          | cons _ _ => exact LocAt.none (by simp [evClear, hte, hz, rowOf])
        | _ => exact LocAt.none (by simp [evClear, hte, hz, rowOf])
      | _ => exact LocAt.congr (fun H => by simp only [evClear, hte, hz, cond_false] <;> rfl) main
theorem loc_copy {F : List Nat} {t t1 : Nat} {x y : AV} (hx : ∀ o, o ∈ ref1 x → o ∈ F) (hy : ∀ o, o ∈ ref1 y → o ∈ F) : LocAt m F F (fun H => evCopy C H t t1 x y) H := by
  have body : ∀ src : Option (List (List PV)), LocAt m F F (fun H => match src, elemTy C t with
      | some src, some te => bif !(src.all fun c => Nat.beq c.length te.size) || Nat.beq te.size 0 then none else match x with
        | .pl (.sl _ _ []) => some (AV.pl (.int .i64 0), H)
        | x => match rowOf H x with
          | some (o, off, len, sz, es) => bif Nat.beq sz te.size then some (.pl (.int .i64 (Nat.min src.length len : Nat)), hset H o (some (.row false sz (rowPut es off (src.take (Nat.min src.length len)))))) else none
          | none => none
      | _, _ => none) H := by
    intro src
    cases src with
    | none => exact LocAt.none rfl
    | some src =>
      cases elemTy C t with
      | none => exact LocAt.none rfl
      | some te =>
        simp only
        cases (!(src.all fun c => Nat.beq c.length te.size) || Nat.beq te.size 0) with
        | true => exact LocAt.none rfl
        | false =>
          simp only [cond_false]
          have main := loc_rowSet (m := m) (H := H) (te := te) (r := fun len => AV.pl (.int .i64 (Nat.min src.length len : Nat))) (news := fun len => src.take (Nat.min src.length len)) hx
          cases x with
          | pl v => cases v with
            | sl f sz es => cases es with
              | nil => exact LocAt.pure
              | cons _ _ => exact LocAt.none rfl
            | _ => exact LocAt.none rfl
          | _ => exact main
  exact loc_read (F := F) (W := F) (r := fun H => bif srcTy C t1 y then srcElems H y else none) (g := fun src H => match src, elemTy C t with
      | some src, some te => bif !(src.all fun c => Nat.beq c.length te.size) || Nat.beq te.size 0 then none else match x with
        | .pl (.sl _ _ []) => some (AV.pl (.int .i64 0), H)
        | x => match rowOf H x with
          | some (o, off, len, sz, es) => bif Nat.beq sz te.size then some (.pl (.int .i64 (Nat.min src.length len : Nat)), hset H o (some (.row false sz (rowPut es off (src.take (Nat.min src.length len)))))) else none
          | none => none
      | _, _ => none) (H := H) (fun H2 ha => by simp only [src_eq (agu_of hy ha)]) (body _)
/-! ### one operation -/
def evOne (C : Cfg) (call : Bool → Nat → List AV → Hp → Outs (AV × Hp)) (nid : Nat) (ρ : Operand → AV) (op : Op) (H : Hp) : Option (AV × Hp) := match evOp C call nid ρ H op with | some [r] => some r | _ => none
def isVal : Op → Bool
  | .call c => match c.callee with | .value _ => true | _ => false
  | .next _ _ => true
  | _ => false
theorem evOne_pure {ρ : Operand → AV} {op : Op} (hv : isVal op = false) : evOne C call nid ρ op H = evPure C nid ρ H op := by
  have fin : (match (match evPure C nid ρ H op with | some r => some [r] | none => none : Outs (AV × Hp)) with | some [r] => some r | _ => none) = evPure C nid ρ H op := by
    cases evPure C nid ρ H op <;> rfl
  unfold evOne evOp
  cases op with
  | call c =>
    obtain ⟨callee, args, ts⟩ := c
    cases callee with
    | value f => simp [isVal] at hv
    | _ => exact fin
  | next _ _ => simp [isVal] at hv
  | _ => exact fin
theorem foot_val {ρ : Operand → AV} {op : Op} {R : List Nat} (h : foot C nid ρ H op = .rd R) : isVal op = false := by
  cases op with
  | call c =>
    obtain ⟨callee, args, ts⟩ := c
    cases callee with
    | value f =>
      simp only [foot] at h
      split at h <;> first | exact absurd h footCall_ne | cases h
    | _ => rfl
  | next _ _ => simp [foot] at h
  | _ => rfl
theorem op_rd {ρ : Operand → AV} {op : Op} {R : List Nat} (hf : foot C nid ρ H op = .rd R) : RdAt R (fun H => evOne C call nid ρ op H) H := by
  intro r H' h
  have hv := foot_val hf
  simp only [evOne_pure hv] at h ⊢
  exact pure_rd hf r H' h
theorem footCall_wr {k : Nat} {args : List AV} {Z W : List Nat} (h : footCall C H k args = .wr Z W) : C.byref k = false ∧ Z = args.flatMap refC ∧ W = [] ∧ ∃ q, plains H args = some q := by
  unfold footCall at h
  cases hb : C.byref k with
  | true => rw [hb] at h; cases h
  | false =>
    rw [hb] at h
    simp only [cond_false] at h
    split at h
    · rename_i q hq
      simp only [Fp.wr.injEq] at h
      exact ⟨rfl, h.1.symm, h.2.symm, q, hq⟩
    · cases h
theorem loc_invoke (hx : ∀ k, C.ext k = none) {k : Nat} {args : List AV} {Z W : List Nat} (hf : footCall C H k args = .wr Z W) : LocAt m (Z ++ W) W (fun H => match evInvoke C call k args H with | some [r] => some r | _ => none) H := by
  obtain ⟨hb, rfl, rfl, ⟨ps, H1⟩, hp⟩ := footCall_wr hf
  rw [List.append_nil]
  have ev : ∀ {H : Hp} {H1 : Hp}, plains H args = some (ps, H1) → (match evInvoke C call k args H with | some [r] => some r | _ => none) = (match call false k (ps.map .pl) [] with | some [r] => some (r.1, bif flatA r.1 then H else H1) | _ => none) := by
    intro H H1 hp
    unfold evInvoke
    rw [hx k]
    simp only [hb, cond_false, hp]
    rcases call false k (ps.map .pl) [] with _ | _ | ⟨r, _ | ⟨_, _⟩⟩ <;> rfl
  intro r H' h
  simp only at h ⊢
  obtain ⟨k1, k2, k3, k4⟩ := loc_plains args H _ _ hp
  rw [ev hp] at h
  split at h
  · rename_i r0 hc
    simp only [Option.some.injEq] at h
    cases hfl : flatA r0.1 with
    | true =>
      rw [hfl] at h
      simp only [cond_true, Prod.mk.injEq] at h; obtain ⟨rfl, rfl⟩ := h
      refine ⟨rfl, fun _ _ => rfl, fun _ _ => rfl, fun H2 hl ha => ?_⟩
      obtain ⟨H2', m1, m2, m3⟩ := k4 H2 hl ha
      refine ⟨H2, by rw [ev m1, hc]; simp only [hfl, cond_true], rfl, fun o => ?_⟩
      by_cases e : o ∈ args.flatMap refC
      · rw [if_pos e]; exact ha o e
      · rw [if_neg e]
    | false =>
      rw [hfl] at h
      simp only [cond_false, Prod.mk.injEq] at h; obtain ⟨rfl, rfl⟩ := h
      refine ⟨k1, k2, k3, fun H2 hl ha => ?_⟩
      obtain ⟨H2', m1, m2, m3⟩ := k4 H2 hl ha
      exact ⟨H2', by rw [ev m1, hc]; simp only [hfl, cond_false], m2, m3⟩
  · cases h
theorem op_wr (hx : ∀ k, C.ext k = none) {ρ : Operand → AV} {op : Op} {Z W : List Nat} (hn : nid < H.length) (hm : nid < m) (hf : foot C nid ρ H op = .wr Z W) : LocAt m (Z ++ W) W (fun H => evOne C call nid ρ op H) H := by
  · skip
    cases hv : isVal op with
    | true =>
      cases op <;> first | (simp [isVal] at hv; done) | (simp [foot] at hf; done) | skip
      rename_i c
      obtain ⟨callee, args, ts⟩ := c
      cases callee <;> first | (simp [isVal] at hv; done) | skip
      rename_i f
      simp only [foot] at hf
      split at hf
      · rename_i k hk
        refine LocAt.congr (fun H => ?_) (loc_invoke (call := call) hx hf)
        unfold evOne evOp; simp only [hk]
      · rename_i k cs hk
        refine LocAt.congr (fun H => ?_) (loc_invoke (call := call) hx hf)
        unfold evOne evOp; simp only [hk]
      · cases hf
    | false =>
      refine LocAt.congr (fun H => evOne_pure hv) ?_
      cases op <;> first | (simp [foot] at hf; done) | skip
      · -- alloc
        rename_i e
        simp only [foot, Fp.wr.injEq] at hf; obtain ⟨rfl, rfl⟩ := hf
        simp only [evPure]
        cases C.ty e with
        | none => exact LocAt.none rfl
        | some ti => exact loc_put hn hm (by simp) (by simp)
      · -- box
        rename_i e x
        simp only [foot, Fp.wr.injEq] at hf; obtain ⟨rfl, rfl⟩ := hf
        simp only [evPure]
        cases (ρ x).cells.all oneA
        · exact LocAt.none rfl
        · exact loc_put hn hm (by simp) (by simp)
      · -- buildSlice
        rename_i t n ps
        simp only [foot, Fp.wr.injEq] at hf; obtain ⟨rfl, rfl⟩ := hf
        simp only [evPure]
        cases C.ty t with
        | none => exact LocAt.none rfl
        | some ti =>
          simp only
          cases ti.k with
          | sl e =>
            simp only
            cases C.ty e with
            | none => exact LocAt.none rfl
            | some te =>
              simp only
              cases (Nat.ble (n * te.size) 16777216 && !(Nat.beq te.size 0)) with
              | false => exact LocAt.none rfl
              | true =>
                simp only [cond_true]
                have h1 := (loc_fillE (m := m) te.size (ps.toList.map fun p => (p.1, ρ p.2)) (List.replicate n te.zero) H).mono (G := (ps.toList.flatMap fun p => refC (ρ p.2)) ++ [nid]) (V := [nid]) (fun o ho => by
                  rw [List.flatMap_map] at ho; exact List.mem_append_left _ ho) (fun _ h => by cases h)
                refine LocAt.congr (fun H => ?_) (h1.bind (g := fun es H => some (AV.own nid, hput H nid (.row false te.size es))) fun es H1 he => loc_put ?_ hm (by simp) (by simp))
                · cases fillE te.size H (List.replicate n te.zero) (ps.toList.map fun p => (p.1, ρ p.2)) <;> rfl
                · rw [(h1 es H1 he).1]; exact hn
          | _ => exact LocAt.none rfl
      · -- insert
        rename_i t m' k v
        simp only [foot, Fp.wr.injEq] at hf; obtain ⟨rfl, rfl⟩ := hf
        exact loc_mapUpdate
      · -- store
        rename_i t p v
        simp only [foot, Fp.wr.injEq] at hf; obtain ⟨rfl, rfl⟩ := hf
        exact loc_store
      · -- makeMap
        rename_i t r
        simp only [foot, Fp.wr.injEq] at hf; obtain ⟨rfl, rfl⟩ := hf
        cases r with
        | none => simp only [evPure]; exact loc_put hn hm (by simp) (by simp)
        | some _ => exact LocAt.none rfl
      · -- makeSlice
        rename_i t l c
        simp only [foot, Fp.wr.injEq] at hf; obtain ⟨rfl, rfl⟩ := hf
        intro r H' h
        simp only [evPure] at h
        have : ∃ x, ∀ H : Hp, evPure C nid ρ H (.makeSlice t l c) = some (.own nid, hput H nid x) := by
          simp only [evPure]
          split at h
          · rename_i ti k n k' m hti hl' hc
            split at h
            · rename_i e n' hk hn'
              split at h
              · rename_i te hte
                cases hb : (decide (m = (n' : Int)) && fitsB n' te && !Nat.beq te.size 0) with
                | false => simp [hb] at h
                | true => exact ⟨.row false te.size (List.replicate n' te.zero), fun H => by simp only [hti, hl', hc, hk, hn', hte, hb, cond_true]⟩
              · cases h
            · cases h
          · cases h
        obtain ⟨x, hx'⟩ := this
        have := (loc_put (r := AV.own nid) (x := x) (F := [nid]) (W := [nid]) hn hm (by simp) (by simp)).congr (f := fun H => evPure C nid ρ H (.makeSlice t l c)) hx'
        exact this r H' (by simpa only [evPure] using h)
      · -- mapUpdate
        rename_i t m' k v
        simp only [foot, Fp.wr.injEq] at hf; obtain ⟨rfl, rfl⟩ := hf
        exact loc_mapUpdate
      · -- mapEntry
        rename_i t m' k
        simp only [foot, Fp.wr.injEq] at hf; obtain ⟨rfl, rfl⟩ := hf
        exact loc_mapEntry
      · -- entryStore
        rename_i t m' k v
        simp only [foot, Fp.wr.injEq] at hf; obtain ⟨rfl, rfl⟩ := hf
        exact loc_entryStore
      · -- call
        rename_i c
        obtain ⟨callee, ⟨args⟩, ⟨ts⟩⟩ := c
        cases callee with
        | builtin b =>
          cases b <;> first | (simp [foot] at hf; done) | skip
          · simp only [foot, Fp.wr.injEq] at hf; obtain ⟨rfl, rfl⟩ := hf
            simp only [evPure, List.nil_append]
            rcases args with _ | ⟨x, _ | ⟨y, _ | ⟨z, r⟩⟩⟩ <;> rcases ts with _ | ⟨t, _ | ⟨u, _ | ⟨v, r'⟩⟩⟩ <;> first | exact LocAt.none rfl | skip
            refine loc_append hn hm (by simp) (fun o ho => ?_) (fun o ho => ?_)
            · simp [ho]
            · simp [ho]
          · simp only [foot, Fp.wr.injEq] at hf; obtain ⟨rfl, rfl⟩ := hf
            simp only [evPure, List.nil_append]
            rcases args with _ | ⟨x, _ | ⟨y, _ | ⟨z, r⟩⟩⟩ <;> rcases ts with _ | ⟨t, _ | ⟨u, _ | ⟨v, r'⟩⟩⟩ <;> first | exact LocAt.none rfl | skip
            exact loc_clear fun o ho => by simp [ho]
          · simp only [foot, Fp.wr.injEq] at hf; obtain ⟨rfl, rfl⟩ := hf
            simp only [evPure, List.nil_append]
            rcases args with _ | ⟨x, _ | ⟨y, _ | ⟨z, r⟩⟩⟩ <;> rcases ts with _ | ⟨t, _ | ⟨u, _ | ⟨v, r'⟩⟩⟩ <;> first | exact LocAt.none rfl | skip
            exact loc_copy (fun o ho => by simp [ho]) (fun o ho => by simp [ho])
        | value f => simp [isVal] at hv
        | invoke _ _ => simp [foot] at hf
theorem foot_eq (hx : ∀ k, C.ext k = none) {ρ : Operand → AV} {op : Op} (hne : foot C nid ρ H op ≠ .all) (hns : ∀ F n, foot C nid ρ H op ≠ .sh F n) (hag : ∀ Z W, foot C nid ρ H op = .wr Z W → ∀ o, o ∈ Z ++ W → hget H2 o = hget H o) : foot C nid ρ H2 op = foot C nid ρ H op := by
  cases op <;> first | rfl | skip
  rename_i c
  obtain ⟨callee, args, ts⟩ := c
  cases callee <;> first | rfl | (rename_i b; cases b <;> rfl) | skip
  rename_i f
  simp only [foot] at hne hns hag ⊢
  have key : ∀ k args, footCall C H k args ≠ .all → (∀ F n, footCall C H k args ≠ .sh F n) → (∀ Z W, footCall C H k args = .wr Z W → ∀ o, o ∈ Z ++ W → hget H2 o = hget H o) → footCall C H2 k args = footCall C H k args := by
    intro k args hne hns hag
    cases hf : footCall C H k args with
    | all => exact absurd hf hne
    | sh F n => exact absurd hf (hns F n)
    | rd R => exact absurd hf footCall_ne
    | wr Z W =>
      have := hag Z W hf
      obtain ⟨hb, rfl, rfl, ⟨ps, H1⟩, hp⟩ := footCall_wr hf
      obtain ⟨_, _, _, k4⟩ := loc_plains (m := 0) args H _ _ hp
      obtain ⟨H2', m1, _⟩ := k4 H2 (Nat.zero_le _) fun o ho => this o (List.mem_append_left _ ho)
      unfold footCall; simp only [hb, cond_false, m1]
  split <;> rename_i hk <;> simp only [hk] at hne hns hag ⊢ <;> first | exact key _ _ hne hns hag | rfl
theorem bit_eq (m i : Nat) : bit m i = Nat.testBit m i := by
  unfold bit
  rw [Nat.testBit_eq_decide_div_mod_eq]
  change Nat.beq ((m >>> i) &&& 1) 1 = _
  rw [Nat.and_one_is_mod, Nat.shiftRight_eq_div_pow]
  rcases beq_cases (m / 2 ^ i % 2) 1 with ⟨h, e⟩ | ⟨h, e⟩ <;> rw [h] <;> simp [e]
theorem bit_orBit (m i j : Nat) : bit (orBit m i) j = (bit m j || decide (i = j)) := by
  rw [bit_eq, bit_eq]
  unfold orBit
  change Nat.testBit (m ||| (1 <<< i)) j = _
  rw [Nat.testBit_or, Nat.one_shiftLeft, Nat.testBit_two_pow]
theorem bit_or (a b j : Nat) : bit (Nat.lor a b) j = (bit a j || bit b j) := by
  rw [bit_eq, bit_eq, bit_eq]; exact Nat.testBit_or a b j
theorem reach_mono : ∀ (f F : Nat) (todo : List Nat) {k : Nat}, bit F k = true → bit (reach H f F todo) k = true
  | 0, F, todo, k, h => by simpa only [reach] using h
  | f + 1, F, [], k, h => by simpa only [reach] using h
  | f + 1, F, o :: r, k, h => by
    simp only [reach]
    cases bit F o with
    | true => exact reach_mono f F r h
    | false =>
      refine reach_mono f _ _ ?_
      have := bit_orBit F o k
      unfold orBit at this
      rw [this, h]; rfl
theorem reach_eq : ∀ (f F : Nat) (todo : List Nat), (∀ o, bit (reach H f F todo) o = true → hget H2 o = hget H o) → reach H2 f F todo = reach H f F todo
  | 0, F, todo, _ => by simp only [reach]
  | f + 1, F, [], _ => by simp only [reach]
  | f + 1, F, o :: r, h => by
    simp only [reach] at h ⊢
    cases hb : bit F o with
    | true => rw [hb] at h; exact reach_eq f F r h
    | false =>
      rw [hb] at h
      simp only [cond_false] at h ⊢
      have ho : hget H2 o = hget H o := h o (reach_mono f _ _ (by
        have := bit_orBit F o o
        unfold orBit at this
        rw [this]; simp))
      rw [ho]
      exact reach_eq f _ _ h
theorem hp_ext {H1 H2 : Hp} (hl : H1.length = H2.length) (h : ∀ o, hget H1 o = hget H2 o) : H1 = H2 := by
  apply List.ext_getElem?
  intro o
  have := h o
  unfold hget at this
  rcases Nat.lt_or_ge o H1.length with hlt | hge
  · rw [List.getElem?_eq_getElem hlt, List.getElem?_eq_getElem (by omega)] at this ⊢
    generalize H1[o] = a at *; generalize H2[o] = b at *
    cases a <;> cases b <;> simp_all
  · rw [List.getElem?_eq_none hge, List.getElem?_eq_none (by omega)]
/-- A step that works on the part F of own memory and may lay new pieces behind. -/
def ShAt (F n : Nat) (f : Hp → Option (AV × Hp)) (H : Hp) : Prop :=
  ∀ r H', f H = some (r, H') → H.length = n ∧ n ≤ H'.length ∧ (∀ o, o < n → bit F o = false → hget H' o = hget H o) ∧
    ∀ H2 : Hp, H2.length = n → (∀ o, bit F o = true → hget H2 o = hget H o) → ∃ H2', f H2 = some (r, H2') ∧ H2'.length = H'.length ∧ ∀ o, hget H2' o = if o < n ∧ bit F o = false then hget H2 o else hget H' o
theorem sh_at {k : Nat} {args : List AV} {F : Nat} (hF : ∀ H2 : Hp, H2.length = H.length → (∀ o, bit F o = true → hget H2 o = hget H o) → reach H2 100000 0 (refDL args) = F) (hF0 : reach H 100000 0 (refDL args) = F) :
    ShAt F H.length (fun H => match evShared call k args H (reach H 100000 0 (refDL args)) with | some [r] => some r | _ => none) H := by
  intro r H' h
  simp only [hF0] at h
  unfold evShared at h
  cases hc : call true k args (maskH F 0 H) with
  | none => rw [hc] at h; cases h
  | some l =>
    rw [hc] at h
    simp only at h
    cases hb : l.all (fun r => inF F H.length (refD r.1) && objsIn F H.length r.2 && Nat.ble H.length r.2.length) with
    | false => rw [hb] at h; cases h
    | true =>
      rw [hb] at h
      rcases l with _ | ⟨r0, _ | ⟨_, _⟩⟩
      · cases h
      · simp only [cond_true, List.map_cons, List.map_nil, Option.some.injEq, Prod.mk.injEq] at h
        obtain ⟨rfl, rfl⟩ := h
        have hlen : H.length ≤ r0.2.length := by
          have := List.all_eq_true.1 hb r0 (by simp)
          simp only [Bool.and_eq_true] at this
          simpa using this.2
        refine ⟨rfl, by rw [length_patch _ _ _ hlen]; exact hlen, fun o h1 h2 => by rw [hget_patch _ _ _ _ hlen, Nat.zero_add, if_pos ⟨h1, h2⟩], fun H2 hl ha => ?_⟩
        have hm : maskH F 0 H2 = maskH F 0 H := hp_ext (by rw [length_mask, length_mask, hl]) fun o => by
          rw [hget_mask, hget_mask, Nat.zero_add]
          split
          · rename_i ho; exact ha o ho
          · rfl
        have hlen2 : H2.length ≤ r0.2.length := by rw [hl]; exact hlen
        refine ⟨patchH F 0 H2 r0.2, ?_, by rw [length_patch _ _ _ hlen2, length_patch _ _ _ hlen], fun o => ?_⟩
        · simp only [hF H2 hl ha]
          unfold evShared
          rw [hm, hc]
          simp only [hl, hb, cond_true, List.map_cons, List.map_nil]
        · rw [hget_patch _ _ _ _ hlen2, hget_patch _ _ _ _ hlen, Nat.zero_add, hl]
          by_cases hc : o < H.length ∧ bit F o = false
          · rw [if_pos hc, if_pos hc]
          · rw [if_neg hc, if_neg hc, if_neg hc]
      · cases h
theorem footCall_sh {k : Nat} {args : List AV} {F n : Nat} (h : footCall C H k args = .sh F n) : C.byref k = true ∧ reach H 100000 0 (refDL args) = F ∧ H.length = n := by
  unfold footCall at h
  cases hb : C.byref k with
  | true => rw [hb] at h; simp only [cond_true, Fp.sh.injEq] at h; exact ⟨rfl, h⟩
  | false => rw [hb] at h; simp only [cond_false] at h; split at h <;> cases h
theorem op_sh (hx : ∀ k, C.ext k = none) {ρ : Operand → AV} {op : Op} {F n : Nat} (hf : foot C nid ρ H op = .sh F n) :
    ShAt F n (fun H => evOne C call nid ρ op H) H ∧ ∀ H2 : Hp, H2.length = n → (∀ o, bit F o = true → hget H2 o = hget H o) → foot C nid ρ H2 op = .sh F n := by
  cases op <;> first | (simp [foot] at hf; done) | skip
  rename_i c
  obtain ⟨callee, args, ts⟩ := c
  cases callee with
  | builtin b => cases b <;> simp [foot] at hf
  | invoke _ _ => simp [foot] at hf
  | value f =>
    have go : ∀ k as, footCall C H k as = .sh F n → (∀ H : Hp, evOp C call nid ρ H (.call ⟨.value f, args, ts⟩) = evInvoke C call k as H) → (∀ H : Hp, foot C nid ρ H (.call ⟨.value f, args, ts⟩) = footCall C H k as) →
        ShAt F n (fun H => evOne C call nid ρ (.call ⟨.value f, args, ts⟩) H) H ∧ ∀ H2 : Hp, H2.length = n → (∀ o, bit F o = true → hget H2 o = hget H o) → foot C nid ρ H2 (.call ⟨.value f, args, ts⟩) = .sh F n := by
      intro k as h1 h2 h3
      obtain ⟨hb, hF, rfl⟩ := footCall_sh h1
      have hr : ∀ H2 : Hp, H2.length = H.length → (∀ o, bit F o = true → hget H2 o = hget H o) → reach H2 100000 0 (refDL as) = F := fun H2 _ ha => by
        rw [← hF] at ha ⊢; exact reach_eq _ _ _ ha
      constructor
      · have := sh_at (call := call) (k := k) hr hF
        have e : (fun H => evOne C call nid ρ (.call ⟨.value f, args, ts⟩) H) = fun H => match evShared call k as H (reach H 100000 0 (refDL as)) with | some [r] => some r | _ => none := by
          funext H
          unfold evOne
          rw [h2]
          unfold evInvoke
          rw [hx k, hb]
          rfl
        rw [e]; exact this
      · intro H2 hl ha
        rw [h3]; unfold footCall; rw [hb]; simp only [cond_true, hr H2 hl ha, hl]
    simp only [foot] at hf
    split at hf
    · rename_i k hk
      exact go k _ hf (fun H => by unfold evOp; simp only [hk]) (fun H => by simp only [foot, hk])
    · rename_i k cs hk
      exact go k _ hf (fun H => by unfold evOp; simp only [hk]) (fun H => by simp only [foot, hk])
    · cases hf
end
end Go.Proofs.Ytelblamgfbkhbaa
