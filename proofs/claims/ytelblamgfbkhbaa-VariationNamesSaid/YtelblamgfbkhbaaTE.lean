/- Runs up to a place in the code; calls in a memory of their own; small words for what is reckoned. No condition. -/
import Derived.Test.YtelblamgfbkhbaaTD
namespace Go.Proofs.Ytelblamgfbkhbaa
set_option linter.unusedSimpArgs false
set_option linter.unusedVariables false
open Go.RowKit
section
variable {P : Program} {C : Cfg} {w w' : World} {X : Nat → Prop} {φ φ' : Phi} {H H' : Hp} {nid n base : Nat} {s : Tr} {a : Act} {D : List Deferred} {st st' : Tr × Hp}
/-- What is left of a row of pieces of code. -/
def dropC : Nat → Code → Code
  | 0, c => c
  | k + 1, .seq _ b => dropC k b
  | _, c => c
/-- The first pieces of a row. -/
def hCk (P : Program) (C : Cfg) (n : Nat) : Nat → Code → List RH → List (Option Bool) → Tr × Hp → Option ((Ex × Tr × Hp) × List Prop × List RH × List (Option Bool))
  | 0, _, rs, ps, st => some ((.norm, st), [], rs, ps)
  | k + 1, .seq a b, rs, ps, st => match hC P C n a rs ps st with
    | some ((.norm, st1), cs, rs1, ps1) => (match hCk P C n k b rs1 ps1 st1 with
      | some (r, cs2, rs2, ps2) => some (r, cs ++ cs2, rs2, ps2)
      | none => none)
    | x => x
  | _, _, _, _, _ => none
theorem hCk_ok (hC' : CfgOK P C) {Q : Ex × Tr × Hp → Prop} {st2 : Tr × Hp} {tds : List Td} {m keep : List Nat} {cs2 : List Prop} : ∀ (k : Nat) (c : Code) {rs rs' : List RH} {ps ps' : List (Option Bool)} {st : Tr × Hp} {ex : Ex} {st1 : Tr × Hp} {cs : List Prop},
    hCk P C n k c rs ps st = some ((ex, st1), cs, rs', ps') → AllP cs → norm base tds m keep st1 = some (st2, cs2) → AllP cs2 → (ex = .norm → T P n base (dropC k c) st2 Q) → (ex ≠ .norm → Q (ex, st2)) → T P n base c st Q
  | 0, c, rs, rs', ps, ps', st, ex, st1, cs, h, hp, hn, hp2, h1, _ => by
    simp only [hCk, Option.some.injEq, Prod.mk.injEq] at h
    obtain ⟨⟨rfl, rfl⟩, _⟩ := h
    exact T.pre hn hp2 (h1 rfl)
  | k + 1, c, rs, rs', ps, ps', st, ex, st1, cs, h, hp, hn, hp2, h1, h2 => by
    cases c <;> first | (simp [hCk] at h; done) | skip
    rename_i x y
    simp only [hCk] at h
    split at h
    · rename_i sta cs1 rs1 ps1 ha
      split at h
      · rename_i r2 csb rsb psb hb
        simp only [Option.some.injEq, Prod.mk.injEq] at h; obtain ⟨rfl, rfl, _⟩ := h
        rw [allP_append] at hp
        refine T.seq (hC_ok hC' x ha hp.1) ?_
        rintro q rfl
        exact hCk_ok hC' k y hb hp.2 hn hp2 h1 h2
      · cases h
    · rename_i hne
      have he : ex ≠ .norm := fun e => by subst e; exact hne _ _ _ _ h
      refine T.seq (T.post (hC_ok hC' x h hp) hn hp2) ?_
      rintro q rfl
      cases ex with
      | norm => exact absurd rfl he
      | exit i => exact h2 he
      | ret => exact h2 he
      | pan _ => exact h2 he
/-- The first pieces of a row, with hints; the end made tidy. -/
def hRunK (P : Program) (C : Cfg) (n base k : Nat) (c : Code) (rs : List RH) (ps : List (Option Bool)) (tds : List Td) (m keep : List Nat) (st : Tr × Hp) : Option ((Ex × Tr × Hp) × List Prop) :=
  match hCk P C n k c rs ps st with
  | some ((ex, st1), cs, [], []) => (match norm base tds m keep st1 with
    | some (st2, cs2) => some ((ex, st2), cs ++ cs2)
    | none => none)
  | _ => none
/-- It goes on behind the first pieces. -/
theorem runK_norm (hC' : CfgOK P C) {k : Nat} {c : Code} {Q : Ex × Tr × Hp → Prop} {rs : List RH} {ps : List (Option Bool)} {tds : List Td} {m keep : List Nat} {cs : List Prop} (h : hRunK P C n base k c rs ps tds m keep st = some ((.norm, st'), cs)) (hp : AllP cs) (hT : T P n base (dropC k c) st' Q) : T P n base c st Q := by
  unfold hRunK at h
  split at h
  · rename_i ex st1 cs1 h1
    split at h
    · rename_i st2 cs2 h2
      simp only [Option.some.injEq, Prod.mk.injEq] at h; obtain ⟨⟨rfl, rfl⟩, rfl⟩ := h
      rw [allP_append] at hp
      exact hCk_ok hC' k c h1 hp.1 h2 hp.2 (fun _ => hT) fun h => absurd rfl h
    · cases h
  · cases h
/-- It ends within the first pieces. -/
theorem runK_end (hC' : CfgOK P C) {k : Nat} {c : Code} {Q : Ex × Tr × Hp → Prop} {rs : List RH} {ps : List (Option Bool)} {tds : List Td} {m keep : List Nat} {cs : List Prop} {ex : Ex} (h : hRunK P C n base k c rs ps tds m keep st = some ((ex, st'), cs)) (hp : AllP cs) (he : ex ≠ .norm) (hQ : Q (ex, st')) : T P n base c st Q := by
  unfold hRunK at h
  split at h
  · rename_i ex st1 cs1 h1
    split at h
    · rename_i st2 cs2 h2
      simp only [Option.some.injEq, Prod.mk.injEq] at h; obtain ⟨⟨rfl, rfl⟩, rfl⟩ := h
      rw [allP_append] at hp
      exact hCk_ok hC' k c h1 hp.1 h2 hp.2 (fun h => absurd h he) fun _ => hQ
    · cases h
  · cases h
theorem run_end (hC' : CfgOK P C) {c : Code} {Q : Ex × Tr × Hp → Prop} {rs : List RH} {ps : List (Option Bool)} {tds : List Td} {m keep : List Nat} {cs : List Prop} {r : Ex × Tr × Hp} (h : hRun P C n base c rs ps tds m keep st = some (r, cs)) (hp : AllP cs) (hQ : Q r) : T P n base c st Q :=
  (run_ok hC' h hp).mono fun q e => by subst e; exact hQ
/-- The first piece is treated by itself. -/
theorem T.one {c : Code} {Q1 Q : Ex × Tr × Hp → Prop} (hs : isSeq c = true) (h1 : T P n base (cL c) st Q1) (h2 : ∀ r, Q1 r → match r.1 with | .norm => T P n base (dropC 1 c) r.2 Q | _ => Q r) : T P n base c st Q := by
  cases c <;> first | (simp [isSeq] at hs; done) | skip
  refine T.seq h1 fun r hr => ?_
  have := h2 r hr
  obtain ⟨ex, st2⟩ := r
  cases ex <;> exact this

/-! ### calls in a memory of their own -/
def shf (n o : Nat) : Option Nat := some (n + o)
def shH (n : Nat) (H : Hp) : Option Hp := (renH (shf n) H).map (List.replicate n none ++ ·)
theorem vrt_pl {Y : Nat → Prop} {φ2 : Phi} : ∀ {ps : List PV} {vs : List Value}, VRT w Y φ (ps.map .pl) vs → VRT w Y φ2 (ps.map .pl) vs
  | [], vs, h => by simpa only [List.map_nil, VRT] using h
  | p :: ps, vs, h => by
    simp only [List.map_cons, VRT] at h ⊢
    obtain ⟨v, r, e, h1, h2⟩ := h
    exact ⟨v, r, e, by simpa only [VR] using h1, vrt_pl h2⟩
/-- A call that makes own memory does so behind what is there. -/
theorem CallS.shift {k : Nat} {ps : List PV} {v v2 : AV} {H2 H3 : Hp} (n : Nat) (h : CallS P true k (ps.map .pl) [] v H2) (hH3 : shH n H2 = some H3) (hv2 : renA (shf n) v = v2) : CallS P true k (ps.map .pl) (List.replicate n none) v2 H3 := by
  subst hv2
  obtain ⟨h1, _, h3⟩ := h
  refine ⟨h1, fun h => by (cases h), fun _ X φ w vs hH hv => ?_⟩
  obtain ⟨H4, hH4, rfl⟩ := Option.map_eq_some_iff.1 hH3
  obtain ⟨hl, hat⟩ := renH_at hH4
  have hlow : ∀ o z l, φ o ≠ .at z l := fun o z l e => by
    obtain ⟨x, hx⟩ := hH.live o z l e
    have : hget (List.replicate n none) o = none := by
      unfold hget
      rw [List.getElem?_replicate]
      by_cases ho : o < n
      · rw [if_pos ho]
      · rw [if_neg ho]
    rw [this] at hx; cases hx
  have hY : YOf X φ = X := funext fun b => propext ⟨fun h => h.resolve_right fun ⟨o, l, p, e, _⟩ => hlow o false l e, .inl⟩
  have hY0 : YOf X noPhi = X := funext fun b => propext ⟨fun h => h.resolve_right (noBlk b), .inl⟩
  refine (h3 (fun h => by cases h) X noPhi w vs (HR.empty hH.xlt) (by rw [hY0]; rw [hY] at hv; exact vrt_pl hv)).mono fun e w' hr => ?_
  obtain ⟨r, hm, u, φ2, he, k1, k2, k3, _, _⟩ := hr
  rw [List.mem_singleton] at hm; subst hm
  let φ3 : Phi := fun o => if o < n then φ o else φ2 (o - n)
  have hlo : ∀ o, o < n → φ3 o = φ o := fun o ho => by simp only [φ3, if_pos ho]
  have hhi : ∀ o, ¬ o < n → φ3 o = φ2 (o - n) := fun o ho => by simp only [φ3, if_neg ho]
  have src : ∀ o z l, φ3 o = .at z l → n ≤ o ∧ φ2 (o - n) = .at z l := fun o z l e => by
    by_cases ho : o < n
    · rw [hlo o ho] at e; exact absurd e (hlow o z l)
    · rw [hhi o ho] at e; exact ⟨by omega, e⟩
  have hYY : YOf X φ3 = YOf X φ2 := by
    funext b
    apply propext
    constructor
    · rintro (h | ⟨o, l, p, e, hA⟩)
      · exact .inl h
      · exact .inr ⟨o - n, l, p, (src o false l e).2, hA⟩
    · rintro (h | ⟨o, l, p, e, hA⟩)
      · exact .inl h
      · exact .inr ⟨n + o, l, p, by rw [hhi _ (by omega), Nat.add_sub_cancel_left]; exact e, hA⟩
  have hren : RenOK w' (YOf X φ2) (YOf X φ3) (shf n) φ2 φ3 := ⟨fun b hb => by rw [hYY] at hb; exact hb, fun o j hj => by
    simp only [shf, Option.some.injEq] at hj; subst hj
    rw [hhi _ (by omega), Nat.add_sub_cancel_left]⟩
  have hgt : ∀ o, hget (List.replicate n none ++ H4) o = if o < n then none else hget H4 (o - n) := fun o => by
    unfold hget
    by_cases ho : o < n
    · rw [if_pos ho, List.getElem?_append_left (by simp; exact ho), List.getElem?_replicate, if_pos ho]
    · rw [if_neg ho, List.getElem?_append_right (by simp; omega)]; simp
  have hlen : (List.replicate n (none : Option Ob) ++ H4).length = n + H2.length := by simp [hl]
  have hfr : ∀ o, n ≤ o → φ o = .fresh := fun o ho => hH.fresh o (by simp; exact ho)
  refine ⟨_, List.mem_singleton.2 rfl, u, φ3, he, VR.ren hren v u k1, ?_, ?_, by rw [hlen]; simp, fun k hk hf => ?_⟩
  · refine ⟨fun o ho => ?_, fun o z l ho => ?_, fun o y hy => ?_, fun o o' l l' b p p' ho ho' hA hA' => ?_, fun o l b p ho hA => ?_, fun b hb => ?_⟩
    · replace ho : n + H2.length ≤ o := by rw [← hlen]; exact ho
      rw [hhi _ (by omega)]; exact k2.fresh _ (show H2.length ≤ o - n by omega)
    · obtain ⟨hge, e⟩ := src o z l ho
      obtain ⟨x, hx⟩ := k2.live _ z l e
      obtain ⟨y, _, hy⟩ := (hat (o - n)).1 x hx
      exact ⟨y, by rw [hgt, if_neg (by omega)]; exact hy⟩
    · rw [hgt] at hy
      by_cases hlt : o < n
      · rw [if_pos hlt] at hy; cases hy
      · rw [if_neg hlt] at hy
        cases hx : hget H2 (o - n) with
        | none => rw [(hat (o - n)).2 hx] at hy; cases hy
        | some x =>
          obtain ⟨y', m1, m2⟩ := (hat (o - n)).1 x hx
          rw [hy] at m2; cases m2
          obtain ⟨z, l, hl2, hO⟩ := k2.ob _ x hx
          exact ⟨z, l, by rw [hhi _ hlt]; exact hl2, OR.ren hren m1 hO⟩
    · obtain ⟨g1, e1⟩ := src o false l ho
      obtain ⟨g2, e2⟩ := src o' false l' ho'
      have := k2.inj _ _ l l' b p p' e1 e2 hA hA'
      omega
    · obtain ⟨g1, e1⟩ := src o false l ho
      exact k2.out _ l b p e1 hA
    · exact k2.xlt b hb
  · refine ⟨k3.os, k3.tape, k3.output, k3.size, fun b hb _ => k3.heap b hb (noBlk b), fun b hb hc => ?_, fun o ho => ?_⟩
    · obtain ⟨o, l, p, e, hA⟩ := hc
      exact absurd (k3.blk b hb ⟨o - n, l, p, (src o false l e).2, hA⟩) (noBlk b)
    · left
      refine hlo o ?_
      rcases Nat.lt_or_ge o n with h | h
      · exact h
      · exact absurd (hfr o h) ho
  · rw [hlo k (by simpa using hk)]; exact hf
end
/-! ### words for what is reckoned -/
abbrev wr64 (n : Int) : Int := IntKind.i64.wrap n
abbrev wru8 (n : Int) : Int := IntKind.u8.wrap n
abbrev wru64 (n : Int) : Int := IntKind.u64.wrap n
abbrev wru32 (n : Int) : Int := IntKind.u32.wrap n
abbrev seq (a b : ByteArray) : Bool := decide (a.data.toList = b.data.toList)
abbrev slt (a b : ByteArray) : Bool := bytesLt a.data.toList b.data.toList
/-- So many elements of so many bytes have room. -/
def fit (n b : Nat) : Bool := Nat.ble (n * b) 140737488355328 && Nat.ble n 9223372036854775807
/-- An element by an index. -/
def at? {α : Type} (l : List α) (n : Int) : Option α := if 0 ≤ n then l[n.toNat]? else none
theorem at_some {α : Type} {l : List α} {n : Int} {x : α} (h : at? l n = some x) : n = ((n.toNat : Nat) : Int) ∧ l[n.toNat]? = some x := by
  unfold at? at h
  split at h
  · exact ⟨by omega, h⟩
  · cases h
theorem at_map {α β : Type} {l : List α} {k : Nat} {x : α} (f : α → β) (h : l[k]? = some x) : (l.map f)[k]? = some (f x) := by rw [List.getElem?_map, h]; rfl
theorem at_nat {α : Type} {l : List α} {k : Nat} : at? l (k : Int) = l[k]? := by unfold at?; rw [if_pos (by omega)]; rfl
theorem lt_of_at {α : Type} {l : List α} {k : Nat} {x : α} (h : l[k]? = some x) : k < l.length := (List.getElem?_eq_some_iff.1 h).1
end Go.Proofs.Ytelblamgfbkhbaa
