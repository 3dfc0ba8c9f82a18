/- Runs of code that has no loops, over values that are not known, with hints; calls. No condition. -/
import Derived.Test.YtelblamgfbkhbaaTA
namespace Go.Proofs.Ytelblamgfbkhbaa
set_option linter.unusedSimpArgs false
set_option linter.unusedVariables false
open Go.RowKit
/-- What is said of an operation whose outcome does not compute. -/
inductive Hint where
  | idx (i : Nat) (c : List PV)
  | at_ (i : Nat)
  | byte (i : Nat) (b : UInt8)
  | cut (lo hi : Nat)
  | fits
  | app (b : Bool)
  | nz
  | bool (b : Bool)
  | num (n : Nat)
  | ent (r : Option (Nat × PV))
  | call (v : AV) (H : Hp)
  | mset (kvs : List (PV × PV))
  | ment (v : PV) (i : Nat) (kvs : List (PV × PV))
  | mst (i : Nat) (k : PV) (w : PV)
  | look (v : PV) (b : Bool)
  | entr (j : Nat) (k v : PV)
  | bs (l : List UInt8)
  | pan (ch : List PanicEntry) (H2 : Hp) (keep : List Nat) (k : Nat) (args : List AV)
  | die (ch : List PanicEntry)
/-- A call that is made, and what it gives. -/
structure Ent where
  br : Bool
  k : Nat
  args : List AV
  H : Hp
  v : AV
  H' : Hp
/-- The call gives this. -/
def CallS (P : Program) (br : Bool) (k : Nat) (args : List AV) (H : Hp) (v : AV) (H' : Hp) : Prop :=
  Enters P k ∧ (br = false → plRes v = true) ∧ ((br = false → H = []) → ∀ X φ w vs, HR X φ H w → VRT w (YOf X φ) φ args vs → Calls P k vs.toArray w (Ret X φ H w [(v, H')]))
/-- The call panics, and leaves this. -/
def RetX (X : Nat → Prop) (φ : Phi) (H : Hp) (w : World) (ch : List PanicEntry) (H' : Hp) (e : Ending) (w' : World) : Prop :=
  e = .panicked ch ∧ ∃ φ', HR X φ' H' w' ∧ Ev φ w φ' w' ∧ H.length ≤ H'.length ∧ ∀ k, k < H.length → φ k = .fresh → φ' k = .fresh
def CallX (P : Program) (k : Nat) (args : List AV) (H : Hp) (ch : List PanicEntry) (H' : Hp) : Prop :=
  Enters P k ∧ ∀ X φ w vs, HR X φ H w → VRT w (YOf X φ) φ args vs → Calls P k vs.toArray w (RetX X φ H w ch H')
def Ent.ok (P : Program) (e : Ent) : Prop := CallS P e.br e.k e.args e.H e.v e.H'
def Ent.same (a b : Ent) : Prop := a.br = b.br → a.args = b.args → a.H = b.H → a.v = b.v ∧ a.H' = b.H'
def lookN {α : Type} (i : Nat) : List (Nat × α) → Option α
  | [] => none
  | (j, x) :: r => bif Nat.beq j i then some x else lookN i r
def intOf : AV → Option Int
  | .pl (.int _ n) => some n
  | _ => none
/-- An operand that is a bound: its number, or none. -/
def cutP : Option AV → Nat → Nat → List Prop → Option (List Prop)
  | none, k, d, cs => some ((k = d) :: cs)
  | some (.pl (.int _ n)), k, _, cs => some ((n = (k : Int)) :: cs)
  | some _, _, _, _ => none
def appP (nid : Nat) (H : Hp) (te : TI) (news : List (List PV)) (x : AV) (all : List Prop) : Option ((AV × Hp) × List Prop) :=
  match x with
  | .pl (.sl .nil _ []) => some ((.own nid, hput H nid (.row false te.size news)), (fitsB news.length te = true) :: all)
  | .pl (.sl .zc _ []) => some ((.own nid, hput H nid (.row false te.size news)), (fitsB news.length te = true) :: all)
  | .own o => match hget H o with
    | some (.row false sz es) => bif Nat.beq sz te.size then some ((.own nid, hput (hset H o none) nid (.row false sz (es ++ news))), (fitsB (es.length + news.length) te = true) :: all) else none
    | _ => none
  | _ => none
/-- What a look-up gives: the value, or zero; whether it is there. -/
def look (C : Cfg) (kt e : Nat) (k : PV) (kvs : List (PV × PV)) : Option (PV × Bool) :=
  bif keyV C.ty kt k then (match mfind C.ty kt k kvs 0 with
    | some (some (_, v)) => some (v, true)
    | some none => (match zeroOf C e with | some z => some (z, false) | none => none)
    | none => none) else none
def hPure (C : Cfg) (nid : Nat) (ρ : Operand → AV) (H : Hp) (op : Op) (h : Hint) : Option ((AV × Hp) × List Prop) :=
  match op, h with
  | .indexAddr t x i, .idx k c => match C.ty t, intOf (ρ i), ρ x with
    | some ti, some n, .pl (.sl _ sz es) => match ti.k with
      | .sl e => match C.ty e with | some te => bif Nat.beq sz te.size then some ((.ip c 0, H), [n = (k : Int), es[k]? = some c]) else none | none => none
      | _ => none
    | _, _, _ => none
  | .indexAddr t x i, .at_ k => match C.ty t, intOf (ρ i), ρ x with
    | some ti, some n, .own o => match ti.k, hget H o with
      | .sl e, some (.row _ sz es) => match C.ty e with | some te => bif Nat.beq sz te.size then some ((.ep o k 0, H), [n = (k : Int), k < es.length]) else none | none => none
      | _, _ => none
    | some ti, some n, .vw o off len => match ti.k, hget H o with
      | .sl e, some (.row _ sz es) => match C.ty e with | some te => bif Nat.beq sz te.size then some ((.ep o (off + k) 0, H), [n = (k : Int), k < len, off + len ≤ es.length]) else none | none => none
      | _, _ => none
    | some ti, some n, x => match ti.k with
      | .arr m e => match C.ty e with
        | some te => match x with
          | .bp o off => bif alive H o then some ((.bp o (off + k * te.size), H), [n = (k : Int), k < m]) else none
          | .ip c off => some ((.ip c (off + k * te.size), H), [n = (k : Int), k < m])
          | .ep o j off => bif alive H o then some ((.ep o j (off + k * te.size), H), [n = (k : Int), k < m]) else none
          | _ => none
        | none => none
      | _ => none
    | _, _, _ => none
  | .load t p, .idx _ c => match C.ty t, ρ p with
    | some ti, .ep o i off => match hget H o with
      | some (.row _ _ es) => bif ti.k.row then (bif Nat.ble (off + ti.size) c.length then some ((.pl (.agg ((c.drop off).take ti.size)), H), [es[i]? = some c]) else none) else (match c[off]? with | some p => some ((.pl p, H), [es[i]? = some c]) | none => none)
      | _ => none
    | _, _ => none
  | .store t p v, .idx _ c => match C.ty t, ρ p, plain H (ρ v) with
    | some ti, .ep o i off, some (q, H1) => match hget H1 o with
      | some (.row false sz es) => bif Nat.beq q.cells.length ti.size then (match putAt c off q.cells with | some c' => some ((.tup [], hset H1 o (some (.row false sz (es.set i c')))), [es[i]? = some c]) | none => none) else none
      | _ => none
    | _, _, _ => none
  | .index t x i, .byte k b => match C.ty t, ρ x, intOf (ρ i) with
    | some ti, .pl (.str s), some n => match ti.k with | .str => some ((.pl (.int .u8 (b.toNat : Int)), H), [n = (k : Int), s.data.toList[k]? = some b]) | _ => none
    | _, _, _ => none
  | .slice t x lo hi none, .cut a b => match C.ty t with
    | some ti => match ti.k with
      | .str => match ρ x with
        | .pl (.str s) => match cutP (lo.map ρ) a 0 [a ≤ b, b ≤ s.size] with
          | some cs => match cutP (hi.map ρ) b s.size cs with
            | some cs => some ((.pl (.str ⟨((s.data.toList.take b).drop a).toArray⟩), H), cs)
            | none => none
          | none => none
        | _ => none
      | .sl e => match C.ty e with
        | some te => match ρ x with
          | .pl (.sl .any sz es) => bif Nat.beq sz te.size then (match cutP (lo.map ρ) a 0 [a ≤ b, b ≤ es.length] with
            | some cs => match cutP (hi.map ρ) b es.length cs with
              | some cs => some ((.pl (.sl .any sz ((takeO (match hi with | some _ => some b | none => none) es).drop a)), H), cs)
              | none => none
            | none => none) else none
          | .own o => match hget H o with
            | some (.row _ sz es) => bif Nat.beq sz te.size then (match cutP (lo.map ρ) a 0 [a ≤ b, b ≤ es.length] with
              | some cs => match cutP (hi.map ρ) b es.length cs with
                | some cs => some ((.vw o a (b - a), H), cs)
                | none => none
              | none => none) else none
            | _ => none
          | .vw o off len => match hget H o with
            | some (.row _ sz es) => bif Nat.beq sz te.size then (match cutP (lo.map ρ) a 0 [a ≤ b, off + b ≤ es.length] with
              | some cs => match cutP (hi.map ρ) b len cs with
                | some cs => some ((.vw o (off + a) (b - a), H), cs)
                | none => none
              | none => none) else none
            | _ => none
          | _ => none
        | none => none
      | _ => none
    | none => none
  | .call c, .fits => match c.callee, c.argTypes.toList, c.args.toList with
    | .builtin .append, [t, t1], [x, y] => match C.ty t, bif srcTy C t1 (ρ y) then srcElems H (ρ y) else none with
      | some ti, some news => match ti.k with
        | .sl e => match C.ty e with
          | some te => bif !(news.all fun c => Nat.beq c.length te.size) || Nat.beq te.size 0 then none else
            (match news with | [] => none | a :: l => appP nid H te (a :: l) (ρ x) [])
          | none => none
        | _ => none
      | _, _ => none
    | _, _, _ => none
  | .call c, .app b => match c.callee, c.argTypes.toList, c.args.toList with
    | .builtin .append, [t, t1], [x, y] => match C.ty t, bif srcTy C t1 (ρ y) then srcElems H (ρ y) else none with
      | some ti, some news => match ti.k with
        | .sl e => match C.ty e with
          | some te => bif Nat.beq te.size 0 then none else
            bif b then appP nid H te news (ρ x) [news ≠ [], ∀ c ∈ news, c.length = te.size] else
            (match ρ x with
              | .pl (.sl f sz es) => some ((.pl (.sl f sz es), H), [news = []])
              | .own o => (match hget H o with | some (.row _ _ _) => some ((.own o, H), [news = []]) | _ => none)
              | .vw o a n => (match hget H o with | some (.row _ _ _) => some ((.vw o a n, H), [news = []]) | _ => none)
              | _ => none)
          | none => none
        | _ => none
      | _, _ => none
    | _, _, _ => none
  | .binOp op _ x y _, .nz => match op, ρ x, ρ y with
    | .quo, .pl (.int k a), .pl (.int k' b) => bif kindEq k k' then some ((.pl (.int k (k.wrap (a.tdiv b))), H), [b ≠ 0]) else none
    | .rem, .pl (.int k a), .pl (.int k' b) => bif kindEq k k' then some ((.pl (.int k (a.tmod b)), H), [b ≠ 0]) else none
    | _, _, _ => none
  | .binOp op _ x y _, .fits => match op, ρ x, ρ y with
    | .add, .pl (.str a), .pl (.str b) => some ((.pl (.str ⟨(a.data.toList ++ b.data.toList).toArray⟩), H), [a.size + b.size ≤ 9223372036854775807])
    | .shl, .pl (.int k a), .pl (.int _ b) => some ((.pl (.int k (k.wrap (a * 2 ^ (min b.toNat k.bits)))), H), [0 ≤ b])
    | .shr, .pl (.int k a), .pl (.int _ b) => some ((.pl (.int k (a.fdiv (2 ^ (min b.toNat k.bits)))), H), [0 ≤ b])
    | _, _, _ => none
  | .binOp op t x y _, .bool b => match op, ρ x, ρ y with
    | .eql, .pl (.agg p), .pl (.agg q) => (match C.ty t with | some ti => (match ti.k with | .struct _ => some ((.pl (.bool b), H), [eqV C.ty t (.agg p) (.agg q) = some b]) | _ => none) | none => none)
    | .neq, .pl (.agg p), .pl (.agg q) => (match C.ty t with | some ti => (match ti.k with | .struct _ => some ((.pl (.bool !b), H), [eqV C.ty t (.agg p) (.agg q) = some b]) | _ => none) | none => none)
    | .eql, .own o, .pl (.sl .nil _ _) => (match C.ty t, hget H o with | some ti, some (.row _ _ es) => (match ti.k with | .sl _ => some ((.pl (.bool false), H), [es ≠ []]) | _ => none) | _, _ => none)
    | .neq, .own o, .pl (.sl .nil _ _) => (match C.ty t, hget H o with | some ti, some (.row _ _ es) => (match ti.k with | .sl _ => some ((.pl (.bool true), H), [es ≠ []]) | _ => none) | _, _ => none)
    | _, _, _ => none
  | .pick c a b, .bool d => match ρ c with
    | .pl (.bool t) => some ((bif d then ρ a else ρ b, H), [t = d])
    | _ => none
  | .makeSlice t l c, .num k => match C.ty t, ρ l, ρ c with
    | some ti, .pl (.int _ n), .pl (.int _ m) => match ti.k with
      | .sl e => match C.ty e with
        | some te => bif Nat.beq te.size 0 then none else some ((.own nid, hput H nid (.row false te.size (List.replicate k te.zero))), [n = (k : Int), m = (k : Int), fitsB k te = true])
        | none => none
      | _ => none
    | _, _, _ => none
  | .convert s d x, .bs l => match C.ty s, C.ty d, ρ x with
    | some ts, some td, .pl (.sl _ sz es) => match td.k, ts.k with
      | .str, .sl e => match C.ty e with
        | some te => match te.k with
          | .int .u8 => bif Nat.beq sz 1 then some ((.pl (.str ⟨l.toArray⟩), H), [bytesOf es = some l]) else none
          | _ => none
        | none => none
      | _, _ => none
    | _, _, _ => none
  | .convert s d x, .fits => match C.ty s, C.ty d, ρ x with
    | some _, some td, .pl (.str b) => match td.k with
      | .sl e => match C.ty e with
        | some te => match te.k with
          | .int .u8 => bif Nat.beq te.size 1 then some ((.pl (.sl .any 1 (b.data.toList.map fun c => [.int .u8 (c.toNat : Int)])), H), [b.size ≤ 9223372036854775807]) else none
          | _ => none
        | none => none
      | _ => none
    | _, _, _ => none
  | .entry it, .entr j k v => match ρ it with
    | .it i => (match hget H i with
      | some (.iter o n seen) => (match hget H o with
        | some (.map kvs) => some ((.tup [.pl k, .pl v], H), [seen.getLast? = some j, kvs.length = n, kvs[j]? = some (k, v)])
        | _ => none)
      | _ => none)
    | _ => none
  | .mapUpdate t x k v, .mset kvs' => match mapTy C t, ρ x, ρ k, plain H (ρ v) with
    | some (kt, _), .mp o, .pl k, some (v, H1) => (match hget H1 o with
      | some (.map kvs) => some ((.tup [], hset H1 o (some (.map kvs'))), [mset C.ty kt k v kvs = some kvs'])
      | _ => none)
    | _, _, _, _ => none
  | .insert t x k v, .mset kvs' => match mapTy C t, ρ x, ρ k, plain H (ρ v) with
    | some (kt, _), .mp o, .pl k, some (v, H1) => (match hget H1 o with
      | some (.map kvs) => some ((.tup [], hset H1 o (some (.map kvs'))), [mset C.ty kt k v kvs = some kvs'])
      | _ => none)
    | _, _, _, _ => none
  | .mapEntry t x k, .ment v i kvs' => match mapTy C t, ρ x, ρ k with
    | some (kt, e), .mp o, .pl k => (match hget H o with
      | some (.map kvs) => some ((.tup [.pl v, .pl (.int .i64 (i : Int))], hset H o (some (.map kvs'))), [ment C kt e k kvs = some (v, i, kvs')])
      | _ => none)
    | _, _, _ => none
  | .entryStore _ x s v, .mst i k u => match ρ x, ρ s, plain H (ρ v) with
    | .mp o, .pl (.int _ n), some (v, H1) => (match hget H1 o with
      | some (.map kvs) => some ((.tup [], hset H1 o (some (.map (kvs.set i (k, v))))), [n = (i : Int), kvs[i]? = some (k, u)])
      | _ => none)
    | _, _, _ => none
  | .lookup t x k ok, .look v b => match mapTy C t, ρ k, mapOf H (ρ x) with
    | some (kt, e), .pl k, some kvs => some ((bif ok then .tup [.pl v, .pl (.bool b)] else .pl v, H), [look C kt e k kvs = some (v, b)])
    | _, _, _ => none
  | .lookup t x k ok, .ent r => match mapTy C t, ρ k, mapOf H (ρ x) with
    | some (kt, e), .pl k, some kvs => bif keyV C.ty kt k then (match r with
        | some (_, v) => some ((bif ok then .tup [.pl v, .pl (.bool true)] else .pl v, H), [mfind C.ty kt k kvs 0 = some r])
        | none => (match zeroOf C e with | some z => some ((bif ok then .tup [.pl z, .pl (.bool false)] else .pl z, H), [mfind C.ty kt k kvs 0 = some none]) | none => none)) else none
    | _, _, _ => none
  | _, _ => none

theorem optNat_none : optNat none = some none := rfl
theorem natOf_of {n : Int} {k : Nat} (h : n = (k : Int)) : natOf n = some k := by subst h; rfl
theorem optNat_cut {o : Option AV} {k d : Nat} {cs cs' : List Prop} (h : cutP o k d cs = some cs') (hp : AllP cs') : AllP cs ∧ ∃ r, optNat o = some r ∧ r.getD d = k ∧ (o = none → r = none) ∧ (o ≠ none → r = some k) := by
  unfold cutP at h
  split at h
  · simp only [Option.some.injEq] at h; subst h
    exact ⟨hp.2, none, rfl, hp.1.symm, fun _ => rfl, fun h => absurd rfl h⟩
  · simp only [Option.some.injEq] at h; subst h
    refine ⟨hp.2, some k, ?_, rfl, (fun h => by cases h), fun _ => rfl⟩
    rw [hp.1]; rfl
  · cases h
theorem natOf_i {n : Int} {k : Nat} (h : n = (k : Int)) : natOf n = some k := natOf_of h
theorem intOf_eq {a : AV} {n : Int} (h : intOf a = some n) : ∃ k, a = .pl (.int k n) := by
  unfold intOf at h
  split at h
  · simp only [Option.some.injEq] at h; subst h; exact ⟨_, rfl⟩
  · cases h
theorem ble_of {a b : Nat} (h : a ≤ b) : Nat.ble a b = true := by simpa using h
theorem blt_of {a b : Nat} (h : a < b) : Nat.blt a b = true := by rw [Nat.blt_eq]; exact h
section
variable {C : Cfg} {nid : Nat} {ρ : Operand → AV} {H : Hp}
theorem app_ok {te : TI} {news : List (List PV)} {x : AV} {all cs : List Prop} {r : AV × Hp} {t t1 e : Nat} {ti : TI} {y : AV} (h : appP nid H te news x all = some (r, cs)) (hp : AllP cs) (hti : C.ty t = some ti) (hk : ti.k = .sl e) (hte : C.ty e = some te)
    (hs : (bif srcTy C t1 y then srcElems H y else none) = some news) (hg : (!(news.all fun c => Nat.beq c.length te.size) || Nat.beq te.size 0) = false) (hne : news ≠ []) : evAppend C nid H t t1 x y = some r := by
  unfold evAppend
  simp only [hti, hs, hk, hte, hg, cond_false]
  cases news with
  | nil => exact absurd rfl hne
  | cons a l =>
    unfold appP at h
    split at h
    · simp only [Option.some.injEq, Prod.mk.injEq] at h; obtain ⟨rfl, rfl⟩ := h
      simp only [hp.1, cond_true]
    · simp only [Option.some.injEq, Prod.mk.injEq] at h; obtain ⟨rfl, rfl⟩ := h
      simp only [hp.1, cond_true]
    · split at h
      · rename_i sz es ho
        cases hb : Nat.beq sz te.size with
        | false => simp [hb] at h
        | true =>
          simp only [hb, cond_true, Option.some.injEq, Prod.mk.injEq] at h; obtain ⟨rfl, rfl⟩ := h
          simp only [ho, hp.1, hb, Bool.and_true, cond_true]
      · cases h
    · cases h
theorem all_len {news : List (List PV)} {n : Nat} (h : ∀ c ∈ news, c.length = n) : news.all (fun c => Nat.beq c.length n) = true := by
  rw [List.all_eq_true]; intro c hc; rw [h c hc]; simp
theorem hPure_ok {op : Op} {hh : Hint} {r : AV × Hp} {cs : List Prop} (h : hPure C nid ρ H op hh = some (r, cs)) (hp : AllP cs) : evPure C nid ρ H op = some r := by
  unfold hPure at h
  split at h
  · -- indexAddr, idx
    split at h
    · rename_i t x i k c ti n f sz es hti hn hx
      obtain ⟨kd, hn⟩ := intOf_eq hn
      split at h
      · rename_i e hk
        split at h
        · rename_i te hte
          cases hb : Nat.beq sz te.size with
          | false => simp [hb] at h
          | true =>
            simp only [hb, cond_true, Option.some.injEq, Prod.mk.injEq] at h; obtain ⟨rfl, rfl⟩ := h
            simp only [evPure, evIndexAddr, hti, hn, natOf_of hp.1, hk, hte, hx, hb, cond_true, hp.2.1, Option.map_some]
        · cases h
      · cases h
    · cases h
  · -- indexAddr, at
    split at h
    · rename_i t x i k ti n o hti hn hx
      obtain ⟨kd, hn⟩ := intOf_eq hn
      split at h
      · rename_i e sz es hk ho
        split at h
        · rename_i te hte
          cases hb : Nat.beq sz te.size with
          | false => simp [hb] at h
          | true =>
            simp only [hb, cond_true, Option.some.injEq, Prod.mk.injEq] at h; obtain ⟨rfl, rfl⟩ := h
            simp only [evPure, evIndexAddr, hti, hn, natOf_of hp.1, hk, hte, hx, ho, hb, blt_of hp.2.1, Bool.and_self, cond_true, Option.map_some]
        · cases h
      · cases h
    · rename_i t x i k ti n o off len hti hn hx
      obtain ⟨kd, hn⟩ := intOf_eq hn
      split at h
      · rename_i e sz es hk ho
        split at h
        · rename_i te hte
          cases hb : Nat.beq sz te.size with
          | false => simp [hb] at h
          | true =>
            simp only [hb, cond_true, Option.some.injEq, Prod.mk.injEq] at h; obtain ⟨rfl, rfl⟩ := h
            simp only [evPure, evIndexAddr, hti, hn, natOf_of hp.1, hk, hte, hx, ho, hb, blt_of hp.2.1, ble_of hp.2.2.1, Bool.and_self, cond_true, Option.map_some]
        · cases h
      · cases h
    · rename_i t x i k ti n hti hn _ _
      obtain ⟨kd, hn⟩ := intOf_eq hn
      split at h
      · rename_i m e hk
        split at h
        · rename_i te hte
          split at h
          · rename_i o off hx
            cases ha : alive H o with
            | false => simp [ha] at h
            | true =>
              simp only [ha, cond_true, Option.some.injEq, Prod.mk.injEq] at h; obtain ⟨rfl, rfl⟩ := h
              simp only [evPure, evIndexAddr, hti, hn, natOf_of hp.1, hk, hte, hx, ha, blt_of hp.2.1, cond_true, Option.map_some]
          · rename_i c off hx
            simp only [Option.some.injEq, Prod.mk.injEq] at h; obtain ⟨rfl, rfl⟩ := h
            simp only [evPure, evIndexAddr, hti, hn, natOf_of hp.1, hk, hte, hx, blt_of hp.2.1, cond_true, Option.map_some]
          · rename_i o j off hx
            cases ha : alive H o with
            | false => simp [ha] at h
            | true =>
              simp only [ha, cond_true, Option.some.injEq, Prod.mk.injEq] at h; obtain ⟨rfl, rfl⟩ := h
              simp only [evPure, evIndexAddr, hti, hn, natOf_of hp.1, hk, hte, hx, ha, blt_of hp.2.1, cond_true, Option.map_some]
          · cases h
        · cases h
      · cases h
    · cases h
  · -- load
    rename_i t p _ c
    split at h
    · rename_i ti o i off hti hpx
      split at h
      · rename_i fz sz es ho
        cases hr : ti.k.row with
        | true =>
          simp only [hr, cond_true] at h
          cases hb : Nat.ble (off + ti.size) c.length with
          | false => simp [hb] at h
          | true =>
            simp only [hb, cond_true, Option.some.injEq, Prod.mk.injEq] at h; obtain ⟨rfl, rfl⟩ := h
            simp only [evPure, evLoad, hti, hpx, ho, hp.1, hr, hb, cond_true, Option.map_some]
        | false =>
          simp only [hr, cond_false] at h
          split at h
          · rename_i q hq
            simp only [Option.some.injEq, Prod.mk.injEq] at h; obtain ⟨rfl, rfl⟩ := h
            simp only [evPure, evLoad, hti, hpx, ho, hp.1, hr, cond_false, hq, Option.map_some]
          · cases h
      · cases h
    · cases h
  · -- store
    rename_i t p v _ c
    split at h
    · rename_i ti o i off q H1 hti hpx hpl
      split at h
      · rename_i sz es ho
        cases hb : Nat.beq q.cells.length ti.size with
        | false => simp [hb] at h
        | true =>
          simp only [hb, cond_true] at h
          split at h
          · rename_i c' hc'
            simp only [Option.some.injEq, Prod.mk.injEq] at h; obtain ⟨rfl, rfl⟩ := h
            simp only [evPure, evStore, hti, hpx, hpl, ho, hp.1, hb, cond_true, hc', Option.map_some]
          · cases h
      · cases h
    · cases h
  · -- index of a string
    split at h
    · rename_i t x i k b ti s n hti hx hn
      obtain ⟨kd, hn⟩ := intOf_eq hn
      split at h
      · rename_i hk
        simp only [Option.some.injEq, Prod.mk.injEq] at h; obtain ⟨rfl, rfl⟩ := h
        simp only [evPure, evIndex, hti, hx, hn, hk, natOf_of hp.1, hp.2.1, Option.map_some]
      · cases h
    · cases h
  · -- slice
    rename_i t x lo hi a b
    split at h
    · rename_i ti hti
      split at h
      · rename_i hk
        split at h
        · rename_i s hx
          split at h
          · rename_i cs1 hc1
            split at h
            · rename_i cs2 hc2
              simp only [Option.some.injEq, Prod.mk.injEq] at h; obtain ⟨rfl, rfl⟩ := h
              obtain ⟨hp1, rh, h1, h2, _, _⟩ := optNat_cut hc2 hp
              obtain ⟨hp2, rl, k1, k2, _, _⟩ := optNat_cut hc1 hp1
              simp only [evPure, evSlice, hti, k1, h1, Option.map_none, optNat_none, hk, hx, k2, h2, ble_of hp2.1, ble_of hp2.2.1, Bool.and_self, cond_true, Option.map_some]
            · cases h
          · cases h
        · cases h
      · rename_i e hk
        split at h
        · rename_i te hte
          split at h
          · rename_i sz es hx
            cases hb : Nat.beq sz te.size with
            | false => simp [hb] at h
            | true =>
              simp only [hb, cond_true] at h
              split at h
              · rename_i cs1 hc1
                split at h
                · rename_i cs2 hc2
                  simp only [Option.some.injEq, Prod.mk.injEq] at h; obtain ⟨rfl, rfl⟩ := h
                  obtain ⟨hp1, rh, h1, h2, h3, h4⟩ := optNat_cut hc2 hp
                  obtain ⟨hp2, rl, k1, k2, _, _⟩ := optNat_cut hc1 hp1
                  simp only [evPure, evSlice, hti, k1, h1, Option.map_none, optNat_none, hk, hte, hx, hb, k2, h2, ble_of hp2.1, ble_of hp2.2.1, Bool.not_true, cond_false, Bool.and_self, cond_true, Option.map_some]
                  cases hi with
                  | none => rw [h3 rfl]
                  | some q => rw [h4 (by simp)]
                · cases h
              · cases h
          · rename_i o hx
            split at h
            · rename_i fz sz es ho
              cases hb : Nat.beq sz te.size with
              | false => simp [hb] at h
              | true =>
                simp only [hb, cond_true] at h
                split at h
                · rename_i cs1 hc1
                  split at h
                  · rename_i cs2 hc2
                    simp only [Option.some.injEq, Prod.mk.injEq] at h; obtain ⟨rfl, rfl⟩ := h
                    obtain ⟨hp1, rh, h1, h2, h3, h4⟩ := optNat_cut hc2 hp
                    obtain ⟨hp2, rl, k1, k2, _, _⟩ := optNat_cut hc1 hp1
                    simp only [evPure, evSlice, hti, k1, h1, Option.map_none, optNat_none, hk, hte, hx, ho, hb, vwOf, k2, h2, ble_of hp2.1, ble_of hp2.2.1, Bool.and_self, cond_true, Option.map_some, Nat.zero_add]
                  · cases h
                · cases h
            · cases h
          · rename_i o off len hx
            split at h
            · rename_i fz sz es ho
              cases hb : Nat.beq sz te.size with
              | false => simp [hb] at h
              | true =>
                simp only [hb, cond_true] at h
                split at h
                · rename_i cs1 hc1
                  split at h
                  · rename_i cs2 hc2
                    simp only [Option.some.injEq, Prod.mk.injEq] at h; obtain ⟨rfl, rfl⟩ := h
                    obtain ⟨hp1, rh, h1, h2, h3, h4⟩ := optNat_cut hc2 hp
                    obtain ⟨hp2, rl, k1, k2, _, _⟩ := optNat_cut hc1 hp1
                    have e1 : Nat.ble off es.length = true := ble_of (by have := hp2.2.1; omega)
                    have e2 : Nat.ble b (es.length - off) = true := ble_of (by have := hp2.2.1; omega)
                    simp only [evPure, evSlice, hti, k1, h1, Option.map_none, optNat_none, hk, hte, hx, ho, hb, vwOf, k2, h2, ble_of hp2.1, e1, e2, Bool.and_self, cond_true, Option.map_some]
                  · cases h
                · cases h
            · cases h
          · cases h
        · cases h
      · cases h
    · cases h
  · -- append of values
    rename_i c
    split at h
    · rename_i t t1 x y hcal hts has
      split at h
      · rename_i ti news hti hs
        split at h
        · rename_i e hk
          split at h
          · rename_i te hte
            cases hg : (!(news.all fun c => Nat.beq c.length te.size) || Nat.beq te.size 0) with
            | true => simp [hg] at h
            | false =>
              simp only [hg, cond_false] at h
              split at h
              · cases h
              · have := app_ok h hp hti hk hte hs hg (by simp)
                simp only [evPure, hcal, hts, has, List.map_cons, List.map_nil, evBuiltin, this]
          · cases h
        · cases h
      · cases h
    · cases h
  · -- append of a list
    rename_i c b
    split at h
    · rename_i t t1 x y hcal hts has
      split at h
      · rename_i ti news hti hs
        split at h
        · rename_i e hk
          split at h
          · rename_i te hte
            cases hz : Nat.beq te.size 0 with
            | true => simp [hz] at h
            | false =>
              simp only [hz, cond_false] at h
              cases b with
              | true =>
                simp only [cond_true] at h
                have hcs : AllP [news ≠ [], ∀ c ∈ news, c.length = te.size] := by
                  unfold appP at h
                  split at h
                  · simp only [Option.some.injEq, Prod.mk.injEq] at h; obtain ⟨_, rfl⟩ := h; exact hp.2
                  · simp only [Option.some.injEq, Prod.mk.injEq] at h; obtain ⟨_, rfl⟩ := h; exact hp.2
                  · split at h
                    · rename_i sz es ho
                      cases hb : Nat.beq sz te.size with
                      | false => simp [hb] at h
                      | true => simp only [hb, cond_true, Option.some.injEq, Prod.mk.injEq] at h; obtain ⟨_, rfl⟩ := h; exact hp.2
                    · cases h
                  · cases h
                have hg : (!(news.all fun c => Nat.beq c.length te.size) || Nat.beq te.size 0) = false := by rw [all_len hcs.2.1, hz]; rfl
                have := app_ok h hp hti hk hte hs hg hcs.1
                simp only [evPure, hcal, hts, has, List.map_cons, List.map_nil, evBuiltin, this]
              | false =>
                simp only [cond_false] at h
                have fin : ∀ r : AV × Hp, news = [] → (match ρ x with | .pl (.sl f sz es) => some (AV.pl (.sl f sz es), H) | .own o => (match hget H o with | some (.row _ _ _) => some (.own o, H) | _ => none) | .vw o a n => (match hget H o with | some (.row _ _ _) => some (.vw o a n, H) | _ => none) | _ => none) = some r → evPure C nid ρ H (.call c) = some r := fun r hn hr => by
                  subst hn
                  have : evAppend C nid H t t1 (ρ x) (ρ y) = some r := by
                    unfold evAppend
                    simp only [hti, hs, hk, hte, List.all_nil, Bool.not_true, Bool.false_or, hz, cond_false]
                    exact hr
                  simp only [evPure, hcal, hts, has, List.map_cons, List.map_nil, evBuiltin, this]
                split at h
                · rename_i f sz es hx
                  simp only [Option.some.injEq, Prod.mk.injEq] at h; obtain ⟨rfl, rfl⟩ := h
                  exact fin _ hp.1 (by simp only [hx])
                · rename_i o hx
                  split at h
                  · rename_i ho
                    simp only [Option.some.injEq, Prod.mk.injEq] at h; obtain ⟨rfl, rfl⟩ := h
                    exact fin _ hp.1 (by simp only [hx, ho])
                  · cases h
                · rename_i o a n hx
                  split at h
                  · rename_i ho
                    simp only [Option.some.injEq, Prod.mk.injEq] at h; obtain ⟨rfl, rfl⟩ := h
                    exact fin _ hp.1 (by simp only [hx, ho])
                  · cases h
                · cases h
          · cases h
        · cases h
      · cases h
    · cases h
  · -- division
    split at h
    · rename_i t x y t' k a k' b hx hy
      cases hb : kindEq k k' with
      | false => simp [hb] at h
      | true =>
        simp only [hb, cond_true, Option.some.injEq, Prod.mk.injEq] at h; obtain ⟨rfl, rfl⟩ := h
        have : decide (b = 0) = false := by simpa using hp.1
        simp only [evPure, evBin, hx, hy, hb, cond_true, binI, this, cond_false, Option.map_some]
    · rename_i t x y t' k a k' b hx hy
      cases hb : kindEq k k' with
      | false => simp [hb] at h
      | true =>
        simp only [hb, cond_true, Option.some.injEq, Prod.mk.injEq] at h; obtain ⟨rfl, rfl⟩ := h
        have : decide (b = 0) = false := by simpa using hp.1
        simp only [evPure, evBin, hx, hy, hb, cond_true, binI, this, cond_false, Option.map_some]
    · cases h
  · -- strings, shifts
    split at h
    · rename_i t x y t' a b hx hy
      simp only [Option.some.injEq, Prod.mk.injEq] at h; obtain ⟨rfl, rfl⟩ := h
      simp only [evPure, evBin, hx, hy, binS, ble_of hp.1, cond_true, Option.map_some]
    · rename_i t x y t' k a k' b hx hy
      simp only [Option.some.injEq, Prod.mk.injEq] at h; obtain ⟨rfl, rfl⟩ := h
      have : decide (b < 0) = false := by have := hp.1; simp; omega
      simp only [evPure, evBin, hx, hy, shI, this, cond_false, Option.map_some]
    · rename_i t x y t' k a k' b hx hy
      simp only [Option.some.injEq, Prod.mk.injEq] at h; obtain ⟨rfl, rfl⟩ := h
      have : decide (b < 0) = false := by have := hp.1; simp; omega
      simp only [evPure, evBin, hx, hy, shI, this, cond_false, Option.map_some]
    · cases h
  · -- equality
    split at h
    · rename_i t x y t' b p q hx hy
      split at h
      · rename_i ti hti
        split at h
        · rename_i fs hk
          simp only [Option.some.injEq, Prod.mk.injEq] at h; obtain ⟨rfl, rfl⟩ := h
          have h1 := hp.1
          simp only [evPure, evBin, hx, hy, evEq, hti, hk, h1, Option.map_some]
        · cases h
      · cases h
    · rename_i t x y t' b p q hx hy
      split at h
      · rename_i ti hti
        split at h
        · rename_i fs hk
          simp only [Option.some.injEq, Prod.mk.injEq] at h; obtain ⟨rfl, rfl⟩ := h
          have h1 := hp.1
          simp only [evPure, evBin, hx, hy, evEq, hti, hk, h1, Option.map_some]
        · cases h
      · cases h
    · rename_i t x y t' b o sz es' hx hy
      split at h
      · rename_i ti fz sz2 es hti ho
        split at h
        · rename_i e hk
          simp only [Option.some.injEq, Prod.mk.injEq] at h; obtain ⟨rfl, rfl⟩ := h
          cases es with
          | nil => exact absurd rfl hp.1
          | cons a l => simp only [evPure, evBin, hx, hy, evEq, hti, hk, ho, Option.map_some]
        · cases h
      · cases h
    · rename_i t x y t' b o sz es' hx hy
      split at h
      · rename_i ti fz sz2 es hti ho
        split at h
        · rename_i e hk
          simp only [Option.some.injEq, Prod.mk.injEq] at h; obtain ⟨rfl, rfl⟩ := h
          cases es with
          | nil => exact absurd rfl hp.1
          | cons a l => simp only [evPure, evBin, hx, hy, evEq, hti, hk, ho, Option.map_some, Bool.not_false]
        · cases h
      · cases h
    · cases h
  · -- pick
    split at h
    · rename_i c a b d t hc
      simp only [Option.some.injEq, Prod.mk.injEq] at h; obtain ⟨rfl, rfl⟩ := h
      have h1 := hp.1
      simp only [evPure, hc, h1]
    · cases h
  · -- makeSlice
    rename_i t l c k
    split at h
    · rename_i ti kd n kd' m hti hl hc
      split at h
      · rename_i e hk
        split at h
        · rename_i te hte
          cases hz : Nat.beq te.size 0 with
          | true => simp [hz] at h
          | false =>
            simp only [hz, cond_false, Option.some.injEq, Prod.mk.injEq] at h; obtain ⟨rfl, rfl⟩ := h
            have hm : decide (m = (k : Int)) = true := by simpa using hp.2.1
            simp only [evPure, hti, hl, hc, hk, natOf_of hp.1, hte, hm, hp.2.2.1, hz, Bool.not_false, Bool.and_self, cond_true]
        · cases h
      · cases h
    · cases h
  · -- convert
    split at h
    · rename_i s d x l ts td f sz es hs hd hx
      split at h
      · rename_i e hk1 hk2
        split at h
        · rename_i te hte
          split at h
          · rename_i hk3
            cases hb : Nat.beq sz 1 with
            | false => simp [hb] at h
            | true =>
              simp only [hb, cond_true, Option.some.injEq, Prod.mk.injEq] at h; obtain ⟨rfl, rfl⟩ := h
              have h1 := hp.1
              simp only [evPure, evConv, hs, hd, hx, hk1, hk2, hte, hk3, h1, hb, cond_true, Option.map_some]
          · cases h
        · cases h
      · cases h
    · cases h
  · -- convert to bytes
    split at h
    · rename_i s d x ts td b hs hd hx
      split at h
      · rename_i e hk1
        split at h
        · rename_i te hte
          split at h
          · rename_i hk3
            cases hb : Nat.beq te.size 1 with
            | false => simp [hb] at h
            | true =>
              simp only [hb, cond_true, Option.some.injEq, Prod.mk.injEq] at h; obtain ⟨rfl, rfl⟩ := h
              have h1 := ble_of hp.1
              simp only [evPure, evConv, hs, hd, hx, hk1, hte, hk3, h1, hb, Bool.and_self, cond_true, Option.map_some]
          · cases h
        · cases h
      · cases h
    · cases h
  · -- entry
    split at h
    · rename_i it j k v i hit
      split at h
      · rename_i o n seen hi
        split at h
        · rename_i kvs ho
          simp only [Option.some.injEq, Prod.mk.injEq] at h; obtain ⟨rfl, rfl⟩ := h
          have h1 := hp.1
          have h2 := hp.2.1
          have h3 := hp.2.2.1
          have h4 : Nat.beq kvs.length n = true := by rw [h2]; simp
          simp only [evPure, evEntry, hit, hi, ho, h1, h3, h4, cond_true, Option.map_some]
        · cases h
      · cases h
    · cases h
  · -- mapUpdate
    split at h
    · rename_i t x k v kvs' kt e o kp vp H1 hmt hx hk hv
      split at h
      · rename_i kvs ho
        simp only [Option.some.injEq, Prod.mk.injEq] at h; obtain ⟨rfl, rfl⟩ := h
        simp only [evPure, evMapUpdate, hmt, hx, hk, hv, ho, hp.1, Option.map_some]
      · cases h
    · cases h
  · -- insert
    split at h
    · rename_i t x k v kvs' kt e o kp vp H1 hmt hx hk hv
      split at h
      · rename_i kvs ho
        simp only [Option.some.injEq, Prod.mk.injEq] at h; obtain ⟨rfl, rfl⟩ := h
        simp only [evPure, evMapUpdate, hmt, hx, hk, hv, ho, hp.1, Option.map_some]
      · cases h
    · cases h
  · -- mapEntry
    split at h
    · rename_i t x k v i kvs' kt e o kp hmt hx hk
      split at h
      · rename_i kvs ho
        simp only [Option.some.injEq, Prod.mk.injEq] at h; obtain ⟨rfl, rfl⟩ := h
        simp only [evPure, evMapEntry, hmt, hx, hk, ho, hp.1]
      · cases h
    · cases h
  · -- entryStore
    split at h
    · rename_i t x s v i kp u o kd n vp H1 hx hs hv
      split at h
      · rename_i kvs ho
        simp only [Option.some.injEq, Prod.mk.injEq] at h; obtain ⟨rfl, rfl⟩ := h
        simp only [evPure, evEntryStore, hx, hs, hv, ho, natOf_of hp.1, hp.2.1, Option.map_some]
      · cases h
    · cases h
  · -- lookup, told whole
    split at h
    · rename_i t x k ok v b kt e kp kvs hmt hk hm
      simp only [Option.some.injEq, Prod.mk.injEq] at h; obtain ⟨rfl, rfl⟩ := h
      have hl := hp.1
      unfold look at hl
      cases hkv : keyV C.ty kt kp with
      | false => simp [hkv] at hl
      | true =>
        simp only [hkv, cond_true] at hl
        simp only [evPure, evLookup, hmt, hk, hm, hkv, cond_true]
        split at hl
        · rename_i i v' hf
          simp only [Option.some.injEq, Prod.mk.injEq] at hl; obtain ⟨rfl, rfl⟩ := hl
          simp only [hf, Option.map_some]
        · rename_i hf
          split at hl
          · rename_i z hz
            simp only [Option.some.injEq, Prod.mk.injEq] at hl; obtain ⟨rfl, rfl⟩ := hl
            simp only [hf, hz, Option.map_some]
          · cases hl
        · cases hl
    · cases h
  · -- lookup
    split at h
    · rename_i t x k ok r kt e kp kvs hmt hk hm
      cases hkv : keyV C.ty kt kp with
      | false => simp [hkv] at h
      | true =>
        simp only [hkv, cond_true] at h
        split at h
        · rename_i i v
          simp only [Option.some.injEq, Prod.mk.injEq] at h; obtain ⟨rfl, rfl⟩ := h
          simp only [evPure, evLookup, hmt, hk, hm, hkv, cond_true, hp.1, Option.map_some]
        · split at h
          · rename_i z hz
            simp only [Option.some.injEq, Prod.mk.injEq] at h; obtain ⟨rfl, rfl⟩ := h
            simp only [evPure, evLookup, hmt, hk, hm, hkv, cond_true, hp.1, hz, Option.map_some]
          · cases h
    · cases h
  · cases h
end
end Go.Proofs.Ytelblamgfbkhbaa
