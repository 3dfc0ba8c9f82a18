/- Several texts in one. No condition. -/
import Derived.Test.YtbgjlpdeoljmiaaTC
import Derived.RangeFuncRecord
namespace Go.Proofs.Ytbgjlpdeoljmiaa
set_option linter.unusedSimpArgs false
set_option linter.unusedVariables false
open Go.RowKit
inductive Td where
 | mat (t sz : Nat)          -- a slot's nil slice becomes an own row
 | matA (t i sz : Nat)       -- that in a cell of a slot's struct
 | matC (o i sz : Nat)       -- that in a cell of a variable
 | frz (t : Nat)             -- a slot's own rows are given up
 | frzC (o i : Nat)          -- that of a cell of a variable
 | frzO (o : Nat)            -- an own row is given up
 | wk (t : Nat) (v : AV)     -- less is known
 | mov (t : Nat)             -- a slot's own row gets a new number
 | kil (o : Nat)             -- own memory is given up
 | movC (v i : Nat)          -- the own row that a variable's cell names gets a new number
 | movCv (v i : Nat)         -- the own row of which a variable's cell names a part gets a new number
 | movV (t : Nat)            -- the same, of a slot
 | wkC (v i : Nat) (x : AV)  -- less is known of a variable's cell
 | ovw (t n : Nat)           -- a slot's own row is said as the whole part of it
 | ovwC (v i n : Nat)        -- the same, in a variable's cell
 | toA (o k : Nat) (es : List PV)  -- a variable's cells from one on are said as plain ones
 | unA (o : Nat)             -- and the other way round
 | mlt (o : Nat)             -- a row that holds others becomes a row, given up for writing
 | movD (t : Nat)            -- a slot's row that holds others gets a new number
def newRow'(sz:Nat):Ob:=bif Nat.blt sz 1000 then .row false sz [] else .drow (sz-1000) []
def szOf(sz:Nat):Nat:=bif Nat.blt sz 1000 then sz else sz-1000
def isNilS:AV→Bool
 | .pl (.sl .nil _ [])=>true
 | _=>false
def Qcu(st:Tr×Hp):Td→Option ((Tr×Hp)×List Prop)
 | .mat t sz=>bif isNilS (st.1.get 12 t) then some ((st.1.put 12 t (.own st.2.length),hput st.2 st.2.length (newRow' sz)),[]) else none
 | .matA t i sz=>bif isAggA (st.1.get 12 t) then (match (st.1.get 12 t).cells[i]? with
   | some c=>bif isNilS c then some ((st.1.put 12 t (.agg ((st.1.get 12 t).cells.set i (.own st.2.length))),hput st.2 st.2.length (newRow' sz)),[]) else none
   | none=>none) else none
 | .matC o i sz=>match hget st.2 o with
  | some (.box bt cs)=>(match cs[i]? with
   | some c=>bif isNilS c then some ((st.1,hput (hset st.2 o (some (.box bt (cs.set i (.own st.2.length))))) st.2.length (newRow' sz)),[]) else none
   | none=>none)
  | _=>none
 | .frz t=>match plain st.2 (st.1.get 12 t) with
  | some (p,H1)=>some ((st.1.put 12 t (.pl p),H1),[])
  | none=>none
 | .frzC o i=>match hget st.2 o with
  | some (.box _ cs)=>(match cs[i]? with
   | some c=>(match plain1 st.2 c with
    | some (p,H1)=>(match hget H1 o with
     | some (.box bt cs1)=>some ((st.1,hset H1 o (some (.box bt (cs1.set i (.pl p))))),[])
     | _=>none)
    | none=>none)
   | none=>none)
  | _=>none
 | .frzO o=>match hget st.2 o with
  | some (.row false sz es)=>some ((st.1,hset st.2 o (some (.row true sz es))),[])
  | _=>none
 | .wk t v=>some ((st.1.put 12 t v,st.2),[Wk (st.1.get 12 t) v])
 | .mov t=>match st.1.get 12 t with
  | .own o=>(match hget st.2 o with
   | some (.row false sz es)=>some ((st.1.put 12 t (.own st.2.length),hput (hset st.2 o none) st.2.length (.row false sz es)),[])
   | _=>none)
  | _=>none
 | .kil o=>match hget st.2 o with
  | some _=>some ((st.1,hset st.2 o none),[])
  | none=>none
 | .movC v i=>match hget st.2 v with
  | some (.box bt cs)=>(match cs[i]? with
   | some (.own o)=>(match hget st.2 o with
    | some (.row false sz es)=>some ((st.1,hset (hput (hset st.2 o none) st.2.length (.row false sz es)) v (some (.box bt (cs.set i (.own st.2.length))))),[])
    | _=>none)
   | _=>none)
  | _=>none
 | .movCv v i=>match hget st.2 v with
  | some (.box bt cs)=>(match cs[i]? with
   | some (.vw o p n)=>(match hget st.2 o with
    | some (.row false sz es)=>some ((st.1,hset (hput (hset st.2 o none) st.2.length (.row false sz es)) v (some (.box bt (cs.set i (.vw st.2.length p n))))),[])
    | _=>none)
   | _=>none)
  | _=>none
 | .movV t=>match st.1.get 12 t with
  | .vw o p n=>(match hget st.2 o with
   | some (.row false sz es)=>some ((st.1.put 12 t (.vw st.2.length p n),hput (hset st.2 o none) st.2.length (.row false sz es)),[])
   | _=>none)
  | _=>none
 | .wkC v i x=>match hget st.2 v with
  | some (.box bt cs)=>(match cs[i]? with
   | some c=>bif oneA x then some ((st.1,hset st.2 v (some (.box bt (cs.set i x)))),[Wk c x]) else none
   | none=>none)
  | _=>none
 | .ovw t n=>match st.1.get 12 t with
  | .own o=>(match hget st.2 o with
   | some (.row _ _ es)=>some ((st.1.put 12 t (.vw o 0 n),st.2),[es.length=n])
   | _=>none)
  | _=>none
 | .ovwC v i n=>match hget st.2 v with
  | some (.box bt cs)=>(match cs[i]? with
   | some (.own o)=>(match hget st.2 o with
    | some (.row _ _ es)=>some ((st.1,hset st.2 v (some (.box bt (cs.set i (.vw o 0 n))))),[es.length=n])
    | _=>none)
   | _=>none)
  | _=>none
 | .toA o k es=>match hget st.2 o with
  | some (.box bt cs)=>some ((st.1,hset st.2 o (some (.abox bt (cs.take k) es))),[cs.drop k=es.map .pl])
  | _=>none
 | .unA o=>match hget st.2 o with
  | some (.abox bt cs es)=>some ((st.1,hset st.2 o (some (.box bt (cs++es.map .pl)))),[])
  | _=>none
 | .mlt o=>some ((st.1,meltO st.2 o),[])
 | .movD t=>match st.1.get 12 t with
  | .own o=>(match hget st.2 o with
   | some (.drow sz es)=>some ((st.1.put 12 t (.own st.2.length),hput (hset st.2 o none) st.2.length (.drow sz es)),[])
   | _=>none)
  | _=>none
def tdSteps:List Td→Tr×Hp→Option ((Tr×Hp)×List Prop)
 | [],st=>some (st,[])
 | d::r,st=>match Qcu st d with
  | some (st1,cs)=>(match tdSteps r st1 with | some (st2,cs2)=>some (st2,cs++cs2) | none=>none)
  | none=>none
section
variable {P:Program} {C:Cfg} {w w':World} {X:Nat→Prop} {φ φ':Phi} {H H':Hp} {nid n base:Nat} {s:Tr} {a:Act} {D:List Deferred} {st st':Tr×Hp}
theorem own_vw{o sz:Nat}{fz:Bool}{es:List (List PV)}(hH:HR X φ H w)(hg:hget H o=some (.row fz sz es)){Y:Nat→Prop}{v:Value}(h:VR w Y φ (.own o) v):VR w Y φ (.vw o 0 es.length) v:=by
 simp only [VR] at h ⊢;obtain ⟨h1,h2,h3⟩:=h;refine ⟨h1,h2,fun z l hl=>⟨l.addr 0,l.c,?_⟩⟩;obtain ⟨z',l',hl',hO⟩:=hH.ob _ _ hg;rw [hl] at hl';cases hl';simp only [OR] at hO;obtain ⟨_,k1,k2,k3,k4,k5⟩:=hO;refine ⟨by rw [←k1]; exact h3 z l hl,by omega,rfl,fun hc=>⟨rfl,?_⟩⟩;rcases k5 with ⟨_,k5⟩|⟨b,p,t,cs,k5,_⟩
 ·omega
 ·simp [Loc.addr,k5]
theorem VRL.wkAt{Y:Nat→Prop}{a a2:AV}(ha:∀v,VR w Y φ a v→VR w Y φ a2 v)(ho:oneA a2=true):∀{cs:List AV} {vs:List Value} {i:Nat},cs[i]?=some a→VRL w Y φ cs vs→VRL w Y φ (cs.set i a2) vs
 | [],_,_,h,_=>by simp at h
 | c::cs,vs,0,h,hv=>by
  simp only [List.getElem?_cons_zero,Option.some.injEq] at h;subst h;simp only [VRL] at hv;obtain ⟨v,r,e,h1,h2,h3⟩:=hv;simp only [List.set_cons_zero,VRL];exact ⟨v,r,e,ho,ha v h2,h3⟩
 | c::cs,vs,i+1,h,hv=>by
  simp only [List.getElem?_cons_succ] at h;simp only [VRL] at hv;obtain ⟨v,r,e,h1,h2,h3⟩:=hv;simp only [List.set_cons_succ,VRL];exact ⟨v,r,e,h1,h2,VRL.wkAt ha ho h h3⟩
theorem HR.wkOb{o:Nat}{x0 y:Ob}(h:HR X φ H w)(hg:hget H o=some x0)(hw:∀z l,OR w (YOf X φ) φ z l x0→OR w (YOf X φ) φ z l y):HR X φ (hset H o (some y)) w where
 fresh k hk:=h.fresh k (by rw [Qv] at hk; exact hk)
 live k z l hk:=by
  rw [Qaa (Qbh hg)]
  by_cases e:k=o
  ·rw [if_pos e]; exact ⟨_,rfl⟩
  ·rw [if_neg e]; exact h.live k z l hk
 ob k x hk:=by
  rw [Qaa (Qbh hg)] at hk
  by_cases e:k=o
  ·rw [if_pos e] at hk;obtain rfl:=Option.some.inj hk;subst e;obtain ⟨z,l,hl,hO⟩:=h.ob _ _ hg;exact ⟨z,l,hl,hw z l hO⟩
  ·rw [if_neg e] at hk; exact h.ob k x hk
 inj:=h.inj
 out:=h.out
 xlt:=h.xlt
theorem HR.wkBox{o t:Nat}{cs cs2:List AV}(h:HR X φ H w)(hg:hget H o=some (.box t cs))(hw:∀vs,VRL w (YOf X φ) φ cs vs→VRL w (YOf X φ) φ cs2 vs):HR X φ (hset H o (some (.box t cs2))) w where
 fresh k hk:=h.fresh k (by rw [Qv] at hk; exact hk)
 live k z l hk:=by
  rw [Qaa (Qbh hg)]
  by_cases e:k=o
  ·rw [if_pos e]; exact ⟨_,rfl⟩
  ·rw [if_neg e]; exact h.live k z l hk
 ob k x hk:=by
  rw [Qaa (Qbh hg)] at hk
  by_cases e:k=o
  ·rw [if_pos e] at hk;obtain rfl:=Option.some.inj hk;subst e;obtain ⟨z,l,hl,hO⟩:=h.ob _ _ hg;refine ⟨z,l,hl,?_⟩;simp only [OR] at hO ⊢;obtain ⟨h1,b,vs,h2,h3,h4⟩:=hO;exact ⟨h1,b,vs,h2,h3,hw _ h4⟩
  ·rw [if_neg e] at hk; exact h.ob k x hk
 inj:=h.inj
 out:=h.out
 xlt:=h.xlt
theorem put_slots{Y:Nat→Prop}{s:Tr}{t:Nat}{v:AV}{f:Nat→Value}(h:∀k,VR w Y φ (s.get 12 k) (f k))(hv:VR w Y φ v (f t)):∀k,VR w Y φ ((s.put 12 t v).get 12 k) (f k):=by
 intro k
 by_cases e:k=t
 ·subst e;rcases Qca 12 s k v with h1 | h1
  ·rw [h1]; exact hv
  ·rw [h1]; simp only [VR]
 ·rw [Qbi 12 s t k v e]; exact h k
theorem nil_slice{v:AV}{u:Value}{Y:Nat→Prop}(h:isNilS v=true)(hv:VR w Y φ v u):u = .slice none 0 0:=by
 unfold isNilS at h
 split at h
 ·simp only [VR,PR,flOk] at hv;obtain ⟨A,c,rfl,_,_,⟨rfl,rfl⟩,_⟩:=hv;rfl
 ·cases h
theorem mat_ok(hH:HR X φ H w)(sz:Nat):Ev φ w (φ.set H.length (.at false ⟨none,0,0,szOf sz,noD⟩)) w∧HR X (φ.set H.length (.at false ⟨none,0,0,szOf sz,noD⟩)) (hput H H.length (newRow' sz)) w ∧
  VR w (YOf X (φ.set H.length (.at false ⟨none,0,0,szOf sz,noD⟩))) (φ.set H.length (.at false ⟨none,0,0,szOf sz,noD⟩)) (.own H.length) (.slice none 0 0):=by
 have hf:=hH.free;have ev:Ev φ w (φ.set H.length (.at false ⟨none,0,0,szOf sz,noD⟩)) w:=by
  refine ⟨rfl,rfl,⟨rfl,Nat.le_refl _⟩,Nat.le_refl _,fun _ _ _=>rfl,fun b _ hb=>?_,fun o ho=>.inl (Phi.set_ne fun e=>ho (by rw [e]; exact hf.fr))⟩;obtain ⟨o,l,p,ho,hA⟩:=hb
  by_cases e:o=H.length
  ·subst e; rw [Phi.set_self] at ho; cases ho; cases Loc.has_no hA
  ·rw [Phi.set_ne e] at ho; exact ⟨o,l,p,ho,hA⟩
 have hlen:=Qar (x:=newRow' sz) hf.le;refine ⟨ev,hH.next ev (fun o ho=>?_) (fun o z l ho=>?_) (fun o y hy=>?_) (fun o l b p ho hA=>?_),?_⟩
 ·rw [Phi.set_ne (by omega)]; exact hH.fresh o (by omega)
 ·by_cases e:o=H.length
  ·exact ⟨_,by rw [Qan hf.le,if_pos e]⟩
  ·rw [Phi.set_ne e] at ho;obtain ⟨y,hy⟩:=hH.live o z l ho;exact ⟨y,by rw [Qan hf.le,if_neg e]; exact hy⟩
 ·by_cases e:o=H.length
  ·rw [Qan hf.le,if_pos e] at hy; cases hy;refine .inr ⟨false,⟨none,0,0,szOf sz,noD⟩,by rw [e,Phi.set_self],?_⟩;unfold newRow' szOf;cases Nat.blt sz 1000
   ·simp only [OR,cond_false];exact ⟨trivial,fun k hk=>hk.elim,rfl,trivial,Nat.le_refl _,Nat.zero_le _,.inl ⟨trivial,trivial⟩⟩
   ·simp only [OR,cond_true];exact ⟨trivial,rfl,trivial,Nat.le_refl _,Nat.zero_le _,.inl ⟨trivial,trivial⟩⟩
  ·rw [Qan hf.le,if_neg e] at hy;exact .inl ⟨hy,Phi.set_ne e,fun _ _ _ _ _=>rfl⟩
 ·by_cases e:o=H.length
  ·subst e; rw [Phi.set_self] at ho; cases ho; cases Loc.has_no hA
  ·rw [Phi.set_ne e] at ho; exact .inl ho
 ·simp only [VR];refine ⟨rfl,(by rw [Phi.set_self]; intro h; cases h),fun z l hl=>?_⟩;rw [Phi.set_self] at hl; cases hl;simp [Loc.addr]
theorem VRL.set{Y:Nat→Prop} : ∀{cs:List AV} {vs:List Value} {i:Nat} {c:AV} {u:Value},VRL w Y φ cs vs→vs[i]?=some u→oneA c=true→VR w Y φ c u→VRL w Y φ (cs.set i c) vs
 | [],vs,i,c,u,h,_,_,_=>by simpa using h
 | x::cs,vs,0,c,u,h,hu,hc,hv=>by
  simp only [VRL] at h;obtain ⟨v,r,rfl,h1,h2,h3⟩:=h;simp at hu; subst hu;simp only [List.set_cons_zero,VRL];exact ⟨v,r,rfl,hc,hv,h3⟩
 | x::cs,vs,i+1,c,u,h,hu,hc,hv=>by
  simp only [VRL] at h;obtain ⟨v,r,rfl,h1,h2,h3⟩:=h;simp only [List.set_cons_succ,VRL];exact ⟨v,r,rfl,h1,h2,VRL.set h3 (by simpa using hu) hc hv⟩
theorem td_ok{d:Td}{cs:List Prop}(h:Qcu st d=some (st',cs))(hp:AllP cs)(hS:SR D X n st.1 st.2 φ a w)(hb:base≤st.2.length):∃φ',SR D X n st'.1 st'.2 φ' a w∧EvB base φ w φ' w∧base≤st'.2.length:=by
 have low:∀{φ':Phi},Ev φ w φ' w→(∀k,k<st.2.length→φ k = .fresh→φ' k = .fresh)→EvB base φ w φ' w:=fun ev hf=>ev.b fun o ho e=>hf o (by omega) e;cases d with
 | mat t sz =>
  simp only [Qcu] at h;cases hn:isNilS (st.1.get 12 t) with
  | false=>simp [hn] at h
  | true =>
   simp only [hn,cond_true,Option.some.injEq,Prod.mk.injEq] at h; obtain ⟨rfl,rfl⟩:=h;obtain ⟨ev,hH,hv⟩:=mat_ok hS.hr sz;have hu:=nil_slice hn (hS.slots t);refine ⟨_,⟨hS.defers,hS.size,put_slots (fun k=>VR.stay ev X _ _ (hS.slots k)) (by rw [hu]; exact hv),hH⟩,low ev fun k hk e=>by rw [Phi.set_ne (by omega)]; exact e,?_⟩;have:=(Qar (x:=newRow' sz) (Nat.le_refl st.2.length)).1;exact Nat.le_trans hb this
 | matA t i sz =>
  simp only [Qcu] at h;cases ha:isAggA (st.1.get 12 t) with
  | false=>simp [ha] at h
  | true =>
   simp only [ha,cond_true] at h
   split at h
   ·rename_i c hc;cases hn:isNilS c with
    | false=>simp [hn] at h
    | true =>
     simp only [hn,cond_true,Option.some.injEq,Prod.mk.injEq] at h; obtain ⟨rfl,rfl⟩:=h;obtain ⟨ev,hH,hv⟩:=mat_ok hS.hr sz;obtain ⟨vs,hu,hl⟩:=agg_cells ha (hS.slots t);obtain ⟨u,h1,_,h2⟩:=hl.at hc;have h3:=nil_slice hn h2;refine ⟨_,⟨hS.defers,hS.size,put_slots (fun k=>VR.stay ev X _ _ (hS.slots k)) ?_,hH⟩,low ev fun k hk e=>by rw [Phi.set_ne (by omega)]; exact e,?_⟩
     ·rw [hu];simp only [VR];exact ⟨vs,rfl,(VRL.stay ev X _ _ hl).set h1 rfl (by rw [h3]; exact hv)⟩
     ·have:=(Qar (x:=newRow' sz) (Nat.le_refl st.2.length)).1;exact Nat.le_trans hb this
   ·cases h
 | matC o i sz =>
  simp only [Qcu] at h
  split at h
  ·rename_i t cs0 ho
   split at h
   ·rename_i c hc;cases hn:isNilS c with
    | false=>simp [hn] at h
    | true =>
     simp only [hn,cond_true,Option.some.injEq,Prod.mk.injEq] at h; obtain ⟨rfl,rfl⟩:=h;obtain ⟨ev,hH,hv⟩:=mat_ok hS.hr sz;have hlt:=Qbh ho;have ho2:hget (hput st.2 st.2.length (newRow' sz)) o=some (.box t cs0):=by rw [Qan (Nat.le_refl _),if_neg (by omega)]; exact ho
     obtain ⟨z,l,hl,hO⟩:=hH.ob _ _ ho2;simp only [OR] at hO;obtain ⟨rfl,b,vs,hA,hg,hvs⟩:=hO;obtain ⟨u,h1,_,h2⟩:=hvs.at hc;have h3:=nil_slice hn h2;have hwr:=hH.write (x:=.box t (cs0.set i (.own st.2.length))) hl hA rfl rfl ⟨rfl,Nat.le_refl _⟩ rfl (fun _ _=>rfl) (by
      simp only [OR];exact ⟨trivial,b,vs,hA,hg,hvs.set h1 rfl (by rw [h3]; exact hv)⟩)
     have heq:hset (hput st.2 st.2.length (newRow' sz)) o (some (.box t (cs0.set i (.own st.2.length))))=hput (hset st.2 o (some (.box t (cs0.set i (.own st.2.length))))) st.2.length (newRow' sz):=by
      unfold hput;rw [show Nat.blt st.2.length st.2.length=false from by rw [Bool.eq_false_iff]; simp,show Nat.blt st.2.length (hset st.2 o (some (.box t (cs0.set i (.own st.2.length))))).length=false from by rw [Qv,Bool.eq_false_iff]; simp];simp only [cond_false,hset];rw [List.set_append_left _ _ hlt]
     rw [heq] at hwr;refine ⟨_,⟨hS.defers,hS.size,fun k=>VR.stay ev X _ _ (hS.slots k),hwr⟩,low ev fun k hk e=>by rw [Phi.set_ne (by omega)]; exact e,?_⟩;have:=(Qar (x:=newRow' sz) (H:=hset st.2 o (some (.box t (cs0.set i (.own st.2.length))))) (n:=st.2.length) (by rw [Qv]; exact Nat.le_refl _)).1;rw [Qv] at this;exact Nat.le_trans hb this
   ·cases h
  ·cases h
 | frz t =>
  simp only [Qcu] at h
  split at h
  ·rename_i p H1 hpl;simp only [Option.some.injEq,Prod.mk.injEq] at h; obtain ⟨rfl,rfl⟩:=h;obtain ⟨φ1,hH,ev,kp,hv⟩:=plain_ok hS.hr hpl (hS.slots t);refine ⟨φ1,⟨hS.defers,hS.size,put_slots (fun k=>VR.stay ev X _ _ (hS.slots k)) (by simp only [VR]; exact hv),hH⟩,low ev fun k _ e=>kp.1 k e,?_⟩;show base≤H1.length;rw [kp.2]; exact hb
  ·cases h
 | frzC o i =>
  simp only [Qcu] at h
  split at h
  ·rename_i t cs0 ho
   split at h
   ·rename_i c hc
    split at h
    ·rename_i p H1 hpl
     split at h
     ·rename_i t1 cs1 ho1;simp only [Option.some.injEq,Prod.mk.injEq] at h; obtain ⟨rfl,rfl⟩:=h;obtain ⟨z,l,hl,hO⟩:=hS.hr.ob _ _ ho;simp only [OR] at hO;obtain ⟨rfl,b,vs,hA,hg,hvs⟩:=hO;obtain ⟨u,h1,h1o,h2⟩:=hvs.at hc;obtain ⟨φ1,hH,ev,kp,hv⟩:=plain1_ok hS.hr hpl h2;obtain ⟨z1,l1,hl1,hO1⟩:=hH.ob _ _ ho1;simp only [OR] at hO1;obtain ⟨rfl,b1,vs1,hA1,hg1,hvs1⟩:=hO1;have hll:l1=l:=by
       rcases ev.ids o (by rw [hl]; intro h; cases h) with h | h | ⟨l2,_,h⟩
       ·rw [hl1,hl] at h; cases h; rfl
       ·rw [hl1] at h; cases h
       ·rw [hl1] at h; cases h
      subst hll;rw [hA] at hA1; cases hA1;rw [hg] at hg1;simp only [Option.some.injEq,Obj.cells.injEq] at hg1;obtain ⟨hvv,rfl,_⟩:=hg1;have hvv:vs=vs1:=by have:=congrArg Array.toList hvv; simpa using this
      subst hvv;have hwr:=hH.write (x:=.box t (cs1.set i (.pl p))) hl1 hA rfl rfl ⟨rfl,Nat.le_refl _⟩ rfl (fun _ _=>rfl) (by
       simp only [OR];exact ⟨trivial,b,vs,hA,hg,hvs1.set h1 (by have:=plain1_one hpl h1o; cases p<;>first | rfl | (simp [oneP] at this)) (by simp only [VR]; exact hv)⟩)
      refine ⟨φ1,⟨hS.defers,hS.size,fun k=>VR.stay ev X _ _ (hS.slots k),hwr⟩,low ev fun k _ e=>kp.1 k e,?_⟩;show base≤(hset H1 o _).length;rw [Qv,kp.2]; exact hb
     ·cases h
    ·cases h
   ·cases h
  ·cases h
 | frzO o =>
  simp only [Qcu] at h
  split at h
  ·rename_i sz es ho;simp only [Option.some.injEq,Prod.mk.injEq] at h; obtain ⟨rfl,rfl⟩:=h;obtain ⟨z,l,hl,hO⟩:=hS.hr.ob _ _ ho;have hv:VR w (YOf X φ) φ (.own o) (.slice (l.addr 0) l.n l.c):=by
    simp only [VR];exact ⟨rfl,(by rw [hl]; intro h; cases h),fun z' l' h'=>by rw [hl] at h'; cases h'; rfl⟩
   obtain ⟨φ1,hH,ev,kp,_⟩:=plain1_ok hS.hr (show plain1 st.2 (.own o)=some (.sl .any sz es,hset st.2 o (some (.row true sz es))) by simp only [plain1,ho]) hv;refine ⟨φ1,⟨hS.defers,hS.size,fun k=>VR.stay ev X _ _ (hS.slots k),hH⟩,low ev fun k _ e=>kp.1 k e,?_⟩;show base≤(hset st.2 o _).length;rw [Qv]; exact hb
  ·cases h
 | wk t v =>
  simp only [Qcu,Option.some.injEq,Prod.mk.injEq] at h; obtain ⟨rfl,rfl⟩:=h;exact ⟨φ,⟨hS.defers,hS.size,put_slots hS.slots (hp.1 _ _ _ _ (hS.slots t)),hS.hr⟩,EvB.refl _ _ _,hb⟩
 | wkC v i x =>
  simp only [Qcu] at h
  split at h
  ·rename_i bt cs hv
   split at h
   ·rename_i c hc;cases ho:oneA x with
    | false=>rw [ho] at h; cases h
    | true =>
     rw [ho] at h;simp only [cond_true,Option.some.injEq,Prod.mk.injEq] at h; obtain ⟨rfl,rfl⟩:=h;exact ⟨φ,⟨hS.defers,hS.size,hS.slots,hS.hr.wkBox hv fun vs hvs=>VRL.wkAt (fun u hu=>hp.1 _ _ _ _ hu) ho hc hvs⟩,EvB.refl _ _ _,by show base≤(hset st.2 v _).length; rw [Qv]; exact hb⟩
   ·cases h
  ·cases h
 | ovw t n =>
  simp only [Qcu] at h
  split at h
  ·rename_i o ht
   split at h
   ·rename_i fz sz es ho;simp only [Option.some.injEq,Prod.mk.injEq] at h; obtain ⟨rfl,rfl⟩:=h;have hn:es.length=n:=hp.1;subst hn;exact ⟨φ,⟨hS.defers,hS.size,put_slots hS.slots (own_vw hS.hr ho (by rw [←ht]; exact hS.slots t)),hS.hr⟩,EvB.refl _ _ _,hb⟩
   ·cases h
  ·cases h
 | ovwC v i n =>
  simp only [Qcu] at h
  split at h
  ·rename_i bt cs hv
   split at h
   ·rename_i o hc
    split at h
    ·rename_i fz sz es ho;simp only [Option.some.injEq,Prod.mk.injEq] at h; obtain ⟨rfl,rfl⟩:=h;have hn:es.length=n:=hp.1;subst hn;exact ⟨φ,⟨hS.defers,hS.size,hS.slots,hS.hr.wkBox hv fun vs hvs=>VRL.wkAt (fun u hu=>own_vw hS.hr ho hu) rfl hc hvs⟩,EvB.refl _ _ _,by show base≤(hset st.2 v _).length; rw [Qv]; exact hb⟩
    ·cases h
   ·cases h
  ·cases h
 | mov t =>
  simp only [Qcu] at h
  split at h
  ·rename_i o ht
   split at h
   ·rename_i sz es ho;simp only [Option.some.injEq,Prod.mk.injEq] at h; obtain ⟨rfl,rfl⟩:=h;obtain ⟨z,l,hl,hO⟩:=hS.hr.ob _ _ ho;have hz:z=false:=by simp only [OR] at hO; exact hO.1
    subst hz;have hv:=hS.slots t;rw [ht] at hv;obtain ⟨m1,m2⟩:=hS.hr.move hS.hr.free (w':=w) hl l (.row false sz es) rfl rfl ⟨rfl,Nat.le_refl _⟩ (Nat.le_refl _) (fun _ _ _=>rfl) (fun b p he=>.inl ⟨p,he⟩) (fun ev=>by
     have:=OR.stay ev X (fun _ _ _ _ _=>rfl) hO;exact this)
    have hlt:=Qbh ho;refine ⟨_,⟨hS.defers,hS.size,put_slots (fun k=>VR.stay m2 X _ _ (hS.slots k)) ?_,m1⟩,low m2 fun k hk e=>?_,Nat.le_trans hb (Qbs (Nat.le_refl _))⟩
    ·simp only [VR] at hv ⊢;rw [Phi.set_self];exact ⟨hv.1,fun h=>(by cases h),fun z' l' h'=>(by cases h'; exact hv.2.2 _ _ hl)⟩
    ·rw [Phi.set_ne (by omega),Phi.set_ne (fun e2=>by rw [e2] at e; rw [e] at hl; cases hl)]; exact e
   ·cases h
  ·cases h
 | kil o =>
  simp only [Qcu] at h
  split at h
  ·rename_i x ho;simp only [Option.some.injEq,Prod.mk.injEq] at h; obtain ⟨rfl,rfl⟩:=h;obtain ⟨z,l,hl,hO⟩:=hS.hr.ob _ _ ho;have ev:Ev φ w (φ.set o .dead) w:=Ev.kill o (by rw [hl]; intro h; cases h);refine ⟨_,⟨hS.defers,hS.size,fun k=>VR.stay ev X _ _ (hS.slots k),hS.hr.kill hl⟩,low ev fun k hk e=>?_,?_⟩
   ·rw [Phi.set_ne (fun e2=>by rw [e2] at e; rw [e] at hl; cases hl)]; exact e
   ·show base≤(hset st.2 o none).length;rw [Qv]; exact hb
  ·cases h
 | movC v i =>
  simp only [Qcu] at h
  split at h
  ·rename_i t cs0 hv0
   split at h
   ·rename_i o hc
    split at h
    ·rename_i sz es ho;simp only [Option.some.injEq,Prod.mk.injEq] at h; obtain ⟨rfl,rfl⟩:=h;obtain ⟨z0,l0,hl0,hO0⟩:=hS.hr.ob _ _ hv0;simp only [OR] at hO0;obtain ⟨rfl,b,vs,hA,hg,hvs⟩:=hO0;obtain ⟨u,h1,h1o,h2⟩:=hvs.at hc;obtain ⟨z,l,hl,hO⟩:=hS.hr.ob _ _ ho;have hz:z=false:=by simp only [OR] at hO; exact hO.1
     subst hz;obtain ⟨m1,m2⟩:=hS.hr.move hS.hr.free (w':=w) hl l (.row false sz es) rfl rfl ⟨rfl,Nat.le_refl _⟩ (Nat.le_refl _) (fun _ _ _=>rfl) (fun b p he=>.inl ⟨p,he⟩) (fun ev=>by
      have:=OR.stay ev X (fun _ _ _ _ _=>rfl) hO;exact this)
     have hlt:=Qbh ho;have hlt0:=Qbh hv0;have hne:v≠o:=by rintro rfl; rw [hv0] at ho; cases ho
     have ho2:hget (hput (hset st.2 o none) st.2.length (.row false sz es)) v=some (.box t cs0):=by
      rw [Qan (by rw [Qv]; exact Nat.le_refl _),if_neg (by omega),Qaa hlt,if_neg hne]; exact hv0
     obtain ⟨z1,l1,hl1,hO1⟩:=m1.ob _ _ ho2;simp only [OR] at hO1;obtain ⟨rfl,b1,vs1,hA1,hg1,hvs1⟩:=hO1;have hl2:=hl1;rw [Phi.set_ne (by omega),Phi.set_ne hne,hl0] at hl2;cases hl2;rw [hA] at hA1; cases hA1;rw [hg] at hg1;simp only [Option.some.injEq,Obj.cells.injEq] at hg1;have hvv:=hg1.1;have hvv:vs=vs1:=by have:=congrArg Array.toList hvv; simpa using this
     subst hvv;have hwr:=m1.write (x:=.box t (cs0.set i (.own st.2.length))) hl1 hA rfl rfl ⟨rfl,Nat.le_refl _⟩ rfl (fun _ _=>rfl) (by
      simp only [OR];refine ⟨trivial,b,vs,hA,hg,hvs1.set h1 rfl ?_⟩;simp only [VR] at h2 ⊢;rw [Phi.set_self];exact ⟨h2.1,fun h=>(by cases h),fun z' l' h'=>(by cases h'; exact h2.2.2 _ _ hl)⟩)
     refine ⟨_,⟨hS.defers,hS.size,fun k=>VR.stay m2 X _ _ (hS.slots k),hwr⟩,low m2 fun k hk e=>?_,?_⟩
     ·rw [Phi.set_ne (by omega),Phi.set_ne (fun e2=>by rw [e2] at e; rw [e] at hl; cases hl)]; exact e
     ·rw [Qv]; exact Nat.le_trans hb (Qbs (Nat.le_refl _))
    ·cases h
   ·cases h
  ·cases h
 | movCv v i =>
  simp only [Qcu] at h
  split at h
  ·rename_i t cs0 hv0
   split at h
   ·rename_i o p0 n0 hc
    split at h
    ·rename_i sz es ho;simp only [Option.some.injEq,Prod.mk.injEq] at h; obtain ⟨rfl,rfl⟩:=h;obtain ⟨z0,l0,hl0,hO0⟩:=hS.hr.ob _ _ hv0;simp only [OR] at hO0;obtain ⟨rfl,b,vs,hA,hg,hvs⟩:=hO0;obtain ⟨u,h1,h1o,h2⟩:=hvs.at hc;obtain ⟨z,l,hl,hO⟩:=hS.hr.ob _ _ ho;have hz:z=false:=by simp only [OR] at hO; exact hO.1
     subst hz;obtain ⟨m1,m2⟩:=hS.hr.move hS.hr.free (w':=w) hl l (.row false sz es) rfl rfl ⟨rfl,Nat.le_refl _⟩ (Nat.le_refl _) (fun _ _ _=>rfl) (fun b p he=>.inl ⟨p,he⟩) (fun ev=>by
      have:=OR.stay ev X (fun _ _ _ _ _=>rfl) hO;exact this)
     have hlt:=Qbh ho;have hlt0:=Qbh hv0;have hne:v≠o:=by rintro rfl; rw [hv0] at ho; cases ho
     have ho2:hget (hput (hset st.2 o none) st.2.length (.row false sz es)) v=some (.box t cs0):=by
      rw [Qan (by rw [Qv]; exact Nat.le_refl _),if_neg (by omega),Qaa hlt,if_neg hne]; exact hv0
     obtain ⟨z1,l1,hl1,hO1⟩:=m1.ob _ _ ho2;simp only [OR] at hO1;obtain ⟨rfl,b1,vs1,hA1,hg1,hvs1⟩:=hO1;have hl2:=hl1;rw [Phi.set_ne (by omega),Phi.set_ne hne,hl0] at hl2;cases hl2;rw [hA] at hA1; cases hA1;rw [hg] at hg1;simp only [Option.some.injEq,Obj.cells.injEq] at hg1;have hvv:=hg1.1;have hvv:vs=vs1:=by have:=congrArg Array.toList hvv; simpa using this
     subst hvv;have hwr:=m1.write (x:=.box t (cs0.set i (.vw st.2.length p0 n0))) hl1 hA rfl rfl ⟨rfl,Nat.le_refl _⟩ rfl (fun _ _=>rfl) (by
      simp only [OR];refine ⟨trivial,b,vs,hA,hg,hvs1.set h1 rfl ?_⟩;simp only [VR] at h2 ⊢;rw [Phi.set_self];exact ⟨h2.1,fun h=>(by cases h),fun z' l' h'=>(by cases h'; exact h2.2.2 _ _ hl)⟩)
     refine ⟨_,⟨hS.defers,hS.size,fun k=>VR.stay m2 X _ _ (hS.slots k),hwr⟩,low m2 fun k hk e=>?_,?_⟩
     ·rw [Phi.set_ne (by omega),Phi.set_ne (fun e2=>by rw [e2] at e; rw [e] at hl; cases hl)]; exact e
     ·rw [Qv]; exact Nat.le_trans hb (Qbs (Nat.le_refl _))
    ·cases h
   ·cases h
  ·cases h
 | movV t =>
  simp only [Qcu] at h
  split at h
  ·rename_i o p0 n0 ht
   split at h
   ·rename_i sz es ho;simp only [Option.some.injEq,Prod.mk.injEq] at h; obtain ⟨rfl,rfl⟩:=h;obtain ⟨z,l,hl,hO⟩:=hS.hr.ob _ _ ho;have hz:z=false:=by simp only [OR] at hO; exact hO.1
    subst hz;have hv:=hS.slots t;rw [ht] at hv;obtain ⟨m1,m2⟩:=hS.hr.move hS.hr.free (w':=w) hl l (.row false sz es) rfl rfl ⟨rfl,Nat.le_refl _⟩ (Nat.le_refl _) (fun _ _ _=>rfl) (fun b p he=>.inl ⟨p,he⟩) (fun ev=>by
     have:=OR.stay ev X (fun _ _ _ _ _=>rfl) hO;exact this)
    have hlt:=Qbh ho;refine ⟨_,⟨hS.defers,hS.size,put_slots (fun k=>VR.stay m2 X _ _ (hS.slots k)) ?_,m1⟩,low m2 fun k hk e=>?_,Nat.le_trans hb (Qbs (Nat.le_refl _))⟩
    ·simp only [VR] at hv ⊢;rw [Phi.set_self];exact ⟨hv.1,fun h=>(by cases h),fun z' l' h'=>(by cases h'; exact hv.2.2 _ _ hl)⟩
    ·rw [Phi.set_ne (by omega),Phi.set_ne (fun e2=>by rw [e2] at e; rw [e] at hl; cases hl)]; exact e
   ·cases h
  ·cases h
 | toA o k es =>
  simp only [Qcu] at h
  split at h
  ·rename_i bt cs0 ho;simp only [Option.some.injEq,Prod.mk.injEq] at h; obtain ⟨rfl,rfl⟩:=h;have hc:cs0.drop k=es.map AV.pl:=hp.1;have he:cs0.take k++es.map AV.pl=cs0:=by rw [←hc,List.take_append_drop]
   refine ⟨_,⟨hS.defers,hS.size,hS.slots,hS.hr.wkOb ho fun z l hO=>?_⟩,EvB.refl _ _ _,by rw [Qv]; exact hb⟩;simp only [OR] at hO ⊢;rw [he]; exact hO
  ·cases h
 | unA o =>
  simp only [Qcu] at h
  split at h
  ·rename_i bt cs0 es0 ho;simp only [Option.some.injEq,Prod.mk.injEq] at h; obtain ⟨rfl,rfl⟩:=h;refine ⟨_,⟨hS.defers,hS.size,hS.slots,hS.hr.wkOb ho fun z l hO=>?_⟩,EvB.refl _ _ _,by rw [Qv]; exact hb⟩;simp only [OR] at hO ⊢;exact hO
  ·cases h
 | movD t =>
  simp only [Qcu] at h
  split at h
  ·rename_i o ht
   split at h
   ·rename_i sz es ho;simp only [Option.some.injEq,Prod.mk.injEq] at h; obtain ⟨rfl,rfl⟩:=h;obtain ⟨z,l,hl,hO⟩:=hS.hr.ob _ _ ho;have hz:z=false:=by simp only [OR] at hO; exact hO.1
    subst hz;have hv:=hS.slots t;rw [ht] at hv;obtain ⟨m1,m2⟩:=hS.hr.move hS.hr.free (w':=w) hl l (.drow sz es) rfl rfl ⟨rfl,Nat.le_refl _⟩ (Nat.le_refl _) (fun _ _ _=>rfl) (fun b p he=>.inl ⟨p,he⟩) (fun ev=>by
     have:=OR.stay ev X (fun _ _ _ _ _=>rfl) hO;exact this)
    have hlt:=Qbh ho;refine ⟨_,⟨hS.defers,hS.size,put_slots (fun k=>VR.stay m2 X _ _ (hS.slots k)) ?_,m1⟩,low m2 fun k hk e=>?_,Nat.le_trans hb (Qbs (Nat.le_refl _))⟩
    ·simp only [VR] at hv ⊢;rw [Phi.set_self];exact ⟨hv.1,fun h=>(by cases h),fun z' l' h'=>(by cases h'; exact hv.2.2 _ _ hl)⟩
    ·rw [Phi.set_ne (by omega),Phi.set_ne (fun e2=>by rw [e2] at e; rw [e] at hl; cases hl)]; exact e
   ·cases h
  ·cases h
 | mlt o =>
  simp only [Qcu,Option.some.injEq,Prod.mk.injEq] at h; obtain ⟨rfl,rfl⟩:=h;obtain ⟨φ1,hH,ev,kp⟩:=meltO_ok hS.hr o;refine ⟨φ1,⟨hS.defers,hS.size,fun k=>VR.stay ev X _ _ (hS.slots k),hH⟩,low ev fun k _ e=>kp.1 k e,?_⟩;show base≤(meltO st.2 o).length;rw [kp.2]; exact hb
theorem tds_ok:∀{l:List Td} {st st':Tr×Hp} {φ:Phi} {cs:List Prop},tdSteps l st=some (st',cs)→AllP cs→SR D X n st.1 st.2 φ a w→base≤st.2.length→∃φ',SR D X n st'.1 st'.2 φ' a w∧EvB base φ w φ' w∧base≤st'.2.length
 | [],st,st',φ,cs,h,_,hS,hb=>by
  simp only [tdSteps,Option.some.injEq,Prod.mk.injEq] at h; obtain ⟨rfl,_⟩:=h;exact ⟨φ,hS,EvB.refl _ _ _,hb⟩
 | d::l,st,st',φ,cs,h,hp,hS,hb=>by
  simp only [tdSteps] at h
  split at h
  ·rename_i st1 cs1 h1
   split at h
   ·rename_i st2 cs2 h2;simp only [Option.some.injEq,Prod.mk.injEq] at h; obtain ⟨rfl,rfl⟩:=h;rw [Qy] at hp;obtain ⟨φ1,k1,k2,k3⟩:=td_ok h1 hp.1 hS hb;obtain ⟨φ2,m1,m2,m3⟩:=tds_ok h2 hp.2 k1 k3;exact ⟨φ2,m1,k2.trans m2,m3⟩
   ·cases h
  ·cases h
def norm(base:Nat)(tds:List Td)(m keep:List Nat)(st:Tr×Hp):Option ((Tr×Hp)×List Prop) :=
 match tdSteps tds st with
 | some (st1,cs)=>(match tidy base m keep st1 with | some st2=>some (st2,cs) | none=>none)
 | none=>none
theorem norm_ok{tds:List Td}{m keep:List Nat}{cs:List Prop}(h:norm base tds m keep st=some (st',cs))(hp:AllP cs)(hS:SR D X n st.1 st.2 φ a w)(hb:base≤st.2.length):∃φ',SR D X n st'.1 st'.2 φ' a w∧EvB base φ w φ' w∧base≤st'.2.length:=by
 unfold norm at h
 split at h
 ·rename_i st1 cs1 h1
  split at h
  ·rename_i st2 h2;simp only [Option.some.injEq,Prod.mk.injEq] at h; obtain ⟨rfl,rfl⟩:=h;obtain ⟨φ1,k1,k2,k3⟩:=tds_ok h1 hp hS hb;obtain ⟨φ2,m1,m2,m3⟩:=tidy_ok h2 k1;exact ⟨φ2,m1,k2.trans m2,m3⟩
  ·cases h
 ·cases h
theorem T.pre{tds:List Td}{m keep:List Nat}{cs:List Prop}{c:Code}{Q:Ex×Tr×Hp→Prop}(h:norm base tds m keep st=some (st',cs))(hp:AllP cs)(hT:T P n base c st' Q):T P n base c st Q:=by
 intro hc ro hro D X φ a w hS hb;obtain ⟨φ1,k1,k2,k3⟩:=norm_ok h hp hS hb;exact wp_from k2 (hT hc hro X φ1 a w k1 k3)
theorem T.post{tds:List Td}{m keep:List Nat}{cs:List Prop}{c:Code}{ex:Ex}{st0:Tr×Hp}(hT:T P n base c st fun r=>r=(ex,st0))(h:norm base tds m keep st0=some (st',cs))(hp:AllP cs):T P n base c st fun r=>r=(ex,st'):=by
 intro hc ro hro D X φ a w hS hb;refine Code.wpIn_mono ?_ (hT hc hro X φ a w hS hb)
 rintro e a' w' ⟨r,rfl,he,φ1,⟨ms,q1,q2,q3⟩,k2,k3⟩
 obtain ⟨φ2,m1,m2,m3⟩:=norm_ok h hp q1 k3;exact ⟨_,rfl,he,φ2,⟨ms,m1,q2.step m2,q3⟩,k2.trans m2,m3⟩
def hRun(P:Program)(C:Cfg)(n base:Nat)(c:Code)(rs:List RH)(ps:List (Option Bool))(tds:List Td)(m keep:List Nat)(st:Tr×Hp):Option ((Ex×Tr×Hp)×List Prop) :=
 match hC P C n c rs ps st with
 | some ((ex,st1),cs,[],[])=>(match norm base tds m keep st1 with
  | some (st2,cs2)=>some ((ex,st2),cs++cs2)
  | none=>none)
 | _=>none
theorem run_ok(hC':Qad P C){c:Code}{rs:List RH}{ps:List (Option Bool)}{tds:List Td}{m keep:List Nat}{r:Ex×Tr×Hp}{cs:List Prop}(h:hRun P C n base c rs ps tds m keep st=some (r,cs))(hp:AllP cs):T P n base c st fun x=>x=r:=by
 unfold hRun at h
 split at h
 ·rename_i ex st1 cs1 h1
  split at h
  ·rename_i st2 cs2 h2;simp only [Option.some.injEq,Prod.mk.injEq] at h; obtain ⟨rfl,rfl⟩:=h;rw [Qy] at hp;exact T.post (hC_ok hC' c h1 hp.1) h2 hp.2
  ·cases h
 ·cases h

def cL:Code→Code
 | .seq a _=>a
 | .cond _ a _=>a
 | .block _ a=>a
 | .loop a=>a
 | c=>c
def cR:Code→Code
 | .seq _ b=>b
 | .cond _ _ b=>b
 | c=>c
def isSeq:Code→Bool
 | .seq _ _=>true
 | _=>false
def isLoop:Code→Bool
 | .loop _=>true
 | _=>false
def isBlk:Code→Option Nat
 | .block i _=>some i
 | _=>none
def isCond:Code→Option Operand
 | .cond c _ _=>some c
 | _=>none
theorem T.loop'{f:Nat}{c:Code}{Q:Ex×Tr×Hp→Prop}(hs:isLoop c=true)(h:TL P n base f (cL c) st Q):T P n base c st Q:=by
 cases c<;>first | (simp [isLoop] at hs; done) | skip
 exact T.loop h
theorem T.block'{i:Nat}{c:Code}{Q:Ex×Tr×Hp→Prop}(hs:isBlk c=some i)(h:T P n base (cL c) st fun r=>Q (blkEx i r.1,r.2)):T P n base c st Q:=by
 cases c<;>first | (simp [isBlk] at hs; done) | skip
 simp only [isBlk,Option.some.injEq] at hs; subst hs;exact T.block h
theorem T.cond'{o:Operand}{c:Code}{b:Bool}{Q:Ex×Tr×Hp→Prop}(hs:isCond c=some o)(hv:val st.1 o = .pl (.bool b))(h1:b=true→T P n base (cL c) st Q)(h2:b=false→T P n base (cR c) st Q):T P n base c st Q:=by
 cases c<;>first | (simp [isCond] at hs; done) | skip
 simp only [isCond,Option.some.injEq] at hs; subst hs;exact T.cond hv h1 h2

structure Shut (w w2:World):Prop where
 size:w2.heap.size=w.heap.size
 heap:∀b:Nat,(∀x,w.heap[b]?≠some (.deferred x))→w2.heap[b]?=w.heap[b]?
theorem Shut.stay{w w2:World}(h:Shut w w2)(Y:Nat→Prop):Stay w Y w2 Y:=⟨by rw [h.size]; exact Nat.le_refl _,fun b _ _ hx=>h.heap b hx,fun _ _ h=>h⟩
theorem Shut.at_{w w2:World}(h:Shut w w2){b:Nat}{ob:Obj}(hg:w.heap[b]?=some ob)(hx:∀x,ob≠.deferred x):w2.heap[b]?=some ob:=by
 rw [h.heap b fun x e=>by rw [hg] at e; injection e with e; exact hx x e]; exact hg
mutual
theorem VR.shut{w w2:World}{Y:Nat→Prop}{φ:Phi}(h:Shut w w2):∀(a:AV)(v:Value),VR w Y φ a v→VR w2 Y φ a v
 | .pl p,v,ha=>by simp only [VR] at ha ⊢; exact PR.stay (h.stay Y) p v ha
 | .un,_,_=>by simp only [VR]
 | .agg cs,v,ha=>by
  simp only [VR] at ha ⊢;obtain ⟨vs,e,hl⟩:=ha;exact ⟨vs,e,VRL.shut h cs vs hl⟩
 | .tup cs,v,ha=>by
  simp only [VR] at ha ⊢;obtain ⟨vs,e,hl⟩:=ha;exact ⟨vs,e,VRT.shut h cs vs hl⟩
 | .clo f cs,v,ha=>by
  simp only [VR] at ha ⊢;obtain ⟨vs,e,hl⟩:=ha;exact ⟨vs,e,VRT.shut h cs vs hl⟩
 | .own o,v,ha=>by simp only [VR] at ha ⊢; exact ha
 | .vw o off len,v,ha=>by simp only [VR] at ha ⊢; exact ha
 | .bp o i,v,ha=>by simp only [VR] at ha ⊢; exact ha
 | .ep o i j,v,ha=>by simp only [VR] at ha ⊢; exact ha
 | .ip cs i,v,ha=>by
  simp only [VR] at ha ⊢;obtain ⟨b,o,e,hY,hlt,hc⟩:=ha;exact ⟨b,o,e,hY,by rw [h.size]; exact hlt,PRC.stay (h.stay Y) (fun _ _=>(h.stay Y).cell hY) o cs hc⟩
 | .mp o,v,ha=>by simp only [VR] at ha ⊢; exact ha
 | .it o,v,ha=>by simp only [VR] at ha ⊢; exact ha
 | .yl o,v,ha=>by simp only [VR] at ha ⊢; exact ha
theorem VRL.shut{w w2:World}{Y:Nat→Prop}{φ:Phi}(h:Shut w w2):∀(cs:List AV)(vs:List Value),VRL w Y φ cs vs→VRL w2 Y φ cs vs
 | [],_,hp=>by simpa only [VRL] using hp
 | c::cs,vs,hp=>by
  simp only [VRL] at hp ⊢;obtain ⟨v,r,e,ho,hc,hr⟩:=hp;exact ⟨v,r,e,ho,VR.shut h c v hc,VRL.shut h cs r hr⟩
theorem VRT.shut{w w2:World}{Y:Nat→Prop}{φ:Phi}(h:Shut w w2):∀(cs:List AV)(vs:List Value),VRT w Y φ cs vs→VRT w2 Y φ cs vs
 | [],_,hp=>by simpa only [VRT] using hp
 | c::cs,vs,hp=>by
  simp only [VRT] at hp ⊢;obtain ⟨v,r,e,hc,hr⟩:=hp;exact ⟨v,r,e,VR.shut h c v hc,VRT.shut h cs r hr⟩
end
theorem OR.shut{w w2:World}{Y:Nat→Prop}{φ:Phi}(h:Shut w w2){z:Bool}{l:Loc}{x:Ob}(ho:OR w Y φ z l x):OR w2 Y φ z l x:=by
 cases x with
 | box bt cs =>
  simp only [OR] at ho ⊢;obtain ⟨hz,b,vs,hA,hg,hv⟩:=ho;exact ⟨hz,b,vs,hA,h.at_ hg (fun _ e=>by cases e),VRL.shut h cs vs hv⟩
 | abox bt cs es =>
  simp only [OR] at ho ⊢;obtain ⟨hz,b,vs,hA,hg,hv⟩:=ho;exact ⟨hz,b,vs,hA,h.at_ hg (fun _ e=>by cases e),VRL.shut h _ vs hv⟩
 | row fz sz es =>
  simp only [OR] at ho ⊢;obtain ⟨hz,h1,h2,h3,h4,h5⟩:=ho;refine ⟨hz,h1,h2,h3,h4,h5.imp id ?_⟩
  rintro ⟨b,p,t,cs,hA,hg,hs,hE,hY⟩
  have hbb:=h.at_ hg (fun _ e=>by cases e);exact ⟨b,p,t,cs,hA,hbb,hs,PRE.stay (h.stay Y) (fun o v hv=>by rw [World.cell?_of_block (w:=w) (a:=⟨b,o,none⟩) (hbb.trans hg.symm)]; exact hv) p es hE,hY⟩
 | drow sz es =>
  simp only [OR] at ho ⊢;obtain ⟨hz,h0,h1,h2,h3,h4,h5⟩:=ho;refine ⟨hz,fun k hk=>by
   obtain ⟨t,cs,hg⟩:=h0 k hk;exact ⟨t,cs,h.at_ hg (fun _ e=>by cases e)⟩,h1,h2,h3,h4,h5.imp id ?_⟩
  rintro ⟨b,p,t,cs,hA,hg,hs,hE,hY⟩
  have hbb:=h.at_ hg (fun _ e=>by cases e);exact ⟨b,p,t,cs,hA,hbb,hs,PRE.stay (h.stay fun k=>¬l.D k) (fun o v hv=>by rw [World.cell?_of_block (w:=w) (a:=⟨b,o,none⟩) (hbb.trans hg.symm)]; exact hv) p es hE,hY⟩
 | brow e s =>
  simp only [OR] at ho ⊢;obtain ⟨hz,h1,b,cs,hA,hg,h2⟩:=ho;exact ⟨hz,h1,b,cs,hA,h.at_ hg (fun _ e=>by cases e),h2⟩
 | map kvs =>
  simp only [OR] at ho ⊢;obtain ⟨hz,b,es,hA,hg,hm⟩:=ho;exact ⟨hz,b,es,hA,h.at_ hg (fun _ e=>by cases e),MR.stay (h.stay Y) 0 kvs es.toList hm⟩
 | iter o n seen =>
  simp only [OR] at ho ⊢;obtain ⟨hz,b,hA,hn,hm⟩:=ho;exact ⟨hz,b,hA,hn,fun z lo hlo=>by
   obtain ⟨m,h1,h2⟩:=hm z lo hlo;exact ⟨m,h1,h.at_ h2 (fun _ e=>by cases e)⟩⟩
 | lp c st pend cs =>
  simp only [OR] at ho ⊢;obtain ⟨hz,b,fn,d,vs,hA,hg,hv⟩:=ho;exact ⟨hz,b,fn,d,vs,hA,h.at_ hg (fun _ e=>by cases e),VRT.shut h cs vs hv⟩
theorem HR.shut{w w2:World}(h:Shut w w2)(hH:HR X φ H w):HR X φ H w2:=⟨hH.fresh,hH.live,fun o x hx=>by
 obtain ⟨z,l,h1,h2⟩:=hH.ob o x hx;exact ⟨z,l,h1,h2.shut h⟩,hH.inj,fun o l b p h1 h2=>by rw [h.size]; exact hH.out o l b p h1 h2,⟨fun b hb=>by rw [h.size]; exact hH.xlt b hb,fun x hx=>by
  obtain ⟨h1,t,fr,h2⟩:=hH.xlt.tab x hx;exact ⟨h1,t,fr,h.at_ h2 (fun _ e=>by cases e)⟩⟩⟩

theorem leaves_marks{f:Func}{tmps:Array Value}{R:Ending→World→Prop} : ∀(ms:List Deferred)(w:World),ms.Pairwise (fun a b=>a≠b)→(∀m∈ms,∃d,m = { target:=.collected d,args:=#[] }∧w.heap[d]?=some (.deferred (some []))) →
  (∀w':World,w'.os=w.os→w'.tape=w.tape→w'.output=w.output→w'.drawn=w.drawn→w'.heap.size=w.heap.size→(∀b,(∀m∈ms,m≠{ target:=.collected b,args:=#[] })→w'.heap[b]?=w.heap[b]?)→∃v,(results f tmps).run P w' = .ok v w'∧R (.returned v) w') →
  LeavesInM Fence.wide 0 P f tmps R ms .returning w
 | [],w,_,_,h=>h w rfl rfl rfl rfl rfl fun _ _=>rfl
 | m::ms,w,hp,hm,h=>by
  obtain ⟨d,rfl,hg⟩:=hm m List.mem_cons_self;have hp':=List.pairwise_cons.1 hp;refine ⟨by simp,.inl ⟨d,_,rfl,run_takeDeferred hg,leaves_marks ms _ hp'.2 (fun m2 hm2=>?_) fun w' h1 h2 h3 h4 h5 h6=>h w' h1 h2 h3 h4 (by rw [h5]; simp) fun b hb=>?_⟩⟩
  ·obtain ⟨d2,rfl,hg2⟩:=hm m2 (List.mem_cons_of_mem _ hm2);have hne:d2≠d:=fun e=>hp'.1 _ hm2 (by rw [e]);exact ⟨d2,rfl,(World.putObj_heap_other hne).trans hg2⟩
  ·have hne:b≠d:=fun e=>hb _ List.mem_cons_self (by rw [e]);exact (h6 b fun m2 hm2=>hb m2 (List.mem_cons_of_mem _ hm2)).trans (World.putObj_heap_other hne)
def RetQ(C:Cfg)(rs:List ResultVar)(v:AV)(r:Ex×Tr×Hp):Prop:=(r.1 = .ret∨r.1 = .norm)∧∃u u',evRet C r.2.1 r.2.2 rs=some u∧plainR r.2.2 u=some u'∧Wk u' v
def RetS(C:Cfg)(rs:List ResultVar)(v:AV)(H':Hp)(r:Ex×Tr×Hp):Prop:=(r.1 = .ret∨r.1 = .norm)∧evRet C r.2.1 r.2.2 rs=some v∧r.2.2=H'
theorem enter_ok(hC:Qad P C){k:Nat}{f:Func}{c:Code}{args:List AV}{vs:List Value}(hf:C.fn k=some f)(hb:f.body=some c)(hle:args.length≤f.ntmps)(hH:HR X φ H w)(hv:VRT w (YOf X φ) φ args vs){Q:Ex×Tr×Hp→Prop}{R:Ending→World→Prop}
  (hT:T P f.ntmps H.length c (Qai args 0 .leaf,H) Q) (hQ:∀r a' w' φ',Q r→SR [] X f.ntmps r.2.1 r.2.2 φ' a' w'→Ev φ w φ' w'→H.length≤r.2.2.length→(∀k,k<H.length→φ k = .fresh→φ' k = .fresh)→(r.1 = .ret∨r.1 = .norm)∧∃u,(results f a'.tmps).run P w' = .ok u w'∧R (.returned u) w') :
  Calls P k vs.toArray w R:=by
 have hfn:=hC.fn k f hf;refine callsIn_wide (n:=0).1 (callsIn_of_wp_marks hfn hb trivial ?_);have hlen:=hv.length;have hle':vs.length≤f.ntmps:=by rw [hlen]; exact hle
 have hS:SR [] X f.ntmps (Qai args 0 .leaf) H φ { tmps:=vs.toArray++Array.replicate (f.ntmps-vs.toArray.size) undef,defers:=[] } w:=by
  refine ⟨rfl,by simp; omega,fun t=>?_,hH⟩;have:=initS_ok 0 .leaf (fun _=>undef) hv (fun t=>by rw [Qcs]; simp only [VR]) t;have he:(vs.toArray++Array.replicate (f.ntmps-vs.toArray.size) undef).getD t undef=if 0≤t∧t<0+vs.length then (vs[t-0]?).getD undef else undef:=by
   rw [Array.getD_eq_getD_getElem?,Array.getElem?_append]
   by_cases ht:t<vs.length
   ·simp [ht]
   ·simp only [List.size_toArray,ht,if_false,Array.getElem?_replicate];have hn:¬(0≤t∧t<0+vs.length):=by omega
    rw [if_neg hn]
    split<;>rfl
  rw [he]; exact this
 refine Code.wpIn_mono ?_ (hT (hC.code k f c hf hb) (ro:=none) (.inl rfl) X φ _ w hS (Nat.le_refl _))
 rintro e a' w' ⟨r,hq,he,φ',⟨ms,h1,hms,_⟩,h2,h3⟩
 have hids:∀o,φ o≠.fresh→o<H.length:=fun o ho=>by
  rcases Nat.lt_or_ge o H.length with h | h
  ·exact h
  ·exact absurd (hH.fresh o h) ho
 have hda:a'.defers=ms:=by rw [h1.defers,List.append_nil]
 have key:∀w2:World,w2.os=w'.os→w2.tape=w'.tape→w2.output=w'.output→w2.drawn=w'.drawn→w2.heap.size=w'.heap.size→(∀b,(∀m∈ms,m≠{ target:=.collected b,args:=#[] })→w2.heap[b]?=w'.heap[b]?) →
   (r.1 = .ret∨r.1 = .norm)∧∃u,(results f a'.tmps).run P w2 = .ok u w2∧R (.returned u) w2:=fun w2 e1 e2 e3 e4 e5 e6=>by
  have hown:∀b,blkOf φ' b→w2.heap[b]?=w'.heap[b]?:=fun b hb=>e6 b fun m hm e=>by
   obtain ⟨d,f1,_,_,f4⟩:=hms.2 m hm;rw [f1] at e; injection e with e _; injection e with e; subst e;exact f4 hb
  have hX:∀b,b<w.heap.size→w2.heap[b]?=w'.heap[b]?:=fun b hb=>e6 b fun m hm e=>by
   obtain ⟨d,f1,f2,_,_⟩:=hms.2 m hm;rw [f1] at e; injection e with e _; injection e with e; subst e;omega
  have hsh:Shut w' w2:=⟨e5,fun b hb=>e6 b fun m hm e=>by
   obtain ⟨d,f1,_,f3,_⟩:=hms.2 m hm;rw [f1] at e; injection e with e _; injection e with e; subst e;exact hb _ f3⟩
  refine hQ r { a' with defers:=[] } w2 φ' hq ⟨rfl,h1.size,fun t=>VR.shut hsh _ _ (h1.slots t),h1.hr.shut hsh⟩ ⟨by rw [e1]; exact h2.os,by rw [e2]; exact h2.tape,⟨by rw [e3]; exact h2.output.1,by rw [e4]; exact h2.output.2⟩,by rw [e5]; exact h2.size,fun b hb hn=>(hX b hb).trans (h2.heap b hb hn),h2.blk,fun o ho=>h2.ids o (hids o ho) ho⟩ h3 (fun k hk hf=>h2.fr k hk hf)
 subst he;have fin:LeavesInM Fence.wide 0 P f a'.tmps R a'.defers .returning w':=by
  rw [hda];exact leaves_marks ms w' hms.1 (fun m hm=>by obtain ⟨d,f1,_,f3,_⟩:=hms.2 m hm; exact ⟨d,f1,f3⟩) fun w2 e1 e2 e3 e4 e5 e6=>(key w2 e1 e2 e3 e4 e5 e6).2
 have hex:=(key w' rfl rfl rfl rfl rfl fun _ _=>rfl).1;rcases hex with e | e<;>rw [e]<;>exact fin
theorem Qm.plain(hC:Qad P C){k:Nat}{f:Func}{c:Code}{args:List AV}{v:AV}(hf:C.fn k=some f)(hb:f.body=some c)(hle:Nat.ble args.length f.ntmps=true)(hv:plRes v=true)
  (hT:T P f.ntmps 0 c (Qai args 0 .leaf,[]) (RetQ C f.results.toList v)):Qm P false k args [] v []:=by
 refine ⟨enters_of (hC.fn k f hf) (hC.name k f hf) (by rw [hb]; rfl),fun _=>hv,fun _ X φ w vs hH hvs=>?_⟩;have hφ:φ=noPhi:=funext fun o=>hH.fresh o (Nat.zero_le _);subst hφ;refine enter_ok hC hf hb (ble_t hle) hH hvs hT fun r a' w' φ' ⟨hex,u,u',hr,hp,hw⟩ hS ev _ _=>⟨hex,?_⟩;obtain ⟨x,hx1,hx2⟩:=results_ok hC hS hr;obtain ⟨φ1,H1,k1,k2,k3,k4⟩:=plainR_ok hS.hr hp hx2;refine ⟨x,hx1,_,List.mem_singleton.2 rfl,x,noPhi,rfl,?_,HR.empty hS.hr.xlt.no,?_,Nat.le_refl _,fun _ _ _=>rfl⟩
 ·exact plRes_vr hv (fun b hb=>hb.imp id fun hc=>absurd hc (noBlk b)) (hw _ _ _ _ k4)
 ·exact ⟨ev.os,ev.tape,ev.output,ev.size,ev.heap,fun b hb hc=>absurd hc (noBlk b),fun o ho=>absurd rfl ho⟩
theorem Qm.shared(hC:Qad P C){k:Nat}{f:Func}{c:Code}{args:List AV}{v:AV}{H':Hp}(hf:C.fn k=some f)(hb:f.body=some c)(hle:Nat.ble args.length f.ntmps=true)
  (hT:T P f.ntmps H.length c (Qai args 0 .leaf,H) (RetS C f.results.toList v H')):Qm P true k args H v H':=by
 refine ⟨enters_of (hC.fn k f hf) (hC.name k f hf) (by rw [hb]; rfl),fun h=>by (cases h),fun _ X φ w vs hH hvs=>?_⟩;refine enter_ok hC hf hb (ble_t hle) hH hvs hT fun r a' w' φ' ⟨hex,hr,hh⟩ hS ev h1 h2=>⟨hex,?_⟩;obtain ⟨x,hx1,hx2⟩:=results_ok hC hS hr;subst hh;exact ⟨x,hx1,_,List.mem_singleton.2 rfl,x,φ',rfl,hx2,hS.hr,ev,h1,h2⟩
theorem Qm.wk{k:Nat}{args args':List AV}{v v':AV}(h:Qm P false k args [] v [])(ha:WkL args' args)(hv:Wk v v')(hp:plRes v'=true):Qm P false k args' [] v' []:=by
 obtain ⟨h1,h2,h3⟩:=h;refine ⟨h1,fun _=>hp,fun hb X φ w vs hH hvs=>(h3 hb X φ w vs hH (ha.vrt hvs)).mono fun e w' hr=>?_⟩;obtain ⟨r,hm,u,φ',he,k1,k2⟩:=hr;rw [List.mem_singleton] at hm; subst hm;exact ⟨_,List.mem_singleton.2 rfl,u,φ',he,hv _ _ _ _ k1,k2⟩
end
end Go.Proofs.Ytbgjlpdeoljmiaa
namespace Go.Proofs.Ytbgjlpdeoljmiaa
set_option linter.unusedSimpArgs false
set_option linter.unusedVariables false
open Go.RowKit
section
variable {P:Program} {C:Cfg} {w w':World} {X:Nat→Prop} {φ φ':Phi} {H H':Hp} {nid n base:Nat} {s:Tr} {a:Act} {D:List Deferred} {st st':Tr×Hp}
def Qk:Nat→Code→Code
 | 0,c=>c
 | k+1,.seq _ b=>Qk k b
 | _,c=>c
def hCk(P:Program)(C:Cfg)(n:Nat):Nat→Code→List RH→List (Option Bool)→Tr×Hp→Option ((Ex×Tr×Hp)×List Prop×List RH×List (Option Bool))
 | 0,_,rs,ps,st=>some ((.norm,st),[],rs,ps)
 | k+1,.seq a b,rs,ps,st=>match hC P C n a rs ps st with
  | some ((.norm,st1),cs,rs1,ps1)=>(match hCk P C n k b rs1 ps1 st1 with
   | some (r,cs2,rs2,ps2)=>some (r,cs++cs2,rs2,ps2)
   | none=>none)
  | x=>x
 | _,_,_,_,_=>none
theorem hCk_ok(hC':Qad P C){Q:Ex×Tr×Hp→Prop}{st2:Tr×Hp}{tds:List Td}{m keep:List Nat}{cs2:List Prop} : ∀(k:Nat)(c:Code){rs rs':List RH}{ps ps':List (Option Bool)}{st:Tr×Hp}{ex:Ex}{st1:Tr×Hp}{cs:List Prop},
  hCk P C n k c rs ps st=some ((ex,st1),cs,rs',ps')→AllP cs→norm base tds m keep st1=some (st2,cs2)→AllP cs2→(ex = .norm→T P n base (Qk k c) st2 Q)→(ex≠.norm→Q (ex,st2))→T P n base c st Q
 | 0,c,rs,rs',ps,ps',st,ex,st1,cs,h,hp,hn,hp2,h1,_=>by
  simp only [hCk,Option.some.injEq,Prod.mk.injEq] at h;obtain ⟨⟨rfl,rfl⟩,_⟩:=h;exact T.pre hn hp2 (h1 rfl)
 | k+1,c,rs,rs',ps,ps',st,ex,st1,cs,h,hp,hn,hp2,h1,h2=>by
  cases c<;>first | (simp [hCk] at h; done) | skip
  rename_i x y;simp only [hCk] at h
  split at h
  ·rename_i sta cs1 rs1 ps1 ha
   split at h
   ·rename_i r2 csb rsb psb hb;simp only [Option.some.injEq,Prod.mk.injEq] at h; obtain ⟨rfl,rfl,_⟩:=h;rw [Qy] at hp;refine T.seq (hC_ok hC' x ha hp.1) ?_
    rintro q rfl
    exact hCk_ok hC' k y hb hp.2 hn hp2 h1 h2
   ·cases h
  ·rename_i hne;have he:ex≠.norm:=fun e=>by subst e; exact hne _ _ _ _ h
   refine T.seq (T.post (hC_ok hC' x h hp) hn hp2) ?_
   rintro q rfl
   cases ex with
   | norm=>exact absurd rfl he
   | exit i=>exact h2 he
   | ret=>exact h2 he
   | pan _=>exact h2 he
def hRunK(P:Program)(C:Cfg)(n base k:Nat)(c:Code)(rs:List RH)(ps:List (Option Bool))(tds:List Td)(m keep:List Nat)(st:Tr×Hp):Option ((Ex×Tr×Hp)×List Prop) :=
 match hCk P C n k c rs ps st with
 | some ((ex,st1),cs,[],[])=>(match norm base tds m keep st1 with
  | some (st2,cs2)=>some ((ex,st2),cs++cs2)
  | none=>none)
 | _=>none
theorem runK_norm(hC':Qad P C){k:Nat}{c:Code}{Q:Ex×Tr×Hp→Prop}{rs:List RH}{ps:List (Option Bool)}{tds:List Td}{m keep:List Nat}{cs:List Prop} (h:hRunK P C n base k c rs ps tds m keep st=some ((.norm,st'),cs)) (hp:AllP cs) (hT:T P n base (Qk k c) st' Q):T P n base c st Q:=by
 unfold hRunK at h
 split at h
 ·rename_i ex st1 cs1 h1
  split at h
  ·rename_i st2 cs2 h2;simp only [Option.some.injEq,Prod.mk.injEq] at h; obtain ⟨⟨rfl,rfl⟩,rfl⟩:=h;rw [Qy] at hp;exact hCk_ok hC' k c h1 hp.1 h2 hp.2 (fun _=>hT) fun h=>absurd rfl h
  ·cases h
 ·cases h
theorem runK_end(hC':Qad P C){k:Nat}{c:Code}{Q:Ex×Tr×Hp→Prop}{rs:List RH}{ps:List (Option Bool)}{tds:List Td}{m keep:List Nat}{cs:List Prop}{ex:Ex} (h:hRunK P C n base k c rs ps tds m keep st=some ((ex,st'),cs)) (hp:AllP cs) (he:ex≠.norm) (hQ:Q (ex,st')):T P n base c st Q:=by
 unfold hRunK at h
 split at h
 ·rename_i ex st1 cs1 h1
  split at h
  ·rename_i st2 cs2 h2;simp only [Option.some.injEq,Prod.mk.injEq] at h; obtain ⟨⟨rfl,rfl⟩,rfl⟩:=h;rw [Qy] at hp;exact hCk_ok hC' k c h1 hp.1 h2 hp.2 (fun h=>absurd h he) fun _=>hQ
  ·cases h
 ·cases h
theorem run_end(hC':Qad P C){c:Code}{Q:Ex×Tr×Hp→Prop}{rs:List RH}{ps:List (Option Bool)}{tds:List Td}{m keep:List Nat}{cs:List Prop}{r:Ex×Tr×Hp}(h:hRun P C n base c rs ps tds m keep st=some (r,cs))(hp:AllP cs)(hQ:Q r):T P n base c st Q :=
 (run_ok hC' h hp).mono fun q e=>by subst e; exact hQ
theorem T.one{c:Code}{Q1 Q:Ex×Tr×Hp→Prop}(hs:isSeq c=true)(h1:T P n base (cL c) st Q1)(h2:∀r,Q1 r→match r.1 with | .norm=>T P n base (Qk 1 c) r.2 Q | _=>Q r):T P n base c st Q:=by
 cases c<;>first | (simp [isSeq] at hs; done) | skip
 refine T.seq h1 fun r hr=>?_;have:=h2 r hr;obtain ⟨ex,st2⟩:=r;cases ex<;>exact this


end
abbrev wr64(n:Int):Int:=IntKind.i64.wrap n
abbrev wru8(n:Int):Int:=IntKind.u8.wrap n
abbrev Qu(n:Int):Int:=IntKind.u64.wrap n
abbrev seq(a b:ByteArray):Bool:=decide (a.data.toList=b.data.toList)
def fit(n b:Nat):Bool:=Nat.ble (n*b) 140737488355328&&Nat.ble n 9223372036854775807
def at?{α:Type}(l:List α)(n:Int):Option α:=if 0≤n then l[n.toNat]? else none
theorem Qj{α:Type}{l:List α}{n:Int}{x:α}(h:at? l n=some x):n=((n.toNat:Nat):Int)∧l[n.toNat]?=some x:=by
 unfold at? at h
 split at h
 ·exact ⟨by omega,h⟩
 ·cases h
theorem Qs{α β:Type}{l:List α}{k:Nat}{x:α}(f:α→β)(h:l[k]?=some x):(l.map f)[k]?=some (f x):=by rw [List.getElem?_map,h]; rfl
theorem Qaq{α:Type}{l:List α}{k:Nat} : at? l (k:Int)=l[k]?:=by unfold at?; rw [if_pos (by omega)]; rfl
theorem lt_of_at{α:Type}{l:List α}{k:Nat}{x:α}(h:l[k]?=some x):k<l.length:=(List.getElem?_eq_some_iff.1 h).1
end Go.Proofs.Ytbgjlpdeoljmiaa
namespace Go.Proofs.Ytbgjlpdeoljmiaa
set_option linter.unusedSimpArgs false
set_option linter.unusedVariables false
open Go.RowKit
def mkS:List (Nat×AV)→Tr
 | []=>.leaf
 | (t,v)::r=>(mkS r).put 12 t v
def FUEL:Nat:=18446744073709551616
def req{α:Type}(b:Bool)(k:Option α):Option α:=bif b then k else none
def cInt(k:IntKind)(n:Int):List PV:=[.int k n]
def cBool(b:Bool):List PV:=[.bool b]
def cStr(s:ByteArray):List PV:=[.str s]
def cLst{α:Type}(sz:Nat)(c:α→List PV)(l:List α):List PV:=[.sl .any sz (l.map c)]
theorem ap{p:Prop}{l:List Prop}(h:p)(t:AllP l):AllP (p::l):=⟨h,t⟩
theorem an:AllP []:=trivial
theorem Qg{α:Type}{b:Bool}{x y:Option α}{o:α}(h:(bif b then x else y)=some o):(b=true∧x=some o)∨(b=false∧y=some o):=by
 cases b
 ·exact .inr ⟨rfl,h⟩
 ·exact .inl ⟨rfl,h⟩
theorem Qc{α β:Type}{m:Option α}{f:α→Option β}{o:β}(h:m.bind f=some o):∃x,m=some x∧f x=some o:=by
 cases m with
 | none=>cases h
 | some x=>exact ⟨x,rfl,h⟩
theorem Qp{α:Type}{b:Bool}{k:Option α}{o:α}(h:req b k=some o):b=true∧k=some o:=by
 cases b
 ·cases h
 ·exact ⟨rfl,h⟩
theorem Qd{α:Type}{a b:α}(h:some a=some b):a=b:=Option.some.inj h
theorem Qq{b:Bool}(h:b=true):(!b)=false:=by rw [h]; rfl
theorem Qac{b:Bool}(h:b=false):(!b)=true:=by rw [h]; rfl
section
variable {α:Type} {c:α→List PV} {xs ys:List α} {k n m:Nat} {x:α}
theorem Qn:AV.pl (.int .i64 (((xs.map c).length:Nat):Int))=AV.pl (.int .i64 ((xs.length:Nat):Int)):=by rw [List.length_map]
theorem lt_map(c:α→List PV)(h:xs[k]?=some x):k<(xs.map c).length:=by rw [List.length_map]; exact lt_of_at h
theorem Qap:xs.map c++ys.map c=(xs++ys).map c:=List.map_append.symm
theorem cut_cv:((xs.map c).take n).drop m=((xs.take n).drop m).map c:=by rw [List.map_drop,List.map_take]
theorem drop_cv:(xs.map c).drop m=(xs.drop m).map c:=List.map_drop.symm
theorem Qcf(h:xs.isEmpty=false):xs.map c≠[]:=by
 cases xs with
 | nil=>cases h
 | cons a l=>intro h; cases h
theorem Qbc(h:xs.isEmpty=true):xs.map c=[]:=by
 cases xs with
 | nil=>rfl
 | cons a l=>cases h
theorem Qbd(hc:∀x,(c x).length=n):∀r∈xs.map c,r.length=n:=by
 intro r hr;obtain ⟨x,_,rfl⟩:=List.mem_map.1 hr;exact hc x
theorem fit_of{n b:Nat}{te:TI}(h:fit n b=true)(hb:te.bytes=b):Qbg n te=true:=by subst hb; exact h
theorem Qbq{b:Nat}{te:TI}(h:fit (xs.length+n) b=true)(hb:te.bytes=b):Qbg ((xs.map c).length+n) te=true:=by rw [List.length_map]; exact fit_of h hb
theorem fit_map0z{b:Nat}{te:TI}(h:fit xs.length b=true)(hb:te.bytes=b):Qbg (0+(xs.map c).length) te=true:=by rw [List.length_map,Nat.zero_add]; exact fit_of h hb
theorem Qbj{d:α→List PV}{b:Nat}{te:TI}(h:fit (xs.length+ys.length) b=true)(hb:te.bytes=b):Qbg ((xs.map c).length+(ys.map d).length) te=true:=by rw [List.length_map,List.length_map]; exact fit_of h hb
end
def isN:Ex→Bool
 | .norm=>true
 | _=>false
section
variable {P:Program} {C:Cfg} {n base:Nat} {st st':Tr×Hp}
theorem T.oneN{c:Code}{Q:Ex×Tr×Hp→Prop}{e:Ex×Tr×Hp}{st2:Tr×Hp}(hs:isSeq c=true)(h1:T P n base (cL c) st fun r=>r=e)(he:e=(.norm,st2))(h2:T P n base (Qk 1 c) st2 Q):T P n base c st Q :=
 T.one hs h1 fun r hr=>by subst hr; subst he; exact h2
theorem T.bl{i f:Nat}{c:Code}{e:Ex×Tr×Hp}(hb:isBlk c=some i)(hl:isLoop (cL c)=true) (h:TL P n base f (cL (cL c)) st fun r=>r=e):T P n base c st fun r=>r=(blkEx i e.1,e.2) :=
 T.block' hb ((T.loop' hl h).mono fun r hr=>by subst hr; rfl)
end
theorem T.oneX'{P:Program}{n base:Nat}{st:Tr×Hp}{c:Code}{Q:Ex×Tr×Hp→Prop}{e:Ex×Tr×Hp}{tds:List Td}{m keep:List Nat}{st2:Tr×Hp}{cs:List Prop}(hs:isSeq c=true)(h1:T P n base (cL c) st fun r=>r=e)(hn:norm base tds m keep e.2=some (st2,cs))(hp:AllP cs)(he:isN e.1=false)(h2:Q (e.1,st2)):T P n base c st Q:=by
 obtain ⟨ex,s⟩:=e;refine T.one hs (T.post h1 hn hp) fun r hr=>?_;subst hr;cases ex with
 | norm=>cases he
 | exit i=>exact h2
 | ret=>exact h2
 | pan _=>exact h2
theorem T.last'{P:Program}{n base:Nat}{st:Tr×Hp}{c:Code}{Q:Ex×Tr×Hp→Prop}{e:Ex×Tr×Hp}{tds:List Td}{m keep:List Nat}{st2:Tr×Hp}{cs:List Prop}(h1:T P n base c st fun r=>r=e)(hn:norm base tds m keep e.2=some (st2,cs))(hp:AllP cs)(h2:Q (e.1,st2)):T P n base c st Q:=by
 obtain ⟨ex,s⟩:=e;exact (T.post h1 hn hp).mono fun r hr=>by subst hr; exact h2
theorem T.condT{P:Program}{n base:Nat}{st:Tr×Hp}{c:Code}{o:Operand}{b:Bool}{Q:Ex×Tr×Hp→Prop}(hs:isCond c=some o)(hv:val st.1 o = .pl (.bool b))(hb:b=true)(h:T P n base (cL c) st Q):T P n base c st Q :=
 T.cond' hs hv (fun _=>h) fun e=>by rw [hb] at e; cases e
theorem T.condF{P:Program}{n base:Nat}{st:Tr×Hp}{c:Code}{o:Operand}{b:Bool}{Q:Ex×Tr×Hp→Prop}(hs:isCond c=some o)(hv:val st.1 o = .pl (.bool b))(hb:b=false)(h:T P n base (cR c) st Q):T P n base c st Q :=
 T.cond' hs hv (fun e=>by rw [hb] at e; cases e) fun _=>h
theorem wpn:WkPL [] []:=trivial
theorem wpc{a b:PV}{x y:List PV}(h:WkP a b)(t:WkPL x y):WkPL (a::x) (b::y):=⟨h,t⟩
theorem wln:WkL [] []:=trivial
theorem wlc{a b:AV}{x y:List AV}(h:Wk a b)(t:WkL x y):WkL (a::x) (b::y):=⟨h,t⟩


def Qt(K:Tr×Hp→Prop)(e r:Ex×Tr×Hp):Prop:=match r.1 with | .norm=>K r.2 | _=>r=e
section
variable {P:Program} {n base f:Nat} {st s:Tr×Hp} {c:Code} {K:Tr×Hp→Prop} {e:Ex×Tr×Hp} {ex:Ex}
theorem Qt.norm(h:K s):Qt K e (.norm,s):=h
theorem Qt.out(he:(ex,s)=e)(hn:isN ex=false):Qt K e (ex,s):=by
 cases ex with
 | norm=>cases hn
 | exit i=>exact he
 | ret=>exact he
 | pan _=>exact he
theorem TL.body(h1:T P n base c st (Qt K e))(h2:∀s,K s→TL P n base f c s fun r=>r=e):TL P n base (f+1) c st fun r=>r=e :=
 TL.step h1 fun r hr=>by
  obtain ⟨ex,s⟩:=r;cases ex with
  | norm=>exact h2 s hr
  | exit i=>exact hr
  | ret=>exact hr
  | pan _=>exact hr
end
end Go.Proofs.Ytbgjlpdeoljmiaa
namespace Go.Proofs.Ytbgjlpdeoljmiaa
set_option linter.unusedSimpArgs false
set_option linter.unusedVariables false
open Go.RowKit
section
variable {P:Program} {C:Cfg} {w w':World} {X:Nat→Prop} {φ φ':Phi} {H H':Hp} {nid n base:Nat} {s:Tr} {a:Act} {D:List Deferred} {st st':Tr×Hp}
theorem slice_at(hH:HR X φ H w){x:AV}{v:Value}{sz:Nat}{es:List (List PV)}(hx:VR w (YOf X φ) φ x v)(h:elems H x=some (sz,es)):∃A m c,v = .slice A m c∧(A=none→es=[]):=by
 unfold elems at h
 split at h
 ·rename_i f sz0 es0;simp only [Option.some.injEq,Prod.mk.injEq] at h; obtain ⟨rfl,rfl⟩:=h;simp only [VR,PR] at hx;obtain ⟨A,c,rfl,_,_,_,hA⟩:=hx;refine ⟨A,_,c,rfl,fun e=>?_⟩;rcases hA with hA | ⟨b,o,rfl,_⟩
  ·exact List.eq_nil_of_length_eq_zero hA
  ·cases e
 ·rename_i o
  split at h
  ·rename_i fz sz0 es0 ho;simp only [Option.some.injEq,Prod.mk.injEq] at h; obtain ⟨rfl,rfl⟩:=h;obtain ⟨z,l,hl,hO⟩:=hH.ob _ _ ho;simp only [VR] at hx;have:=hx.2.2 _ l hl; subst this;simp only [OR] at hO;obtain ⟨_,h1,_,h2,_,h3⟩:=hO;refine ⟨_,_,_,rfl,fun e=>?_⟩;rcases h3 with ⟨_,h4⟩|⟨b,p,_,_,h4,_⟩
   ·have:es0.length=0:=by omega
    exact List.eq_nil_of_length_eq_zero this
   ·simp [Loc.addr,h4] at e
  ·cases h
 ·rename_i o off len
  split at h
  ·rename_i fz sz0 es0 ho;cases hb:Nat.ble (off+len) es0.length with
   | false=>simp [hb] at h
   | true =>
    simp only [hb,cond_true,Option.some.injEq,Prod.mk.injEq] at h; obtain ⟨rfl,rfl⟩:=h;obtain ⟨z,l,hl,hO⟩:=hH.ob _ _ ho;simp only [VR] at hx;obtain ⟨A,c,rfl,h5,h6,h7⟩:=hx.2.2 _ l hl;simp only [OR] at hO;obtain ⟨_,_,_,h2,_,_⟩:=hO;refine ⟨A,_,c,rfl,fun e=>?_⟩
    by_cases hlen:len=0
    ·subst hlen; simp
    ·obtain ⟨_,h8⟩:=h7 (by omega);exact absurd e h8
  ·cases h
 ·cases h
def ThenQ(P:Program)(n base:Nat)(c:Code)(Q:Ex×Tr×Hp→Prop)(r:Ex×Tr×Hp):Prop:=match r.1 with | .norm=>T P n base c r.2 Q | _=>Q r
theorem ThenQ.norm{c:Code}{Q:Ex×Tr×Hp→Prop}(h:T P n base c st Q):ThenQ P n base c Q (.norm,st):=h
theorem ThenQ.out{c:Code}{ex:Ex}{Q:Ex×Tr×Hp→Prop}(hn:isN ex=false)(h:Q (ex,st)):ThenQ P n base c Q (ex,st):=by
 cases ex with
 | norm=>cases hn
 | exit i=>exact h
 | ret=>exact h
 | pan _=>exact h
theorem T.nest{c:Code}{Q:Ex×Tr×Hp→Prop}(hs:isSeq c=true) (h:T P n base (cL c) st (ThenQ P n base (Qk 1 c) Q)):T P n base c st Q :=
 T.one hs h fun r hr=>by
  obtain ⟨ex,s⟩:=r;cases ex<;>exact hr
def isNilQ:Code→Option (Operand×Nat×Nat×Nat)
 | .region _ ops false=>match ops.toList with
  | [⟨some t3,.move x,_,_,_,none⟩,⟨some t4,.binOp .eql t (.tmp t3') (.const (.slice none 0 0)) _,_,_,_,none⟩]=>bif Nat.beq t3 t3' then some (x,t,t3,t4) else none
  | _=>none
 | _=>none
def slTy(C:Cfg)(t:Nat):Bool:=match C.ty t with | some ti=>(match ti.k with | .sl _=>true | _=>false) | none=>false
def nilS(n:Nat)(st:Tr×Hp)(x:Operand)(t3 t4:Nat)(b:Bool):Tr×Hp:=(putO n (putO n st.1 (some t3) (val st.1 x)) (some t4) (.pl (.bool b)),st.2)
theorem T.nilq(hC:Qad P C){c:Code}{x:Operand}{t t3 t4 sz:Nat}{es:List (List PV)}{Q:Ex×Tr×Hp→Prop}(hq:isNilQ c=some (x,t,t3,t4))(hk:slTy C t=true)(h34:Nat.blt t3 n=true)(hv:elems st.2 (val st.1 x)=some (sz,es))
  (h:∀b,(b=true→es=[])→Q (.norm,nilS n st x t3 t4 b)):T P n base c st Q:=by
 unfold isNilQ at hq
 split at hq
 ·rename_i id ops
  split at hq
  ·rename_i d3 x0 ty1 p1 a1 d4 t0 t3' t' ty2 p2 a2 hops;cases hb3:Nat.beq d3 t3' with
   | false=>simp [hb3] at hq
   | true =>
    simp only [hb3,cond_true,Option.some.injEq,Prod.mk.injEq] at hq;obtain ⟨rfl,rfl,rfl,rfl⟩:=hq;obtain rfl:d3=t3':=Nat.eq_of_beq_eq_true hb3;intro _ ro _ D X φ a w hS hb;refine wpIn_region_list ?_;rw [hops];unfold wpListIn;rw [if_pos (by rfl)];refine op_pure hC hS.hr hS.hr.free hS.val (outs:=[(val st.1 x0,st.2)]) (by rfl) fun v' w' hn=>?_;obtain ⟨r,hr,φ',k1,k2,k3,k4,k5⟩:=hn;rw [List.mem_singleton] at hr; subst hr;have hS2:=hS.put k3 k2 k1 (some d3);unfold wpListIn;rw [if_pos (by rfl)];have hd:d3<a.tmps.size:=by rw [hS.size]; exact (Nat.blt_eq ▸ h34:d3<n)
    have hev:(a.put (some d3) v').eval (.tmp d3)=v':=by
     simp only [Act.eval,Act.put];simp [Array.getD_eq_getD_getElem?,Array.getElem?_setIfInBounds,hd]
    obtain ⟨A,m,c,rfl,hA⟩:=slice_at k2 k1 hv;unfold slTy at hk
    split at hk
    ·rename_i ti hti
     split at hk
     ·rename_i e hke;have hT:=hC.ty t0 ti hti;have hx:=x_eql_of (P:=P) (w:=w') (ρ:=(a.put (some d3) (.slice A m c)).eval) (d:=some d4) (ty:=ty2) (pos:=p2) (af:=a2) (g:=none) (t:=t0) (t':=t') (x:=.tmp d3) (y:=.const (.slice none 0 0)) hev (by rfl) (eqI_sl (n:=9999) (Qct hT hke)) (by simp [eqGuard]) rfl;refine wpR_run (fun c hc=>by cases hc) ?_;rw [hx,Oper.uponIn_value];unfold wpListIn;exact ⟨_,h A.isNone (fun e=>hA (by simpa using e)),rfl,φ',.of (hS2.put (Ev.refl _ _) hS2.hr (by simp only [VR,PR]) (some d4)),k3.b fun o ho e=>k5 o (by omega) (by simp only at k4; omega) e,by simp only [nilS] at k4 ⊢; omega⟩
     ·cases hk
    ·cases hk
  ·cases hq
 ·cases hq
theorem T.oneNil(hC:Qad P C){c:Code}{x:Operand}{t t3 t4 sz:Nat}{es:List (List PV)}{Q:Ex×Tr×Hp→Prop}(hs:isSeq c=true)(hq:isNilQ (cL c)=some (x,t,t3,t4))(hk:slTy C t=true)(h34:Nat.blt t3 n=true)(hv:elems st.2 (val st.1 x)=some (sz,es))
  (h:∀b,(b=true→es=[])→T P n base (Qk 1 c) (nilS n st x t3 t4 b) Q):T P n base c st Q :=
 T.one hs (T.nilq hC hq hk h34 hv (Q:=fun r=>∃b,(b=true→es=[])∧r=(.norm,nilS n st x t3 t4 b)) fun b hb=>⟨b,hb,rfl⟩) fun r hr=>by
  obtain ⟨b,hb,rfl⟩:=hr;exact h b hb
end
end Go.Proofs.Ytbgjlpdeoljmiaa
