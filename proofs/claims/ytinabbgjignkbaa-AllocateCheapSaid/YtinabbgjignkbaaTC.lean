/- Runs with hints: operations, regions, code without loops; functions. No condition. -/
import Derived.Test.YtinabbgjignkbaaTB
namespace Go.Proofs.Ytinabbgjignkbaa
set_option linter.unusedSimpArgs false
set_option linter.unusedVariables false
open Go.RowKit
def plain1P(H:Hp):AV→Option (PV×Hp×List Prop)
 | .vw o off len=>match hget H o with | some (.row _ sz es)=>some (.sl .any sz ((es.drop off).take len),hset H o (some (.row true sz es)),[off+len≤es.length]) | _=>none
 | v=>(plain1 H v).map fun r=>(r.1,r.2,[])
def isVw:AV→Bool
 | .vw _ _ _=>true
 | _=>false
def plainsP(H:Hp):List AV→Option (List PV×Hp×List Prop)
 | []=>some ([],H,[])
 | .agg c::r=>match plain H (.agg c) with
  | some (p,H1)=>(match plainsP H1 r with
   | some (ps,H2,cs2)=>some (p::ps,H2,cs2)
   | none=>none)
  | none=>none
 | v::r=>match plain1P H v with
  | some (p,H1,cs)=>(match plainsP H1 r with
   | some (ps,H2,cs2)=>some (p::ps,H2,cs++cs2)
   | none=>none)
  | none=>none
theorem plain1P_ok{H H1:Hp}{v:AV}{p:PV}{cs:List Prop}(h:plain1P H v=some (p,H1,cs))(hp:AllP cs):plain1 H v=some (p,H1):=by
 unfold plain1P at h
 split at h
 ·rename_i o off len
  split at h
  ·rename_i z sz es ho;simp only [Option.some.injEq,Prod.mk.injEq] at h; obtain ⟨rfl,rfl,rfl⟩:=h;simp only [plain1,ho];rw [show Nat.ble (off+len) es.length=true from by rw [Nat.ble_eq]; exact hp.1]; rfl
  ·cases h
 ·obtain ⟨r,h1,h2⟩:=Option.map_eq_some_iff.1 h;simp only [Prod.mk.injEq] at h2; obtain ⟨rfl,rfl,_⟩:=h2;exact h1
theorem plainsP_ok:∀{l:List AV} {H H1:Hp} {ps:List PV} {cs:List Prop},plainsP H l=some (ps,H1,cs)→AllP cs→Qca H l=some (ps,H1)
 | [],H,H1,ps,cs,h,_=>by
  simp only [plainsP,Option.some.injEq,Prod.mk.injEq] at h; obtain ⟨rfl,rfl,_⟩:=h; rfl
 | v::r,H,H1,ps,cs,h,hp=>by
  have one:∀{H2:Hp} {p:PV} {c1:List Prop},plain1P H v=some (p,H2,c1)→AllP c1→(∀c,v≠.agg c)→plain H v=some (p,H2):=fun {H2 p c1} h1 hp1 hne=>by
   have:=plain1P_ok h1 hp1;cases v<;>first | exact this | exact absurd rfl (hne _)
  unfold plainsP at h
  split at h
  ·rename_i e; cases e
  ·rename_i c r' e;cases e
   split at h
   ·rename_i p H2 h1
    split at h
    ·rename_i ps2 H3 c2 h2;simp only [Option.some.injEq,Prod.mk.injEq] at h; obtain ⟨rfl,rfl,rfl⟩:=h;simp only [Qca,h1,plainsP_ok h2 hp]
    ·cases h
   ·cases h
  ·rename_i v' r' hne e;cases e
   split at h
   ·rename_i p H2 c1 h1
    split at h
    ·rename_i ps2 H3 c2 h2;simp only [Option.some.injEq,Prod.mk.injEq] at h; obtain ⟨rfl,rfl,rfl⟩:=h;rw [Qv] at hp;simp only [Qca,one h1 hp.1 (fun c ec=>hne c ec),plainsP_ok h2 hp.2]
    ·cases h
   ·cases h
def plainsQ(H:Hp)(l:List AV):Option (List PV×Hp×List Prop):=bif l.any isVw then plainsP H l else (Qca H l).map fun r=>(r.1,r.2,[])
theorem plainsQ_ok{l:List AV}{H H1:Hp}{ps:List PV}{cs:List Prop}(h:plainsQ H l=some (ps,H1,cs))(hp:AllP cs):Qca H l=some (ps,H1):=by
 unfold plainsQ at h;cases hv:l.any isVw with
 | true=>rw [hv] at h; exact plainsP_ok h hp
 | false =>
  rw [hv] at h;obtain ⟨r,h1,h2⟩:=Option.map_eq_some_iff.1 h;simp only [Prod.mk.injEq] at h2; obtain ⟨rfl,rfl,_⟩:=h2;exact h1
theorem plainsQ_none{l:List AV}{H:Hp}(h:plainsQ H l=none)(hv:l.any isVw=false):Qca H l=none:=by
 unfold plainsQ at h;rw [hv] at h;simpa using h
def hOp(C:Cfg)(nid:Nat)(ρ:Operand→AV)(H:Hp)(op:Op)(h:Option Hint):Option ((AV×Hp)×List Prop×List Ent) :=
 match op,h with
 | .call c,some (.call v H2)=>match c.callee with
  | .value f =>
   let go (k:Nat) (args:List AV):Option ((AV×Hp)×List Prop×List Ent) :=
    bif C.byref k then
     bif inF (Qae H 100000 0 (Qaa args)) H.length (refD v)&&Qbc (Qae H 100000 0 (Qaa args)) H.length H2&&Nat.ble H.length H2.length then
      some ((v,Qam (Qae H 100000 0 (Qaa args)) 0 H H2),[],[⟨true,k,args,maskH (Qae H 100000 0 (Qaa args)) 0 H,v,H2⟩]) else none
    else match plainsQ H args with
     | some (ps,H1,cp)=>some ((v,bif flatA v then H else H1),cp,[⟨false,k,ps.map .pl,[],v,[]⟩])
     | none=>bif args.any isVw then none else bif inF (Qae H 100000 0 (Qaa args)) H.length (refD v)&&Qbc (Qae H 100000 0 (Qaa args)) H.length H2&&Nat.ble H.length H2.length then
      some ((v,Qam (Qae H 100000 0 (Qaa args)) 0 H H2),[],[⟨true,k,args,maskH (Qae H 100000 0 (Qaa args)) 0 H,v,H2⟩]) else none
   match ρ f with
   | .pl (.fn k)=>go k (c.args.toList.map ρ)
   | .clo k cs=>go k (c.args.toList.map ρ++cs)
   | _=>none
  | _=>none
 | .call c,none=>match c.callee with
  | .value _=>none
  | _=>(Qj C nid ρ H op).map fun r=>(r,[],[])
 | .next _ _,_=>none
 | op,none=>(Qj C nid ρ H op).map fun r=>(r,[],[])
 | op,some h=>(hPure C nid ρ H op h).map fun r=>(r.1,r.2,[])
section
variable {P:Program} {C:Cfg} {w w':World} {X:Nat→Prop} {φ φ':Phi} {H H':Hp} {nid n base:Nat} {s:Tr} {a:Act} {D:List Deferred} {ops:List Oper}
open Classical in
noncomputable def callE(es:List Ent)(br:Bool)(k:Nat)(args:List AV)(H:Hp):Outs (AV×Hp) :=
 match es.find? (fun e=>decide (e.br=br∧e.k=k∧e.args=args∧e.H=H)) with
 | some e=>some [(e.v,e.H')]
 | none=>none
theorem callE_ok{es:List Ent}(h:∀e∈es,e.ok P):CallOK P (callE es):=by
 intro br k args H outs ho;unfold callE at ho
 split at ho
 ·rename_i e he;simp only [Option.some.injEq] at ho; subst ho;obtain ⟨h1,h2⟩:=And.intro (List.mem_of_find?_eq_some he) (List.find?_some he);simp only [decide_eq_true_eq] at h2;obtain ⟨rfl,rfl,rfl,rfl⟩:=h2;obtain ⟨k1,k2,k3⟩:=h e h1;exact ⟨k1,fun hb r hr=>by rw [List.mem_singleton.1 hr]; exact k2 hb,k3⟩
 ·cases ho
theorem callE_at{es:List Ent}(hs:∀a∈es,∀b∈es,a.k=b.k→a.same b){e:Ent}(he:e∈es):callE es e.br e.k e.args e.H=some [(e.v,e.H')]:=by
 unfold callE
 split
 ·rename_i f hf;have h1:=List.mem_of_find?_eq_some hf;have h2:=List.find?_some hf;simp only [decide_eq_true_eq] at h2;obtain ⟨b1,b2,b3,b4⟩:=h2;obtain ⟨h3,h4⟩:=hs f h1 e he b2 b1 b3 b4;rw [h3,h4]
 ·rename_i hf;have:=List.find?_eq_none.1 hf e he;simp at this
theorem hOp_ok(hx:∀k,C.ext k=none){ρ:Operand→AV}{op:Op}{h:Option Hint}{r:AV×Hp}{cs:List Prop}{es:List Ent}{call:Bool→Nat→List AV→Hp→Outs (AV×Hp)}(ho:hOp C nid ρ H op h=some (r,cs,es))(hp:AllP cs)
  (hc:∀e∈es,call e.br e.k e.args e.H=some [(e.v,e.H')]):evOp C call nid ρ H op=some [r]:=by
 have pure:∀{op:Op},isVal op=false→Qj C nid ρ H op=some r→evOp C call nid ρ H op=some [r]:=fun {op} hv he=>by
  unfold evOp;cases op with
  | call c =>
   obtain ⟨callee,args,ts⟩:=c;cases callee<;>first | (simp [isVal] at hv; done) | (simp only [he])
  | next _ _=>simp [isVal] at hv
  | _=>simp only [he]
 unfold hOp at ho
 split at ho
 ·rename_i c v H2
  split at ho
  ·rename_i f hcal;have inv:∀(k:Nat)(args:List AV)(F:Nat),F=Qae H 100000 0 (Qaa args)→(C.byref k=true∨C.byref k=false∧Qca H args=none)→(inF F H.length (refD v)&&Qbc F H.length H2&&Nat.ble H.length H2.length)=true→call true k args (maskH F 0 H)=some [(v,H2)] →
     Qbq C call k args H=some [(v,Qam F 0 H H2)]:=by
    intro k args F hF hk hb hcall;have hs:evShared call k args H F=some [(v,Qam F 0 H H2)]:=by
     unfold evShared;simp only [hcall,List.all_cons,List.all_nil,Bool.and_true,hb,cond_true,List.map_cons,List.map_nil]
    unfold Qbq;rw [hx k];simp only;rcases hk with hk | ⟨hk,hpl⟩
    ·simp only [hk,cond_true,←hF,hs]
    ·simp only [hk,cond_false,hpl,←hF,hs]
   have go:∀(k:Nat)(args:List AV),(bif C.byref k then
     bif inF (Qae H 100000 0 (Qaa args)) H.length (refD v)&&Qbc (Qae H 100000 0 (Qaa args)) H.length H2&&Nat.ble H.length H2.length then
      some ((v,Qam (Qae H 100000 0 (Qaa args)) 0 H H2),([]:List Prop),[(⟨true,k,args,maskH (Qae H 100000 0 (Qaa args)) 0 H,v,H2⟩:Ent)]) else none
    else match plainsQ H args with
     | some (ps,H1,cp)=>some ((v,bif flatA v then H else H1),cp,[⟨false,k,ps.map .pl,[],v,[]⟩])
     | none=>bif args.any isVw then none else bif inF (Qae H 100000 0 (Qaa args)) H.length (refD v)&&Qbc (Qae H 100000 0 (Qaa args)) H.length H2&&Nat.ble H.length H2.length then
      some ((v,Qam (Qae H 100000 0 (Qaa args)) 0 H H2),[],[⟨true,k,args,maskH (Qae H 100000 0 (Qaa args)) 0 H,v,H2⟩]) else none)=some (r,cs,es)→Qbq C call k args H=some [r]:=by
    intro k args hg;cases hb:C.byref k with
    | true =>
     simp only [hb,cond_true] at hg;cases hf:(inF (Qae H 100000 0 (Qaa args)) H.length (refD v)&&Qbc (Qae H 100000 0 (Qaa args)) H.length H2&&Nat.ble H.length H2.length) with
     | false=>simp [hf] at hg
     | true =>
      simp only [hf,cond_true,Option.some.injEq,Prod.mk.injEq] at hg; obtain ⟨rfl,rfl,rfl⟩:=hg;exact inv k args _ rfl (.inl hb) hf (hc _ (List.mem_singleton.2 rfl))
    | false =>
     simp only [hb,cond_false] at hg
     split at hg
     ·rename_i ps H1 cp hpq;simp only [Option.some.injEq,Prod.mk.injEq] at hg; obtain ⟨rfl,rfl,rfl⟩:=hg;have hpl:=plainsQ_ok hpq hp;have:=hc _ (List.mem_singleton.2 rfl);unfold Qbq;rw [hx k];simp only [hb,cond_false,hpl];simp only at this;simp only [this,List.map_cons,List.map_nil]
     ·rename_i hpq;cases hvw:args.any isVw with
      | true=>rw [hvw] at hg; cases hg
      | false =>
      rw [hvw] at hg;simp only [cond_false] at hg;have hpl:=plainsQ_none hpq hvw;cases hf:(inF (Qae H 100000 0 (Qaa args)) H.length (refD v)&&Qbc (Qae H 100000 0 (Qaa args)) H.length H2&&Nat.ble H.length H2.length) with
      | false=>simp [hf] at hg
      | true =>
       simp only [hf,cond_true,Option.some.injEq,Prod.mk.injEq] at hg; obtain ⟨rfl,rfl,rfl⟩:=hg;exact inv k args _ rfl (.inr ⟨hb,hpl⟩) hf (hc _ (List.mem_singleton.2 rfl))
   simp only at ho
   split at ho
   ·rename_i k hk;have:=go k _ ho;unfold evOp; simp only [hcal,hk,this]
   ·rename_i k cl hk;have:=go k _ ho;unfold evOp; simp only [hcal,hk,this]
   ·cases ho
  ·cases ho
 ·rename_i c
  split at ho
  ·cases ho
  ·rename_i hne;obtain ⟨r',h1,h2⟩:=Option.map_eq_some_iff.1 ho;simp only [Prod.mk.injEq] at h2; obtain ⟨rfl,rfl,rfl⟩:=h2;refine pure ?_ h1;obtain ⟨callee,args,ts⟩:=c;cases callee<;>first | rfl | (exact absurd rfl (hne _))
 ·cases ho
 ·rename_i hne1 hne2;obtain ⟨r',h1,h2⟩:=Option.map_eq_some_iff.1 ho;simp only [Prod.mk.injEq] at h2; obtain ⟨rfl,rfl,rfl⟩:=h2;refine pure ?_ h1;cases op<;>first | rfl | (exact (hne1 _ rfl).elim) | (exact (hne2 _ _ rfl).elim)
 ·rename_i hne1 hne2 hne3;obtain ⟨r',h1,h2⟩:=Option.map_eq_some_iff.1 ho;simp only [Prod.mk.injEq] at h2; obtain ⟨rfl,rfl,rfl⟩:=h2;have hpu:=hPure_ok h1 hp;cases op with
  | call c =>
   obtain ⟨callee,args,ts⟩:=c;cases callee with
   | value f=>simp [Qj] at hpu
   | _=>exact pure rfl hpu
  | next x b=>simp [Qj] at hpu
  | _=>exact pure rfl hpu


inductive Cv where
 | val (v:AV)
 | row (o:Nat) (es:List (List PV))
 | map (o:Nat) (kvs:List (PV×PV))
 | arr (o:Nat) (es:List PV)
def cvStep(r:AV×Hp):Cv→Option ((AV×Hp)×Prop)
 | .val v=>some ((v,r.2),r.1=v)
 | .row o es=>match hget r.2 o with | some (.row f sz es0)=>some ((r.1,hset r.2 o (some (.row f sz es))),es0=es) | _=>none
 | .map o kvs=>match hget r.2 o with | some (.map kvs0)=>some ((r.1,hset r.2 o (some (.map kvs))),kvs0=kvs) | _=>none
 | .arr o es=>match hget r.2 o with | some (.abox t cs es0)=>some ((r.1,hset r.2 o (some (.abox t cs es))),es0=es) | _=>none
def cvSteps(i:Nat):List (Nat×Cv)→AV×Hp→Option ((AV×Hp)×List Prop)
 | [],r=>some (r,[])
 | (j,c)::l,r=>bif Nat.beq j i then (match cvStep r c with
   | some (r1,p)=>(match cvSteps i l r1 with | some (r2,ps)=>some (r2,p::ps) | none=>none)
   | none=>none) else cvSteps i l r
theorem hset_self{o:Nat}{x:Ob}(h:hget H o=some x):hset H o (some x)=H:=by
 unfold hget at h;unfold hset
 apply List.ext_getElem?
 intro i;rw [List.getElem?_set]
 split
 ·rename_i e; subst e
  split at h
  ·rename_i y hy;cases h;rw [hy]
   split
   ·rfl
   ·rename_i hn;rw [List.getElem?_eq_none (by omega)] at hy;cases hy
  ·cases h
 ·rfl
theorem cvStep_ok{r r':AV×Hp}{c:Cv}{p:Prop}(h:cvStep r c=some (r',p))(hp:p):r'=r:=by
 cases c with
 | val v=>simp only [cvStep,Option.some.injEq,Prod.mk.injEq] at h; obtain ⟨rfl,rfl⟩:=h; rw [←hp]
 | row o es =>
  simp only [cvStep] at h
  split at h
  ·rename_i f sz es0 ho;simp only [Option.some.injEq,Prod.mk.injEq] at h; obtain ⟨rfl,rfl⟩:=h;rw [←hp,hset_self ho]
  ·cases h
 | map o kvs =>
  simp only [cvStep] at h
  split at h
  ·rename_i kvs0 ho;simp only [Option.some.injEq,Prod.mk.injEq] at h; obtain ⟨rfl,rfl⟩:=h;rw [←hp,hset_self ho]
  ·cases h
 | arr o es =>
  simp only [cvStep] at h
  split at h
  ·rename_i t cs es0 ho;simp only [Option.some.injEq,Prod.mk.injEq] at h; obtain ⟨rfl,rfl⟩:=h;rw [←hp,hset_self ho]
  ·cases h
theorem cvSteps_ok{i:Nat} : ∀{l:List (Nat×Cv)} {r r':AV×Hp} {cs:List Prop},cvSteps i l r=some (r',cs)→AllP cs→r'=r
 | [],r,r',cs,h,_=>by simp only [cvSteps,Option.some.injEq,Prod.mk.injEq] at h; exact h.1.symm
 | (j,c)::l,r,r',cs,h,hp=>by
  simp only [cvSteps] at h;cases hb:Nat.beq j i with
  | false=>simp only [hb,cond_false] at h; exact cvSteps_ok h hp
  | true =>
   simp only [hb,cond_true] at h
   split at h
   ·rename_i r1 p h1
    split at h
    ·rename_i r2 ps h2;simp only [Option.some.injEq,Prod.mk.injEq] at h; obtain ⟨rfl,rfl⟩:=h;exact (cvSteps_ok h2 hp.2).trans (cvStep_ok h1 hp.1)
    ·cases h
   ·cases h
def hOpC(C:Cfg)(nid:Nat)(ρ:Operand→AV)(H:Hp)(op:Op)(h:Option Hint)(i:Nat)(l:List (Nat×Cv)):Option ((AV×Hp)×List Prop×List Ent) :=
 match hOp C nid ρ H op h with
 | some (r,cs,es)=>(match cvSteps i l r with | some (r',cs')=>some (r',cs++cs',es) | none=>none)
 | none=>none
theorem hOpC_at{ρ:Operand→AV}{op:Op}{h:Option Hint}{r:AV×Hp}{cs:List Prop}{es:List Ent}{i:Nat}{l:List (Nat×Cv)}(ho:hOpC C nid ρ H op h i l=some (r,cs,es))(hp:AllP cs):∃cs',hOp C nid ρ H op h=some (r,cs',es)∧AllP cs':=by
 unfold hOpC at ho
 split at ho
 ·rename_i r0 cs0 es0 h0
  split at ho
  ·rename_i r1 cs1 h1;simp only [Option.some.injEq,Prod.mk.injEq] at ho; obtain ⟨rfl,rfl,rfl⟩:=ho;rw [Qv] at hp;exact ⟨cs0,by rw [cvSteps_ok h1 hp.2]; exact h0,hp.1⟩
  ·cases ho
 ·cases ho

abbrev RH:=List (Nat×Bool)×List (Nat×Hint)×List (Nat×Cv)
def hWant(ops:List Oper)(s:Tr)(gs:List (Nat×Bool))(i:Nat):Option (Nat×Bool)→Option (Bool×List Prop)
 | none=>some (true,[])
 | some (j,b)=>match dstOf ops j with
  | some t=>match s.get 12 t with
   | .pl (.bool c)=>match lookN i gs with
    | some d=>some (d == b,[c=d])
    | none=>some (c == b,[])
   | .tup []=>some (false,[])
   | _=>none
  | none=>none
theorem hWant_ok{s:Tr}{gs:List (Nat×Bool)}{i:Nat}{g:Option (Nat×Bool)}{b:Bool}{cs:List Prop}(h:hWant ops s gs i g=some (b,cs))(hp:AllP cs):want ops s g=some b:=by
 unfold hWant at h;unfold want
 split at h
 ·simp only [Option.some.injEq,Prod.mk.injEq] at h; rw [h.1]
 ·split at h
  ·rename_i t ht;simp only [ht]
   split at h
   ·rename_i c hc
    split at h
    ·rename_i d hd;simp only [Option.some.injEq,Prod.mk.injEq] at h; obtain ⟨rfl,rfl⟩:=h;rw [hc]; simp only [hp.1]
    ·simp only [Option.some.injEq,Prod.mk.injEq] at h; obtain ⟨rfl,rfl⟩:=h;rw [hc]
   ·rename_i hc;simp only [Option.some.injEq,Prod.mk.injEq] at h; obtain ⟨rfl,rfl⟩:=h;rw [hc]
   ·cases h
  ·cases h
def hOps(C:Cfg)(n:Nat)(ops:List Oper)(rh:RH):Nat→List Oper→Tr×Hp→Option ((Tr×Hp)×List Prop×List Ent)
 | _,[],st=>some (st,[],[])
 | i,o::r,st=>match hWant ops st.1 rh.1 i o.guard with
  | none=>none
  | some (false,cs)=>match hOps C n ops rh (i+1) r (putO n st.1 o.dst (.tup []),st.2) with
   | some (st',cs',es')=>some (st',cs++cs',es')
   | none=>none
  | some (true,cs)=>match hOpC C st.2.length (val st.1) st.2 o.op (lookN i rh.2.1) i rh.2.2 with
   | some (x,cs1,es1)=>match hOps C n ops rh (i+1) r (putO n st.1 o.dst x.1,x.2) with
    | some (st',cs',es')=>some (st',cs++(cs1++cs'),es1++es')
    | none=>none
   | none=>none
theorem single(es:List Ent)(h:es.length≤1):∀a∈es,∀b∈es,a.k=b.k→a.same b:=by
 intro a ha b hb _ _ _ _
 match es,h with
 | [],_=>cases ha
 | [e],_=>rw [List.mem_singleton.1 ha,List.mem_singleton.1 hb]; exact ⟨rfl,rfl⟩
 | _::_::_,h=>simp at h
theorem hOp_one{ρ:Operand→AV}{op:Op}{h:Option Hint}{r:AV×Hp}{cs:List Prop}{es:List Ent}(ho:hOp C nid ρ H op h=some (r,cs,es)):es.length≤1:=by
 have key:∀{k:Nat} {args:List AV} {v:AV} {H2:Hp},(bif C.byref k then
     bif inF (Qae H 100000 0 (Qaa args)) H.length (refD v)&&Qbc (Qae H 100000 0 (Qaa args)) H.length H2&&Nat.ble H.length H2.length then
      some ((v,Qam (Qae H 100000 0 (Qaa args)) 0 H H2),([]:List Prop),[(⟨true,k,args,maskH (Qae H 100000 0 (Qaa args)) 0 H,v,H2⟩:Ent)]) else none
    else match plainsQ H args with
     | some (ps,H1,cp)=>some ((v,bif flatA v then H else H1),cp,[⟨false,k,ps.map .pl,[],v,[]⟩])
     | none=>bif args.any isVw then none else bif inF (Qae H 100000 0 (Qaa args)) H.length (refD v)&&Qbc (Qae H 100000 0 (Qaa args)) H.length H2&&Nat.ble H.length H2.length then
      some ((v,Qam (Qae H 100000 0 (Qaa args)) 0 H H2),[],[⟨true,k,args,maskH (Qae H 100000 0 (Qaa args)) 0 H,v,H2⟩]) else none)=some (r,cs,es)→es.length≤1:=by
  intro k args v H2 hg;cases hb:C.byref k<;>simp only [hb,cond_true,cond_false] at hg
  ·split at hg
   ·simp only [Option.some.injEq,Prod.mk.injEq] at hg; obtain ⟨_,_,rfl⟩:=hg; simp
   ·revert hg
    cases args.any isVw<;>intro hg
    case true=>cases hg
    revert hg
    cases (inF (Qae H 100000 0 (Qaa args)) H.length (refD v)&&Qbc (Qae H 100000 0 (Qaa args)) H.length H2&&Nat.ble H.length H2.length)<;>intro hg
    ·simp at hg
    ·simp only [cond_false,cond_true,Option.some.injEq,Prod.mk.injEq] at hg; obtain ⟨_,_,rfl⟩:=hg; simp
  ·revert hg
   cases (inF (Qae H 100000 0 (Qaa args)) H.length (refD v)&&Qbc (Qae H 100000 0 (Qaa args)) H.length H2&&Nat.ble H.length H2.length)<;>intro hg
   ·simp at hg
   ·simp only [cond_true,Option.some.injEq,Prod.mk.injEq] at hg; obtain ⟨_,_,rfl⟩:=hg; simp
 unfold hOp at ho
 split at ho
 ·split at ho
  ·simp only at ho
   split at ho
   ·exact key ho
   ·exact key ho
   ·cases ho
  ·cases ho
 ·split at ho
  ·cases ho
  ·obtain ⟨r',_,h2⟩:=Option.map_eq_some_iff.1 ho;simp only [Prod.mk.injEq] at h2; obtain ⟨_,_,rfl⟩:=h2; simp
 ·cases ho
 ·obtain ⟨r',_,h2⟩:=Option.map_eq_some_iff.1 ho;simp only [Prod.mk.injEq] at h2; obtain ⟨_,_,rfl⟩:=h2; simp
 ·obtain ⟨r',_,h2⟩:=Option.map_eq_some_iff.1 ho;simp only [Prod.mk.injEq] at h2; obtain ⟨_,_,rfl⟩:=h2; simp
theorem hOps_ok{ro:Option Nat}(hC:Qac P C){rh:RH}{Q:Exit→Act→World→Prop} : ∀(r:List Oper)(i:Nat){s:Tr}{H:Hp}{φ:Phi}{a:Act}{w:World}{st':Tr×Hp}{cs:List Prop}{es:List Ent},
  hOps C n ops rh i r (s,H)=some (st',cs,es)→AllP cs→(∀e∈es,e.ok P)→SR D X n s H φ a w→∀{r2:List Oper},
   (∀φ' a' w',SR D X n st'.1 st'.2 φ' a' w'→Ev φ w φ' w'→Gr φ H φ' st'.2→wpListIn (Fr ro) 0 P ops.toArray Q r2 a' w')→wpListIn (Fr ro) 0 P ops.toArray Q (r++r2) a w
 | [],i,s,H,φ,a,w,st',cs,es,h,_,_,hS,r2,hQ=>by
  simp only [hOps,Option.some.injEq,Prod.mk.injEq] at h; obtain ⟨rfl,_,_⟩:=h;exact hQ φ a w hS (Ev.refl _ _) (Gr.refl _ _)
 | o::r,i,s,H,φ,a,w,st',cs,es,h,hp,he,hS,r2,hQ=>by
  simp only [hOps] at h;rw [List.cons_append];unfold wpListIn
  split at h
  ·cases h
  ·rename_i cs0 hw
   split at h
   ·rename_i st1 cs1 es1 h1;simp only [Option.some.injEq,Prod.mk.injEq] at h; obtain ⟨rfl,rfl,rfl⟩:=h;rw [Qv] at hp;rw [if_neg (by rw [want_ok hS (hWant_ok hw hp.1)]; decide)];exact ⟨fun _ _=>trivial,hOps_ok hC r (i+1) h1 hp.2 he (hS.put (Ev.refl _ _) hS.hr vr_undef o.dst) hQ⟩
   ·cases h
  ·rename_i cs0 hw
   split at h
   ·rename_i x cs1 es1 h1
    split at h
    ·rename_i st2 cs2 es2 h2;simp only [Option.some.injEq,Prod.mk.injEq] at h; obtain ⟨rfl,rfl,rfl⟩:=h;rw [Qv,Qv] at hp;rw [if_pos (want_ok hS (hWant_ok hw hp.1))];have he1:∀e∈es1,e.ok P:=fun e h=>he e (List.mem_append_left _ h);obtain ⟨cs1',h1',hp1'⟩:=hOpC_at h1 hp.2.1;have hev:=hOp_ok (call:=callE es1) hC.noext h1' hp1' (fun e h=>callE_at (single es1 (hOp_one h1')) h);refine op_ok hC (callE_ok he1) hS.hr hS.hr.free hS.val hev fun v' w' hn=>?_;obtain ⟨y,hy,φ',k1,k2,k3,k4,k5⟩:=hn;rw [List.mem_singleton] at hy; subst hy;refine hOps_ok hC r (i+1) h2 hp.2.2 (fun e h=>he e (List.mem_append_right _ h)) (hS.put k3 k2 k1 o.dst) fun φ'' a'' w'' m1 m2 m3=>hQ φ'' a'' w'' m1 (k3.trans m2) (Gr.trans ⟨k4,fun k hk e=>k5 k (by omega) hk e⟩ m3)
    ·cases h
   ·cases h


def footCallH(C:Cfg)(H:Hp)(k:Nat)(args:List AV):Fp :=
 bif C.byref k then .sh (Qae H 100000 0 (Qaa args)) H.length else match plainsQ H args with
  | some _=>.wr (args.flatMap refC) []
  | none=>.all
def footH(C:Cfg)(nid:Nat)(ρ:Operand→AV)(H:Hp)(op:Op):Fp :=
 match op with
 | .call c=>match c.callee with
  | .value f=>match ρ f with
   | .pl (.fn k)=>footCallH C H k (c.args.toList.map ρ)
   | .clo k cs=>footCallH C H k (c.args.toList.map ρ++cs)
   | _=>.all
  | _=>foot C nid ρ H op
 | op=>foot C nid ρ H op
theorem footH_eq{ρ:Operand→AV}{op:Op}{h:Option Hint}{r:AV×Hp}{cs:List Prop}{es:List Ent}(ho:hOp C nid ρ H op h=some (r,cs,es))(hp:AllP cs):footH C nid ρ H op=foot C nid ρ H op:=by
 have key:∀{k:Nat} {args:List AV} {v:AV} {H2:Hp},(bif C.byref k then
     bif inF (Qae H 100000 0 (Qaa args)) H.length (refD v)&&Qbc (Qae H 100000 0 (Qaa args)) H.length H2&&Nat.ble H.length H2.length then
      some ((v,Qam (Qae H 100000 0 (Qaa args)) 0 H H2),([]:List Prop),[(⟨true,k,args,maskH (Qae H 100000 0 (Qaa args)) 0 H,v,H2⟩:Ent)]) else none
    else match plainsQ H args with
     | some (ps,H1,cp)=>some ((v,bif flatA v then H else H1),cp,[⟨false,k,ps.map .pl,[],v,[]⟩])
     | none=>bif args.any isVw then none else bif inF (Qae H 100000 0 (Qaa args)) H.length (refD v)&&Qbc (Qae H 100000 0 (Qaa args)) H.length H2&&Nat.ble H.length H2.length then
      some ((v,Qam (Qae H 100000 0 (Qaa args)) 0 H H2),[],[⟨true,k,args,maskH (Qae H 100000 0 (Qaa args)) 0 H,v,H2⟩]) else none)=some (r,cs,es)→footCallH C H k args=Qal C H k args:=by
  intro k args v H2 hg;unfold footCallH Qal;cases hb:C.byref k<;>simp only [hb,cond_true,cond_false] at hg ⊢
  split at hg
  ·rename_i ps H1 cp hq;simp only [Option.some.injEq,Prod.mk.injEq] at hg; obtain ⟨_,rfl,_⟩:=hg;rw [plainsQ_ok hq hp,hq]
  ·rename_i hq;cases hv:args.any isVw with
   | true=>rw [hv] at hg; cases hg
   | false=>rw [plainsQ_none hq hv,hq]
 unfold footH
 split
 ·rename_i c
  split
  ·rename_i f hf;unfold hOp at ho
   split at ho
   ·rename_i c' v H2 hop
    injection hop with hop; subst hop
    simp only [hf] at ho;unfold foot;simp only [hf]
    split at ho
    ·rename_i k hk; simp only [hk]; exact key ho
    ·rename_i k cs' hk; simp only [hk]; exact key ho
    ·cases ho
   ·rename_i c' hop
    injection hop with hop; subst hop
    simp only [hf] at ho;cases ho
   ·cases ho
   ·rename_i h1 h2 h3 h4; exact absurd rfl (h3 _)
   ·obtain ⟨r',h1,h2⟩:=Option.map_eq_some_iff.1 ho;simp only [Prod.mk.injEq] at h2; obtain ⟨rfl,rfl,rfl⟩:=h2;have hpu:=hPure_ok h1 hp;obtain ⟨callee,args,ts⟩:=c;simp only at hf; subst hf;simp [Qj] at hpu
  ·rfl
 ·rfl
def hDL(C:Cfg)(n:Nat)(ops:List Oper)(rh:RH)(base:Nat):List It→List (It×Fp)→Tr×Hp→Option ((Tr×Hp)×List Prop×List Ent)
 | [],_,st=>some (st,[],[])
 | x::L,recs,st=>match hWant ops st.1 rh.1 x.i x.o.guard with
  | none=>none
  | some (false,cs)=>bif recs.all (fun r=>cross r x (.rd [])) then
    (match hDL C n ops rh base L ((x,.rd [])::recs) (putO n st.1 x.o.dst (.tup []),st.2) with
     | some (st',cs',es')=>some (st',cs++cs',es')
     | none=>none) else none
  | some (true,cs)=>match hOpC C (base+x.nid) (val st.1) st.2 x.o.op (lookN x.i rh.2.1) x.i rh.2.2 with
   | some (r,cs1,es1)=>bif okLen st.2 r.2 (footH C (base+x.nid) (val st.1) st.2 x.o.op)&&recs.all (fun q=>cross q x (footH C (base+x.nid) (val st.1) st.2 x.o.op)) then
     (match hDL C n ops rh base L ((x,footH C (base+x.nid) (val st.1) st.2 x.o.op)::recs) (putO n st.1 x.o.dst r.1,r.2) with
      | some (st',cs',es')=>some (st',cs++(cs1++cs'),es1++es')
      | none=>none) else none
   | none=>none
def sameP:List Ent→List Prop
 | []=>[]
 | e::r=>(r.filter fun f=>Nat.beq f.k e.k).map (fun f=>e.same f∧f.same e)++sameP r
theorem sameP_ok:∀{es:List Ent},AllP (sameP es)→∀a∈es,∀b∈es,a.k=b.k→a.same b
 | [],_,a,ha,_,_,_=>by cases ha
 | e::r,h,a,ha,b,hb,hk=>by
  simp only [sameP] at h;rw [Qv] at h;have all:∀{l:List Ent},AllP (l.map fun f=>e.same f∧f.same e)→∀f∈l,e.same f∧f.same e:=fun {l}=>by
   induction l with
   | nil=>intro _ f hf; cases hf
   | cons x l ih =>
    intro h f hf;rcases List.mem_cons.1 hf with rfl | hf
    ·exact h.1
    ·exact ih h.2 f hf
  rcases List.mem_cons.1 ha with e1 | ha1
  ·rcases List.mem_cons.1 hb with e2 | hb1
   ·subst e1; subst e2; exact fun _ _ _=>⟨rfl,rfl⟩
   ·subst e1; exact (all h.1 b (List.mem_filter.2 ⟨hb1,by rw [hk]; simp⟩)).1
  ·rcases List.mem_cons.1 hb with e2 | hb1
   ·subst e2; exact (all h.1 a (List.mem_filter.2 ⟨ha1,by rw [hk]; simp⟩)).2
   ·exact sameP_ok h.2 a ha1 b hb1 hk
theorem hDL_ok(hx:∀k,C.ext k=none){rh:RH}{call:Bool→Nat→List AV→Hp→Outs (AV×Hp)} : ∀(L:List It){recs:List (It×Fp)}{st st':Tr×Hp}{cs:List Prop}{es:List Ent},hDL C n ops rh base L recs st=some (st',cs,es)→AllP cs →
  (∀e∈es,call e.br e.k e.args e.H=some [(e.v,e.H')])→evDL C call n ops base L recs st=some st'
 | [],recs,st,st',cs,es,h,_,_=>by
  simp only [hDL,Option.some.injEq,Prod.mk.injEq] at h; obtain ⟨rfl,_,_⟩:=h; rfl
 | x::L,recs,st,st',cs,es,h,hp,hc=>by
  simp only [hDL] at h;simp only [evDL]
  split at h
  ·cases h
  ·rename_i cs0 hw;cases hr:(recs.all fun r=>cross r x (.rd [])) with
   | false=>simp [hr] at h
   | true =>
    simp only [hr,cond_true] at h
    split at h
    ·rename_i st1 cs1 es1 h1;simp only [Option.some.injEq,Prod.mk.injEq] at h; obtain ⟨rfl,rfl,rfl⟩:=h;rw [Qv] at hp;have hs:stepD C call n ops base x st=some ((putO n st.1 x.o.dst (.tup []),st.2),.rd []):=by
      unfold stepD; rw [hWant_ok hw hp.1]
     simp only [hs,hr,cond_true];exact hDL_ok hx L h1 hp.2 hc
    ·cases h
  ·rename_i cs0 hw
   split at h
   ·rename_i r cs1 es1 h1;cases hr:(okLen st.2 r.2 (footH C (base+x.nid) (val st.1) st.2 x.o.op)&&recs.all (fun q=>cross q x (footH C (base+x.nid) (val st.1) st.2 x.o.op))) with
    | false=>simp [hr] at h
    | true =>
     simp only [hr,cond_true] at h;rw [Bool.and_eq_true] at hr
     split at h
     ·rename_i st2 cs2 es2 h2;simp only [Option.some.injEq,Prod.mk.injEq] at h; obtain ⟨rfl,rfl,rfl⟩:=h;rw [Qv,Qv] at hp;obtain ⟨cs1',h1',hp1'⟩:=hOpC_at h1 hp.2.1;rw [footH_eq h1' hp1'] at h2 hr;have hev:=hOp_ok (call:=call) hx h1' hp1' fun e h=>hc e (List.mem_append_left _ h);have hs:stepD C call n ops base x st=some ((putO n st.1 x.o.dst r.1,r.2),foot C (base+x.nid) (val st.1) st.2 x.o.op):=by
       unfold stepD; rw [hWant_ok hw hp.1]; simp only [hev,hr.1,cond_true]
      simp only [hs,hr.2,cond_true];exact hDL_ok hx L h2 hp.2.2 fun e h=>hc e (List.mem_append_right _ h)
     ·cases h
   ·cases h
def hDrawn(C:Cfg)(n:Nat)(ops:List Oper)(rh:RH)(st:Tr×Hp):Option ((Tr×Hp)×List Prop×List Ent) :=
 match plan ops.length 0 0 [] (items 0 ops) with
 | none=>none
 | some L=>match hDL C n ops rh st.2.length L [] (st.1,st.2++List.replicate (countNew ops+1) none) with
  | some (st',cs,es)=>some (st',cs++sameP es,es)
  | none=>none

end
section
variable {P:Program} {C:Cfg} {w w':World} {X:Nat→Prop} {φ φ':Phi} {H H':Hp} {nid n base:Nat} {s:Tr} {a:Act} {D:List Deferred} {ops:List Oper}
theorem callX_part(hH:HR X φ H w){k F:Nat}{args:List AV}{vs:List Value}{ch:List PanicEntry}{H2:Hp}(hc:CallX P k args (maskH F 0 H) ch H2)(hv:VRT w (YOf X φ) φ args vs)
  (h1:Qbc F H.length H2=true) (h2:Nat.ble H.length H2.length=true):Calls P k vs.toArray w (RetX X φ H w ch (Qam F 0 H H2)):=by
 have hlen:=ble_t h2;refine (hc.2 (cutX X φ F) (φ.cut F) w vs hH.cut (by rw [cut_Y]; exact VRT.re args vs (fun o _=>cut_re o) hv)).mono fun e w' hr=>?_;obtain ⟨he,φ',k2,k3,k4,k5⟩:=hr;obtain ⟨u1,u2,u3,u4,u5⟩:=uncut hH k2 k3 hlen (fun k hk=>k5 k (by rw [length_mask]; exact hk)) h1;exact ⟨he,_,u1,u2,by rw [Qbi _ _ _ hlen]; exact hlen,u4⟩
theorem pan_op{ro:Option Nat}(hH:HR X φ H w){ra:Operand→AV}(hρ:∀x,VR w (YOf X φ) φ (ra x) (a.eval x)){o:Oper}{f:Operand}{k F:Nat}{as:Array Operand}{ts:Array TypeId}{ch:List PanicEntry}{H2:Hp}(hop:o.op = .call ⟨.value f,as,ts⟩)(hf:ra f = .pl (.fn k))
  (hc:CallX P k (as.toList.map ra) (maskH F 0 H) ch H2) (h1:Qbc F H.length H2=true) (h2:Nat.ble H.length H2.length=true) {Q:Exit→Act→World→Prop} {K:Act→World→Prop}
  (hQ:∀φ' w',HR X φ' (Qam F 0 H H2) w'→Ev φ w φ' w'→H.length≤(Qam F 0 H H2).length→(∀k,k<H.length→φ k = .fresh→φ' k = .fresh)→Q (.panic ch) a w'):o.wpIn (Fr ro) 0 P a w K Q:=by
 obtain ⟨d,op,ty,pos,af,g⟩:=o;simp only at hop; subst hop;have hfv:=hρ f;rw [hf] at hfv;simp only [VR,PR] at hfv;have hfv:a.eval f = .func (.func k) #[] [].toArray:=hfv;refine wpR_run (fun c hc=>by cases hc) ?_;rw [x_call hc.1 hfv rfl,Oper.uponIn_enter];have hcall:=callX_part hH hc (vrt_map hρ as.toList) h1 h2;have:(as.toList.map a.eval).toArray=as.map a.eval++[].toArray:=by apply Array.ext'; simp
 rw [←this];refine ⟨(fun h=>by cases h),callsR (hcall.mono fun e w' hr=>?_)⟩;obtain ⟨rfl,φ',k1,k2,k3,k4⟩:=hr;exact hQ φ' w' k1 k2 k3 k4
def panCall(st:Tr×Hp)(o:Oper)(H2:Hp):Option (Nat×List AV×Nat) :=
 match o.guard with
 | some _=>none
 | none=>match o.op with
  | .call c=>match c.callee with
   | .value f=>match val st.1 f with
    | .pl (.fn k)=>bif Qbc (Qae st.2 100000 0 (Qaa (c.args.toList.map (val st.1)))) st.2.length H2&&Nat.ble st.2.length H2.length then some (k,c.args.toList.map (val st.1),Qae st.2 100000 0 (Qaa (c.args.toList.map (val st.1)))) else none
    | _=>none
   | _=>none
  | _=>none
theorem panCall_ok{ro:Option Nat}{st:Tr×Hp}{o:Oper}{H2:Hp}{k F:Nat}{args:List AV}(h:panCall st o H2=some (k,args,F))(hS:SR D X n st.1 st.2 φ a w){ch:List PanicEntry}(hc:CallX P k args (maskH F 0 st.2) ch H2){Q:Exit→Act→World→Prop}{K:Act→World→Prop}
  (hQ:∀φ' w',HR X φ' (Qam F 0 st.2 H2) w'→Ev φ w φ' w'→st.2.length≤(Qam F 0 st.2 H2).length→(∀k,k<st.2.length→φ k = .fresh→φ' k = .fresh)→Q (.panic ch) a w'):o.guard=none∧o.wpIn (Fr ro) 0 P a w K Q:=by
 unfold panCall at h
 split at h
 ·cases h
 ·rename_i hg;refine ⟨hg,?_⟩
  split at h
  ·rename_i c hop
   split at h
   ·rename_i f hcal
    split at h
    ·rename_i k' hk;cases hb:(Qbc (Qae st.2 100000 0 (Qaa (c.args.toList.map (val st.1)))) st.2.length H2&&Nat.ble st.2.length H2.length) with
     | false=>rw [hb] at h; cases h
     | true =>
      rw [hb] at h;simp only [cond_true,Option.some.injEq,Prod.mk.injEq] at h; obtain ⟨rfl,rfl,rfl⟩:=h;rw [Bool.and_eq_true] at hb;obtain ⟨callee,as,ts⟩:=c;simp only at hcal; subst hcal;exact pan_op hS.hr hS.val hop hk hc hb.1 hb.2 hQ
    ·cases h
   ·cases h
  ·cases h
def entsP(P:Program):List Ent→List Prop
 | []=>[]
 | e::r=>Qr P e.br e.k e.args e.H e.v e.H'::entsP P r
theorem entsP_ok:∀{es:List Ent},AllP (entsP P es)→∀e∈es,e.ok P
 | [],_,e,he=>by cases he
 | x::r,h,e,he=>by
  rcases List.mem_cons.1 he with rfl | he
  ·exact h.1
  ·exact entsP_ok h.2 e he
def hPanT(P:Program)(C:Cfg)(n:Nat)(ops:List Oper)(rh:RH)(i:Nat)(ch:List PanicEntry)(H2:Hp)(st:Tr×Hp):Option ((Tr×Hp)×List Prop) :=
 match hOps C n ops rh 0 (ops.take i) st with
 | some (st1,cs,es)=>(match ops[i]? with
  | some o=>(match panCall st1 o H2 with
   | some (k,args,F)=>some ((st1.1,Qam F 0 st1.2 H2),cs++(entsP P es++[CallX P k args (maskH F 0 st1.2) ch H2]))
   | none=>none)
  | none=>none)
 | none=>none
theorem hPanT_ok(hC':Qac P C){id i:Nat}{ops:Array Oper}{rh:RH}{ch:List PanicEntry}{H2:Hp}{st st':Tr×Hp}{cs:List Prop}(h:hPanT P C n ops.toList rh i ch H2 st=some (st',cs))(hp:AllP cs) :
  T P n base (.region id ops false) st fun r=>r=(.pan ch,st'):=by
 unfold hPanT at h
 split at h
 ·rename_i st1 cs0 es h1
  split at h
  ·rename_i o ho
   split at h
   ·rename_i k args F hpc;simp only [Option.some.injEq,Prod.mk.injEq] at h; obtain ⟨rfl,rfl⟩:=h;rw [Qv,Qv] at hp;obtain ⟨hp1,hp2,hp3,_⟩:=hp;intro _ ro _ D X φ a w hS hb;refine wpIn_region_list (by
     have hlt:=(List.getElem?_eq_some_iff.1 ho).1;have hcut:ops.toList.take i++ops.toList.drop i=ops.toList:=List.take_append_drop i _;have hd:ops.toList.drop i=o::ops.toList.drop (i+1):=by
      rw [List.drop_eq_getElem_cons hlt,(List.getElem?_eq_some_iff.1 ho).2]
     have:=hOps_ok (ro:=ro) (ops:=ops.toList) (Q:=PostB true D X n base φ w fun r=>r=(.pan ch,(st1.1,Qam F 0 st1.2 H2))) hC' (ops.toList.take i) 0 (s:=st.1) (H:=st.2) h1 hp1 (entsP_ok hp2) hS (r2:=ops.toList.drop i) fun φ' a' w' k1 k2 k3=>?_
     ·rw [hcut] at this; simpa [rfree] using this
     ·rw [hd];unfold wpListIn;have key:∀{K:Act→World→Prop},o.guard=none∧o.wpIn (Fr ro) 0 P a' w' K (PostB true D X n base φ w fun r=>r=(.pan ch,(st1.1,Qam F 0 st1.2 H2))):=fun {K}=>panCall_ok hpc k1 hp3 fun φ'' w'' m1 m2 m3 m4=>by
       refine ⟨_,rfl,rfl,φ'',SRM.of ⟨k1.defers,k1.size,fun t=>VR.stay m2 X _ _ (k1.slots t),m1⟩,(k2.b fun o ho hf=>k3.2 o (by omega) hf).trans (m2.b fun o ho hf=>m4 o (by have:=k3.1; omega) hf),?_⟩;have h3:=k3.1;exact Nat.le_trans hb (Nat.le_trans h3 m3)
      rw [if_pos (by unfold Region.wanted; rw [(key (K:=fun _ _=>True)).1])];exact key.2)
   ·cases h
  ·cases h
 ·cases h
def quietOp:Op→Bool
 | .move _ | .load _ _ | .fieldAddr _ _ _ | .nilCheck _=>true
 | _=>false
theorem quiet_same{ρ:Operand→AV}{op:Op}{r:AV×Hp}(h:Qj C nid ρ H op=some r)(hq:quietOp op=true):r.2=H:=by
 have al:∀{b:Bool} {x:AV},(bif b then some (x,H) else none)=some r→r.2=H:=fun {b x} h=>by
  cases b with
  | false=>cases h
  | true=>simp only [cond_true,Option.some.injEq] at h; subst h; rfl
 cases op with
 | move x=>injection h with h; subst h; rfl
 | load t p =>
  simp only [Qj] at h;obtain ⟨v,_,rfl⟩:=Option.map_eq_some_iff.1 h; rfl
 | nilCheck x =>
  simp only [Qj] at h
  split at h<;>first | exact al h | (simp only [Option.some.injEq] at h; subst h; rfl) | (cases h; done)
 | fieldAddr t x f =>
  simp only [Qj] at h
  split at h
  ·rename_i ft off hf;cases hb:posSize C ft with
   | false=>rw [hb] at h; cases h
   | true =>
    rw [hb] at h;simp only [cond_true] at h
    split at h<;>first | exact al h | (simp only [Option.some.injEq] at h; subst h; rfl) | (cases h; done)
  ·cases h
 | _=>simp [quietOp] at hq
def eqArg:AV→AV→Bool
 | .bp o i,.bp o' i'=>Nat.beq o o'&&Nat.beq i i'
 | .pl (.int k n),.pl (.int k' n')=>kindEq k k'&&decide (n=n')
 | _,_=>false
def eqArgs:List AV→List AV→Bool
 | [],[]=>true
 | a::x,b::y=>eqArg a b&&eqArgs x y
 | _,_=>false
theorem eqArg_eq{a b:AV}(h:eqArg a b=true):a=b:=by
 unfold eqArg at h
 split at h
 ·simp only [Bool.and_eq_true] at h;rw [Nat.eq_of_beq_eq_true h.1,Nat.eq_of_beq_eq_true h.2]
 ·simp only [Bool.and_eq_true,decide_eq_true_eq] at h;rw [kindEq_eq h.1,h.2]
 ·cases h
theorem eqArgs_eq:∀{x y:List AV},eqArgs x y=true→x=y
 | [],[],_=>rfl
 | a::x,b::y,h=>by
  simp only [eqArgs,Bool.and_eq_true] at h;rw [eqArg_eq h.1,eqArgs_eq h.2]
 | [],_::_,h=>by cases h
 | _::_,[],h=>by cases h
def panHere(st:Tr×Hp)(o:Oper)(k:Nat)(args:List AV):Bool :=
 match o.op with
 | .call c=>match c.callee with
  | .value f=>match val st.1 f with
   | .pl (.fn k')=>Nat.beq k' k&&eqArgs (c.args.toList.map (val st.1)) args
   | _=>false
  | _=>false
 | _=>false
def panAny(C:Cfg)(n:Nat)(ops:List Oper)(p k:Nat)(args:List AV)(keep:List Nat)(H:Hp):Nat→Array Bool→Tr→Bool
 | 0,_,_=>false
 | m+1,listed,s=>!(Region.ready .any ops.toArray listed).isEmpty&&(Region.ready .any ops.toArray listed).all fun i=>match ops[i]? with
  | none=>false
  | some o=>match o.guard with
   | some _=>false
   | none=>bif Nat.beq i p then panHere (s,H) o k args else
    quietOp o.op&&(match o.dst with | some d=>!(keep.any (Nat.beq d)) | none=>true)&&(match Qj C H.length (val s) H o.op with
     | some r=>panAny C n ops p k args keep H m (listed.setIfInBounds i true) (putO n s o.dst r.1)
     | none=>false)
def keepP(s:Tr):List Nat→Tr
 | []=>.leaf
 | t::r=>(keepP s r).put 12 t (s.get 12 t)
theorem keepP_vr{s:Tr}{t:Nat} : ∀(l:List Nat),(keepP s l).get 12 t = .un∨t∈l∧(keepP s l).get 12 t=s.get 12 t
 | []=>.inl (get_leaf _ _)
 | k::r=>by
  simp only [keepP]
  by_cases e:t=k
  ·subst e;rcases Qbt 12 (keepP s r) t (s.get 12 t) with h | h
   ·exact .inr ⟨by simp,h⟩
   ·exact .inl h
  ·rw [Qax 12 _ _ _ _ e]; exact (keepP_vr r).imp id fun h=>⟨List.mem_cons_of_mem _ h.1,h.2⟩
theorem pure_ev{ρ:Operand→AV}{op:Op}{r:AV×Hp}(hq:quietOp op=true)(he:Qj C nid ρ H op=some r):evOp C (callE []) nid ρ H op=some [r]:=by
 unfold evOp;cases op<;>first | (simp [quietOp] at hq; done) | (simp only [he])
theorem panAny_ok{ro:Option Nat}(hC':Qac P C){p k F:Nat}{args:List AV}{keep:List Nat}{s0:Tr}{Q:Exit→Act→World→Prop}{ch:List PanicEntry}{H2:Hp}(hx:CallX P k args (maskH F 0 H) ch H2)(h1:Qbc F H.length H2=true)(h2:Nat.ble H.length H2.length=true) :
  ∀(m:Nat){listed:Array Bool}{s:Tr}{φ:Phi}{a:Act}{w:World},panAny C n ops p k args keep H m listed s=true→SR D X n s H φ a w→(∀t∈keep,s.get 12 t=s0.get 12 t) →
   (∀φ' a' w',SR D X n (keepP s0 keep) (Qam F 0 H H2) φ' a' w'→Ev φ w φ' w'→(∀k,k<H.length→φ k = .fresh→φ' k = .fresh)→Q (.panic ch) a' w')→wpAnyIn (Fr ro) 0 P .any ops.toArray Q m listed a w
 | 0,listed,s,φ,a,w,h,_,_,_=>by cases h
 | m+1,listed,s,φ,a,w,h,hS,hk,hQ=>by
  simp only [panAny,Bool.and_eq_true,Bool.not_eq_true'] at h;obtain ⟨hne,hall⟩:=h;refine ⟨fun h0=>by (rw [h0] at hne; cases hne),fun i hi=>?_⟩;rw [List.all_eq_true] at hall;have:=hall i hi;unfold wpOpIn;rw [List.getElem?_toArray]
  split at this
  ·cases this
  ·rename_i o ho;rw [ho];simp only
   split at this
   ·cases this
   ·rename_i hg;rw [if_pos (by unfold Region.wanted; rw [hg])];cases hb:Nat.beq i p with
    | true =>
     simp only [hb,cond_true] at this;unfold panHere at this
     split at this
     ·rename_i c hop
      split at this
      ·rename_i f hcal
       split at this
       ·rename_i k' hkf;simp only [Bool.and_eq_true] at this;obtain ⟨e1,e2⟩:=this;have e1:=Nat.eq_of_beq_eq_true e1;have e2:=eqArgs_eq e2;subst e1; subst e2;obtain ⟨callee,as,ts⟩:=c;simp only at hcal; subst hcal;refine pan_op hS.hr hS.val hop hkf hx h1 h2 fun φ' w' m1 m2 m3 m4=>hQ φ' a w' ⟨hS.defers,hS.size,fun t=>?_,m1⟩ m2 m4;rcases keepP_vr (s:=s0) (t:=t) keep with e | ⟨ht,e⟩
        ·rw [e]; simp only [VR]
        ·rw [e,←hk t ht]; exact VR.stay m2 X _ _ (hS.slots t)
       ·cases this
      ·cases this
     ·cases this
    | false =>
     simp only [hb,cond_false,Bool.and_eq_true] at this;obtain ⟨⟨hq,hd⟩,hev⟩:=this
     split at hev
     ·rename_i r hr;have hrH:=quiet_same hr hq;refine op_ok hC' (callE_ok (P:=P) (es:=[]) (fun e he=>by cases he)) hS.hr hS.hr.free hS.val (pure_ev hq hr) fun v' w' hn=>?_;obtain ⟨y,hy,φ',k1,k2,k3,k4,k5⟩:=hn;rw [List.mem_singleton] at hy; subst hy;rw [hrH] at k2;have hS2:=hS.put k3 k2 k1 o.dst;refine panAny_ok hC' hx h1 h2 m hev hS2 (fun t ht=>?_) fun φ'' a'' w'' q1 q2 q3=>hQ φ'' a'' w'' q1 (k3.trans q2) fun j hj e=>q3 j hj (k5 j (by have:=hj; omega) hj e);rw [←hk t ht];cases hdst:o.dst with
      | none=>rfl
      | some d =>
       rw [hdst] at hd;have hne:t≠d:=by
        rintro rfl
        simp only [Bool.not_eq_true',←Bool.not_eq_true,List.any_eq_true] at hd;exact hd ⟨t,ht,by simp⟩
       simp only [putO];cases Nat.blt d n with
       | false=>rfl
       | true=>exact Qax 12 s d t _ hne
     ·cases hev
def hPanD(P:Program)(C:Cfg)(n:Nat)(ops:List Oper)(p:Nat)(ch:List PanicEntry)(H2:Hp)(keep:List Nat)(k:Nat)(args:List AV)(st:Tr×Hp):Option ((Tr×Hp)×List Prop) :=
 bif panAny C n ops p k args keep st.2 ops.length (Array.replicate ops.length false) st.1&&(Qbc (Qae st.2 100000 0 (Qaa args)) st.2.length H2&&Nat.ble st.2.length H2.length) then
  some ((keepP st.1 keep,Qam (Qae st.2 100000 0 (Qaa args)) 0 st.2 H2),[CallX P k args (maskH (Qae st.2 100000 0 (Qaa args)) 0 st.2) ch H2]) else none
theorem hPanD_ok(hC':Qac P C){id p k:Nat}{ops:Array Oper}{keep:List Nat}{args:List AV}{ch:List PanicEntry}{H2:Hp}{st st':Tr×Hp}{cs:List Prop}(h:hPanD P C n ops.toList p ch H2 keep k args st=some (st',cs))(hp:AllP cs) :
  T P n base (.region id ops true) st fun r=>r=(.pan ch,st'):=by
 unfold hPanD at h;cases hb:(panAny C n ops.toList p k args keep st.2 ops.toList.length (Array.replicate ops.toList.length false) st.1&&(Qbc (Qae st.2 100000 0 (Qaa args)) st.2.length H2&&Nat.ble st.2.length H2.length)) with
 | false=>rw [hb] at h; cases h
 | true =>
  rw [hb] at h;simp only [cond_true,Option.some.injEq,Prod.mk.injEq] at h; obtain ⟨rfl,rfl⟩:=h;simp only [Bool.and_eq_true] at hb;obtain ⟨h0,h1,h2⟩:=hb;intro _ ro _ D X φ a w hS hbase;refine wpIn_region_any hC'.mixed ?_;have hlen:=ble_t h2;have hS':SR D X n st.1 st.2 φ a w.drew:=⟨hS.defers,hS.size,fun t=>VR.stay Ev.drew X _ _ (hS.slots t),hS.hr.drew⟩;have:=panAny_ok (ro:=ro) (D:=D) (X:=X) (Q:=PostB true D X n base φ w fun r=>r=(.pan ch,(keepP st.1 keep,Qam (Qae st.2 100000 0 (Qaa args)) 0 st.2 H2))) hC' hp.1 h1 h2 ops.toList.length h0 hS' (fun t _=>rfl) fun φ' a' w' m1 m2 m3=>by
   refine ⟨_,rfl,rfl,φ',.of m1,(Ev.drew.trans m2).b fun o ho hf=>m3 o (by omega) hf,?_⟩;show base≤(Qam _ 0 st.2 H2).length;rw [Qbi _ _ _ hlen]; omega
  simpa [rfree] using this
def isAgg0:AV→Bool
 | .pl (.agg [])=>true
 | .agg []=>true
 | _=>false
def dieQ(C:Cfg)(n:Nat):List Oper→Option (Nat×Nat×Nat×Array (Nat×Operand))
 | [⟨some u1,.build T ps,_,_,_,none⟩,⟨some u2,.makeInterface T' (.tmp t1),_,_,_,none⟩,⟨_,.panic (.tmp t2),_,_,_,none⟩] =>
  (match C.ty T with
  | some ti=>bif Nat.beq u1 t1&&Nat.beq u2 t2&&Nat.beq T T'&&Nat.blt u1 n&&Nat.blt u2 n&&ti.k.row then some (u1,u2,T,ps) else none
  | none=>none)
 | _=>none
def hDie(C:Cfg)(n:Nat)(ops:List Oper)(ch:List PanicEntry)(st:Tr×Hp):Option ((Tr×Hp)×List Prop) :=
 match dieQ C n ops with
 | some (u1,u2,T,ps)=>(match Qj C st.2.length (val st.1) st.2 (.build T ps) with
  | some r=>bif isAgg0 r.1 then some ((putO n (putO n st.1 (some u1) .un) (some u2) .un,st.2),[ch=[{ v:=.iface T (.agg #[]),recovered:=false }]]) else none
  | none=>none)
 | none=>none
theorem x_iface{ρ:Operand→Value}{d:Option Tmp}{ty:TypeId}{pos:String}{af:Array Edge}{g:Option (Nat×Bool)}{t:TypeId}{u:TypeDesc}{x:Operand}{v:Value}(hu:P.underlying t=some u)(hr:u.isRow=true)(hx:ρ x=v):(execOp ρ ⟨d,.makeInterface t x,ty,pos,af,g⟩).run P w = .ok (.value (.iface t v)) w:=by
 subst hx;simp only [execOp,Instr.makeInterface];cases u<;>simp_all [Sem.run_bind,run_underlying hu,TypeDesc.isRow]
theorem x_panic{ρ:Operand→Value}{d:Option Tmp}{ty:TypeId}{pos:String}{af:Array Edge}{g:Option (Nat×Bool)}{t:TypeId}{x:Operand}{v:Value}(hx:ρ x = .iface t v):(execOp ρ ⟨d,.panic x,ty,pos,af,g⟩).run P w = .halt (.panic (.iface t v)) w:=by
 simp [execOp,hx,Instr.panic,goPanic]
theorem hDie_ok(hC':Qac P C){id:Nat}{ops:Array Oper}{ch:List PanicEntry}{st st':Tr×Hp}{cs:List Prop}(h:hDie C n ops.toList ch st=some (st',cs))(hp:AllP cs) :
  T P n base (.region id ops false) st fun r=>r=(.pan ch,st'):=by
 unfold hDie at h
 split at h
 ·rename_i u1 u2 T ps hq
  split at h
  ·rename_i r hr;cases hag:isAgg0 r.1 with
   | false=>rw [hag] at h; cases h
   | true =>
    rw [hag] at h;simp only [cond_true,Option.some.injEq,Prod.mk.injEq] at h; obtain ⟨rfl,rfl⟩:=h;obtain ⟨rfl,_⟩:=hp;unfold dieQ at hq
    split at hq
    ·rename_i v1 T1 ps1 y1 z1 f1 v2 T2 t1 y2 z2 f2 v3 t2 y3 z3 f3 hops
     split at hq
     ·rename_i ti hti;cases hb:(Nat.beq v1 t1&&Nat.beq v2 t2&&Nat.beq T1 T2&&Nat.blt v1 n&&Nat.blt v2 n&&ti.k.row) with
      | false=>rw [hb] at hq; cases hq
      | true =>
       rw [hb] at hq;simp only [cond_true,Option.some.injEq,Prod.mk.injEq] at hq; obtain ⟨rfl,rfl,rfl,rfl⟩:=hq;simp only [Bool.and_eq_true] at hb;obtain ⟨⟨⟨⟨⟨b1,b2⟩,b3⟩,b4⟩,b5⟩,b6⟩:=hb;have b1:=Nat.eq_of_beq_eq_true b1;have b2:=Nat.eq_of_beq_eq_true b2;have b3:=Nat.eq_of_beq_eq_true b3;subst b1; subst b2; subst b3;rw [Nat.blt_eq] at b4 b5;have hT:=hC'.ty _ ti hti;have hund:∃u,P.underlying T1=some u∧u.isRow=true:=by
        cases hk:ti.k with
        | struct fs=>obtain ⟨gs,hu,_⟩:=Qby hT hk; exact ⟨_,hu,rfl⟩
        | arr n e=>exact ⟨_,und_arr hT hk,rfl⟩
        | _=>rw [hk] at b6; cases b6
       obtain ⟨ud,hu,hur⟩:=hund;intro _ ro _ D X φ a w hS hbase;refine wpIn_region_list (by
        rw [hops];obtain ⟨v,H'⟩:=r;obtain ⟨rfl,u,hrun,hvu⟩:=g_build (w:=w) (X:=X) (φ:=φ) (ρ:=a.eval) (d:=some v1) (ty:=y1) (pos:=z1) (af:=f1) (g:=none) hC' hS.val hr;have hval:u = .agg #[]:=by
         simp only at hag;unfold isAgg0 at hag
         split at hag
         ·simp only [VR,PR] at hvu; obtain ⟨vs,rfl,hl⟩:=hvu; simp only [PRL] at hl; subst hl; rfl
         ·simp only [VR] at hvu; obtain ⟨vs,rfl,hl⟩:=hvu; simp only [VRL] at hl; subst hl; rfl
         ·cases hag
        subst hval;have hwant:∀(o:Oper) t,o.guard=none→Region.wanted o t=true:=fun o t h=>by unfold Region.wanted; rw [h]
        have un:∀(φ:Phi)(Y:Nat→Prop)(v:Value),VR w Y φ .un v:=fun _ _ _=>by simp only [VR]
        have s1:=hS.put (Ev.refl φ w) hS.hr (v:=.un) (v':=.agg #[]) (un _ _ _) (some v1);have s2:=s1.put (Ev.refl φ w) s1.hr (v:=.un) (v':=.iface T1 (.agg #[])) (un _ _ _) (some v2);have ev1:(a.put (some v1) (.agg #[])).eval (.tmp v1) = .agg #[]:=by
         simp [Act.put,Act.eval,Array.getD,hS.size,b4]
        have ev2:((a.put (some v1) (.agg #[])).put (some v2) (.iface T1 (.agg #[]))).eval (.tmp v2) = .iface T1 (.agg #[]):=by
         simp [Act.put,Act.eval,Array.getD,hS.size,b5]
        unfold wpListIn;rw [if_pos (hwant _ _ rfl)];refine wpR_run (fun c hc=>by cases hc) ?_;rw [hrun,Oper.uponIn_value];unfold wpListIn;rw [if_pos (hwant _ _ rfl)];refine wpR_run (fun c hc=>by cases hc) ?_;rw [x_iface hu hur ev1,Oper.uponIn_value];unfold wpListIn;rw [if_pos (hwant _ _ rfl)];refine wpR_run (fun c hc=>by cases hc) ?_;rw [x_panic ev2,Oper.uponIn_panic];exact ⟨_,rfl,rfl,φ,.of s2,EvB.refl _ _ _,hbase⟩)
     ·cases hq
    ·cases hq
  ·cases h
 ·cases h
end
section
variable {P:Program} {C:Cfg} {w w':World} {X:Nat→Prop} {φ φ':Phi} {H H':Hp} {nid n base:Nat} {s:Tr} {a:Act} {D:List Deferred} {ops:List Oper}
def endOf:List (Nat×Hint)→Option (Nat×Hint)
 | []=>none
 | (i,.pan a b c d e)::_=>some (i,.pan a b c d e)
 | (i,.die a)::_=>some (i,.die a)
 | _::r=>endOf r
def hC(P:Program)(C:Cfg)(n:Nat):Code→List RH→List (Option Bool)→Tr×Hp→Option ((Ex×Tr×Hp)×List Prop×List RH×List (Option Bool))
 | .skip,rs,ps,st=>some ((.norm,st),[],rs,ps)
 | .region _ ops false,rh::rs,ps,st=>match endOf rh.2.1 with
  | some (i,.pan ch H2 _ _ _)=>(match hPanT P C n ops.toList rh i ch H2 st with
   | some (st',cs)=>some ((.pan ch,st'),cs,rs,ps)
   | none=>none)
  | some (_,.die ch)=>(match hDie C n ops.toList ch st with
   | some (st',cs)=>some ((.pan ch,st'),cs,rs,ps)
   | none=>none)
  | _=>(match hOps C n ops.toList rh 0 ops.toList st with
   | some (st',cs,es)=>some ((.norm,st'),cs++entsP P es,rs,ps)
   | none=>none)
 | .region _ ops true,rh::rs,ps,st=>match endOf rh.2.1 with
  | some (p,.pan ch H2 keep k args)=>(match hPanD P C n ops.toList p ch H2 keep k args st with
   | some (st',cs)=>some ((.pan ch,st'),cs,rs,ps)
   | none=>none)
  | _=>(match hDrawn C n ops.toList rh st with
   | some (st',cs,es)=>some ((.norm,st'),cs++entsP P es,rs,ps)
   | none=>none)
 | .seq a b,rs,ps,st=>match hC P C n a rs ps st with
  | some ((.norm,st1),cs,rs1,ps1)=>(match hC P C n b rs1 ps1 st1 with
   | some (r,cs2,rs2,ps2)=>some (r,cs++cs2,rs2,ps2)
   | none=>none)
  | x=>x
 | .cond c a b,rs,p::ps,st=>match val st.1 c with
  | .pl (.bool t)=>(match p with
   | some d=>(match (bif d then hC P C n a rs ps st else hC P C n b rs ps st) with
    | some (r,cs,rs1,ps1)=>some (r,(t=d)::cs,rs1,ps1)
    | none=>none)
   | none=>bif t then hC P C n a rs ps st else hC P C n b rs ps st)
  | _=>none
 | .block i c,rs,ps,st=>match hC P C n c rs ps st with
  | some ((ex,st1),cs,rs1,ps1)=>some ((blkEx i ex,st1),cs,rs1,ps1)
  | none=>none
 | .exit i,rs,ps,st=>some ((.exit i,st),[],rs,ps)
 | .ret,rs,ps,st=>some ((.ret,st),[],rs,ps)
 | _,_,_,_=>none
theorem hC_ok(hC':Qac P C):∀(c:Code){rs rs':List RH}{ps ps':List (Option Bool)}{st:Tr×Hp}{r:Ex×Tr×Hp}{cs:List Prop},hC P C n c rs ps st=some (r,cs,rs',ps')→AllP cs→T P n base c st fun x=>x=r
 | .skip,rs,rs',ps,ps',st,r,cs,h,_=>by
  simp only [hC,Option.some.injEq,Prod.mk.injEq] at h; obtain ⟨rfl,_⟩:=h;exact T.skip rfl
 | .region id ops false,[],rs',ps,ps',st,r,cs,h,_=>by simp [hC] at h
 | .region id ops false,rh::rs,rs',ps,ps',st,r,cs,h,hp=>by
  simp only [hC] at h
  split at h
  ·split at h
   ·rename_i st' cs0 h1;simp only [Option.some.injEq,Prod.mk.injEq] at h; obtain ⟨rfl,rfl,_⟩:=h;exact hPanT_ok hC' h1 hp
   ·cases h
  ·split at h
   ·rename_i st' cs0 h1;simp only [Option.some.injEq,Prod.mk.injEq] at h; obtain ⟨rfl,rfl,_⟩:=h;exact hDie_ok hC' h1 hp
   ·cases h
  ·skip
   split at h
   ·rename_i st' cs0 es h1;simp only [Option.some.injEq,Prod.mk.injEq] at h; obtain ⟨rfl,rfl,_⟩:=h;rw [Qv] at hp;intro _ ro _ D X φ a w hS hb;refine wpIn_region_list (by
     have:=hOps_ok (ro:=ro) (ops:=ops.toList) (Q:=PostB true D X n base φ w fun x=>x=(.norm,st')) hC' ops.toList 0 (s:=st.1) (H:=st.2) h1 hp.1 (entsP_ok hp.2) hS (r2:=[]) fun φ' a' w' k1 k2 k3=>?_
     ·simpa [rfree] using this
     ·exact ⟨_,rfl,rfl,φ',.of k1,k2.b fun o ho hf=>k3.2 o (by omega) hf,Nat.le_trans hb k3.1⟩)
   ·cases h
 | .region id ops true,[],rs',ps,ps',st,r,cs,h,_=>by simp [hC] at h
 | .region id ops true,rh::rs,rs',ps,ps',st,r,cs,h,hp=>by
  simp only [hC] at h
  split at h
  ·split at h
   ·rename_i st' cs0 h1;simp only [Option.some.injEq,Prod.mk.injEq] at h; obtain ⟨rfl,rfl,_⟩:=h;exact hPanD_ok hC' h1 hp
   ·cases h
  ·skip
   split at h
   ·rename_i st' cs0 es h1;simp only [Option.some.injEq,Prod.mk.injEq] at h; obtain ⟨rfl,rfl,_⟩:=h;rw [Qv] at hp;unfold hDrawn at h1
    split at h1
    ·cases h1
    ·rename_i L hL
     split at h1
     ·rename_i st2 cs2 es2 h2;simp only [Option.some.injEq,Prod.mk.injEq] at h1; obtain ⟨rfl,rfl,rfl⟩:=h1;rw [Qv] at hp;have hev:=hDL_ok (call:=callE es2) hC'.noext L h2 hp.1.1 fun e he=>callE_at (sameP_ok hp.1.2) he;have hdr:evDrawn C (callE es2) n ops.toList st=some st2:=by unfold evDrawn; simp only [hL,hev]
      intro hk ro _ D X φ a w hS hb;simp only [Qci] at hk;have:=draw_ok hC' (callE_ok (entsP_ok hp.2)) ro D X n ops.toList st.1 st.2 st2.1 st2.2 φ a w id hk hdr hS;refine Code.wpIn_mono ?_ (by simpa using this)
      rintro e a' w' ⟨q,hq,he,φ',k1,k2,k3⟩
      rw [List.mem_singleton] at hq; subst hq;exact ⟨_,rfl,he,φ',.of k1,k2.b fun o ho hf=>k3.2 o (by omega) hf,by have:=k3.1; simp only at this ⊢; omega⟩
     ·cases h1
   ·cases h
 | .seq x y,rs,rs',ps,ps',st,r,cs,h,hp=>by
  simp only [hC] at h
  split at h
  ·rename_i st1 cs1 rs1 ps1 h1
   split at h
   ·rename_i r2 cs2 rs2 ps2 h2;simp only [Option.some.injEq,Prod.mk.injEq] at h; obtain ⟨rfl,rfl,_⟩:=h;rw [Qv] at hp;refine T.seq (hC_ok hC' x h1 hp.1) ?_
    rintro q rfl
    exact hC_ok hC' y h2 hp.2
   ·cases h
  ·rename_i hne;refine T.seq (hC_ok hC' x h hp) ?_
   rintro q rfl
   obtain ⟨ex,st'⟩:=q;cases ex with
   | norm=>exact absurd h (hne _ _ _ _)
   | exit i=>rfl
   | ret=>rfl
   | pan _=>rfl
 | .cond c x y,rs,rs',[],ps',st,r,cs,h,hp=>by simp [hC] at h
 | .cond c x y,rs,rs',p::ps,ps',st,r,cs,h,hp=>by
  simp only [hC] at h
  split at h
  ·rename_i t ht
   split at h
   ·rename_i d
    split at h
    ·rename_i r1 cs1 rs1 ps1 h1;simp only [Option.some.injEq,Prod.mk.injEq] at h; obtain ⟨rfl,rfl,_⟩:=h;have ht2:t=d:=hp.1;refine T.cond ht (fun e=>?_) (fun e=>?_)
     ·rw [e] at ht2; subst ht2;exact hC_ok hC' x (by simpa using h1) hp.2
     ·rw [e] at ht2; subst ht2;exact hC_ok hC' y (by simpa using h1) hp.2
    ·cases h
   ·refine T.cond ht (fun e=>?_) (fun e=>?_)
    ·subst e; exact hC_ok hC' x (by simpa using h) hp
    ·subst e; exact hC_ok hC' y (by simpa using h) hp
  ·cases h
 | .block i c,rs,rs',ps,ps',st,r,cs,h,hp=>by
  simp only [hC] at h
  split at h
  ·rename_i ex st1 cs1 rs1 ps1 h1;simp only [Option.some.injEq,Prod.mk.injEq] at h; obtain ⟨rfl,rfl,_⟩:=h;exact T.block ((hC_ok hC' c h1 hp).mono fun q hq=>by subst hq; rfl)
  ·cases h
 | .exit i,rs,rs',ps,ps',st,r,cs,h,_=>by
  simp only [hC,Option.some.injEq,Prod.mk.injEq] at h; obtain ⟨rfl,_⟩:=h;exact T.exit rfl
 | .ret,rs,rs',ps,ps',st,r,cs,h,_=>by
  simp only [hC,Option.some.injEq,Prod.mk.injEq] at h; obtain ⟨rfl,_⟩:=h;exact T.ret rfl
 | .loop _,_,_,_,_,_,_,_,h,_=>by simp [hC] at h
 | .goto _,_,_,_,_,_,_,_,h,_=>by simp [hC] at h
 | .label _,_,_,_,_,_,_,_,h,_=>by simp [hC] at h
 | .rangeFunc ..,_,_,_,_,_,_,_,h,_=>by simp [hC] at h
 | .scope ..,_,_,_,_,_,_,_,h,_=>by simp [hC] at h
 | .refuse ..,_,_,_,_,_,_,_,h,_=>by simp [hC] at h
end
end Go.Proofs.Ytinabbgjignkbaa
