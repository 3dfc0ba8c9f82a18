/- Several texts in one. No condition. -/
import Derived.Test.YtbgjlpdeoljmiaaZX
import Derived.OrdersIn
import Derived.TacticsIn
import Derived.LoopNIn
namespace Go.Proofs.Ytbgjlpdeoljmiaa
set_option linter.unusedVariables false
open Go.RowKit

set_option linter.unusedSimpArgs false
theorem Qcs:∀(f n:Nat),Tr.get f .leaf n = .un
 | 0,_=>rfl
 | _+1,_=>rfl
theorem Qak(n m:Nat):(Nat.beq n m=true∧n=m)∨(Nat.beq n m=false∧n≠m):=by
 cases h:Nat.beq n m with
 | true=>exact .inl ⟨rfl,Nat.eq_of_beq_eq_true h⟩
 | false=>exact .inr ⟨rfl,fun e=>by subst e; simp at h⟩
theorem Qca:∀(f:Nat)(s:Tr)(n:Nat)(x:AV),Tr.get f (Tr.put f s n x) n=x∨Tr.get f (Tr.put f s n x) n = .un
 | 0,_,_,_=>.inr rfl
 | f+1,s,n,x=>by
  rcases Qak n 0 with ⟨h0,e0⟩|⟨h0,e0⟩
  ·left; cases s<;>simp [Tr.put,Tr.get,e0]
  ·rcases Qak (n % 2) 1 with ⟨h1,e1⟩|⟨h1,e1⟩
   ·cases s<;>simp only [Tr.put,Tr.get,h0,h1,cond_true,cond_false]<;>exact Qca f _ _ _
   ·cases s<;>simp only [Tr.put,Tr.get,h0,h1,cond_true,cond_false]<;>exact Qca f _ _ _
theorem Qbi:∀(f:Nat)(s:Tr)(n m:Nat)(x:AV),m≠n→Tr.get f (Tr.put f s n x) m=Tr.get f s m
 | 0,_,_,_,_,_=>rfl
 | f+1,s,n,m,x,h=>by
  rcases Qak n 0 with ⟨h0,e0⟩|⟨h0,e0⟩
  ·rcases Qak m 0 with ⟨k0,e0'⟩|⟨k0,e0'⟩
   ·omega
   ·cases s<;>simp [Tr.put,Tr.get,h0,k0,Qcs]
  ·rcases Qak m 0 with ⟨k0,e0'⟩|⟨k0,e0'⟩
   ·rcases Qak (n % 2) 1 with ⟨h1,e1⟩|⟨h1,e1⟩<;>cases s<;>simp [Tr.put,Tr.get,h0,h1,e0']
   ·rcases Qak (n % 2) 1 with ⟨h1,e1⟩|⟨h1,e1⟩<;>rcases Qak (m % 2) 1 with ⟨k1,e1'⟩|⟨k1,e1'⟩
    ·have hne:m / 2≠n / 2:=by omega
     cases s<;>simp only [Tr.put,Tr.get,h0,h1,k0,k1,cond_true,cond_false]
     ·rw [Qbi f _ _ _ _ hne,Qcs]
     ·exact Qbi f _ _ _ _ hne
    ·cases s<;>simp [Tr.put,Tr.get,h0,h1,k0,k1,Qcs]
    ·cases s<;>simp [Tr.put,Tr.get,h0,h1,k0,k1,Qcs]
    ·have hne:m / 2-1≠n / 2-1:=by omega
     cases s<;>simp only [Tr.put,Tr.get,h0,h1,k0,k1,cond_true,cond_false]
     ·rw [Qbi f _ _ _ _ hne,Qcs]
     ·exact Qbi f _ _ _ _ hne
theorem put_comm:∀(f:Nat)(s:Tr)(n m:Nat)(x y:AV),m≠n→Tr.put f (Tr.put f s n x) m y=Tr.put f (Tr.put f s m y) n x
 | 0,_,_,_,_,_,_=>rfl
 | f+1,s,n,m,x,y,h=>by
  rcases Qak n 0 with ⟨h0,e0⟩|⟨h0,e0⟩
  ·rcases Qak m 0 with ⟨k0,e0'⟩|⟨k0,e0'⟩
   ·omega
   ·rcases Qak (m % 2) 1 with ⟨k1,e1'⟩|⟨k1,e1'⟩<;>cases s<;>simp [Tr.put,h0,k0,k1]
  ·rcases Qak m 0 with ⟨k0,e0'⟩|⟨k0,e0'⟩
   ·rcases Qak (n % 2) 1 with ⟨h1,e1⟩|⟨h1,e1⟩<;>cases s<;>simp [Tr.put,h0,h1,k0]
   ·rcases Qak (n % 2) 1 with ⟨h1,e1⟩|⟨h1,e1⟩<;>rcases Qak (m % 2) 1 with ⟨k1,e1'⟩|⟨k1,e1'⟩
    ·have hne:m / 2≠n / 2:=by omega
     cases s<;>simp only [Tr.put,h0,h1,k0,k1,cond_true,cond_false]<;>rw [put_comm f _ _ _ _ _ hne]
    ·cases s<;>simp [Tr.put,h0,h1,k0,k1]
    ·cases s<;>simp [Tr.put,h0,h1,k0,k1]
    ·have hne:m / 2-1≠n / 2-1:=by omega
     cases s<;>simp only [Tr.put,h0,h1,k0,k1,cond_true,cond_false]<;>rw [put_comm f _ _ _ _ _ hne]

section
variable {P:Program} {C:Cfg} {w w':World} {Y Y' X:Nat→Prop} {φ φ':Phi} {H H':Hp}
variable {nid n:Nat} {s:Tr} {a:Act} {D:List Deferred}
structure SR (D:List Deferred) (X:Nat→Prop) (n:Nat) (s:Tr) (H:Hp) (φ:Phi) (a:Act) (w:World):Prop where
 defers:a.defers=D
 size:a.tmps.size=n
 slots:∀t,VR w (YOf X φ) φ (s.get 12 t) (a.tmps.getD t undef)
 hr:HR X φ H w
theorem cst_ok(v:Value):VR w Y φ (cst v) v:=by
 unfold cst
 split<;>simp only [VR,PR,flOk]
 refine ⟨none,0,rfl,Nat.zero_le _,Nat.zero_le _,⟨rfl,rfl⟩,.inl rfl⟩
theorem SR.val(h:SR D X n s H φ a w)(x:Operand):VR w (YOf X φ) φ (val s x) (a.eval x):=by
 cases x with
 | tmp t=>exact h.slots t
 | const v=>exact cst_ok v
 | func f=>simp only [Go.Proofs.Ytbgjlpdeoljmiaa.val,VR,PR]; rfl
 | global _=>simp only [Go.Proofs.Ytbgjlpdeoljmiaa.val,VR]
theorem vr_undef:VR w Y φ (.tup []) undef:=by
 simp only [VR]; exact ⟨[],rfl,by simp only [VRT]⟩
theorem SR.put(h:SR D X n s H φ a w)(ev:Ev φ w φ' w')(hH:HR X φ' H' w'){v:AV}{v':Value}(hv:VR w' (YOf X φ') φ' v v')(d:Option Nat):SR D X n (putO n s d v) H' φ' (a.put d v') w':=by
 cases d with
 | none=>exact ⟨h.defers,h.size,fun t=>VR.stay ev X _ _ (h.slots t),hH⟩
 | some d =>
  refine ⟨h.defers,by simp [Act.put,h.size],fun t=>?_,hH⟩;simp only [putO,Act.put];cases hb:Nat.blt d n with
  | false =>
   simp only [cond_false];have hge:¬d<a.tmps.size:=fun hd=>by rw [h.size,←Nat.blt_eq,hb] at hd; cases hd
   rw [Array.setIfInBounds_eq_of_size_le (by omega)];exact VR.stay ev X _ _ (h.slots t)
  | true =>
   rw [Nat.blt_eq] at hb;simp only [cond_true]
   by_cases e:t=d
   ·subst e;rcases Qca 12 s t v with h1 | h1
    ·rw [h1];have:(a.tmps.setIfInBounds t v').getD t undef=v':=by simp [Array.getD,h.size,hb]
     rw [this]; exact hv
    ·rw [h1]; simp only [VR]
   ·rw [Qbi 12 s d t v e];have:(a.tmps.setIfInBounds d v').getD t undef=a.tmps.getD t undef:=by
     simp only [Array.getD_eq_getD_getElem?];rw [Array.getElem?_setIfInBounds_ne (Ne.symm e)]
    rw [this]; exact VR.stay ev X _ _ (h.slots t)


def isPl:AV→Bool
 | .pl _=>true
 | _=>false
def plRes:AV→Bool
 | .tup vs=>vs.all isPl
 | v=>isPl v
def Ret(X:Nat→Prop)(φ:Phi)(H:Hp)(w:World)(outs:List (AV×Hp))(e:Ending)(w':World):Prop :=
 ∃r∈outs,∃v' φ',e = .returned v'∧VR w' (YOf X φ') φ' r.1 v'∧HR X φ' r.2 w'∧Ev φ w φ' w'∧H.length≤r.2.length∧∀k,k<H.length→φ k = .fresh→φ' k = .fresh
def CallOK(P:Program)(call:Bool→Nat→List AV→Hp→Outs (AV×Hp)):Prop :=
 ∀ br k args H outs, call br k args H = some outs → Enters P k ∧ (br = false → ∀ r ∈ outs, plRes r.1 = true) ∧
  ((br=false→H=[])→∀X φ w vs,HR X φ H w→VRT w (YOf X φ) φ args vs→Calls P k vs.toArray w (Ret X φ H w outs))
def noPhi:Phi:=fun _=>.fresh
theorem noBlk(b:Nat):¬blkOf noPhi b:=fun ⟨_,_,_,h,_⟩=>by cases h
theorem XT.no(h:XT X φ w):XT X noPhi w:=⟨h.lt,h.tab.sub fun b hc=>absurd hc (noBlk b)⟩
theorem HR.empty(h:XT X noPhi w):HR X noPhi [] w where
 fresh _ _:=rfl
 live o z l h:=by cases h
 ob o x h:=by simp [hget] at h
 inj o o' l l' b p p' h:=by cases h
 out o l b p h:=by cases h
 xlt:=h
theorem PR.sub{p:PV}{v:Value}(hs:∀b,Y' b→Y b)(h:PR w Y p v):PR w Y' p v:=PR.stay ⟨Nat.le_refl _,fun _ _ _ _=>rfl,fun b _=>hs b⟩ p v h
theorem plRes_vr{v:AV}{v':Value}(hp:plRes v=true)(hs:∀b,Y' b→Y b)(h:VR w Y φ v v'):VR w Y' φ' v v':=by
 cases v<;>first | (simp [plRes,isPl] at hp; done) | skip
 ·rename_i p;simp only [VR] at h ⊢; exact PR.sub hs h
 ·rename_i vs;simp only [VR] at h ⊢;obtain ⟨us,rfl,hl⟩:=h;refine ⟨us,rfl,?_⟩;simp only [plRes] at hp
  induction vs generalizing us with
  | nil=>simpa only [VRT] using hl
  | cons x r ih =>
   simp only [VRT] at hl ⊢;obtain ⟨u,us',rfl,hx,hr⟩:=hl;simp only [List.all_cons,Bool.and_eq_true] at hp;refine ⟨u,us',rfl,?_,ih hp.2 us' hr⟩;cases x<;>first | (simp [isPl] at hp; done) | skip
   simp only [VR] at hx ⊢; exact PR.sub hs hx
theorem flatT_vr{Y Y':Nat→Prop}{φ φ':Phi}{w:World} : ∀(vs:List AV)(us:List Value),flatT vs=true→VRT w Y φ vs us→VRT w Y' φ' vs us
 | [],us,_,h=>by simpa only [VRT] using h
 | .pl p::vs,us,hf,h=>by
  simp only [flatT,Bool.and_eq_true] at hf;simp only [VRT,VR] at h ⊢;obtain ⟨u,r,e,h1,h2⟩:=h;exact ⟨u,r,e,flatP_pr p u hf.1 h1,flatT_vr vs r hf.2 h2⟩
 | .un::_,_,hf,_=>by simp [flatT] at hf
 | .own _::_,_,hf,_=>by simp [flatT] at hf
 | .vw _ _ _::_,_,hf,_=>by simp [flatT] at hf
 | .bp _ _::_,_,hf,_=>by simp [flatT] at hf
 | .ep _ _ _::_,_,hf,_=>by simp [flatT] at hf
 | .ip _ _::_,_,hf,_=>by simp [flatT] at hf
 | .mp _::_,_,hf,_=>by simp [flatT] at hf
 | .it _::_,_,hf,_=>by simp [flatT] at hf
 | .yl _::_,_,hf,_=>by simp [flatT] at hf
 | .tup _::_,_,hf,_=>by simp [flatT] at hf
 | .clo _ _::_,_,hf,_=>by simp [flatT] at hf
 | .agg _::_,_,hf,_=>by simp [flatT] at hf
theorem flatA_vr{Y Y':Nat→Prop}{φ φ':Phi}{w:World}{a:AV}{v:Value}(hf:flatA a=true)(h:VR w Y φ a v):VR w Y' φ' a v:=by
 cases a<;>first | (simp [flatA] at hf; done) | skip
 ·simp only [flatA] at hf; simp only [VR] at h ⊢; exact flatP_pr _ _ hf h
 ·simp only [flatA] at hf;simp only [VR] at h ⊢;obtain ⟨vs,e,hl⟩:=h;exact ⟨vs,e,flatT_vr _ _ hf hl⟩
theorem pls_ok(hH:HR X φ H w){as:List AV}{ps:List PV}{H1:Hp}{vs:List Value}(h:pls H as=some (ps,H1))(hv:VRT w (YOf X φ) φ as vs) :
  ∃φ1,HR X φ1 H1 w∧Ev φ w φ1 w∧Kp φ H φ1 H1∧∀φ0:Phi,VRT w (YOf X φ1) φ0 (ps.map .pl) vs:=by
 obtain ⟨φ1,h1,h2,h3⟩:=melt_ok (as.flatMap refC) hH;obtain ⟨φ2,k1,k2,k3,k4⟩:=plains_ok h1 h (VRT.stay h2 X _ _ hv);exact ⟨φ2,k1,h2.trans k2,h3.trans k3,k4⟩
theorem call_plain(hH:HR X φ H w){k:Nat}{args:List AV}{vs:List Value}{outs:List (AV×Hp)}{call:Bool→Nat→List AV→Hp→Outs (AV×Hp)}(hcall:CallOK P call){ps:List PV}{H1:Hp}(hp:pls H args=some (ps,H1))
  (hv:VRT w (YOf X φ) φ args vs) (hc:call false k (ps.map .pl) []=some outs):Calls P k vs.toArray w (Ret X φ H w (outs.map fun r=>(r.1,bif flatA r.1 then H else H1))):=by
 obtain ⟨φ1,hH1,ev1,kp1,hps⟩:=pls_ok hH hp hv;obtain ⟨_,hpl,hcalls⟩:=hcall false k _ _ _ hc;have hX:∀b,YOf X φ1 b→b<w.heap.size:=by
  rintro b (hx | ⟨o,l,p,ho,hA⟩)
  ·exact hH1.xlt b hx
  ·exact (hH1.out o l b p ho hA).2
 have hY0:∀b,YOf (YOf X φ1) noPhi b↔YOf X φ1 b:=fun b=>⟨fun h=>h.resolve_right (noBlk b),.inl⟩;have hargs:VRT w (YOf (YOf X φ1) noPhi) noPhi (ps.map .pl) vs:=by
  have:YOf (YOf X φ1) noPhi=YOf X φ1:=funext fun b=>propext (hY0 b);rw [this]; exact hps noPhi
 refine (hcalls (fun _=>rfl) (YOf X φ1) noPhi w vs (HR.empty ⟨hX,hH1.xlt.no.tab⟩) hargs).mono fun e w' hr=>?_;obtain ⟨r,hmem,v',φ',he,h1,h2,h3,_,_⟩:=hr;have hheap:∀b,b<w.heap.size→w'.heap[b]?=w.heap[b]?:=fun b hb=>h3.heap b hb (noBlk b);have ev2:Ev φ1 w φ1 w':=⟨h3.os,h3.tape,h3.output,h3.size,fun b hb _=>hheap b hb,fun _ _ h=>h,fun _ _=>.inl rfl⟩;cases hfl:flatA r.1 with
 | true =>
  have ev3:Ev φ w φ w':=⟨h3.os,h3.tape,h3.output,h3.size,fun b hb _=>hheap b hb,fun _ _ h=>h,fun _ _=>.inl rfl⟩;refine ⟨(r.1,H),List.mem_map.2 ⟨r,hmem,by rw [hfl]; rfl⟩,v',φ,he,flatA_vr hfl h1,?_,ev3,Nat.le_refl _,fun k _ h=>h⟩;exact hH.next ev3 hH.fresh hH.live (fun o x hx=>.inl ⟨hx,rfl,fun l b p hl hA=>hheap b (hH.out o l b p hl hA).2⟩) (fun o l b p ho _=>.inl ho)
 | false =>
 refine ⟨(r.1,H1),List.mem_map.2 ⟨r,hmem,by rw [hfl]; rfl⟩,v',φ1,he,?_,?_,ev1.trans ev2,by rw [kp1.2]; exact Nat.le_refl _,fun k _ h=>kp1.1 k h⟩
 ·exact plRes_vr (hpl rfl r hmem) (fun b hb=>.inl hb) h1
 ·exact hH1.next ev2 hH1.fresh hH1.live (fun o x hx=>.inl ⟨hx,rfl,fun l b p hl hA=>hheap b (hH1.out o l b p hl hA).2⟩) (fun o l b p ho _=>.inl ho)
theorem shared_ok(hH:HR X φ H w){k F:Nat}{args:List AV}{vs:List Value}{outs:List (AV×Hp)}{call:Bool→Nat→List AV→Hp→Outs (AV×Hp)}(hcall:CallOK P call)
  (hv:VRT w (YOf X φ) φ args vs) (h:evShared call k args H F=some outs):Enters P k∧Calls P k vs.toArray w (Ret X φ H w outs):=by
 unfold evShared at h
 split at h
 ·rename_i l hl;cases hb:l.all (fun r=>inF F H.length (refD r.1)&&Qbu F H.length r.2&&Nat.ble H.length r.2.length) with
  | false=>rw [hb] at h; cases h
  | true =>
   rw [hb] at h;simp only [cond_true,Option.some.injEq] at h; subst h;rw [List.all_eq_true] at hb;obtain ⟨hE,_,hc⟩:=hcall _ _ _ _ _ hl;refine ⟨hE,(hc (fun h=>by cases h) (cutX X φ F) (φ.cut F) w vs hH.cut (by rw [cut_Y]; exact VRT.re args vs (fun o _=>cut_re o) hv)).mono fun e w' hr=>?_⟩;obtain ⟨r,hm,v',φ',he,h1,h2,h3,h4,h5⟩:=hr;have hk:=hb r hm;simp only [Bool.and_eq_true] at hk;obtain ⟨⟨c1,c2⟩,c3⟩:=hk;have hlen:H.length≤r.2.length:=by simpa using c3
   obtain ⟨u1,u2,u3,u4,u5⟩:=uncut hH h2 h3 hlen (fun k hk=>h5 k (by rw [length_mask]; exact hk)) c2;refine ⟨(r.1,Qay F 0 H r.2),List.mem_map.2 ⟨r,hm,rfl⟩,v',_,he,?_,u1,u2,by rw [Qcc _ _ _ hlen]; exact hlen,u4⟩;rw [u3];refine VR.re _ _ (fun o ho=>?_) h1;unfold inF at c1;rw [List.all_eq_true] at c1;have:=c1 o ho;rw [Bool.or_eq_true,Nat.ble_eq] at this;have e:=u5 o this;exact ⟨fun hne=>by rw [e]; exact hne,fun z l he=>by rw [e] at he; exact he⟩
 ·cases h
theorem invoke_ok(hC:Qad P C)(hH:HR X φ H w){k:Nat}{args:List AV}{vs:List Value}{outs:List (AV×Hp)}{call:Bool→Nat→List AV→Hp→Outs (AV×Hp)}(hcall:CallOK P call)
  (hv:VRT w (YOf X φ) φ args vs) (h:Qcl C call k args H=some outs):Enters P k∧Calls P k vs.toArray w (Ret X φ H w outs):=by
 unfold Qcl at h;rw [hC.noext k] at h;simp only at h;cases hb:C.byref k with
 | true =>
  simp only [hb,cond_true] at h;exact shared_ok hH hcall hv h
 | false =>
  simp only [hb,cond_false] at h
  split at h
  ·rename_i ps H1 hps
   split at h
   ·rename_i l hl;simp only [Option.some.injEq] at h; subst h;exact ⟨(hcall _ _ _ _ _ hl).1,call_plain hH hcall hps hv hl⟩
   ·cases h
  ·exact shared_ok hH hcall hv h
theorem vrt_map{ρ:Operand→Value}{ra:Operand→AV}(hρ:∀x,VR w Y φ (ra x) (ρ x)):∀l:List Operand,VRT w Y φ (l.map ra) (l.map ρ)
 | []=>by simp [VRT]
 | x::l=>by simp only [List.map_cons,VRT]; exact ⟨_,_,rfl,hρ x,vrt_map hρ l⟩

def Fr(ro:Option Nat):Fence:={ Fence.wide with round:=ro }
theorem callsR{ro:Option Nat}{n k:Nat}{args:Array Value}{R:Ending→World→Prop}(h:Calls P k args w R):CallsIn (Fr ro) n P k args w R:=by
 have h2:CallsIn Fence.wide n P k args w R:=callsIn_wide.2 h;exact h2
theorem wpR_none{c:Code}{Q:Exit→Act→World→Prop} : c.wpIn (Fr none) n P Q a w↔c.wp P Q a w:=wpIn_wide
theorem wpR_run{ro:Option Nat}{o:Oper}{K:Act→World→Prop}{Q:Exit→Act→World→Prop}(hd:∀c,o.op≠.defer c) (h:o.uponIn (Fr ro) 0 P a K Q ((execOp a.eval o).run P w)):o.wpIn (Fr ro) 0 P a w K Q :=
 ⟨fun _ _=>trivial,by rw [Oper.semAt_eq _ _ _ hd]; exact h⟩

theorem o_call{ro:Option Nat}{o:Oper}{Q:Exit→Act→World→Prop}{K:Act→World→Prop}{f:Nat}{args:Array Value}{Rr:Ending→World→Prop}(hrun:(execOp a.eval o).run P w = .ok (.enter f args) w)(hc:Calls P f args w Rr)
  (h:∀e w',Rr e w'→∃v,e = .returned v∧K (a.put o.dst v) w') (hd:∀c,o.op≠.defer c):o.wpIn (Fr ro) 0 P a w K Q:=by
 refine wpR_run hd ?_;rw [hrun,Oper.uponIn_enter];refine ⟨(fun h=>by cases h),callsR (hc.mono fun e w' hr=>?_)⟩;obtain ⟨v,rfl,hk⟩:=h e w' hr;exact hk
def Nx(X:Nat→Prop)(nid:Nat)(H:Hp)(φ:Phi)(w:World)(outs:List (AV×Hp))(v':Value)(w':World):Prop :=
 ∃r∈outs,∃φ',VR w' (YOf X φ') φ' r.1 v'∧HR X φ' r.2 w'∧Ev φ w φ' w'∧H.length≤r.2.length∧∀k,k≠nid→k<H.length→φ k = .fresh→φ' k = .fresh
theorem op_pure{ro:Option Nat}(hC:Qad P C)(hH:HR X φ H w)(hf:Free φ H nid){ra:Operand→AV}(hρ:∀x,VR w (YOf X φ) φ (ra x) (a.eval x)){o:Oper}{outs:List (AV×Hp)}
  (h:(match Ql C nid ra H o.op with | some r=>some [r] | none=>none)=some outs) {Q:Exit→Act→World→Prop} {K:Act→World→Prop} (hK:∀v' w',Nx X nid H φ w outs v' w'→K (a.put o.dst v') w'):o.wpIn (Fr ro) 0 P a w K Q:=by
 split at h
 ·rename_i r hr;obtain ⟨v,H'⟩:=r;simp only [Option.some.injEq] at h; subst h;obtain ⟨d,op,ty,pos,af,g⟩:=o;obtain ⟨nx,v',w',φ',hrun,hnx,h1,h2,h3,h4,h5⟩:=g_pure (ρ:=a.eval) (d:=d) (ty:=ty) (pos:=pos) (af:=af) (g:=g) hC hH hf hρ hr;have hk:=hK v' w' ⟨(v,H'),by simp,φ',h1,h2,h3,h4,fun k hk _ h=>h5 k hk h⟩;refine wpR_run (fun c hc=>by simp only at hc; subst hc; simp [Ql] at hr) ?_;rcases hnx with rfl | ⟨rfl,rfl⟩
  ·rw [hrun,Oper.uponIn_value]; exact hk
  ·rw [hrun,Oper.uponIn_skip]; exact hk
 ·cases h
theorem op_ok{ro:Option Nat}(hC:Qad P C){call:Bool→Nat→List AV→Hp→Outs (AV×Hp)}(hcall:CallOK P call)(hH:HR X φ H w)(hf:Free φ H nid){ra:Operand→AV}(hρ:∀x,VR w (YOf X φ) φ (ra x) (a.eval x)){o:Oper}{outs:List (AV×Hp)}
  (h:evOp C call nid ra H o.op=some outs) {Q:Exit→Act→World→Prop} {K:Act→World→Prop} (hK:∀v' w',Nx X nid H φ w outs v' w'→K (a.put o.dst v') w'):o.wpIn (Fr ro) 0 P a w K Q:=by
 unfold evOp at h
 ·skip
  split at h
  ·rename_i c hop;obtain ⟨d,op,ty,pos,af,g⟩:=o;simp only at hop; subst hop;obtain ⟨callee,args,ts⟩:=c;have go:∀(f:Operand)(k:Nat)(cs:List AV)(us:List Value),callee = .value f→a.eval f = .func (.func k) #[] us.toArray→VRT w (YOf X φ) φ cs us→Qcl C call k (args.toList.map ra++cs) H=some outs→Oper.wpIn (Fr ro) 0 P ⟨d,.call ⟨callee,args,ts⟩,ty,pos,af,g⟩ a w K Q:=by
    intro f k cs us hcal hfv hcs hinv;subst hcal;obtain ⟨hE,hcalls⟩:=invoke_ok hC hH hcall ((vrt_map hρ args.toList).append hcs) hinv;refine o_call (x_call hE hfv rfl) (Rr:=Ret X φ H w outs) ?_ ?_ ?_
    ·have:(args.toList.map a.eval++us).toArray=args.map a.eval++us.toArray:=by
      apply Array.ext'; simp
     rw [←this]; exact hcalls
    ·rintro e w' ⟨r,hm,v',φ',rfl,h1,h2,h3,h4,h5⟩
     exact ⟨v',rfl,hK v' w' ⟨r,hm,φ',h1,h2,h3,h4,fun k _ hk hfr=>h5 k hk hfr⟩⟩
    ·intro c hc; cases hc
   split at h
   ·rename_i f hcal;simp only at hcal;have hfv:=hρ f
    split at h
    ·rename_i k hk;rw [hk] at hfv;simp only [VR,PR] at hfv;exact go f k [] [] hcal (by rw [hfv]) (by simp [VRT]) (by simpa using h)
    ·rename_i k cs hk;rw [hk] at hfv;simp only [VR] at hfv;obtain ⟨us,hfv,hcs⟩:=hfv;exact go f k cs us hcal hfv hcs h
    ·cases h
   ·exact op_pure hC hH hf hρ h hK
  ·rename_i it hop;obtain ⟨d,op,ty,pos,af,g⟩:=o;simp only at hop; subst hop;obtain ⟨r,hm,nx,v',w',φ',hrun,hnx,h1,h2,h3,h4,h5⟩:=g_next (nid:=nid) (ρ:=a.eval) (d:=d) (ty:=ty) (pos:=pos) (af:=af) (g:=g) hH h (hρ it);have hk:=hK v' w' ⟨r,hm,φ',h1,h2,h3,h4,fun k hk _ h=>h5 k hk h⟩;refine wpR_run (fun c hc=>by cases hc) ?_;rcases hnx with rfl | ⟨rfl,rfl⟩
   ·rw [hrun,Oper.uponIn_value]; exact hk
   ·rw [hrun,Oper.uponIn_skip]; exact hk
  ·exact op_pure hC hH hf hρ h hK
end
end Go.Proofs.Ytbgjlpdeoljmiaa
namespace Go.Proofs.Ytbgjlpdeoljmiaa
set_option linter.unusedSimpArgs false
set_option linter.unusedVariables false
open Go.RowKit
section
variable {P:Program} {C:Cfg} {w w' w'':World} {Y Y' X:Nat→Prop} {φ φ' φ'':Phi} {H H' H'':Hp}
variable {nid n:Nat} {s:Tr} {a:Act} {D:List Deferred} {ro:Option Nat}
def Gr(φ:Phi)(H:Hp)(φ':Phi)(H':Hp):Prop:=H.length≤H'.length∧∀k,k<H.length→φ k = .fresh→φ' k = .fresh
theorem Gr.refl(φ:Phi)(H:Hp):Gr φ H φ H:=⟨Nat.le_refl _,fun _ _ h=>h⟩
theorem Gr.trans(h:Gr φ H φ' H')(k:Gr φ' H' φ'' H''):Gr φ H φ'' H'':=⟨Nat.le_trans h.1 k.1,fun i hi e=>k.2 i (Nat.lt_of_lt_of_le hi h.1) (h.2 i hi e)⟩
theorem tmps_bool{t:Nat}{b:Bool}(h:a.tmps.getD t undef = .bool b):a.tmps[t]?=some (.bool b):=by
 rw [Array.getD_eq_getD_getElem?] at h;cases hg:a.tmps[t]? with
 | none=>rw [hg] at h; simp [undef] at h
 | some v=>rw [hg] at h; simp at h; rw [h]
theorem want_ok{ops:List Oper}{o:Oper}{b:Bool}(hS:SR D X n s H φ a w)(h:want ops s o.guard=some b):Region.wanted o (yielded ops.toArray a.tmps)=b:=by
 unfold want at h;unfold Region.wanted
 split at h
 ·rename_i hg;simp only [Option.some.injEq] at h; subst h;rw [hg]
 ·rename_i j c hg;rw [hg];simp only
  split at h
  ·rename_i t ht;have ht':((ops.toArray[j]?).bind (·.dst))=some t:=by
    unfold dstOf at ht;rw [List.getElem?_toArray]
    split at ht
    ·rename_i o' ho'; rw [ho']; exact ht
    ·cases ht
   have hv:=hS.slots t
   split at h
   ·rename_i c' hc;simp only [Option.some.injEq] at h; subst h;rw [hc] at hv;simp only [VR,PR] at hv;have:=tmps_bool hv;simp only [yielded,ht',Option.bind_some,this];cases c<;>cases c'<;>rfl
   ·rename_i hc;simp only [Option.some.injEq] at h; subst h;rw [hc] at hv;simp only [VR] at hv;obtain ⟨vs,hv,hvs⟩:=hv;simp only [VRT] at hvs; subst hvs;have:yielded ops.toArray a.tmps j=none:=by
     simp only [yielded,ht',Option.bind_some];rw [Array.getD_eq_getD_getElem?] at hv;cases hg2:a.tmps[t]? with
     | none=>rfl
     | some u=>rw [hg2] at hv; simp at hv; subst hv; rfl
    rw [this]; cases c<;>rfl
   ·cases h
  ·cases h

def exOf:Ex→Exit
 | .norm=>.normal
 | .exit i=>.exit i
 | .ret=>.ret
 | .pan ch=>.panic ch
def Post(D:List Deferred)(X:Nat→Prop)(n:Nat)(φ:Phi)(H:Hp)(w:World)(outs:List (Ex×Tr×Hp))(e:Exit)(a':Act)(w':World):Prop :=
 ∃r∈outs,exOf r.1=e∧∃φ',SR D X n r.2.1 r.2.2 φ' a' w'∧Ev φ w φ' w'∧Gr φ H φ' r.2.2
def DrawOK(P:Program)(C:Cfg)(call:Bool→Nat→List AV→Hp→Outs (AV×Hp)):Prop :=
 ∀ro D X n ops s H s' H' φ a w id,planOK ops=true→evDrawn C call n ops (s,H)=some (s',H')→SR D X n s H φ a w→(Code.region id ops.toArray true).wpIn (Fr ro) 0 P (Post D X n φ H w [(.norm,s',H')]) a w
end
end Go.Proofs.Ytbgjlpdeoljmiaa
namespace Go.Proofs.Ytbgjlpdeoljmiaa
set_option linter.unusedSimpArgs false
set_option linter.unusedVariables false
open Go.RowKit
section
variable {P:Program} {C:Cfg} {w w' w'':World} {Y Y' X:Nat→Prop} {φ φ' φ'':Phi} {H H' H'':Hp}
variable {nid n:Nat} {s:Tr} {a:Act} {D:List Deferred}
theorem sem_id{α:Type}(x:Sem α):(x >>= Pure.pure)=x:=by
 show Sem.bind x Sem.pure=x
 induction x with
 | pure _=>rfl
 | halt _=>rfl
 | load m a k ih=>simp only [Sem.bind]; congr 1; funext v; exact ih v
 | store m a v k ih=>simp only [Sem.bind]; rw [ih]
 | new o k ih=>simp only [Sem.bind]; congr 1; funext v; exact ih v
 | shape o k ih=>simp only [Sem.bind]; congr 1; funext v; exact ih v
 | freeze a n k ih=>simp only [Sem.bind]; rw [ih]
 | frozen a k ih=>simp only [Sem.bind]; congr 1; funext v; exact ih v
 | getObj a k ih=>simp only [Sem.bind]; congr 1; funext v; exact ih v
 | setObj a o k ih=>simp only [Sem.bind]; rw [ih]
 | choose q k ih=>simp only [Sem.bind]; congr 1; funext v; exact ih v
 | sys q k ih=>simp only [Sem.bind]; congr 1; funext v; exact ih v
 | program k ih=>simp only [Sem.bind]; congr 1; funext v; exact ih v
 | mark m k ih=>simp only [Sem.bind]; rw [ih]
theorem sem_assoc{α β γ:Type}(x:Sem α)(f:α→Sem β)(g:β→Sem γ):(x >>= f) >>= g=x >>= fun a=>f a >>= g:=by
 show Sem.bind (Sem.bind x f) g=Sem.bind x (fun a=>Sem.bind (f a) g)
 induction x with
 | pure _=>rfl
 | halt _=>rfl
 | load m a k ih=>simp only [Sem.bind]; congr 1; funext v; exact ih v
 | store m a v k ih=>simp only [Sem.bind]; rw [ih]
 | new o k ih=>simp only [Sem.bind]; congr 1; funext v; exact ih v
 | shape o k ih=>simp only [Sem.bind]; congr 1; funext v; exact ih v
 | freeze a n k ih=>simp only [Sem.bind]; rw [ih]
 | frozen a k ih=>simp only [Sem.bind]; congr 1; funext v; exact ih v
 | getObj a k ih=>simp only [Sem.bind]; congr 1; funext v; exact ih v
 | setObj a o k ih=>simp only [Sem.bind]; rw [ih]
 | choose q k ih=>simp only [Sem.bind]; congr 1; funext v; exact ih v
 | sys q k ih=>simp only [Sem.bind]; congr 1; funext v; exact ih v
 | program k ih=>simp only [Sem.bind]; congr 1; funext v; exact ih v
 | mark m k ih=>simp only [Sem.bind]; rw [ih]
theorem sem_lawful:LawfulMonad Sem:=LawfulMonad.mk' Sem (id_map:=fun x=>sem_id x) (pure_bind:=fun _ _=>rfl) (bind_assoc:=sem_assoc)
theorem load_var(hC:Qad P C)(hH:HR X φ H w){t:Nat}{p v:AV}{pv:Value}(h:evLoad C H t p=some v)(hx:VR w (YOf X φ) φ p pv) :
  ∃u,(do loadVar t (←asAddr pv):Sem Value).run P w = .ok u w∧VR w (YOf X φ) φ v u:=by
 obtain ⟨u, hr, hv⟩ := g_load (ρ := fun _ => pv) (x := .tmp 0) (d := none) (ty := 0) (pos := "") (af := #[]) (g := none) hC hH h hx
 refine ⟨u,?_,hv⟩;simp only [execOp,Instr.loadAt] at hr;have key:(do loadVar t (←asAddr pv):Sem Value).run P w=(do loadVar t (←Instr.sureAddr pv):Sem Value).run P w:=by
  cases pv with
  | pointer q =>
   cases q with
   | none=>simp [Instr.sureAddr] at hr
   | some a=>simp [Instr.sureAddr,asAddr]
  | _=>simp [Instr.sureAddr] at hr
 rw [key];generalize (do loadVar t (←Instr.sureAddr pv):Sem Value)=m at hr;simp only [Sem.run_bind,Sem.run_map] at hr;cases hm:m.run P w with
 | ok x y=>rw [hm] at hr; simp at hr; rw [hr.1,hr.2]
 | halt x y=>rw [hm] at hr; simp at hr
def resS(tmps:Array Value):ResultVar→Sem Value
 | .tmp t=>pure (tmps.getD t undef)
 | .cell a t=>do loadVar t (←asAddr (tmps.getD a undef))
theorem evRes_ok(hC:Qad P C)(hS:SR D X n s H φ a w){r:ResultVar}{v:AV}(h:evRes C s H r=some v):∃u,(resS a.tmps r).run P w = .ok u w∧VR w (YOf X φ) φ v u:=by
 cases r with
 | tmp t=>simp only [evRes,Option.some.injEq] at h; subst h; exact ⟨_,rfl,hS.slots t⟩
 | cell p t=>exact load_var hC hS.hr h (hS.slots p)
theorem evResL_ok(hC:Qad P C)(hS:SR D X n s H φ a w):∀{l:List ResultVar} {vs:List AV},evResL C s H l=some vs→∃us,VRT w (YOf X φ) φ vs us∧us.length=l.length∧∀(i:Nat)(r:ResultVar),l[i]?=some r→∃u,us[i]?=some u∧(resS a.tmps r).run P w = .ok u w
 | [],vs,h=>by simp only [evResL,Option.some.injEq] at h; subst h; exact ⟨[],by simp [VRT],rfl,fun i r hi=>by simp at hi⟩
 | r::l,vs,h=>by
  simp only [evResL] at h
  split at h
  ·rename_i v hv;obtain ⟨vs',h1,rfl⟩:=Option.map_eq_some_iff.1 h;obtain ⟨u,hu,hvr⟩:=evRes_ok hC hS hv;obtain ⟨us,h2,h3,h4⟩:=evResL_ok hC hS h1;refine ⟨u::us,by simp only [VRT]; exact ⟨u,us,rfl,hvr,h2⟩,by simp [h3],fun i r' hi=>?_⟩;cases i with
   | zero=>simp at hi; subst hi; exact ⟨u,by simp,hu⟩
   | succ i=>simp at hi; simpa using h4 i r' hi
  ·cases h
theorem mapM_list{α:Type}{f:α→Sem Value} : ∀(l:List α)(us:List Value),us.length=l.length→(∀(i:Nat)(x:α),l[i]?=some x→∃u,us[i]?=some u∧(f x).run P w = .ok u w)→(l.mapM f).run P w = .ok us w
 | [],us,h,_=>by
  haveI:=sem_lawful
  have:us=[]:=by simpa using h
  subst this; rw [List.mapM_nil]; rfl
 | x::l,us,h,hf=>by
  haveI:=sem_lawful
  cases us with
  | nil=>simp at h
  | cons u us =>
   obtain ⟨u',h1,h2⟩:=hf 0 x (by simp);simp at h1; subst h1;have ih:=mapM_list l us (by simpa using h) (fun i y hy=>by
    obtain ⟨v,h3,h4⟩:=hf (i+1) y (by simpa using hy);exact ⟨v,by simpa using h3,h4⟩)
   rw [List.mapM_cons,Sem.run_bind,h2]
   change Sem.run P (List.mapM f l >>= fun bs=>pure (u::bs)) w=_
   rw [Sem.run_bind,ih];rfl
theorem mapM_run{α:Type}{f:α→Sem Value}(xs:Array α)(us:List Value)(hlen:us.length=xs.size)(hf:∀(i:Nat)(x:α),xs[i]?=some x→∃u,us[i]?=some u∧(f x).run P w = .ok u w):(xs.mapM f).run P w = .ok us.toArray w:=by
 haveI:=sem_lawful
 rw [Array.mapM_eq_mapM_toList,map_eq_pure_bind,Sem.run_bind,mapM_list xs.toList us (by simpa using hlen) (fun i x hx=>hf i x (by simpa using hx))];rfl
theorem results_ok(hC:Qad P C)(hS:SR D X n s H φ a w){fn:Func}{v:AV}(h:evRet C s H fn.results.toList=some v):∃u,(results fn a.tmps).run P w = .ok u w∧VR w (YOf X φ) φ v u:=by
 unfold evRet at h;have main:∀vs,evResL C s H fn.results.toList=some vs→∃us:List Value,VRT w (YOf X φ) φ vs us∧(results fn a.tmps).run P w = .ok (if h:us.toArray.size=1 then us.toArray[0] else .tuple us.toArray) w:=by
  intro vs hvs;obtain ⟨us,h1,h2,h3⟩:=evResL_ok hC hS hvs;refine ⟨us,h1,?_⟩;have hm:=mapM_run (P:=P) (w:=w) (f:=resS a.tmps) fn.results us (by simpa using h2) (fun i x hx=>h3 i x (by simpa using hx));have he:results fn a.tmps=(fn.results.mapM (resS a.tmps) >>= fun vs=>pure (if h:vs.size=1 then vs[0] else .tuple vs)):=by
   unfold results; congr 1
  rw [he,Sem.run_bind,hm];rfl
 split at h
 ·rename_i v1 hv1;simp only [Option.some.injEq] at h; subst h;obtain ⟨us,h1,h2⟩:=main _ hv1;simp only [VRT] at h1;obtain ⟨u,r,rfl,hu,rfl⟩:=h1;exact ⟨u,by simpa using h2,hu⟩
 ·rename_i vs hne hvs;simp only [Option.some.injEq] at h; subst h;obtain ⟨us,h1,h2⟩:=main _ hvs;refine ⟨.tuple us.toArray,?_,by simp only [VR]; exact ⟨us,rfl,h1⟩⟩;rw [h2,dif_neg];have hl:=h1.length;simp only [List.size_toArray];intro h1';rw [hl] at h1';obtain ⟨x,hx⟩:=List.length_eq_one_iff.1 h1';exact hne x (by rw [←hx])
 ·cases h

theorem initS_ok:∀{args:List AV} {vs:List Value} (i:Nat) (s:Tr) (f:Nat→Value),VRT w Y φ args vs→(∀t,VR w Y φ (s.get 12 t) (f t))→∀t,VR w Y φ ((Qai args i s).get 12 t) (if i≤t∧t<i+vs.length then (vs[t-i]?).getD undef else f t)
 | [],vs,i,s,f,h,hs,t=>by
  simp only [VRT] at h; subst h;rw [if_neg (by simp)]; exact hs t
 | v::r,vs,i,s,f,h,hs,t=>by
  simp only [VRT] at h;obtain ⟨u,us,rfl,hu,hr⟩:=h;simp only [Qai];have:=initS_ok (i+1) (s.put 12 i v) (fun t=>if t=i then u else f t) hr (fun t=>by
   by_cases e:t=i
   ·subst e; rw [if_pos rfl];rcases Qca 12 s t v with h1 | h1
    ·rw [h1]; exact hu
    ·rw [h1]; simp only [VR]
   ·rw [if_neg e,Qbi 12 s i t v e]; exact hs t) t
  by_cases h1:i+1≤t∧t<i+1+us.length
  ·rw [if_pos h1] at this;rw [if_pos (by simp; omega)];rw [show t-i=(t-(i+1))+1 from by omega]; simpa using this
  ·rw [if_neg h1] at this
   by_cases e:t=i
   ·subst e; rw [if_pos rfl] at this;rw [if_pos (by simp)]; simpa using this
   ·rw [if_neg e] at this;rw [if_neg (by simp only [List.length_cons]; omega)]; exact this
theorem plainR_ok(hH:HR X φ H w){v v':AV}{u:Value}(h:plainR H v=some v')(hv:VR w (YOf X φ) φ v u):∃φ1 H1,HR X φ1 H1 w∧Ev φ w φ1 w∧Kp φ H φ1 H1∧VR w (YOf X φ1) φ1 v' u:=by
 unfold plainR at h
 split at h
 ·split at h
  ·rename_i ps H1 hps;simp only [Option.some.injEq] at h; subst h;simp only [VR] at hv;obtain ⟨vs,rfl,hvs⟩:=hv;obtain ⟨φ1,h1,h2,h3,h4⟩:=pls_ok hH hps hvs;exact ⟨φ1,H1,h1,h2,h3,by simp only [VR]; exact ⟨vs,rfl,h4 φ1⟩⟩
  ·cases h
 ·split at h
  ·rename_i p H1 hp;simp only [Option.some.injEq] at h; subst h;obtain ⟨φ0,g1,g2,g3⟩:=melt_ok (refC v) hH;obtain ⟨φ1,h1,h2,h3,h4⟩:=plain_ok g1 hp (VR.stay g2 X _ _ hv);exact ⟨φ1,H1,h1,g2.trans h2,g3.trans h3,by simp only [VR]; exact h4⟩
  ·cases h
end
end Go.Proofs.Ytbgjlpdeoljmiaa
namespace Go.Proofs.Ytbgjlpdeoljmiaa
set_option linter.unusedSimpArgs false
set_option linter.unusedVariables false
open Go.RowKit
def unfl:Option Ob→Option Ob
 | some (.row _ sz es)=>some (.row true sz es)
 | x=>x
theorem Qbx{a b:Option Ob}(e:unfl b=unfl a):b=a∨∃f f' sz es,a=some (.row f sz es)∧b=some (.row f' sz es):=by
 cases a with
 | none=>cases b with
  | none=>exact .inl rfl
  | some y=>cases y<;>simp [unfl] at e
 | some x=>cases b with
  | none=>cases x<;>simp [unfl] at e
  | some y =>
   cases x<;>cases y<;>simp only [unfl] at e<;>first
    | exact .inl e
    | (simp at e; done)
    | (simp only [Option.some.injEq,Ob.row.injEq,true_and] at e; obtain ⟨rfl,rfl⟩:=e; exact .inr ⟨_,_,_,_,rfl,rfl⟩)
def Agu(R:List Nat)(H H2:Hp):Prop:=∀o∈R,unfl (hget H2 o)=unfl (hget H o)
section
variable {C:Cfg} {H H' H2:Hp} {nid:Nat}
theorem l_load{t:Nat}{p:AV}(h:Agu (ref1 p) H H2):evLoad C H2 t p=evLoad C H t p:=by
 cases p<;>first
  | rfl
  | (rcases Qbx (h _ (List.mem_singleton.2 rfl)) with e | ⟨f, f', sz, es, h1, h2⟩
     ·simp only [evLoad,e]
     ·simp only [evLoad,h1,h2])
theorem l_alive{o:Nat}(h:unfl (hget H2 o)=unfl (hget H o)):alive H2 o=alive H o:=by
 rcases Qbx h with e | ⟨f,f',sz,es,h1,h2⟩
 ·simp only [alive,e]
 ·simp only [alive,h1,h2]
theorem l_indexAddr{t:Nat}{p i:AV}(h:Agu (ref1 p) H H2):Qae C H2 t p i=Qae C H t p i:=by
 cases p with
 | own o =>
  rcases Qbx (h _ (List.mem_singleton.2 rfl)) with e | ⟨f,f',sz,es,h1,h2⟩
  ·simp only [Qae,e]
  ·simp only [Qae,h1,h2]
 | vw o _ _ =>
  rcases Qbx (h _ (List.mem_singleton.2 rfl)) with e | ⟨f,f',sz,es,h1,h2⟩
  ·simp only [Qae,e]
  ·simp only [Qae,h1,h2]
 | bp o _=>simp only [Qae,l_alive (h _ (List.mem_singleton.2 rfl))]
 | ep o _ _=>simp only [Qae,l_alive (h _ (List.mem_singleton.2 rfl))]
 | pl v=>cases v<;>simp only [Qae]
 | _=>simp only [Qae]
theorem l_slice{t:Nat}{p:AV}{lo hi mx:Option AV}(h:Agu (ref1 p) H H2):evSlice C H2 t p lo hi mx=evSlice C H t p lo hi mx:=by
 cases h1:C.ty t<;>cases h2:optNat lo<;>cases h3:optNat hi<;>rcases h4:optNat mx with _ | _ | m<;>simp only [evSlice,h1,h2,h3,h4]<;>(
  cases p with
  | own o =>
   rcases Qbx (h _ (List.mem_singleton.2 rfl)) with e | ⟨f,f',sz,es,h1,h2⟩
   ·simp only [e]
   ·simp only [h1,h2]
  | vw o _ _ =>
   rcases Qbx (h _ (List.mem_singleton.2 rfl)) with e | ⟨f,f',sz,es,h1,h2⟩
   ·simp only [e]
   ·simp only [h1,h2]
  | pl v =>
   cases v<;>first | rfl | (rename_i f _ _; cases f<;>rfl)
  | _=>rfl)
theorem l_len{t:Nat}{p:AV}(h:Agu (ref1 p) H H2):lenA C H2 t p=lenA C H t p:=by
 cases p with
 | pl v=>cases v<;>simp only [lenA]
 | own o =>
  rcases Qbx (h _ (List.mem_singleton.2 rfl)) with e | ⟨f,f',sz,es,h1,h2⟩
  ·simp only [lenA,e]
  ·simp only [lenA,h1,h2]
 | vw o _ _=>simp only [lenA,l_alive (h _ (List.mem_singleton.2 rfl))]
 | mp o =>
  rcases Qbx (h _ (List.mem_singleton.2 rfl)) with e | ⟨f,f',sz,es,h1,h2⟩
  ·simp only [lenA,e]
  ·simp only [lenA,h1,h2]
 | _=>simp only [lenA]
theorem l_eq{t:Nat}{p q:AV}(h:Agu (ref1 p) H H2):evEq C H2 t p q=evEq C H t p q:=by
 unfold evEq;cases C.ty t with
 | none=>rfl
 | some ti =>
  simp only [];generalize ti.k=K
  split<;>first
   | rfl
   | (rcases Qbx (h _ (List.mem_singleton.2 rfl)) with e | ⟨f, f', sz, es, h1, h2⟩
      ·simp only [e]
      ·simp only [h1,h2]<;>(cases es<;>rfl))
   | (split<;>simp_all)
theorem l_bin{op:BinOp}{t:Nat}{p q:AV}(h:Agu (ref1 p) H H2):evBin C H2 op t p q=evBin C H op t p q:=by
 unfold evBin
 split<;>first | rfl | rw [l_eq h]
theorem l_elems{p:AV}(h:Agu (ref1 p) H H2):elems H2 p=elems H p:=by
 cases p<;>first
  | rfl
  | (rename_i v; cases v<;>rfl)
  | (rcases Qbx (h _ (List.mem_singleton.2 rfl)) with e | ⟨f, f', sz, es, h1, h2⟩
     ·simp only [elems,e]
     ·simp only [elems,h1,h2])
theorem l_viewP{p:AV}(h:Agu (ref1 p) H H2):viewP H2 p=viewP H p:=by
 cases p with
 | own o=>simp only [viewP,l_elems h]
 | _=>rfl
def RdAt(R:List Nat)(f:Hp→Option (AV×Hp))(H:Hp):Prop:=∀r H',f H=some (r,H')→H'=H∧∀H2,Agu R H H2→f H2=some (r,H2)
theorem rd_map{R:List Nat}{g:Hp→Option AV}(hg:∀H2,Agu R H H2→g H2=g H):RdAt R (fun H=>(g H).map fun v=>(v,H)) H:=by
 intro r H' h;obtain ⟨v,hv,he⟩:=Option.map_eq_some_iff.1 h;simp only [Prod.mk.injEq] at he; obtain ⟨rfl,rfl⟩:=he;exact ⟨rfl,fun H2 ha=>by simp only [hg H2 ha,hv,Option.map_some]⟩
theorem mem_ref{ρ:Operand→AV}{l:List Operand}{x:Operand}(hx:x∈l) (h:Agu (l.flatMap fun x=>ref1 (ρ x)) H H2):Agu (ref1 (ρ x)) H H2:=fun o ho=>h o (List.mem_flatMap.2 ⟨x,hx,ho⟩)
theorem Qck{R:List Nat}{f:Hp→Option (AV×Hp)} (hf:∀H,f H=((f []).map (·.1)).map fun v=>(v,H)):RdAt R f H:=by
 intro r H' h;rw [hf H] at h;obtain ⟨v,hv,he⟩:=Option.map_eq_some_iff.1 h;simp only [Prod.mk.injEq] at he; obtain ⟨rfl,rfl⟩:=he;exact ⟨rfl,fun H2 _=>by rw [hf H2,hv]; rfl⟩
theorem footCall_ne{k:Nat}{args:List AV}{R:List Nat} : Qau C H k args≠.rd R:=by
 unfold Qau;cases C.byref k<;>cases (args.flatMap refC).any (isD H)<;>simp only [cond_true,cond_false]<;>first | (intro h; cases h; done) | (split<;>(intro h; cases h))
theorem l_mapOf{p:AV}(h:Agu (ref1 p) H H2):mapOf H2 p=mapOf H p:=by
 cases p<;>first
  | rfl
  | (rename_i v; cases v<;>rfl)
  | (rcases Qbx (h _ (List.mem_singleton.2 rfl)) with e | ⟨f, f', sz, es, h1, h2⟩
     ·simp only [mapOf,e]
     ·simp only [mapOf,h1,h2])
theorem pure_rd{ρ:Operand→AV}{op:Op}{R:List Nat}(hf:foot C nid ρ H op = .rd R):RdAt R (fun H=>Ql C nid ρ H op) H:=by
 have const:∀{g:Option AV} {R:List Nat},RdAt R (fun H=>g.map fun v=>(v,H)) H:=fun {g R}=>rd_map (g:=fun _=>g) fun _ _=>rfl;cases op with
 | load t p =>
  simp only [foot,Fp.rd.injEq] at hf; subst hf;exact rd_map (g:=fun H=>evLoad C H t (ρ p)) fun H2 ha=>l_load (mem_ref (by simp [Op.operands]) ha)
 | binOp op t x y t' =>
  simp only [foot,Fp.rd.injEq] at hf; subst hf;exact rd_map (g:=fun H=>evBin C H op t (ρ x) (ρ y)) fun H2 ha=>l_bin (mem_ref (by simp [Op.operands]) ha)
 | slice t x lo hi mx =>
  cases hb:isBp (ρ x) with
  | true=>simp [foot,hb] at hf
  | false =>
   simp only [foot,hb,cond_false,Fp.rd.injEq] at hf; subst hf;simp only [Ql,hb,cond_false];exact rd_map (g:=fun H=>evSlice C H t (ρ x) (lo.map ρ) (hi.map ρ) (mx.map ρ)) fun H2 ha=>l_slice (mem_ref (by simp [Op.operands]) ha)
 | indexAddr t x i =>
  simp only [foot,Fp.rd.injEq] at hf; subst hf;exact rd_map (g:=fun H=>Qae C H t (ρ x) (ρ i)) fun H2 ha=>l_indexAddr (mem_ref (by simp [Op.operands]) ha)
 | index t x i=>exact const
 | lookup t x k ok =>
  simp only [foot,Fp.rd.injEq] at hf; subst hf;exact rd_map (g:=fun H=>Qcp C H t (ρ x) (ρ k) ok) fun H2 ha=>by unfold Qcp; rw [l_mapOf (mem_ref (by simp [Op.operands]) ha)]
 | unOp op t x=>exact const
 | nilCheck x =>
  simp only [foot,Fp.rd.injEq] at hf; subst hf;intro r H' h;have hm:∀{H2:Hp},Agu ((Op.nilCheck x).operands.toList.flatMap fun x=>ref1 (ρ x)) H H2→Agu (ref1 (ρ x)) H H2:=fun ha=>mem_ref (by simp [Op.operands]) ha;cases hx:ρ x<;>simp only [Ql,hx] at h hm ⊢<;>first
   | (cases h; done)
   | (simp only [Option.some.injEq,Prod.mk.injEq] at h; obtain ⟨rfl,rfl⟩:=h; exact ⟨rfl,fun H2 ha=>rfl⟩)
   | (rename_i v; cases v<;>first
     | (simp at h; done)
     | (simp only [Option.some.injEq,Prod.mk.injEq] at h; obtain ⟨rfl,rfl⟩:=h; exact ⟨rfl,fun H2 ha=>rfl⟩))
   | (revert h
      cases hb:alive H _<;>intro h
      ·simp at h
      ·simp only [cond_true,Option.some.injEq,Prod.mk.injEq] at h; obtain ⟨rfl,rfl⟩:=h;exact ⟨rfl,fun H2 ha=>by rw [l_alive (hm ha _ (List.mem_singleton.2 rfl)),hb]; rfl⟩)
 | fieldAddr t x f =>
  simp only [foot,Fp.rd.injEq] at hf; subst hf;intro r H' h;simp only [Ql] at h ⊢;cases hf:evField C t f with
  | none=>rw [hf] at h; cases h
  | some q =>
   obtain ⟨ft,off⟩:=q;rw [hf] at h;simp only at h ⊢;cases hp:posSize C ft with
   | false=>rw [hp] at h; simp at h
   | true =>
    rw [hp] at h;simp only [cond_true] at h ⊢;have hm:∀{H2:Hp},Agu ((Op.fieldAddr t x f).operands.toList.flatMap fun x=>ref1 (ρ x)) H H2→Agu (ref1 (ρ x)) H H2:=fun ha=>mem_ref (by simp [Op.operands]) ha;cases hx:ρ x<;>simp only [hx] at h hm ⊢<;>first
     | (cases h; done)
     | (simp only [Option.some.injEq,Prod.mk.injEq] at h; obtain ⟨rfl,rfl⟩:=h; exact ⟨rfl,fun H2 ha=>rfl⟩)
     | (revert h
        cases hb:alive H _<;>intro h
        ·simp at h
        ·simp only [cond_true,Option.some.injEq,Prod.mk.injEq] at h; obtain ⟨rfl,rfl⟩:=h;exact ⟨rfl,fun H2 ha=>by rw [l_alive (hm ha _ (List.mem_singleton.2 rfl)),hb]; rfl⟩)
 | move x=>exact Qck fun H=>rfl
 | assign x=>exact Qck fun H=>rfl
 | pick c x y=>exact Qck fun H=>by simp only [Ql]; split<;>rfl
 | build t ps =>
  exact Qck fun H=>by
   simp only [Ql]
   split
   ·split
    ·split
     ·simp [Option.map_map]; rfl
     ·rfl
    ·split
     ·simp [Option.map_map]; rfl
     ·rfl
    ·rfl
   ·rfl
 | convert s t x =>
  simp only [foot,Fp.rd.injEq] at hf; subst hf;exact rd_map (g:=fun H=>evConv C s t (viewP H (ρ x))) fun H2 ha=>by rw [l_viewP (mem_ref (by simp [Op.operands]) ha)]
 | makeFunc fn first cs =>
  cases fn with
  | func k =>
   exact Qck fun H=>by
    simp only [Ql];cases first.isEmpty<;>simp only [cond_true,cond_false]
    ·rfl
    ·split<;>rfl
  | _=>exact Qck fun H=>rfl
 | field t x f =>
  exact Qck fun H=>by
   simp only [Ql]
   split
   ·split
    ·rename_i ft off _ _ tf _;cases (Nat.ble (off+tf.size) (ρ x).cells.length&&isAggA (ρ x)&&!(Nat.beq tf.size 0))<;>simp only [cond_true,cond_false]
     ·rfl
     ·cases tf.k.row<;>simp only [cond_true,cond_false]
      ·simp [Option.map_map]; rfl
      ·rfl
    ·rfl
   ·rfl
 | extract t i =>
  exact Qck fun H=>by
   simp only [Ql]
   split
   ·simp [Option.map_map]; rfl
   ·rfl
 | call c =>
  obtain ⟨callee,⟨args⟩,⟨ts⟩⟩:=c;cases callee with
  | value f =>
   simp only [foot] at hf
   split at hf<;>first | exact absurd hf footCall_ne | cases hf
  | invoke _ _=>simp [foot] at hf
  | builtin b =>
   cases b with
   | len =>
    simp only [foot,Fp.rd.injEq] at hf; subst hf;simp only [Ql];rcases args with _ | ⟨x,_ | ⟨y,r⟩⟩
    ·rcases ts with _ | ⟨t,_ | ⟨u,r⟩⟩<;>exact Qck fun H=>rfl
    ·rcases ts with _ | ⟨t,_ | ⟨u,r⟩⟩
     ·exact Qck fun H=>rfl
     ·intro r H' h;simp only [List.map_cons,List.map_nil,Qax] at h ⊢;cases hn:lenA C H t (ρ x) with
      | none=>rw [hn] at h; cases h
      | some n =>
       rw [hn] at h;simp only [Option.pure_def,Option.bind_eq_bind,Option.bind_some,Option.map_some,Option.some.injEq,Prod.mk.injEq] at h;obtain ⟨rfl,rfl⟩:=h;refine ⟨rfl,fun H2 ha=>?_⟩;rw [l_len (mem_ref (x:=x) (by simp) ha),hn]; rfl
     ·exact Qck fun H=>rfl
    ·rcases ts with _ | ⟨t,_ | ⟨u,r⟩⟩<;>exact Qck fun H=>rfl
   | min =>
    exact Qck fun H=>by
     simp only [Ql,Qax];simp [Option.map_map]; rfl
   | max =>
    exact Qck fun H=>by
     simp only [Ql,Qax];simp [Option.map_map]; rfl
   | append=>simp [foot] at hf
   | _=>simp [foot] at hf
 | alloc e=>simp [foot] at hf
 | box e x=>simp [foot] at hf
 | buildSlice t n ps=>simp only [foot] at hf; cases hd:C.deep t<;>rw [hd] at hf<;>cases hf
 | makeSlice t l c=>simp [foot] at hf
 | store t p v=>simp [foot] at hf
 | _=>first | (simp [foot] at hf; done) | (intro r H' h; simp [Ql] at h)
end
end Go.Proofs.Ytbgjlpdeoljmiaa
namespace Go.Proofs.Ytbgjlpdeoljmiaa
set_option linter.unusedSimpArgs false
set_option linter.unusedVariables false
open Go.RowKit
section
variable {C:Cfg} {H H' H2:Hp} {nid m:Nat} {α β:Type}
def Qo(m:Nat)(F W:List Nat)(f:Hp→Option (α×Hp))(H:Hp):Prop :=
 ∀ r H', f H = some (r, H') → H'.length = H.length ∧ (∀ o, o ∉ F → hget H' o = hget H o) ∧ (∀ o, o ∉ W → unfl (hget H' o) = unfl (hget H o)) ∧
  ∀H2:Hp,m≤H2.length→(∀o,o∈F→hget H2 o=hget H o)→∃H2',f H2=some (r,H2')∧H2'.length=H2.length∧∀o,hget H2' o=if o∈F then hget H' o else hget H2 o
theorem Qo.pure{F W:List Nat}{r:α} : Qo m F W (fun H=>some (r,H)) H:=by
 intro r' H' h;simp only [Option.some.injEq,Prod.mk.injEq] at h; obtain ⟨rfl,rfl⟩:=h;exact ⟨rfl,fun _ _=>rfl,fun _ _=>rfl,fun H2 hl ha=>⟨H2,rfl,rfl,fun o=>by split<;>first | exact ha _ (by assumption) | rfl⟩⟩
theorem Qo.none{F W:List Nat}{f:Hp→Option (α×Hp)}(h:f H=none):Qo m F W f H:=fun r H' h'=>by rw [h] at h'; cases h'
theorem Qo.mono{F G W V:List Nat}{f:Hp→Option (α×Hp)}(h:Qo m F W f H)(hF:∀o,o∈F→o∈G)(hW:∀o,o∈W→o∈V):Qo m G V f H:=by
 intro r H' hf;obtain ⟨h1,h2,h3,h4⟩:=h r H' hf;refine ⟨h1,fun o ho=>h2 o fun hc=>ho (hF o hc),fun o ho=>h3 o fun hc=>ho (hW o hc),fun H2 hl ha=>?_⟩;obtain ⟨H2',k1,k2,k3⟩:=h4 H2 hl fun o ho=>ha o (hF o ho);refine ⟨H2',k1,k2,fun o=>?_⟩;rw [k3 o]
 by_cases e:o∈F
 ·rw [if_pos e,if_pos (hF o e)]
 ·rw [if_neg e]
  by_cases e2:o∈G
  ·rw [if_pos e2,ha o e2,h2 o e]
  ·rw [if_neg e2]
theorem Qo.bind{F W:List Nat}{f:Hp→Option (α×Hp)}{g:α→Hp→Option (β×Hp)}(hf:Qo m F W f H)(hg:∀a H1,f H=some (a,H1)→Qo m F W (g a) H1) :
  Qo m F W (fun H=>match f H with | some (a,H1)=>g a H1 | .none=>Option.none) H:=by
 intro r H' h;simp only at h
 split at h
 ·rename_i a H1 h1;obtain ⟨k1,k2,k3,k4⟩:=hf a H1 h1;obtain ⟨l1,l2,l3,l4⟩:=hg a H1 h1 r H' h;refine ⟨l1.trans k1,fun o ho=>(l2 o ho).trans (k2 o ho),fun o ho=>(l3 o ho).trans (k3 o ho),fun H2 hl ha=>?_⟩;obtain ⟨H3,m1,m2,m3⟩:=k4 H2 hl ha;obtain ⟨H4,n1,n2,n3⟩:=l4 H3 (by rw [m2]; exact hl) fun o ho=>by rw [m3 o,if_pos ho]
  refine ⟨H4,by simp only [m1,n1],n2.trans m2,fun o=>?_⟩;rw [n3 o]
  by_cases e:o∈F
  ·rw [if_pos e,if_pos e]
  ·rw [if_neg e,if_neg e,m3 o,if_neg e]
 ·cases h
theorem Qo.congr{F W:List Nat}{f g:Hp→Option (α×Hp)}(h:∀H,f H=g H)(hg:Qo m F W g H):Qo m F W f H:=by
 have:f=g:=funext h;rw [this]; exact hg
theorem Qo.map{F W:List Nat}{f:Hp→Option (α×Hp)}{g:α→β}(hf:Qo m F W f H):Qo m F W (fun H=>match f H with | some (a,H1)=>some (g a,H1) | .none=>Option.none) H :=
 hf.bind fun _ _ _=>Qo.pure
theorem loc_put{F W:List Nat}{r:α}{x:Ob}(h:nid<H.length)(hm:nid<m)(hF:nid∈F)(hW:nid∈W):Qo m F W (fun H=>some (r,hput H nid x)) H:=by
 have hlen:∀{H:Hp},nid<H.length→(hput H nid x).length=H.length:=fun {H} h=>by
  unfold hput; rw [show Nat.blt nid H.length=true from by rw [Nat.blt_eq]; exact h]; simp
 intro r' H' h';simp only [Option.some.injEq,Prod.mk.injEq] at h'; obtain ⟨rfl,rfl⟩:=h';refine ⟨hlen h,fun o ho=>?_,fun o ho=>?_,fun H2 hl ha=>⟨_,rfl,hlen (by omega),fun o=>?_⟩⟩
 ·rw [Qan (by omega),if_neg fun e=>ho (by rw [e]; exact hF)]
 ·rw [Qan (by omega),if_neg fun e=>ho (by rw [e]; exact hW)]
 ·rw [Qan (by omega),Qan (by omega)]
  by_cases e:o=nid
  ·subst e; rw [if_pos rfl,if_pos hF,if_pos rfl]
  ·rw [if_neg e,if_neg e]
   split
   ·rename_i ho; exact ha o ho
   ·rfl
theorem loc_set{F W:List Nat}{r:α}{k:Nat}{y:Option Ob}(hs:∃x,hget H k=some x)(hF:k∈F)(hW:k∈W∨unfl y=unfl (hget H k)):Qo m F W (fun H=>some (r,hset H k y)) H:=by
 obtain ⟨x,hx⟩:=hs;have h:=Qbh hx;intro r' H' h';simp only [Option.some.injEq,Prod.mk.injEq] at h'; obtain ⟨rfl,rfl⟩:=h';refine ⟨Qv,fun o ho=>?_,fun o ho=>?_,fun H2 hl ha=>⟨_,rfl,Qv,fun o=>?_⟩⟩
 ·rw [Qaa h,if_neg fun e=>ho (by rw [e]; exact hF)]
 ·rw [Qaa h]
  by_cases e:o=k
  ·rw [if_pos e,e];rcases hW with hW | hW
   ·exact absurd (by rw [e]; exact hW) ho
   ·exact hW
  ·rw [if_neg e]
 ·rw [Qaa (Qbh (x:=x) (by rw [ha k hF]; exact hx)),Qaa h]
  by_cases e:o=k
  ·subst e; rw [if_pos rfl,if_pos hF,if_pos rfl]
  ·rw [if_neg e,if_neg e]
   split
   ·rename_i ho; exact ha o ho
   ·rfl
theorem loc_get{F W:List Nat}{o:Nat}{g:Option Ob→Hp→Option (α×Hp)}(ho:o∈F) (h:Qo m F W (g (hget H o)) H):Qo m F W (fun H=>g (hget H o) H) H:=by
 intro r H' h';obtain ⟨h1,h2,h3,h4⟩:=h r H' h';refine ⟨h1,h2,h3,fun H2 hl ha=>?_⟩;obtain ⟨H2',k1,k2,k3⟩:=h4 H2 hl ha;exact ⟨H2',by simp only [ha o ho]; exact k1,k2,k3⟩
theorem loc_plain1(v:AV):Qo m (ref1 v) [] (fun H=>plain1 H v) H:=by
 cases v with
 | pl p=>exact Qo.pure
 | own o =>
  refine loc_get (o:=o) (g:=fun x H=>match x with | some (.row _ sz es)=>some (PV.sl .any sz es,hset H o (some (.row true sz es))) | _=>none) (by simp [ref1]) ?_
  split
  ·rename_i z sz es hx;exact loc_set ⟨_,hx⟩ (by simp [ref1]) (.inr (by rw [hx]; rfl))
  ·exact Qo.none rfl
 | vw o off len =>
  refine loc_get (o:=o) (g:=fun x H=>match x with | some (.row _ sz es)=>bif Nat.ble (off+len) es.length then some (PV.sl .any sz ((es.drop off).take len),hset H o (some (.row true sz es))) else none | _=>none) (by simp [ref1]) ?_
  split
  ·rename_i z sz es hx;cases Nat.ble (off+len) es.length
   ·exact Qo.none rfl
   ·exact loc_set ⟨_,hx⟩ (by simp [ref1]) (.inr (by rw [hx]; rfl))
  ·exact Qo.none rfl
 | clo f cs=>cases cs with
  | nil=>exact Qo.pure
  | cons c r=>exact Qo.none rfl
 | _=>exact Qo.none rfl
theorem sub_l{r:List AV}{v:AV}{f:AV→List Nat} : ∀o,o∈f v→o∈(v::r).flatMap f:=fun o ho=>by rw [List.flatMap_cons]; exact List.mem_append_left _ ho
theorem sub_r{r:List AV}{v:AV}{f:AV→List Nat} : ∀o,o∈r.flatMap f→o∈(v::r).flatMap f:=fun o ho=>by rw [List.flatMap_cons]; exact List.mem_append_right _ ho
theorem loc_plainL:∀(l:List AV)(H:Hp),Qo m (l.flatMap ref1) [] (fun H=>plainL H l) H
 | [],H=>Qo.pure
 | v::r,H=>by
  have h1:Qo m ((v::r).flatMap ref1) [] (fun H=>plain1 H v) H:=(loc_plain1 v).mono sub_l (fun _ h=>h);refine Qo.congr (fun H=>?_) (h1.bind fun p H1 _=>Qo.map (g:=fun ps=>p::ps) ((loc_plainL r H1).mono (sub_r (v:=v)) (fun _ h=>h)));simp only [plainL];cases plain1 H v with
  | none=>rfl
  | some q=>obtain ⟨p,H1⟩:=q; simp only; cases plainL H1 r<;>rfl
theorem loc_plain(v:AV)(H:Hp):Qo m (refC v) [] (fun H=>plain H v) H:=by
 cases v with
 | agg cs =>
  have h1:Qo m (refC (.agg cs)) [] (fun H=>plainL H cs) H:=loc_plainL cs H;refine Qo.congr (fun H=>?_) (Qo.map (g:=fun ps=>PV.agg ps) h1);simp only [plain]; cases plainL H cs<;>rfl
 | pl p=>exact Qo.pure
 | un=>exact Qo.none rfl
 | tup _=>exact Qo.none rfl
 | clo f cs=>exact (loc_plain1 (.clo f cs)).mono (fun o ho=>by simp [ref1] at ho) (fun _ h=>h)
 | own o=>exact (loc_plain1 (.own o)).mono (fun k hk=>by simpa [refC,AV.cells] using hk) (fun _ h=>h)
 | vw o off len=>exact (loc_plain1 (.vw o off len)).mono (fun k hk=>by simpa [refC,AV.cells] using hk) (fun _ h=>h)
 | bp _ _=>exact Qo.none rfl
 | ep _ _ _=>exact Qo.none rfl
 | ip _ _=>exact Qo.none rfl
 | mp _=>exact Qo.none rfl
 | it _=>exact Qo.none rfl
 | yl _=>exact Qo.none rfl
theorem loc_plains:∀(l:List AV)(H:Hp),Qo m (l.flatMap refC) [] (fun H=>plains H l) H
 | [],H=>Qo.pure
 | v::r,H=>by
  have h1:Qo m ((v::r).flatMap refC) [] (fun H=>plain H v) H:=(loc_plain v H).mono sub_l (fun _ h=>h);refine Qo.congr (fun H=>?_) (h1.bind fun p H1 _=>Qo.map (g:=fun ps=>p::ps) ((loc_plains r H1).mono (sub_r (v:=v)) (fun _ h=>h)));simp only [plains];cases plain H v with
  | none=>rfl
  | some q=>obtain ⟨p,H1⟩:=q; simp only; cases plains H1 r<;>rfl
theorem loc_fillE(sz:Nat):∀(l:List (Nat×AV))(es:List (List PV))(H:Hp),Qo m (l.flatMap fun p=>refC p.2) [] (fun H=>fillE sz H es l) H
 | [],es,H=>Qo.pure
 | (i,v)::r,es,H=>by
  have h1:Qo m (((i,v)::r).flatMap fun p=>refC p.2) [] (fun H=>plain H v) H:=(loc_plain v H).mono (fun o ho=>by rw [List.flatMap_cons]; exact List.mem_append_left _ ho) (fun _ h=>h);have h2:∀p H1,plain H v=some (p,H1)→Qo m (((i,v)::r).flatMap fun p=>refC p.2) [] (fun H=>bif Nat.beq p.cells.length sz&&Nat.blt i es.length then fillE sz H (es.set i p.cells) r else none) H1:=fun p H1 _=>by
   cases (Nat.beq p.cells.length sz&&Nat.blt i es.length)
   ·exact Qo.none rfl
   ·exact (loc_fillE sz r _ H1).mono (fun o ho=>by rw [List.flatMap_cons]; exact List.mem_append_right _ ho) (fun _ h=>h)
  refine Qo.congr (fun H=>?_) (h1.bind h2);simp only [fillE];cases plain H v<;>rfl
end
end Go.Proofs.Ytbgjlpdeoljmiaa
namespace Go.Proofs.Ytbgjlpdeoljmiaa
set_option linter.unusedSimpArgs false
set_option linter.unusedVariables false
open Go.RowKit
section
variable {C:Cfg} {H H' H2:Hp} {nid m:Nat} {α β:Type} {call:Bool→Nat→List AV→Hp→Outs (AV×Hp)}
theorem loc_read{γ:Type}{F W:List Nat}{r:Hp→γ}{g:γ→Hp→Option (α×Hp)}(hr:∀H2:Hp,(∀o,o∈F→hget H2 o=hget H o)→r H2=r H) (h:Qo m F W (g (r H)) H):Qo m F W (fun H=>g (r H) H) H:=by
 intro a H' h';obtain ⟨h1,h2,h3,h4⟩:=h a H' h';refine ⟨h1,h2,h3,fun H2 hl ha=>?_⟩;obtain ⟨H2',k1,k2,k3⟩:=h4 H2 hl ha;exact ⟨H2',by simp only [hr H2 ha]; exact k1,k2,k3⟩
theorem loc_setput{F W:List Nat}{r:α}{k:Nat}{y:Option Ob}{x:Ob}(hk:∃x,hget H k=some x)(hn:nid<H.length)(hm:nid<m)(hkF:k∈F)(hkW:k∈W)(hnF:nid∈F)(hnW:nid∈W):Qo m F W (fun H=>some (r,hput (hset H k y) nid x)) H :=
 (loc_set (r:=()) hk hkF (.inl hkW)).bind (g:=fun _ H=>some (r,hput H nid x)) fun _ H1 h1=>by
  simp only [Option.some.injEq,Prod.mk.injEq] at h1;obtain ⟨_,rfl⟩:=h1;exact loc_put (by rw [Qv]; exact hn) hm hnF hnW
theorem agu_of{R F:List Nat}(hs:∀o,o∈R→o∈F)(h:∀o,o∈F→hget H2 o=hget H o):Agu R H H2:=fun o ho=>by rw [h o (hs o ho)]
theorem src_eq{y:AV}(h:Agu (ref1 y) H H2):Qbf H2 y=Qbf H y:=by
 unfold Qbf
 split
 ·rfl
 ·rw [l_elems h]
def appB(C:Cfg)(nid t:Nat)(x:AV) (src:Option (List (List PV))) (H:Hp):Option (AV×Hp) :=
 match C.ty t,src with
   | some ti,some news=>match ti.k with
    | .sl e=>match C.ty e with
     | none=>none
     | some te=>bif !(news.all fun c=>Nat.beq c.length te.size)||Nat.beq te.size 0 then none else
      match news with
      | []=>match x with | .pl (.sl f sz es)=>some (AV.pl (.sl f sz es),H) | .own o=>(match hget H o with | some (.row _ _ _)=>some (.own o,H) | _=>none) | .vw o a n=>(match hget H o with | some (.row _ _ _)=>some (.vw o a n,H) | _=>none) | _=>none
      | _::_ =>
       match x with
       | .pl (.sl .nil _ [])=>bif Qbg news.length te then some (.own nid,hput H nid (.row false te.size news)) else none
       | .pl (.sl .zc _ [])=>bif Qbg news.length te then some (.own nid,hput H nid (.row false te.size news)) else none
       | .own o=>match hget H o with
        | some (.row false sz es)=>bif Qbg (es.length+news.length) te&&Nat.beq sz te.size then some (.own nid,hput (hset H o none) nid (.row false sz (es++news))) else none
        | _=>none
       | .vw o off len=>match hget H o with
        | some (.row false sz es) =>
         bif !(Qbg (len+news.length) te&&Nat.beq sz te.size) then none
         else bif Nat.ble (off+len+news.length) es.length then some (.vw o off (len+news.length),hset H o (some (.row false sz (es.take (off+len)++news++es.drop (off+len+news.length)))))
         else bif Nat.beq (off+len) es.length then some (.own nid,hput (hset H o none) nid (.row false sz (es.drop off++news)))
         else none
        | _=>none
       | _=>none
    | _=>none
   | _,_=>none
theorem loc_append{F:List Nat}{t t1:Nat}{x y:AV}(hn:nid<H.length)(hm:nid<m)(hnF:nid∈F)(hx:∀o,o∈ref1 x→o∈F)(hy:∀o,o∈ref1 y→o∈F):Qo m F F (fun H=>Qbo C nid H t t1 x y) H:=by
 have body:∀src:Option (List (List PV)),Qo m F F (fun H=>appB C nid t x src H) H:=by
  intro src;unfold appB;cases C.ty t with
  | none=>exact Qo.none rfl
  | some ti=>cases src with
   | none=>exact Qo.none rfl
   | some news =>
    simp only;cases ti.k with
    | sl e =>
     simp only;cases C.ty e with
     | none=>exact Qo.none rfl
     | some te =>
      simp only;cases (!(news.all fun c=>Nat.beq c.length te.size)||Nat.beq te.size 0) with
      | true=>exact Qo.none rfl
      | false =>
       simp only [cond_false];cases news with
       | nil =>
        cases x with
        | pl v=>cases v with
         | sl f sz es=>exact Qo.pure
         | _=>exact Qo.none rfl
        | own o =>
         refine loc_get (o:=o) (g:=fun b H=>match b with | some (.row _ _ _)=>some (AV.own o,H) | _=>none) (hx o (List.mem_singleton.2 rfl)) ?_
         split
         ·exact Qo.pure
         ·exact Qo.none rfl
        | vw o a n =>
         refine loc_get (o:=o) (g:=fun b H=>match b with | some (.row _ _ _)=>some (AV.vw o a n,H) | _=>none) (hx o (List.mem_singleton.2 rfl)) ?_
         split
         ·exact Qo.pure
         ·exact Qo.none rfl
        | _=>exact Qo.none rfl
       | cons e0 es0 =>
        cases x with
        | pl v=>cases v with
         | sl f sz es =>
          cases f<;>cases es<;>first
           | exact Qo.none rfl
           | (simp only
              cases Qbg _ te<;>first
               | exact Qo.none rfl
               | exact loc_put hn hm hnF hnF)
         | _=>exact Qo.none rfl
        | own o =>
         have hoF:=hx o (List.mem_singleton.2 rfl);refine loc_get (o:=o) (g:=fun b H=>match b with | some (.row false sz es)=>bif Qbg (es.length+(e0::es0).length) te&&Nat.beq sz te.size then some (AV.own nid,hput (hset H o none) nid (.row false sz (es++e0::es0))) else none | _=>none) hoF ?_
         split
         ·rename_i sz es hg;cases (Qbg (es.length+(e0::es0).length) te&&Nat.beq sz te.size)
          ·exact Qo.none rfl
          ·exact loc_setput ⟨_,hg⟩ hn hm hoF hoF hnF hnF
         ·exact Qo.none rfl
        | vw o off len =>
         have hoF:=hx o (List.mem_singleton.2 rfl);refine loc_get (o:=o) (g:=fun b H=>match b with
          | some (.row false sz es) =>
           bif !(Qbg (len+(e0::es0).length) te&&Nat.beq sz te.size) then none
           else bif Nat.ble (off+len+(e0::es0).length) es.length then some (AV.vw o off (len+(e0::es0).length),hset H o (some (.row false sz (es.take (off+len)++(e0::es0)++es.drop (off+len+(e0::es0).length)))))
           else bif Nat.beq (off+len) es.length then some (AV.own nid,hput (hset H o none) nid (.row false sz (es.drop off++(e0::es0))))
           else none
          | _=>none) hoF ?_
         split
         ·rename_i sz es hg;cases !(Qbg (len+(e0::es0).length) te&&Nat.beq sz te.size)
          ·cases Nat.ble (off+len+(e0::es0).length) es.length
           ·cases Nat.beq (off+len) es.length
            ·exact Qo.none rfl
            ·exact loc_setput ⟨_,hg⟩ hn hm hoF hoF hnF hnF
           ·exact loc_set ⟨_,hg⟩ hoF (.inl hoF)
          ·exact Qo.none rfl
         ·exact Qo.none rfl
        | _=>exact Qo.none rfl
    | _=>exact Qo.none rfl
 have:=loc_read (F:=F) (W:=F) (r:=fun H=>bif srcTy C t1 y then Qbf H y else none) (g:=fun src H=>appB C nid t x src H) (H:=H) (fun H2 ha=>by simp only [src_eq (agu_of hy ha)]) (body _);exact this

theorem loc_store{t:Nat}{p v:AV} : Qo m (refC v++ref1 p) (ref1 p) (fun H=>(evStore C H t p v).map fun H1=>(AV.tup [],H1)) H:=by
 cases hti:C.ty t with
 | none=>exact Qo.none (by simp [evStore,hti])
 | some ti =>
  cases p with
  | bp o off =>
   have hF:o∈refC v++ref1 (.bp o off):=List.mem_append_right _ (List.mem_singleton.2 rfl);have main:=loc_get (m:=m) (F:=refC v++ref1 (.bp o off)) (W:=ref1 (.bp o off)) (H:=H) (o:=o) (g:=fun b H=>match b with
    | some (.box bt cs)=>bif Nat.beq v.cells.length ti.size&&v.cells.all oneA then (match putAt cs off v.cells with | some cs'=>some (AV.tup [],hset H o (some (.box bt cs'))) | none=>none) else none
    | some (.abox bt cs es)=>(match putB ti.size v off cs es with | some r=>some (AV.tup [],hset H o (some (.abox bt r.1 r.2))) | none=>none)
    | _=>none) hF (by
     split
     ·rename_i bt cs hg;cases (Nat.beq v.cells.length ti.size&&v.cells.all oneA)
      ·exact Qo.none rfl
      ·simp only [cond_true];cases putAt cs off v.cells with
       | none=>exact Qo.none rfl
       | some cs'=>exact loc_set ⟨_,hg⟩ hF (.inl (List.mem_singleton.2 rfl))
     ·rename_i bt cs es hg;cases putB ti.size v off cs es with
      | none=>exact Qo.none rfl
      | some r=>exact loc_set ⟨_,hg⟩ hF (.inl (List.mem_singleton.2 rfl))
     ·exact Qo.none rfl)
   refine Qo.congr (fun H=>?_) main;simp only [evStore,hti];cases hget H o with
   | none=>rfl
   | some x =>
    cases x with
    | box bt cs =>
     simp only;cases (Nat.beq v.cells.length ti.size&&v.cells.all oneA) with
     | false=>rfl
     | true =>
      simp only [cond_true];cases putAt cs off v.cells<;>rfl
    | abox bt cs es =>
     simp only;cases putB ti.size v off cs es<;>rfl
    | _=>rfl
  | ep o i off =>
   have hF:o∈refC v++ref1 (.ep o i off):=List.mem_append_right _ (List.mem_singleton.2 rfl);have h1:Qo m (refC v++ref1 (.ep o i off)) (ref1 (.ep o i off)) (fun H=>plain H v) H:=(loc_plain v H).mono (fun k hk=>List.mem_append_left _ hk) (fun _ hk=>by cases hk);have h2:∀(q:PV)(H1:Hp),Qo m (refC v++ref1 (.ep o i off)) (ref1 (.ep o i off)) (fun H=>(fun b H=>match b with
    | some (.row false sz es)=>(match es[i]? with
     | some c=>bif Nat.beq q.cells.length ti.size then (match putAt c off q.cells with | some c'=>some (AV.tup [],hset H o (some (.row false sz (es.set i c')))) | none=>none) else none
     | none=>none)
    | _=>none:Option Ob→Hp→Option (AV×Hp)) (hget H o) H) H1:=fun q H1=>loc_get (o:=o) (g:=fun b H=>match b with
    | some (.row false sz es)=>(match es[i]? with
     | some c=>bif Nat.beq q.cells.length ti.size then (match putAt c off q.cells with | some c'=>some (AV.tup [],hset H o (some (.row false sz (es.set i c')))) | none=>none) else none
     | none=>none)
    | _=>none) hF (by
     split
     ·rename_i sz es hg;cases es[i]? with
      | none=>exact Qo.none rfl
      | some c =>
       simp only;cases Nat.beq q.cells.length ti.size
       ·exact Qo.none rfl
       ·simp only [cond_true];cases putAt c off q.cells with
        | none=>exact Qo.none rfl
        | some c'=>exact loc_set ⟨_,hg⟩ hF (.inl (List.mem_singleton.2 rfl))
     ·exact Qo.none rfl)
   refine Qo.congr (fun H=>?_) (h1.bind fun q H1 _=>h2 q H1);simp only [evStore,hti];cases plain H v with
   | none=>rfl
   | some r =>
    obtain ⟨q,H1⟩:=r;simp only;cases hget H1 o with
    | none=>rfl
    | some x =>
     cases x with
     | row z sz es =>
      cases z with
      | true=>rfl
      | false =>
       simp only;cases es[i]? with
       | none=>rfl
       | some c =>
        simp only;cases Nat.beq q.cells.length ti.size with
        | false=>rfl
        | true =>
         simp only [cond_true];cases putAt c off q.cells<;>rfl
     | _=>rfl
  | _=>exact Qo.none (by simp [evStore,hti])
theorem loc_upd{o:Nat}{F W:List Nat}{r:α} {g:List (PV×PV)→Option (α×List (PV×PV))} (hF:o∈F) (hW:o∈W):Qo m F W (fun H=>match hget H o with | some (.map kvs)=>(match g kvs with | some (a,kvs')=>some (a,hset H o (some (.map kvs'))) | none=>none) | _=>none) H:=by
 refine loc_get (o:=o) (g:=fun b H=>match b with | some (.map kvs)=>(match g kvs with | some (a,kvs')=>some (a,hset H o (some (.map kvs'))) | none=>none) | _=>none) hF ?_
 split
 ·rename_i kvs hg;cases g kvs with
  | none=>exact Qo.none rfl
  | some q=>exact loc_set ⟨_,hg⟩ hF (.inl hW)
 ·exact Qo.none rfl
theorem loc_mapUpdate{t:Nat}{x k v:AV} : Qo m (refC v++ref1 x) (ref1 x) (fun H=>(Qbr C H t x k v).map fun H1=>(AV.tup [],H1)) H:=by
 cases hmt:mapTy C t with
 | none=>exact Qo.none (by simp [Qbr,hmt])
 | some q =>
  cases x with
  | mp o =>
   cases k with
   | pl k =>
    obtain ⟨kt,e⟩:=q;have h1:Qo m (refC v++ref1 (.mp o)) (ref1 (.mp o)) (fun H=>plain H v) H:=(loc_plain v H).mono (fun o ho=>List.mem_append_left _ ho) (fun _ h=>by cases h);refine Qo.congr (fun H=>?_) (h1.bind fun p H1 _=>loc_upd (o:=o) (r:=AV.tup []) (g:=fun kvs=>(mset C.ty kt k p kvs).map fun l=>(AV.tup [],l)) (List.mem_append_right _ (List.mem_singleton.2 rfl)) (List.mem_singleton.2 rfl));simp only [Qbr,hmt];cases plain H v with
    | none=>rfl
    | some q2 =>
     obtain ⟨p,H1⟩:=q2;simp only;cases hget H1 o with
     | none=>rfl
     | some b=>cases b with
      | map kvs=>simp only; cases mset C.ty kt k p kvs<;>rfl
      | _=>rfl
   | _=>exact Qo.none (by simp [Qbr,hmt])
  | _=>exact Qo.none (by simp [Qbr,hmt])
theorem loc_mapEntry{t:Nat}{x k:AV} : Qo m ([]++ref1 x) (ref1 x) (fun H=>Qbb C H t x k) H:=by
 cases hmt:mapTy C t with
 | none=>exact Qo.none (by simp [Qbb,hmt])
 | some q =>
  cases x with
  | mp o =>
   cases k with
   | pl k =>
    obtain ⟨kt,e⟩:=q;refine Qo.congr (fun H=>?_) (loc_upd (H:=H) (m:=m) (F:=[]++ref1 (.mp o)) (W:=ref1 (.mp o)) (o:=o) (r:=AV.tup []) (g:=fun kvs=>(ment C kt e k kvs).map fun q=>(AV.tup [.pl q.1,.pl (.int .i64 (q.2.1:Int))],q.2.2)) (List.mem_append_right _ (List.mem_singleton.2 rfl)) (List.mem_singleton.2 rfl));simp only [Qbb,hmt];cases hget H o with
    | none=>rfl
    | some b=>cases b with
     | map kvs=>simp only; cases ment C kt e k kvs<;>rfl
     | _=>rfl
   | _=>exact Qo.none (by simp [Qbb,hmt])
  | _=>exact Qo.none (by simp [Qbb,hmt])
theorem loc_entryStore{x s v:AV} : Qo m (refC v++ref1 x) (ref1 x) (fun H=>(Qcb H x s v).map fun H1=>(AV.tup [],H1)) H:=by
 have none_:(∀H,Qcb H x s v=none)→Qo m (refC v++ref1 x) (ref1 x) (fun H=>(Qcb H x s v).map fun H1=>(AV.tup [],H1)) H:=fun h=>Qo.none (by simp only [h H]; rfl);cases x with
 | mp o =>
  cases s with
  | pl s =>
   cases s with
   | int k n =>
    have h1:Qo m (refC v++ref1 (.mp o)) (ref1 (.mp o)) (fun H=>plain H v) H:=(loc_plain v H).mono (fun o ho=>List.mem_append_left _ ho) (fun _ h=>by cases h);refine Qo.congr (fun H=>?_) (h1.bind fun p H1 _=>loc_upd (o:=o) (r:=AV.tup []) (g:=fun kvs=>match natOf n with | some i=>(match kvs[i]? with | some (k,_)=>some (AV.tup [],kvs.set i (k,p)) | none=>none) | none=>none) (List.mem_append_right _ (List.mem_singleton.2 rfl)) (List.mem_singleton.2 rfl))
    simp only [Qcb];cases plain H v with
    | none=>rfl
    | some q2 =>
     obtain ⟨p,H1⟩:=q2;simp only;cases hget H1 o with
     | none=>cases natOf n<;>rfl
     | some b=>cases b with
      | map kvs =>
       simp only;cases natOf n with
       | none=>rfl
       | some i=>simp only; cases kvs[i]?<;>rfl
      | _=>cases natOf n<;>rfl
   | _=>exact none_ fun H=>rfl
  | _=>exact none_ fun H=>rfl
 | _=>exact none_ fun H=>rfl
theorem loc_rowOf{F W:List Nat}{x:AV} {g:Option (Nat×Nat×Nat×Nat×List (List PV))→Hp→Option (α×Hp)} (hx:∀o,o∈ref1 x→o∈F) (h:Qo m F W (g (rowOf H x)) H):Qo m F W (fun H=>g (rowOf H x) H) H:=by
 refine loc_read (F:=F) (W:=W) (r:=fun H=>rowOf H x) (g:=g) (H:=H) (fun H2 ha=>?_) h;cases x<;>first
  | rfl
  | (simp only [rowOf,ha _ (hx _ (List.mem_singleton.2 rfl))])
theorem loc_rowSet{F:List Nat}{x:AV}{te:TI}{r:Nat→AV}{news:Nat→List (List PV)}(hx:∀o,o∈ref1 x→o∈F):Qo m F F (fun H=>match rowOf H x with
   | some (o,off,len,sz,es)=>bif Nat.beq sz te.size then some (r len,hset H o (some (.row false sz (rowPut es off (news len))))) else none
   | none=>none) H:=by
 refine loc_rowOf (x:=x) (g:=fun q H=>match q with
   | some (o,off,len,sz,es)=>bif Nat.beq sz te.size then some (r len,hset H o (some (.row false sz (rowPut es off (news len))))) else none
   | none=>none) hx ?_
 cases hr:rowOf H x with
 | none=>exact Qo.none rfl
 | some q =>
  obtain ⟨o,off,len,sz,es⟩:=q;simp only;have key:o∈ref1 x∧∃b,hget H o=some b:=by
   unfold rowOf at hr
   split at hr
   ·split at hr
    ·rename_i hg;simp only [Option.some.injEq,Prod.mk.injEq] at hr; obtain ⟨rfl,_⟩:=hr;exact ⟨List.mem_singleton.2 rfl,_,hg⟩
    ·cases hr
   ·split at hr
    ·rename_i o' off' len' _ sz' es' hg;cases hb:Nat.ble (off'+len') es'.length with
     | false=>simp [hb] at hr
     | true =>
      simp only [hb,cond_true,Option.some.injEq,Prod.mk.injEq] at hr; obtain ⟨rfl,_⟩:=hr;exact ⟨List.mem_singleton.2 rfl,_,hg⟩
    ·cases hr
   ·cases hr
  cases Nat.beq sz te.size with
  | false=>exact Qo.none rfl
  | true=>exact loc_set key.2 (hx o key.1) (.inl (hx o key.1))
theorem loc_clear{F:List Nat}{t:Nat}{x:AV}(hx:∀o,o∈ref1 x→o∈F):Qo m F F (fun H=>evClear C H t x) H:=by
 cases hte:elemTy C t with
 | none=>exact Qo.none (by simp [evClear,hte])
 | some te =>
  cases hz:Nat.beq te.size 0 with
  | true=>exact Qo.none (by simp [evClear,hte,hz])
  | false =>
   have main:=loc_rowSet (m:=m) (H:=H) (te:=te) (r:=fun _=>AV.tup []) (news:=fun len=>List.replicate len te.zero) hx;cases x with
   | pl v=>cases v with
    | sl f sz es=>cases es with
     | nil=>exact Qo.congr (fun H=>by simp only [evClear,hte,hz,cond_false]) (Qo.pure (r:=AV.tup []))
     | cons _ _=>exact Qo.none (by simp [evClear,hte,hz,rowOf])
    | _=>exact Qo.none (by simp [evClear,hte,hz,rowOf])
   | _=>exact Qo.congr (fun H=>by simp only [evClear,hte,hz,cond_false]<;>rfl) main
theorem loc_copy{F:List Nat}{t t1:Nat}{x y:AV}(hx:∀o,o∈ref1 x→o∈F)(hy:∀o,o∈ref1 y→o∈F):Qo m F F (fun H=>evCopy C H t t1 x y) H:=by
 have body:∀src:Option (List (List PV)),Qo m F F (fun H=>match src,elemTy C t with
   | some src,some te=>bif !(src.all fun c=>Nat.beq c.length te.size)||Nat.beq te.size 0 then none else match x with
    | .pl (.sl _ _ [])=>some (AV.pl (.int .i64 0),H)
    | x=>match rowOf H x with
     | some (o,off,len,sz,es)=>bif Nat.beq sz te.size then some (.pl (.int .i64 (Nat.min src.length len:Nat)),hset H o (some (.row false sz (rowPut es off (src.take (Nat.min src.length len)))))) else none
     | none=>none
   | _,_=>none) H:=by
  intro src;cases src with
  | none=>exact Qo.none rfl
  | some src =>
   cases elemTy C t with
   | none=>exact Qo.none rfl
   | some te =>
    simp only;cases (!(src.all fun c=>Nat.beq c.length te.size)||Nat.beq te.size 0) with
    | true=>exact Qo.none rfl
    | false =>
     simp only [cond_false];have main:=loc_rowSet (m:=m) (H:=H) (te:=te) (r:=fun len=>AV.pl (.int .i64 (Nat.min src.length len:Nat))) (news:=fun len=>src.take (Nat.min src.length len)) hx;cases x with
     | pl v=>cases v with
      | sl f sz es=>cases es with
       | nil=>exact Qo.pure
       | cons _ _=>exact Qo.none rfl
      | _=>exact Qo.none rfl
     | _=>exact main
 exact loc_read (F:=F) (W:=F) (r:=fun H=>bif srcTy C t1 y then Qbf H y else none) (g:=fun src H=>match src,elemTy C t with
   | some src,some te=>bif !(src.all fun c=>Nat.beq c.length te.size)||Nat.beq te.size 0 then none else match x with
    | .pl (.sl _ _ [])=>some (AV.pl (.int .i64 0),H)
    | x=>match rowOf H x with
     | some (o,off,len,sz,es)=>bif Nat.beq sz te.size then some (.pl (.int .i64 (Nat.min src.length len:Nat)),hset H o (some (.row false sz (rowPut es off (src.take (Nat.min src.length len)))))) else none
     | none=>none
   | _,_=>none) (H:=H) (fun H2 ha=>by simp only [src_eq (agu_of hy ha)]) (body _)

theorem absorb1_pl(H:Hp)(p:PV):Qbp H (.pl p)=(Qbp [] (.pl p)).map fun r=>(r.1,H):=by
 cases p<;>first | (simp only [Qbp]; cases flatP _<;>rfl) | skip
 rename_i f sz es;cases f<;>first | rfl | (simp only [Qbp]; cases flatP _<;>rfl)
theorem loc_absorb1{F:List Nat}{v:AV}(hF:∀o,o∈ref1 v→o∈F):Qo m F F (fun H=>Qbp H v) H:=by
 cases v with
 | pl p =>
  refine Qo.congr (fun H=>absorb1_pl H p) ?_;cases Qbp [] (.pl p) with
  | none=>exact Qo.none rfl
  | some r=>exact Qo.pure
 | own o =>
  refine loc_get (o:=o) (g:=fun x H=>match x with | some (.row false sz es)=>bif es.all flatPL then some (PV.sl .any sz es,hset H o none) else none | _=>none) (hF o (by simp [ref1])) ?_
  split
  ·rename_i sz es hx;cases es.all flatPL
   ·exact Qo.none rfl
   ·exact loc_set ⟨_,hx⟩ (hF o (by simp [ref1])) (.inl (hF o (by simp [ref1])))
  ·exact Qo.none rfl
 | _=>exact Qo.none rfl
theorem loc_absorbL{F:List Nat} : ∀(l:List AV)(H:Hp),(∀o,o∈l.flatMap ref1→o∈F)→Qo m F F (fun H=>Qbw H l) H
 | [],H,_=>Qo.pure
 | v::r,H,hF=>by
  have h1:Qo m F F (fun H=>Qbp H v) H:=loc_absorb1 fun o ho=>hF o (by rw [List.flatMap_cons]; exact List.mem_append_left _ ho);refine Qo.congr (fun H=>?_) (h1.bind fun p H1 _=>Qo.map (g:=fun ps=>p::ps) (loc_absorbL r H1 fun o ho=>hF o (by rw [List.flatMap_cons]; exact List.mem_append_right _ ho)));simp only [Qbw];cases h:Qbp H v with
  | none=>rfl
  | some q=>obtain ⟨p,H1⟩:=q; simp only; cases Qbw H1 r<;>rfl
theorem loc_buildD{F:List Nat}{t n:Nat}{l:List (Nat×AV)}(hn:nid<H.length)(hm:nid<m)(hnF:nid∈F)(hl:∀o,o∈(l.flatMap fun p=>refC p.2)→o∈F):Qo m F F (fun H=>Qcw C nid H t n l) H:=by
 match n,l,hl with
 | 1,[(0,x)],hl =>
  simp only [Qcw];cases C.ty t with
  | none=>exact Qo.none rfl
  | some ti =>
   simp only;cases ti.k with
   | sl e =>
    simp only;cases C.ty e with
    | none=>exact Qo.none rfl
    | some te =>
     simp only;cases (Nat.ble te.size 16777216&&(!(Nat.beq te.size 0)&&x.cells.all oneA)) with
     | false=>exact Qo.none rfl
     | true =>
      simp only [cond_true];have h1:Qo m F F (fun H=>Qbw H x.cells) H:=loc_absorbL x.cells H fun o ho=>hl o (by simpa [refC] using ho);refine Qo.congr (fun H=>?_) (h1.bind (g:=fun ps H=>bif Nat.beq ps.length te.size then some (AV.own nid,hput H nid (.drow te.size [ps])) else none) fun ps H1 he=>?_)
      ·cases Qbw H x.cells<;>rfl
      ·cases Nat.beq ps.length te.size
       ·exact Qo.none rfl
       ·exact loc_put (by rw [(h1 ps H1 he).1]; exact hn) hm hnF hnF
   | _=>exact Qo.none rfl
 | 0,_,_=>exact Qo.none rfl
 | 1,[],_=>exact Qo.none rfl
 | 1,[(_+1,_)],_=>exact Qo.none rfl
 | 1,_::_::_,_=>exact Qo.none (by simp [Qcw])
 | _+2,_,_=>exact Qo.none rfl
theorem loc_or{F W:List Nat}{f g:Hp→Option (α×Hp)}(hf:Qo m F W f H)(hg:Qo m F W g H)(hs:∀H2:Hp,(∀o,o∈F→hget H2 o=hget H o)→f H=none→f H2=none):Qo m F W (fun H=>match f H with | some r=>some r | none=>g H) H:=by
 intro r H' h;simp only at h;cases hfh:f H with
 | some q =>
  rw [hfh] at h;simp only [Option.some.injEq] at h; subst h;obtain ⟨h1,h2,h3,h4⟩:=hf _ _ hfh;refine ⟨h1,h2,h3,fun H2 hl ha=>?_⟩;obtain ⟨H2',k1,k2,k3⟩:=h4 H2 hl ha;exact ⟨H2',by simp only [k1],k2,k3⟩
 | none =>
  rw [hfh] at h;obtain ⟨h1,h2,h3,h4⟩:=hg _ _ h;refine ⟨h1,h2,h3,fun H2 hl ha=>?_⟩;obtain ⟨H2',k1,k2,k3⟩:=h4 H2 hl ha;exact ⟨H2',by simp only [hs H2 ha hfh]; exact k1,k2,k3⟩
theorem absorb1_none{v:AV}(ha:∀o,o∈ref1 v→hget H2 o=hget H o)(h:Qbp H v=none):Qbp H2 v=none:=by
 cases v with
 | pl p =>
  rw [absorb1_pl] at h ⊢;cases hq:Qbp [] (.pl p) with
  | none=>rfl
  | some q=>rw [hq] at h; cases h
 | own o =>
  have e:=ha o (by simp [ref1]);simp only [Qbp] at h ⊢;rw [e]
  split at h
  ·rename_i sz es _;cases hf:es.all flatPL with
   | false=>rfl
   | true=>rw [hf] at h; cases h
  ·rfl
 | _=>rfl
theorem absorbL_agree:∀(l:List AV){H H2:Hp},(∀o,o∈l.flatMap ref1→hget H2 o=hget H o)→(Qbw H l=none→Qbw H2 l=none)∧∀ps H1,Qbw H l=some (ps,H1)→∃H3,Qbw H2 l=some (ps,H3)
 | [],H,H2,_=>by
  refine ⟨fun h=>?_,fun ps H1 h=>?_⟩
  ·cases h
  ·simp only [Qbw,Option.some.injEq,Prod.mk.injEq] at h;exact ⟨H2,by rw [←h.1]; rfl⟩
 | v::r,H,H2,ha=>by
  have a1:∀o,o∈ref1 v→hget H2 o=hget H o:=fun o ho=>ha o (by rw [List.flatMap_cons]; exact List.mem_append_left _ ho);have l1:Qo 0 ((v::r).flatMap ref1) ((v::r).flatMap ref1) (fun H=>Qbp H v) H:=loc_absorb1 fun o ho=>by rw [List.flatMap_cons]; exact List.mem_append_left _ ho
  simp only [Qbw];cases hv:Qbp H v with
  | none=>exact ⟨fun _=>by rw [absorb1_none a1 hv],fun ps H1 h=>by cases h⟩
  | some q =>
   obtain ⟨p,H1⟩:=q;obtain ⟨_,_,_,l4⟩:=l1 p H1 hv;obtain ⟨H3,m1,_,m3⟩:=l4 H2 (Nat.zero_le _) ha;have m1':Qbp H2 v=some (p,H3):=m1;rw [m1'];simp only;have ih:=absorbL_agree r (H:=H1) (H2:=H3) fun o ho=>by
    rw [m3 o,if_pos (by rw [List.flatMap_cons]; exact List.mem_append_right _ ho)]
   cases hr:Qbw H1 r with
   | none=>exact ⟨fun _=>by rw [ih.1 hr],fun ps H1 h=>by cases h⟩
   | some q2 =>
    obtain ⟨qs,H4⟩:=q2;obtain ⟨H5,n1⟩:=ih.2 _ _ hr;rw [n1];refine ⟨fun h=>(by cases h),fun ps Hx h=>?_⟩;simp only [Option.some.injEq,Prod.mk.injEq] at h; obtain ⟨rfl,rfl⟩:=h;exact ⟨H5,rfl⟩
theorem evBuildD_some{t n:Nat}{l:List (Nat×AV)}(ha:∀o,o∈(l.flatMap fun p=>refC p.2)→hget H2 o=hget H o)(h:Qcw C nid H t n l=none):Qcw C nid H2 t n l=none:=by
 unfold Qcw at h ⊢
 split
 ·rename_i x;simp only at h;cases hti:C.ty t with
  | none=>rfl
  | some ti =>
   simp only [hti] at h ⊢;cases hk:ti.k with
   | sl e =>
    simp only [hk] at h ⊢;cases hte:C.ty e with
    | none=>rfl
    | some te =>
     simp only [hte] at h ⊢;cases hb:(Nat.ble te.size 16777216&&(!(Nat.beq te.size 0)&&x.cells.all oneA)) with
     | false=>rfl
     | true =>
      rw [hb] at h;simp only [cond_true] at h ⊢;have ag:=absorbL_agree x.cells (H:=H) (H2:=H2) fun o ho=>ha o (by simpa [refC] using ho);cases hab:Qbw H x.cells with
      | none=>rw [ag.1 hab]
      | some q =>
       obtain ⟨ps,H1⟩:=q;obtain ⟨H3,e⟩:=ag.2 _ _ hab;rw [hab] at h;rw [e];simp only at h ⊢;cases hl:Nat.beq ps.length te.size with
       | false=>rfl
       | true=>rw [hl] at h; cases h
   | _=>rfl
 ·rfl
theorem loc_appendD{F:List Nat}{t t1 o2 sz2:Nat}{news:List (List PV)}{x y:AV}(hn:nid<H.length)(hm:nid<m)(hnF:nid∈F)(hx:∀o,o∈ref1 x→o∈F)(h2:o2∈F)(hg2:∃q,hget H o2=some q):Qo m F F (fun H=>evAppendD C nid H t t1 x y o2 sz2 news) H:=by
 unfold evAppendD;cases C.ty t with
 | none=>exact Qo.none rfl
 | some ti =>
  simp only;cases ti.k with
  | sl e =>
   simp only;cases C.ty e with
   | none=>exact Qo.none rfl
   | some te =>
    simp only;cases (!(Nat.beq sz2 te.size&&srcTy C t1 y)||Nat.beq te.size 0) with
    | true=>exact Qo.none rfl
    | false =>
     simp only [cond_false];cases news with
     | nil=>exact Qo.none rfl
     | cons c0 cs0 =>
      cases x with
      | pl p =>
       cases p with
       | sl f sz es =>
        cases f<;>cases es<;>first | exact Qo.none rfl | skip
        simp only;cases Qbg (c0::cs0).length te with
        | false=>exact Qo.none rfl
        | true=>exact loc_setput hg2 hn hm h2 h2 hnF hnF
       | _=>exact Qo.none rfl
      | own o =>
       have ho:o∈F:=hx o (by simp [ref1]);simp only;refine loc_get (o:=o) (g:=fun q H=>match q with | some (.drow sz es)=>bif !(Nat.beq o o2)&&(Nat.beq sz sz2&&Qbg (es.length+(c0::cs0).length) te) then some (AV.own nid,hput (hset (hset H o none) o2 none) nid (.drow sz2 (es++c0::cs0))) else none | _=>none) ho ?_
       split
       ·rename_i sz es hq;cases hb:(!(Nat.beq o o2)&&(Nat.beq sz sz2&&Qbg (es.length+(c0::cs0).length) te)) with
        | false=>exact Qo.none rfl
        | true =>
         simp only [cond_true];rw [Bool.and_eq_true] at hb;have hno:o2≠o:=fun e=>by rw [e] at hb; simp at hb
         have l1:Qo m F F (fun H=>some ((),hset H o none)) H:=loc_set ⟨_,hq⟩ ho (.inl ho);refine Qo.congr (fun H=>rfl) (l1.bind (g:=fun _ H1=>some (AV.own nid,hput (hset H1 o2 none) nid (.drow sz2 (es++c0::cs0)))) fun _ H1 he=>?_);simp only [Option.some.injEq,Prod.mk.injEq,true_and] at he; subst he;refine loc_setput ?_ (by rw [Qv]; exact hn) hm h2 h2 hnF hnF;obtain ⟨q,hq2⟩:=hg2;exact ⟨q,by rw [Qaa (Qbh hq),if_neg hno]; exact hq2⟩
       ·exact Qo.none rfl
      | _=>exact Qo.none rfl
  | _=>exact Qo.none rfl
theorem loc_appendS{F:List Nat}{t t1:Nat}{x y:AV}(hn:nid<H.length)(hm:nid<m)(hnF:nid∈F)(hx:∀o,o∈ref1 x→o∈F)(hy:∀o,o∈ref1 y→o∈F):Qo m F F (fun H=>Qbv C nid H t t1 x y) H:=by
 have rd:∀{H2:Hp} {v:AV},(∀o,o∈ref1 v→o∈F)→(∀o,o∈F→hget H2 o=hget H o)→drowOf H2 v=drowOf H v∧isDrow H2 v=isDrow H v:=fun {H2 v} hv ha=>by
  cases v<;>first | exact ⟨rfl,rfl⟩ | (rename_i p; cases p<;>first | exact ⟨rfl,rfl⟩ | (rename_i f _ _; cases f<;>exact ⟨rfl,rfl⟩)) | skip
  rename_i o;have:=ha o (hv o (by simp [ref1]))
  constructor
  ·unfold drowOf; simp only [this]
  ·unfold isDrow; simp only [this]
 unfold Qbv;refine loc_read (r:=fun H=>(drowOf H y,isDrow H x)) (g:=fun q H=>match q.1 with
  | some (o2,sz2,news)=>bif q.2 then evAppendD C nid H t t1 x y o2 sz2 news else Qbo C nid (meltO H o2) t t1 x y
  | none=>Qbo C nid H t t1 x y) (fun H2 ha=>by rw [(rd hy ha).1,(rd hx ha).2]) ?_
 cases hd:drowOf H y with
 | none=>exact loc_append hn hm hnF hx hy
 | some q =>
  obtain ⟨o2,sz2,news⟩:=q;have hd2:y = .own o2∧hget H o2=some (.drow sz2 news):=by
   unfold drowOf at hd
   split at hd
   ·rename_i o
    split at hd
    ·rename_i sz es hg;simp only [Option.some.injEq,Prod.mk.injEq] at hd; obtain ⟨rfl,rfl,rfl⟩:=hd;exact ⟨rfl,hg⟩
    ·cases hd
   ·cases hd
  have h2:o2∈F:=hy o2 (by rw [hd2.1]; simp [ref1]);simp only;cases isDrow H x with
  | true=>exact loc_appendD hn hm hnF hx h2 ⟨_,hd2.2⟩
  | false =>
   simp only [cond_false];have l1:Qo m F F (fun H=>some ((),meltO H o2)) H:=by
    refine loc_get (o:=o2) (g:=fun q H=>some ((),match q with | some (.drow sz es)=>hset H o2 (some (.row true sz es)) | _=>H)) h2 ?_
    rw [hd2.2];exact loc_set ⟨_,hd2.2⟩ h2 (.inl h2)
   refine Qo.congr (fun H=>rfl) (l1.bind (g:=fun _ H1=>Qbo C nid H1 t t1 x y) fun _ H1 he=>?_);refine loc_append ?_ hm hnF hx hy;rw [(l1 () H1 he).1]; exact hn
def evOne(C:Cfg)(call:Bool→Nat→List AV→Hp→Outs (AV×Hp))(nid:Nat)(ρ:Operand→AV)(op:Op)(H:Hp):Option (AV×Hp):=match evOp C call nid ρ H op with | some [r]=>some r | _=>none
def isVal:Op→Bool
 | .call c=>match c.callee with | .value _=>true | _=>false
 | .next _ _=>true
 | _=>false
theorem evOne_pure{ρ:Operand→AV}{op:Op}(hv:isVal op=false):evOne C call nid ρ op H=Ql C nid ρ H op:=by
 have fin:(match (match Ql C nid ρ H op with | some r=>some [r] | none=>none:Outs (AV×Hp)) with | some [r]=>some r | _=>none)=Ql C nid ρ H op:=by
  cases Ql C nid ρ H op<;>rfl
 unfold evOne evOp;cases op with
 | call c =>
  obtain ⟨callee,args,ts⟩:=c;cases callee with
  | value f=>simp [isVal] at hv
  | _=>exact fin
 | next _ _=>simp [isVal] at hv
 | _=>exact fin
theorem foot_val{ρ:Operand→AV}{op:Op}{R:List Nat}(h:foot C nid ρ H op = .rd R):isVal op=false:=by
 cases op with
 | call c =>
  obtain ⟨callee,args,ts⟩:=c;cases callee with
  | value f =>
   simp only [foot] at h
   split at h<;>first | exact absurd h footCall_ne | cases h
  | _=>rfl
 | next _ _=>simp [foot] at h
 | _=>rfl
theorem op_rd{ρ:Operand→AV}{op:Op}{R:List Nat}(hf:foot C nid ρ H op = .rd R):RdAt R (fun H=>evOne C call nid ρ op H) H:=by
 intro r H' h;have hv:=foot_val hf;simp only [evOne_pure hv] at h ⊢;exact pure_rd hf r H' h
theorem footCall_wr{k:Nat}{args:List AV}{Z W:List Nat}(h:Qau C H k args = .wr Z W):C.byref k=false∧Z=args.flatMap refC∧W=[]∧(args.flatMap refC).any (isD H)=false∧∃q,plains H args=some q:=by
 unfold Qau at h;cases hb:C.byref k with
 | true=>rw [hb] at h; cases h
 | false =>
  rw [hb] at h;simp only [cond_false] at h;cases hd:(args.flatMap refC).any (isD H) with
  | true=>rw [hd] at h; cases h
  | false =>
   rw [hd] at h;simp only [cond_false] at h
   split at h
   ·rename_i q hq;simp only [Fp.wr.injEq] at h;exact ⟨rfl,h.1.symm,h.2.symm,rfl,q,hq⟩
   ·cases h
theorem isD_agree{l:List Nat}(ha:∀o,o∈l→hget H2 o=hget H o):l.any (isD H2)=l.any (isD H):=by
 induction l with
 | nil=>rfl
 | cons o r ih =>
  rw [List.any_cons,List.any_cons,ih fun k hk=>ha k (List.mem_cons_of_mem _ hk)];unfold isD;rw [ha o List.mem_cons_self]
theorem loc_invoke(hx:∀k,C.ext k=none){k:Nat}{args:List AV}{Z W:List Nat}(hf:Qau C H k args = .wr Z W):Qo m (Z++W) W (fun H=>match Qcl C call k args H with | some [r]=>some r | _=>none) H:=by
 obtain ⟨hb,rfl,rfl,hD,⟨ps,H1⟩,hp⟩:=footCall_wr hf;rw [List.append_nil];have ev:∀{H:Hp} {H1:Hp},(args.flatMap refC).any (isD H)=false→plains H args=some (ps,H1)→(match Qcl C call k args H with | some [r]=>some r | _=>none)=(match call false k (ps.map .pl) [] with | some [r]=>some (r.1,bif flatA r.1 then H else H1) | _=>none):=by
  intro H H1 hD hp;unfold Qcl pls;rw [hx k];simp only [hb,cond_false,melt_id _ hD,hp];rcases call false k (ps.map .pl) [] with _ | _ | ⟨r,_ | ⟨_,_⟩⟩<;>rfl
 intro r H' h;simp only at h ⊢;obtain ⟨k1,k2,k3,k4⟩:=loc_plains args H _ _ hp;rw [ev hD hp] at h
 split at h
 ·rename_i r0 hc;simp only [Option.some.injEq] at h;cases hfl:flatA r0.1 with
  | true =>
   rw [hfl] at h;simp only [cond_true,Prod.mk.injEq] at h; obtain ⟨rfl,rfl⟩:=h;refine ⟨rfl,fun _ _=>rfl,fun _ _=>rfl,fun H2 hl ha=>?_⟩;obtain ⟨H2',m1,m2,m3⟩:=k4 H2 hl ha;refine ⟨H2,by rw [ev ((isD_agree ha).trans hD) m1,hc]; simp only [hfl,cond_true],rfl,fun o=>?_⟩
   by_cases e:o∈args.flatMap refC
   ·rw [if_pos e]; exact ha o e
   ·rw [if_neg e]
  | false =>
   rw [hfl] at h;simp only [cond_false,Prod.mk.injEq] at h; obtain ⟨rfl,rfl⟩:=h;refine ⟨k1,k2,k3,fun H2 hl ha=>?_⟩;obtain ⟨H2',m1,m2,m3⟩:=k4 H2 hl ha;exact ⟨H2',by rw [ev ((isD_agree ha).trans hD) m1,hc]; simp only [hfl,cond_false],m2,m3⟩
 ·cases h
theorem op_wr(hx:∀k,C.ext k=none){ρ:Operand→AV}{op:Op}{Z W:List Nat}(hn:nid<H.length)(hm:nid<m)(hf:foot C nid ρ H op = .wr Z W):Qo m (Z++W) W (fun H=>evOne C call nid ρ op H) H:=by
 ·skip
  cases hv:isVal op with
  | true =>
   cases op<;>first | (simp [isVal] at hv; done) | (simp [foot] at hf; done) | skip
   rename_i c;obtain ⟨callee,args,ts⟩:=c;cases callee<;>first | (simp [isVal] at hv; done) | skip
   rename_i f;simp only [foot] at hf
   split at hf
   ·rename_i k hk;refine Qo.congr (fun H=>?_) (loc_invoke (call:=call) hx hf);unfold evOne evOp; simp only [hk]
   ·rename_i k cs hk;refine Qo.congr (fun H=>?_) (loc_invoke (call:=call) hx hf);unfold evOne evOp; simp only [hk]
   ·cases hf
  | false =>
   refine Qo.congr (fun H=>evOne_pure hv) ?_;cases op<;>first | (simp [foot] at hf; done) | (exfalso; revert hf; simp only [foot]; generalize isBp _=bb; cases bb<;>(intro hf; cases hf; done)) | skip
   ·-- alloc
    rename_i e;simp only [foot,Fp.wr.injEq] at hf; obtain ⟨rfl,rfl⟩:=hf;simp only [Ql];cases C.ty e with
    | none=>exact Qo.none rfl
    | some ti=>exact loc_put hn hm (by simp) (by simp)
   ·-- box
    rename_i e x;simp only [foot,Fp.wr.injEq] at hf; obtain ⟨rfl,rfl⟩:=hf;simp only [Ql];cases (ρ x).cells.all oneA
    ·exact Qo.none rfl
    ·exact loc_put hn hm (by simp) (by simp)
   ·-- buildSlice
    rename_i t n ps;have hpl:Qo m ((ps.toList.flatMap fun p=>refC (ρ p.2))++[nid]) [nid] (fun H=>evBuild C nid H t n (ps.toList.map fun p=>(p.1,ρ p.2))) H:=by
     unfold evBuild;cases C.ty t with
     | none=>exact Qo.none rfl
     | some ti =>
      simp only;cases ti.k with
      | sl e =>
       simp only;cases C.ty e with
       | none=>exact Qo.none rfl
       | some te =>
        simp only;cases (Nat.ble (n*te.size) 16777216&&!(Nat.beq te.size 0)) with
        | false=>exact Qo.none rfl
        | true =>
         simp only [cond_true];have h1:=(loc_fillE (m:=m) te.size (ps.toList.map fun p=>(p.1,ρ p.2)) (List.replicate n te.zero) H).mono (G:=(ps.toList.flatMap fun p=>refC (ρ p.2))++[nid]) (V:=[nid]) (fun o ho=>by
          rw [List.flatMap_map] at ho; exact List.mem_append_left _ ho) (fun _ h=>by cases h)
         refine Qo.congr (fun H=>?_) (h1.bind (g:=fun es H=>some (AV.own nid,hput H nid (.row false te.size es))) fun es H1 he=>loc_put ?_ hm (by simp) (by simp))
         ·cases fillE te.size H (List.replicate n te.zero) (ps.toList.map fun p=>(p.1,ρ p.2))<;>rfl
         ·rw [(h1 es H1 he).1]; exact hn
      | _=>exact Qo.none rfl
    simp only [Ql,evBuildS];cases hd:C.deep t with
    | false =>
     simp only [foot,hd,cond_false,Fp.wr.injEq] at hf; obtain ⟨rfl,rfl⟩:=hf;exact hpl
    | true =>
     simp only [foot,hd,cond_true,Fp.wr.injEq] at hf; obtain ⟨rfl,rfl⟩:=hf;simp only [cond_true,List.nil_append];have hD:=loc_buildD (C:=C) (H:=H) (m:=m) (nid:=nid) (F:=nid::ps.toList.flatMap fun p=>refC (ρ p.2)) (t:=t) (n:=n) (l:=ps.toList.map fun p=>(p.1,ρ p.2)) hn hm (by simp) (fun o ho=>by
      rw [List.flatMap_map] at ho; exact List.mem_cons_of_mem _ ho)
     refine Qo.congr (fun H=>?_) (loc_or hD (hpl.mono (fun o ho=>by
      rcases List.mem_append.1 ho with ho | ho
      ·exact List.mem_cons_of_mem _ ho
      ·rw [List.mem_singleton] at ho; rw [ho]; exact List.mem_cons_self) (fun o ho=>by rw [List.mem_singleton] at ho; rw [ho]; exact List.mem_cons_self)) (fun H2 ha=>evBuildD_some (fun o ho=>ha o (by
      rw [List.flatMap_map] at ho; exact List.mem_cons_of_mem _ ho))))
     cases Qcw C nid H t n (ps.toList.map fun p=>(p.1,ρ p.2))<;>rfl
   ·-- insert
    rename_i t m' k v;simp only [foot,Fp.wr.injEq] at hf; obtain ⟨rfl,rfl⟩:=hf;exact loc_mapUpdate
   ·-- store
    rename_i t p v;simp only [foot,Fp.wr.injEq] at hf; obtain ⟨rfl,rfl⟩:=hf;exact loc_store
   ·-- makeMap
    rename_i t r;simp only [foot,Fp.wr.injEq] at hf; obtain ⟨rfl,rfl⟩:=hf;cases r with
    | none=>simp only [Ql]; exact loc_put hn hm (by simp) (by simp)
    | some _=>exact Qo.none rfl
   ·-- makeSlice
    rename_i t l c;simp only [foot,Fp.wr.injEq] at hf; obtain ⟨rfl,rfl⟩:=hf;intro r H' h;simp only [Ql] at h;have:∃x,∀H:Hp,Ql C nid ρ H (.makeSlice t l c)=some (.own nid,hput H nid x):=by
     simp only [Ql]
     split at h
     ·rename_i ti k n k' m hti hl' hc
      split at h
      ·rename_i e n' hk hn'
       split at h
       ·rename_i te hte;cases hb:(decide (m=(n':Int))&&Qbg n' te&&!Nat.beq te.size 0) with
        | false=>simp [hb] at h
        | true=>exact ⟨.row false te.size (List.replicate n' te.zero),fun H=>by simp only [hti,hl',hc,hk,hn',hte,hb,cond_true]⟩
       ·cases h
      ·cases h
     ·cases h
    obtain ⟨x,hx'⟩:=this;have:=(loc_put (r:=AV.own nid) (x:=x) (F:=[nid]) (W:=[nid]) hn hm (by simp) (by simp)).congr (f:=fun H=>Ql C nid ρ H (.makeSlice t l c)) hx';exact this r H' (by simpa only [Ql] using h)
   ·-- mapUpdate
    rename_i t m' k v;simp only [foot,Fp.wr.injEq] at hf; obtain ⟨rfl,rfl⟩:=hf;exact loc_mapUpdate
   ·-- mapEntry
    rename_i t m' k;simp only [foot,Fp.wr.injEq] at hf; obtain ⟨rfl,rfl⟩:=hf;exact loc_mapEntry
   ·-- entryStore
    rename_i t m' k v;simp only [foot,Fp.wr.injEq] at hf; obtain ⟨rfl,rfl⟩:=hf;exact loc_entryStore
   ·-- call
    rename_i c;obtain ⟨callee,⟨args⟩,⟨ts⟩⟩:=c;cases callee with
    | builtin b =>
     cases b<;>first | (simp [foot] at hf; done) | skip
     ·simp only [foot,Fp.wr.injEq] at hf; obtain ⟨rfl,rfl⟩:=hf;simp only [Ql,List.nil_append];rcases args with _ | ⟨x,_ | ⟨y,_ | ⟨z,r⟩⟩⟩<;>rcases ts with _ | ⟨t,_ | ⟨u,_ | ⟨v,r'⟩⟩⟩<;>first | exact Qo.none rfl | skip
      refine loc_appendS hn hm (by simp) (fun o ho=>?_) (fun o ho=>?_)
      ·simp [ho]
      ·simp [ho]
     ·simp only [foot,Fp.wr.injEq] at hf; obtain ⟨rfl,rfl⟩:=hf;simp only [Ql,List.nil_append];rcases args with _ | ⟨x,_ | ⟨y,_ | ⟨z,r⟩⟩⟩<;>rcases ts with _ | ⟨t,_ | ⟨u,_ | ⟨v,r'⟩⟩⟩<;>first | exact Qo.none rfl | skip
      exact loc_clear fun o ho=>by simp [ho]
     ·simp only [foot,Fp.wr.injEq] at hf; obtain ⟨rfl,rfl⟩:=hf;simp only [Ql,List.nil_append];rcases args with _ | ⟨x,_ | ⟨y,_ | ⟨z,r⟩⟩⟩<;>rcases ts with _ | ⟨t,_ | ⟨u,_ | ⟨v,r'⟩⟩⟩<;>first | exact Qo.none rfl | skip
      exact loc_copy (fun o ho=>by simp [ho]) (fun o ho=>by simp [ho])
    | value f=>simp [isVal] at hv
    | invoke _ _=>simp [foot] at hf
theorem foot_eq(hx:∀k,C.ext k=none){ρ:Operand→AV}{op:Op}(hne:foot C nid ρ H op≠.all)(hns:∀F n,foot C nid ρ H op≠.sh F n)(hag:∀Z W,foot C nid ρ H op = .wr Z W→∀o,o∈Z++W→hget H2 o=hget H o):foot C nid ρ H2 op=foot C nid ρ H op:=by
 cases op<;>first | rfl | skip
 rename_i c;obtain ⟨callee,args,ts⟩:=c;cases callee<;>first | rfl | (rename_i b; cases b<;>rfl) | skip
 rename_i f;simp only [foot] at hne hns hag ⊢;have key:∀k args,Qau C H k args≠.all→(∀F n,Qau C H k args≠.sh F n)→(∀Z W,Qau C H k args = .wr Z W→∀o,o∈Z++W→hget H2 o=hget H o)→Qau C H2 k args=Qau C H k args:=by
  intro k args hne hns hag;cases hf:Qau C H k args with
  | all=>exact absurd hf hne
  | sh F n=>exact absurd hf (hns F n)
  | rd R=>exact absurd hf footCall_ne
  | wr Z W =>
   have:=hag Z W hf;obtain ⟨hb,rfl,rfl,hD,⟨ps,H1⟩,hp⟩:=footCall_wr hf;obtain ⟨_,_,_,k4⟩:=loc_plains (m:=0) args H _ _ hp;have ha:∀o,o∈args.flatMap refC→hget H2 o=hget H o:=fun o ho=>this o (List.mem_append_left _ ho);obtain ⟨H2',m1,_⟩:=k4 H2 (Nat.zero_le _) ha;unfold Qau; simp only [hb,cond_false,(isD_agree ha).trans hD,m1]
 split<;>rename_i hk<;>simp only [hk] at hne hns hag ⊢<;>first | exact key _ _ hne hns hag | rfl
theorem bit_eq(m i:Nat):bit m i=Nat.testBit m i:=by
 unfold bit;rw [Nat.testBit_eq_decide_div_mod_eq]
 change Nat.beq ((m >>> i) &&& 1) 1=_
 rw [Nat.and_one_is_mod,Nat.shiftRight_eq_div_pow];rcases Qak (m / 2 ^ i % 2) 1 with ⟨h,e⟩|⟨h,e⟩<;>rw [h]<;>simp [e]
theorem bit_orBit(m i j:Nat):bit (orBit m i) j=(bit m j||decide (i=j)):=by
 rw [bit_eq,bit_eq];unfold orBit
 change Nat.testBit (m ||| (1 <<< i)) j=_
 rw [Nat.testBit_or,Nat.one_shiftLeft,Nat.testBit_two_pow]
theorem bit_or(a b j:Nat):bit (Nat.lor a b) j=(bit a j||bit b j):=by
 rw [bit_eq,bit_eq,bit_eq]; exact Nat.testBit_or a b j
theorem reach_mono:∀(f F:Nat)(todo:List Nat){k:Nat},bit F k=true→bit (Qal H f F todo) k=true
 | 0,F,todo,k,h=>by simpa only [Qal] using h
 | f+1,F,[],k,h=>by simpa only [Qal] using h
 | f+1,F,o::r,k,h=>by
  simp only [Qal];cases bit F o with
  | true=>exact reach_mono f F r h
  | false =>
   refine reach_mono f _ _ ?_;have:=bit_orBit F o k;unfold orBit at this;rw [this,h]; rfl
theorem reach_eq:∀(f F:Nat)(todo:List Nat),(∀o,bit (Qal H f F todo) o=true→hget H2 o=hget H o)→Qal H2 f F todo=Qal H f F todo
 | 0,F,todo,_=>by simp only [Qal]
 | f+1,F,[],_=>by simp only [Qal]
 | f+1,F,o::r,h=>by
  simp only [Qal] at h ⊢;cases hb:bit F o with
  | true=>rw [hb] at h; exact reach_eq f F r h
  | false =>
   rw [hb] at h;simp only [cond_false] at h ⊢;have ho:hget H2 o=hget H o:=h o (reach_mono f _ _ (by
    have:=bit_orBit F o o;unfold orBit at this;rw [this]; simp))
   rw [ho];exact reach_eq f _ _ h
theorem hp_ext{H1 H2:Hp}(hl:H1.length=H2.length)(h:∀o,hget H1 o=hget H2 o):H1=H2:=by
 apply List.ext_getElem?
 intro o;have:=h o;unfold hget at this;rcases Nat.lt_or_ge o H1.length with hlt | hge
 ·rw [List.getElem?_eq_getElem hlt,List.getElem?_eq_getElem (by omega)] at this ⊢;generalize H1[o]=a at *; generalize H2[o]=b at *;cases a<;>cases b<;>simp_all
 ·rw [List.getElem?_eq_none hge,List.getElem?_eq_none (by omega)]
def ShAt(F n:Nat)(f:Hp→Option (AV×Hp))(H:Hp):Prop :=
 ∀ r H', f H = some (r, H') → H.length = n ∧ n ≤ H'.length ∧ (∀ o, o < n → bit F o = false → hget H' o = hget H o) ∧
  ∀H2:Hp,H2.length=n→(∀o,bit F o=true→hget H2 o=hget H o)→∃H2',f H2=some (r,H2')∧H2'.length=H'.length∧∀o,hget H2' o=if o<n∧bit F o=false then hget H2 o else hget H' o
theorem sh_at{k:Nat}{args:List AV}{F:Nat}(hF:∀H2:Hp,H2.length=H.length→(∀o,bit F o=true→hget H2 o=hget H o)→Qal H2 100000 0 (Qag args)=F)(hF0:Qal H 100000 0 (Qag args)=F) :
  ShAt F H.length (fun H=>match evShared call k args H (Qal H 100000 0 (Qag args)) with | some [r]=>some r | _=>none) H:=by
 intro r H' h;simp only [hF0] at h;unfold evShared at h;cases hc:call true k args (maskH F 0 H) with
 | none=>rw [hc] at h; cases h
 | some l =>
  rw [hc] at h;simp only at h;cases hb:l.all (fun r=>inF F H.length (refD r.1)&&Qbu F H.length r.2&&Nat.ble H.length r.2.length) with
  | false=>rw [hb] at h; cases h
  | true =>
   rw [hb] at h;rcases l with _ | ⟨r0,_ | ⟨_,_⟩⟩
   ·cases h
   ·simp only [cond_true,List.map_cons,List.map_nil,Option.some.injEq,Prod.mk.injEq] at h;obtain ⟨rfl,rfl⟩:=h;have hlen:H.length≤r0.2.length:=by
     have:=List.all_eq_true.1 hb r0 (by simp);simp only [Bool.and_eq_true] at this;simpa using this.2
    refine ⟨rfl,by rw [Qcc _ _ _ hlen]; exact hlen,fun o h1 h2=>by rw [hget_patch _ _ _ _ hlen,Nat.zero_add,if_pos ⟨h1,h2⟩],fun H2 hl ha=>?_⟩;have hm:maskH F 0 H2=maskH F 0 H:=hp_ext (by rw [length_mask,length_mask,hl]) fun o=>by
     rw [hget_mask,hget_mask,Nat.zero_add]
     split
     ·rename_i ho; exact ha o ho
     ·rfl
    have hlen2:H2.length≤r0.2.length:=by rw [hl]; exact hlen
    refine ⟨Qay F 0 H2 r0.2,?_,by rw [Qcc _ _ _ hlen2,Qcc _ _ _ hlen],fun o=>?_⟩
    ·simp only [hF H2 hl ha];unfold evShared;rw [hm,hc];simp only [hl,hb,cond_true,List.map_cons,List.map_nil]
    ·rw [hget_patch _ _ _ _ hlen2,hget_patch _ _ _ _ hlen,Nat.zero_add,hl]
     by_cases hc:o<H.length∧bit F o=false
     ·rw [if_pos hc,if_pos hc]
     ·rw [if_neg hc,if_neg hc,if_neg hc]
   ·cases h
theorem footCall_sh{k:Nat}{args:List AV}{F n:Nat}(h:Qau C H k args = .sh F n):C.byref k=true∧Qal H 100000 0 (Qag args)=F∧H.length=n:=by
 unfold Qau at h;cases hb:C.byref k with
 | true=>rw [hb] at h; simp only [cond_true,Fp.sh.injEq] at h; exact ⟨rfl,h⟩
 | false =>
  rw [hb] at h;cases hd:(args.flatMap refC).any (isD H)<;>rw [hd] at h<;>simp only [cond_true,cond_false] at h
  ·split at h<;>cases h
  ·cases h
theorem op_sh(hx:∀k,C.ext k=none){ρ:Operand→AV}{op:Op}{F n:Nat}(hf:foot C nid ρ H op = .sh F n) :
  ShAt F n (fun H=>evOne C call nid ρ op H) H∧∀H2:Hp,H2.length=n→(∀o,bit F o=true→hget H2 o=hget H o)→foot C nid ρ H2 op = .sh F n:=by
 cases op<;>first | (simp [foot] at hf; done) | (exfalso; revert hf; simp only [foot]; generalize isBp _=bb; cases bb<;>(intro hf; cases hf; done)) | (exfalso; revert hf; simp only [foot]; generalize C.deep _=bb; cases bb<;>(intro hf; cases hf; done)) | skip
 rename_i c;obtain ⟨callee,args,ts⟩:=c;cases callee with
 | builtin b=>cases b<;>simp [foot] at hf
 | invoke _ _=>simp [foot] at hf
 | value f =>
  have go:∀k as,Qau C H k as = .sh F n→(∀H:Hp,evOp C call nid ρ H (.call ⟨.value f,args,ts⟩)=Qcl C call k as H)→(∀H:Hp,foot C nid ρ H (.call ⟨.value f,args,ts⟩)=Qau C H k as) →
    ShAt F n (fun H=>evOne C call nid ρ (.call ⟨.value f,args,ts⟩) H) H∧∀H2:Hp,H2.length=n→(∀o,bit F o=true→hget H2 o=hget H o)→foot C nid ρ H2 (.call ⟨.value f,args,ts⟩) = .sh F n:=by
   intro k as h1 h2 h3;obtain ⟨hb,hF,rfl⟩:=footCall_sh h1;have hr:∀H2:Hp,H2.length=H.length→(∀o,bit F o=true→hget H2 o=hget H o)→Qal H2 100000 0 (Qag as)=F:=fun H2 _ ha=>by
    rw [←hF] at ha ⊢; exact reach_eq _ _ _ ha
   constructor
   ·have:=sh_at (call:=call) (k:=k) hr hF;have e:(fun H=>evOne C call nid ρ (.call ⟨.value f,args,ts⟩) H)=fun H=>match evShared call k as H (Qal H 100000 0 (Qag as)) with | some [r]=>some r | _=>none:=by
     funext H
     unfold evOne;rw [h2];unfold Qcl;rw [hx k,hb];rfl
    rw [e]; exact this
   ·intro H2 hl ha;rw [h3]; unfold Qau; rw [hb]; simp only [cond_true,hr H2 hl ha,hl]
  simp only [foot] at hf
  split at hf
  ·rename_i k hk;exact go k _ hf (fun H=>by unfold evOp; simp only [hk]) (fun H=>by simp only [foot,hk])
  ·rename_i k cs hk;exact go k _ hf (fun H=>by unfold evOp; simp only [hk]) (fun H=>by simp only [foot,hk])
  ·cases hf
end
end Go.Proofs.Ytbgjlpdeoljmiaa
namespace Go.Proofs.Ytbgjlpdeoljmiaa
set_option linter.unusedSimpArgs false
set_option linter.unusedVariables false
open Go.RowKit
section
variable {C:Cfg} {H H' H1 H2:Hp} {nid n base:Nat} {α β:Type} {call:Bool→Nat→List AV→Hp→Outs (AV×Hp)} {ops:List Oper} {s:Tr}
theorem fm_congr{f g:Operand→List Nat} : ∀{l:List Operand},(∀x∈l,f x=g x)→l.flatMap f=l.flatMap g
 | [],_=>rfl
 | x::l,h=>by rw [List.flatMap_cons,List.flatMap_cons,h x (by simp),fm_congr fun y hy=>h y (List.mem_cons_of_mem _ hy)]
theorem pairs_congr{ρ ρ':Operand→AV}{ps:List (Nat×Operand)}(h:∀p∈ps,ρ p.2=ρ' p.2):(ps.map fun p=>(p.1,ρ p.2))=ps.map fun p=>(p.1,ρ' p.2):=List.map_congr_left fun p hp=>by rw [h p hp]
theorem ev_congr{ρ ρ':Operand→AV}{op:Op}(h:∀x∈op.operands,ρ x=ρ' x):evOp C call nid ρ H op=evOp C call nid ρ' H op∧foot C nid ρ H op=foot C nid ρ' H op:=by
 have hd:op.operands.toList.flatMap (fun x=>ref1 (ρ x))=op.operands.toList.flatMap (fun x=>ref1 (ρ' x)):=fm_congr fun x hx=>by rw [h x (by simpa using hx)]
 ·skip
  cases op with
  | call c =>
   obtain ⟨callee,args,ts⟩:=c;have ha:args.toList.map ρ=args.toList.map ρ':=List.map_congr_left fun x hx=>h x (by simp [Op.operands,Call.operands]; exact .inr (by simpa using hx));have hr:args.toList.flatMap (fun x=>ref1 (ρ x))=args.toList.flatMap (fun x=>ref1 (ρ' x)):=fm_congr fun x hx=>by rw [h x (by simp [Op.operands,Call.operands]; exact .inr (by simpa using hx))]
   cases callee with
   | value f =>
    have hf:ρ f=ρ' f:=h f (by simp [Op.operands,Call.operands])
    constructor
    ·unfold evOp; simp only [hf,ha]
    ·simp only [foot,hf,ha]
   | invoke r m =>
    constructor
    ·rfl
    ·rfl
   | builtin b =>
    constructor
    ·unfold evOp; simp only [Ql,ha]
    ·cases b<;>first | rfl | (simp only [foot,hr])
  | build t ps =>
   have hp:=pairs_congr (ρ:=ρ) (ρ':=ρ') (ps:=ps.toList) fun p hp=>h p.2 (by simp [Op.operands]; exact ⟨p.1,by simpa using hp⟩);exact ⟨by unfold evOp; simp only [Ql,hp],rfl⟩
  | buildSlice t k ps =>
   have hp:=pairs_congr (ρ:=ρ) (ρ':=ρ') (ps:=ps.toList) fun p hp=>h p.2 (by simp [Op.operands]; exact ⟨p.1,by simpa using hp⟩);refine ⟨by unfold evOp; simp only [Ql,hp],?_⟩;have hz:(ps.toList.flatMap fun p=>refC (ρ p.2))=ps.toList.flatMap fun p=>refC (ρ' p.2):=by
    have e:∀ρ:Operand→AV,(ps.toList.flatMap fun p=>refC (ρ p.2))=(ps.toList.map fun p=>(p.1,ρ p.2)).flatMap fun q=>refC q.2:=fun ρ=>by rw [List.flatMap_map]
    rw [e ρ,e ρ',hp]
   simp only [foot,hz]
  | makeFunc fn first cs =>
   have hp:cs.toList.map ρ=cs.toList.map ρ':=List.map_congr_left fun x hx=>h x (by simp [Op.operands]; exact .inr (by simpa using hx));refine ⟨?_,rfl⟩;unfold evOp; cases fn<;>simp only [Ql,hp]
  | slice t x lo hi mx =>
   have hx:=h x (by simp [Op.operands]);have h1:lo.map ρ=lo.map ρ':=by cases lo with | none=>rfl | some y=>simp only [Option.map_some,h y (by simp [Op.operands])]
   have h2:hi.map ρ=hi.map ρ':=by cases hi with | none=>rfl | some y=>simp only [Option.map_some,h y (by simp [Op.operands])]
   have h3:mx.map ρ=mx.map ρ':=by cases mx with | none=>rfl | some y=>simp only [Option.map_some,h y (by simp [Op.operands])]
   exact ⟨by unfold evOp; simp only [Ql,hx,h1,h2,h3],by simp only [foot,hx]; rw [hd]⟩
  | move x=>exact ⟨by unfold evOp; simp only [Ql,h x (by simp [Op.operands])],rfl⟩
  | assign x=>exact ⟨by unfold evOp; simp only [Ql,h x (by simp [Op.operands])],rfl⟩
  | pick c x y=>exact ⟨by unfold evOp; simp only [Ql,h c (by simp [Op.operands]),h x (by simp [Op.operands]),h y (by simp [Op.operands])],rfl⟩
  | alloc e=>exact ⟨rfl,rfl⟩
  | box e x=>exact ⟨by unfold evOp; simp only [Ql,h x (by simp [Op.operands])],rfl⟩
  | load t x=>exact ⟨by unfold evOp; simp only [Ql,h x (by simp [Op.operands])],congrArg Fp.rd hd⟩
  | store t x y=>exact ⟨by unfold evOp; simp only [Ql,h x (by simp [Op.operands]),h y (by simp [Op.operands])],by simp only [foot,h x (by simp [Op.operands]),h y (by simp [Op.operands])]⟩
  | nilCheck x=>exact ⟨by unfold evOp; simp only [Ql,h x (by simp [Op.operands])],congrArg Fp.rd hd⟩
  | binOp op t x y t'=>exact ⟨by unfold evOp; simp only [Ql,h x (by simp [Op.operands]),h y (by simp [Op.operands])],congrArg Fp.rd hd⟩
  | unOp op t x=>exact ⟨by unfold evOp; simp only [Ql,h x (by simp [Op.operands])],rfl⟩
  | convert _ _ x=>exact ⟨by unfold evOp; simp only [Ql,h x (by simp [Op.operands])],congrArg Fp.rd hd⟩
  | makeSlice t x y=>exact ⟨by unfold evOp; simp only [Ql,h x (by simp [Op.operands]),h y (by simp [Op.operands])],rfl⟩
  | fieldAddr t x f=>exact ⟨by unfold evOp; simp only [Ql,h x (by simp [Op.operands])],congrArg Fp.rd hd⟩
  | field t x f=>exact ⟨by unfold evOp; simp only [Ql,h x (by simp [Op.operands])],rfl⟩
  | indexAddr t x y=>exact ⟨by unfold evOp; simp only [Ql,h x (by simp [Op.operands]),h y (by simp [Op.operands])],congrArg Fp.rd hd⟩
  | index t x y=>exact ⟨by unfold evOp; simp only [Ql,h x (by simp [Op.operands]),h y (by simp [Op.operands])],rfl⟩
  | extract x i=>exact ⟨by unfold evOp; simp only [Ql,h x (by simp [Op.operands])],rfl⟩
  | makeMap t r=>exact ⟨by unfold evOp; cases r<;>rfl,rfl⟩
  | lookup t x y ok=>exact ⟨by unfold evOp; simp only [Ql,h x (by simp [Op.operands]),h y (by simp [Op.operands])],congrArg Fp.rd hd⟩
  | mapUpdate t x y z=>exact ⟨by unfold evOp; simp only [Ql,h x (by simp [Op.operands]),h y (by simp [Op.operands]),h z (by simp [Op.operands])],by simp only [foot,h x (by simp [Op.operands]),h z (by simp [Op.operands])]⟩
  | insert t x y z=>exact ⟨by unfold evOp; simp only [Ql,h x (by simp [Op.operands]),h y (by simp [Op.operands]),h z (by simp [Op.operands])],by simp only [foot,h x (by simp [Op.operands]),h z (by simp [Op.operands])]⟩
  | mapEntry t x y=>exact ⟨by unfold evOp; simp only [Ql,h x (by simp [Op.operands]),h y (by simp [Op.operands])],by simp only [foot,h x (by simp [Op.operands])]⟩
  | entryStore t x y z=>exact ⟨by unfold evOp; simp only [Ql,h x (by simp [Op.operands]),h y (by simp [Op.operands]),h z (by simp [Op.operands])],by simp only [foot,h x (by simp [Op.operands]),h z (by simp [Op.operands])]⟩
  | range t x=>exact ⟨by unfold evOp; simp only [Ql,h x (by simp [Op.operands])],rfl⟩
  | next x b=>exact ⟨by unfold evOp; cases b<;>simp only [Ql,h x (by simp [Op.operands])],rfl⟩
  | entry x=>exact ⟨by unfold evOp; simp only [Ql,h x (by simp [Op.operands])],rfl⟩
  | _=>exact ⟨rfl,congrArg Fp.rd hd⟩
theorem foot_rd{ρ:Operand→AV}{op:Op}{R:List Nat}(h:foot C nid ρ H op = .rd R)(H2:Hp):foot C nid ρ H2 op = .rd R:=by
 have hv:=foot_val h;cases op<;>first | exact h | skip
 rename_i c;obtain ⟨callee,args,ts⟩:=c;cases callee with
 | value f=>simp [isVal] at hv
 | invoke _ _=>exact h
 | builtin b=>cases b<;>exact h

def actD(C:Cfg)(call:Bool→Nat→List AV→Hp→Outs (AV×Hp))(ops:List Oper)(base:Nat)(x:It)(s:Tr)(H:Hp):Option (AV×Hp) :=
 match want ops s x.o.guard with
 | none=>none
 | some false=>some (.tup [],H)
 | some true=>match evOne C call (base+x.nid) (val s) x.o.op H with
  | some r=>bif okLen H r.2 (foot C (base+x.nid) (val s) H x.o.op) then some r else none
  | none=>none
def ftD(C:Cfg)(ops:List Oper)(base:Nat)(x:It)(s:Tr)(H:Hp):Fp :=
 match want ops s x.o.guard with
 | some true=>foot C (base+x.nid) (val s) H x.o.op
 | _=>.rd []
theorem stepD_eq{x:It} : stepD C call n ops base x (s,H)=(actD C call ops base x s H).map fun r=>((putO n s x.o.dst r.1,r.2),ftD C ops base x s H):=by
 unfold stepD actD ftD evOne;simp only;cases want ops s x.o.guard with
 | none=>rfl
 | some b=>cases b with
  | false=>rfl
  | true =>
   simp only;rcases evOp C call (base+x.nid) (val s) H x.o.op with _ | _ | ⟨r,_ | ⟨_,_⟩⟩<;>first | rfl | skip
   simp only;cases okLen H r.2 (foot C (base+x.nid) (val s) H x.o.op)<;>rfl
theorem act_rd{x:It}{R:List Nat}(h:ftD C ops base x s H = .rd R):RdAt R (actD C call ops base x s) H:=by
 unfold ftD at h;intro r H' hr;unfold actD at hr ⊢;cases hw:want ops s x.o.guard with
 | none=>rw [hw] at hr; cases hr
 | some b=>cases b with
  | false =>
   rw [hw] at hr; simp only [Option.some.injEq,Prod.mk.injEq] at hr; obtain ⟨rfl,rfl⟩:=hr;exact ⟨rfl,fun H2 _=>rfl⟩
  | true =>
   rw [hw] at hr h; simp only at hr h ⊢
   split at hr
   ·rename_i r0 h0;rw [h] at hr;simp only [okLen,cond_true,Option.some.injEq] at hr; subst hr;obtain ⟨rfl,h2⟩:=op_rd (call:=call) h _ _ h0;refine ⟨rfl,fun H2 ha=>?_⟩;have e:=h2 H2 ha;simp only at e;rw [e];simp only [foot_rd h H2,okLen,cond_true]
   ·cases hr
theorem act_wr(hx:∀k,C.ext k=none){x:It}{Z W:List Nat}(hn:base+x.nid<H.length)(h:ftD C ops base x s H = .wr Z W):Qo (base+x.nid+1) (Z++W) W (actD C call ops base x s) H:=by
 unfold ftD at h;cases hw:want ops s x.o.guard with
 | none=>exact Qo.none (by unfold actD; rw [hw])
 | some b=>cases b with
  | false=>rw [hw] at h; cases h
  | true =>
   rw [hw] at h; simp only at h;have h0:=op_wr (call:=call) (m:=base+x.nid+1) hx hn (Nat.lt_succ_self _) h;intro r H' hr;unfold actD at hr ⊢;rw [hw] at hr; simp only at hr ⊢;rw [h] at hr
   split at hr
   ·rename_i r0 he;simp only [okLen,cond_true,Option.some.injEq] at hr; subst hr;obtain ⟨k1,k2,k3,k4⟩:=h0 _ _ he;refine ⟨k1,k2,k3,fun H2 hl ha=>?_⟩;obtain ⟨H2',m1,m2,m3⟩:=k4 H2 hl ha;refine ⟨H2',?_,m2,m3⟩;have hf2:foot C (base+x.nid) (val s) H2 x.o.op = .wr Z W:=by
     rw [foot_eq hx (H:=H) (by rw [h]; intro e; cases e) (fun _ _=>by rw [h]; intro e; cases e) (fun Z' W' e=>by rw [h] at e; cases e; exact ha),h]
    simp only at m1;rw [m1]; simp only [hw,hf2,okLen,cond_true]
   ·cases hr
theorem ft_rd{x:It}{R:List Nat}(h:ftD C ops base x s H = .rd R)(H2:Hp):ftD C ops base x s H2 = .rd R:=by
 unfold ftD at h ⊢;cases hw:want ops s x.o.guard with
 | none=>rw [hw] at h; exact h
 | some b=>cases b with
  | false=>rw [hw] at h; exact h
  | true=>rw [hw] at h; exact foot_rd h H2
theorem ft_wr(hx:∀k,C.ext k=none){x:It}{Z W:List Nat}(h:ftD C ops base x s H = .wr Z W)(ha:∀o,o∈Z++W→hget H2 o=hget H o):ftD C ops base x s H2 = .wr Z W:=by
 unfold ftD at h ⊢;cases hw:want ops s x.o.guard with
 | none=>rw [hw] at h; cases h
 | some b=>cases b with
  | false=>rw [hw] at h; cases h
  | true =>
   rw [hw] at h; simp only at h ⊢;rw [foot_eq hx (H:=H) (by rw [h]; intro e; cases e) (fun _ _=>by rw [h]; intro e; cases e) (fun Z' W' e=>by rw [h] at e; cases e; exact ha),h]
theorem act_sh(hx:∀k,C.ext k=none){x:It}{F m:Nat}(h:ftD C ops base x s H = .sh F m):ShAt F m (actD C call ops base x s) H∧∀H2:Hp,H2.length=m→(∀o,bit F o=true→hget H2 o=hget H o)→ftD C ops base x s H2 = .sh F m:=by
 unfold ftD at h;cases hw:want ops s x.o.guard with
 | none=>rw [hw] at h; cases h
 | some b=>cases b with
  | false=>rw [hw] at h; cases h
  | true =>
   rw [hw] at h; simp only at h;obtain ⟨h0,hf⟩:=op_sh (call:=call) hx h;refine ⟨fun r H' hr=>?_,fun H2 hl ha=>by unfold ftD; rw [hw]; exact hf H2 hl ha⟩;unfold actD at hr ⊢;rw [hw] at hr; simp only at hr;rw [h] at hr
   split at hr
   ·rename_i r0 he;cases hb:okLen H r0.2 (.sh F m) with
    | false=>rw [hb] at hr; cases hr
    | true =>
     rw [hb] at hr; simp only [cond_true,Option.some.injEq] at hr; subst hr;obtain ⟨k1,k2,k3,k4⟩:=h0 _ _ he;refine ⟨k1,k2,k3,fun H2 hl ha=>?_⟩;obtain ⟨H2',m1,m2,m3⟩:=k4 H2 hl ha;refine ⟨H2',?_,m2,m3⟩;simp only at m1;have hb2:okLen H2 H2' (.sh F m)=true:=by simp only [okLen,Nat.ble_eq]; omega
     simp only [hw,m1,hf H2 hl ha,hb2,cond_true]
   ·cases hr
theorem disj_ok{a b:List Nat}(h:disj a b=true){o:Nat}(ha:o∈a)(hb:o∈b):False:=by
 unfold disj at h;rw [List.all_eq_true] at h;have:=h o ha;rw [List.all_eq_true] at this;have:=this o hb;simp at this
theorem outF_ok{F m:Nat}{l:List Nat}(h:outF F m l=true){o:Nat}(ho:o∈l):bit F o=false∧o<m:=by
 unfold outF at h;have:=List.all_eq_true.1 h o ho;simpa using this
theorem swapH(hx:∀k,C.ext k=none){x y:It}{v u:AV}(hy:actD C call ops base y s H=some (v,H1))(hxx:actD C call ops base x s H1=some (u,H2))(hok:okF (ftD C ops base y s H) (ftD C ops base x s H1)=true)
  (hny:base+y.nid<H.length) (hnx:base+x.nid<H.length) :
  ∃H1',actD C call ops base x s H=some (u,H1')∧actD C call ops base y s H1'=some (v,H2)∧ftD C ops base x s H=ftD C ops base x s H1∧ftD C ops base y s H1'=ftD C ops base y s H:=by
 cases fy:ftD C ops base y s H with
 | rd R =>
  obtain ⟨rfl,ry⟩:=act_rd fy _ _ hy;cases fx:ftD C ops base x s H1 with
  | rd R' =>
   obtain ⟨rfl,_⟩:=act_rd fx _ _ hxx;exact ⟨_,hxx,hy,rfl,fy⟩
  | wr Z W =>
   rw [fy,fx] at hok;obtain ⟨k1,k2,k3,_⟩:=act_wr hx hnx fx _ _ hxx;exact ⟨H2,hxx,ry H2 fun o ho=>k3 o fun hw=>disj_ok hok ho hw,rfl,ft_rd fy H2⟩
  | sh F m =>
   rw [fy,fx] at hok;obtain ⟨k0,k1,k2,_⟩:=(act_sh hx fx).1 _ _ hxx;exact ⟨H2,hxx,ry H2 fun o ho=>by rw [k2 o (outF_ok hok ho).2 (outF_ok hok ho).1],rfl,ft_rd fy H2⟩
  | all =>
   rw [fy,fx] at hok;cases R with
   | nil=>exact ⟨H2,hxx,ry H2 (fun o ho=>by cases ho),rfl,ft_rd fy H2⟩
   | cons _ _=>cases hok
 | wr Z W =>
  obtain ⟨k1,k2,k3,k4⟩:=act_wr hx hny fy _ _ hy;cases fx:ftD C ops base x s H1 with
  | rd R =>
   rw [fy,fx] at hok;obtain ⟨rfl,rx⟩:=act_rd fx _ _ hxx;exact ⟨H,rx H fun o ho=>(k3 o fun hw=>disj_ok hok ho hw).symm,hy,ft_rd fx H,fy⟩
  | wr Z' W' =>
   rw [fy,fx] at hok;simp only [okF] at hok;obtain ⟨l1,l2,l3,l4⟩:=act_wr hx (by rw [k1]; exact hnx) fx _ _ hxx;obtain ⟨H1',m1,m2,m3⟩:=l4 H hnx fun o ho=>(k2 o fun hw=>disj_ok hok hw ho).symm;obtain ⟨H2',n1,n2,n3⟩:=k4 H1' (by rw [m2]; exact hny) fun o ho=>by rw [m3 o,if_neg fun hw=>disj_ok hok ho hw]
   have e:H2'=H2:=by
    refine hp_ext (by rw [n2,m2,l1,k1]) fun o=>?_;rw [n3 o]
    by_cases e1:o∈Z++W
    ·rw [if_pos e1,l2 o fun hw=>disj_ok hok e1 hw]
    ·rw [if_neg e1,m3 o]
     by_cases e2:o∈Z'++W'
     ·rw [if_pos e2]
     ·rw [if_neg e2,l2 o e2,k2 o e1]
   subst e;refine ⟨H1',m1,n1,?_,?_⟩
   ·exact ft_wr hx fx fun o ho=>(k2 o fun hw=>disj_ok hok hw ho).symm
   ·exact ft_wr hx fy fun o ho=>by rw [m3 o,if_neg fun hw=>disj_ok hok ho hw]
  | sh F m =>
   rw [fy,fx] at hok;simp only [okF] at hok;obtain ⟨l0,l1,l2,l3⟩:=(act_sh hx fx).1 _ _ hxx;have hno:∀o,bit F o=true→o∉Z++W:=fun o ho hc=>by rw [(outF_ok hok hc).1] at ho; cases ho
   obtain ⟨H1',m1,m2,m3⟩:=l3 H (by rw [←k1]; exact l0) fun o ho=>(k2 o (hno o ho)).symm;have hag:∀o,o∈Z++W→hget H1' o=hget H o:=fun o ho=>by rw [m3 o,if_pos ⟨(outF_ok hok ho).2,(outF_ok hok ho).1⟩]
   obtain ⟨H2',n1,n2,n3⟩:=k4 H1' (by rw [m2]; omega) hag;have e:H2'=H2:=by
    refine hp_ext (by rw [n2,m2]) fun o=>?_;rw [n3 o]
    by_cases e1:o∈Z++W
    ·rw [if_pos e1,l2 o (outF_ok hok e1).2 (outF_ok hok e1).1]
    ·rw [if_neg e1,m3 o]
     by_cases e2:o<m∧bit F o=false
     ·rw [if_pos e2,l2 o e2.1 e2.2,k2 o e1]
     ·rw [if_neg e2]
   subst e;exact ⟨H1',m1,n1,by rw [(act_sh (call:=call) hx fx).2 H (by rw [←k1]; exact l0) fun o ho=>(k2 o (hno o ho)).symm],ft_wr hx fy hag⟩
  | all=>rw [fy,fx] at hok; cases hok
 | sh F m =>
  obtain ⟨k0,k1,k2,k3⟩:=(act_sh hx fy).1 _ _ hy;cases fx:ftD C ops base x s H1 with
  | rd R =>
   rw [fy,fx] at hok;obtain ⟨rfl,rx⟩:=act_rd fx _ _ hxx;exact ⟨H,rx H fun o ho=>by rw [k2 o (outF_ok hok ho).2 (outF_ok hok ho).1],hy,ft_rd fx H,fy⟩
  | wr Z W =>
   rw [fy,fx] at hok;simp only [okF] at hok;obtain ⟨l1,l2,l3,l4⟩:=act_wr hx (by omega) fx _ _ hxx;have hag:∀o,o∈Z++W→hget H o=hget H1 o:=fun o ho=>(k2 o (outF_ok hok ho).2 (outF_ok hok ho).1).symm;obtain ⟨H1',m1,m2,m3⟩:=l4 H hnx hag;have hno:∀o,bit F o=true→o∉Z++W:=fun o ho hc=>by rw [(outF_ok hok hc).1] at ho; cases ho
   obtain ⟨H2',n1,n2,n3⟩:=k3 H1' (by rw [m2]; exact k0) fun o ho=>by rw [m3 o,if_neg (hno o ho)]
   have e:H2'=H2:=by
    refine hp_ext (by rw [n2,l1]) fun o=>?_;rw [n3 o]
    by_cases e2:o<m∧bit F o=false
    ·rw [if_pos e2,m3 o]
     by_cases e1:o∈Z++W
     ·rw [if_pos e1]
     ·rw [if_neg e1,l2 o e1,k2 o e2.1 e2.2]
    ·rw [if_neg e2,l2 o fun hc=>e2 ⟨(outF_ok hok hc).2,(outF_ok hok hc).1⟩]
   subst e;exact ⟨H1',m1,n1,ft_wr hx fx hag,by rw [(act_sh (call:=call) hx fy).2 H1' (by rw [m2]; exact k0) fun o ho=>by rw [m3 o,if_neg (hno o ho)]]⟩
  | sh _ _=>rw [fy,fx] at hok; cases hok
  | all=>rw [fy,fx] at hok; cases hok
 | all =>
  cases fx:ftD C ops base x s H1 with
  | rd R =>
   rw [fy,fx] at hok;cases R with
   | nil =>
    obtain ⟨rfl,rx⟩:=act_rd fx _ _ hxx;exact ⟨H,rx H (fun o ho=>by cases ho),hy,ft_rd fx H,fy⟩
   | cons _ _=>cases hok
  | sh _ _=>rw [fy,fx] at hok; cases hok
  | wr _ _=>rw [fy,fx] at hok; cases hok
  | all=>rw [fy,fx] at hok; cases hok

theorem eqF_some{T:Nat→Option TI}{rec:Nat→List PV→Bool}{eq:Nat→List PV→List PV→Option Bool}(ih:∀t x y,rec t x=true→rec t y=true→∃b,eq t x y=some b):∀(fs:List (Nat×Nat))(x y:List PV),keyF T rec fs x=true→keyF T rec fs y=true→∃b,eqF T eq fs x y=some b
 | [],x,y,_,_=>⟨true,rfl⟩
 | (t,off)::fs,x,y,hx,hy=>by
  simp only [keyF,Bool.and_eq_true] at hx hy;obtain ⟨hx,hx2⟩:=hx;obtain ⟨hy,hy2⟩:=hy;simp only [eqF];cases hti:T t with
  | none=>simp [hti] at hx
  | some ti =>
   simp only [hti,Bool.and_eq_true] at hx hy;obtain ⟨b,hb⟩:=ih t _ _ hx.2 hy.2;simp only [hx.1.1,hy.1.1,Bool.and_self,cond_true,hb];cases b with
   | true=>exact eqF_some ih fs x y hx2 hy2
   | false=>exact ⟨false,rfl⟩
theorem eqP_some{T:Nat→Option TI} : ∀(d t:Nat)(x y:List PV),keyP T d t x=true→keyP T d t y=true→∃b,eqP T d t x y=some b
 | 0,t,x,y,h,_=>by simp [keyP] at h
 | d+1,t,x,y,hx,hy=>by
  simp only [keyP] at hx hy;simp only [eqP];cases hti:T t with
  | none=>simp [hti] at hx
  | some ti =>
   simp only [hti] at hx hy ⊢
   split at hx
   ·rename_i k k2 n hk;rw [hk] at hy ⊢
    split at hy
    ·rename_i k' k2' n' hk';simp only [TK.int.injEq] at hk';subst hk';cases kindEq_eq hx; cases kindEq_eq hy;simp only [kindEq_refl,cond_true];exact ⟨_,rfl⟩
    ·rename_i h; cases h
    ·rename_i h; cases h
    ·rename_i h; cases h
    ·cases hy
   ·rename_i b hk;rw [hk] at hy ⊢
    split at hy
    ·rename_i h; cases h
    ·exact ⟨_,rfl⟩
    ·rename_i h; cases h
    ·rename_i h; cases h
    ·cases hy
   ·rename_i b hk;rw [hk] at hy ⊢
    split at hy
    ·rename_i h; cases h
    ·rename_i h; cases h
    ·exact ⟨_,rfl⟩
    ·rename_i h; cases h
    ·cases hy
   ·rename_i fs hk;rw [hk] at hy ⊢
    replace hy:(y.all simp1&&keyF T (keyP T d) fs y)=true:=hy
    rw [Bool.and_eq_true] at hx hy;exact eqF_some (fun t x y h1 h2=>eqP_some d t x y h1 h2) fs _ _ hx.2 hy.2
   ·cases hx
theorem eqV_some{T:Nat→Option TI}{t:Nat}{p q:PV}(hp:keyV T t p=true)(hq:keyV T t q=true):∃b,eqV T t p q=some b:=by
 unfold keyV at hp hq;unfold eqV;cases hti:T t with
 | none=>simp [hti] at hp
 | some ti =>
  simp only [hti] at hp hq ⊢;cases hr:ti.k.row with
  | true =>
   simp only [hr,cond_true] at hp hq ⊢
   split at hp
   ·split at hq
    ·exact eqP_some 20 t _ _ hp hq
    ·cases hq
   ·cases hp
  | false =>
   simp only [hr,cond_false,Bool.and_eq_true] at hp hq ⊢;simp only [hp.1,hq.1,Bool.and_self,cond_true];exact eqP_some 20 t _ _ hp.2 hq.2
theorem mfind_app{T:Nat→Option TI}{kt:Nat}{k k' z:PV} : ∀(kvs:List (PV×PV))(i:Nat),mfind T kt k (kvs++[(k',z)]) i=match mfind T kt k kvs i with
  | some none=>(match eqV T kt k k' with | some true=>some (some (i+kvs.length,z)) | some false=>some none | none=>none)
  | r=>r
 | [],i=>by
  simp only [List.nil_append,mfind,List.length_nil,Nat.add_zero];cases eqV T kt k k' with
  | none=>rfl
  | some b=>cases b<;>rfl
 | (q,v)::r,i=>by
  simp only [List.cons_append,mfind];cases eqV T kt k q with
  | none=>rfl
  | some b=>cases b with
   | true=>rfl
   | false =>
    simp only [mfind_app r (i+1),List.length_cons];rw [show i+1+r.length=i+(r.length+1) from by omega]
theorem lk_eq{t:Nat}{m k x q:AV}{r:AV×Hp}(h:Qbb C H t m k=some r):Qcp C r.2 t x q false=Qcp C H t x q false:=by
 unfold Qbb at h
 split at h
 ·rename_i kt e o kp hmt
  split at h
  ·rename_i kvs ho
   split at h
   ·rename_i z i kvs' hms;simp only [Option.some.injEq] at h; subst h;unfold Qcp;simp only [hmt];have hlt:=Qbh ho;cases q with
    | pl qp =>
     by_cases hxo:x = .mp o
     ·subst hxo;simp only [mapOf,Qaa hlt,if_true,ho];unfold ment at hms;cases hkk:keyV C.ty kt kp with
      | false=>simp [hkk] at hms
      | true =>
       simp only [hkk,cond_true] at hms
       split at hms
       ·split at hms
        ·rename_i kq _ _;cases hq:eqC kp kq with
         | false=>simp [hq] at hms
         | true=>simp only [hq,cond_true,Option.some.injEq,Prod.mk.injEq] at hms; rw [hms.2.2]
        ·cases hms
       ·split at hms
        ·rename_i z0 hz;simp only [Option.some.injEq,Prod.mk.injEq] at hms; obtain ⟨rfl,_,rfl⟩:=hms;cases hqk:keyV C.ty kt qp with
         | false=>rfl
         | true =>
          simp only [cond_true,mfind_app];obtain ⟨b,hb⟩:=eqV_some hqk hkk;cases mfind C.ty kt qp kvs 0 with
          | none=>rfl
          | some p=>cases p with
           | some _=>rfl
           | none=>cases b<;>simp only [hb,hz,cond_false]
        ·cases hms
       ·cases hms
     ·have:mapOf (hset H o (some (.map kvs'))) x=mapOf H x:=by
       cases x with
       | mp o' =>
        have:o'≠o:=fun e=>hxo (by rw [e]);simp only [mapOf,Qaa hlt,if_neg this]
       | pl v=>cases v<;>rfl
       | _=>rfl
      rw [this]
    | _=>rfl
   ·cases h
  ·cases h
 ·cases h
theorem swapLk{x y:It}{v u:AV}(hy:actD C call ops base y s H=some (v,H1))(hxx:actD C call ops base x s H1=some (u,H2))(hok:okP y.o x.o=true) :
  ∃H1',actD C call ops base x s H=some (u,H1')∧actD C call ops base y s H1'=some (v,H2)∧ftD C ops base x s H=ftD C ops base x s H1∧ftD C ops base y s H1'=ftD C ops base y s H:=by
 have lk:∀{z:It} {t:Nat} {a b:Operand} (H:Hp),z.o.guard=none→z.o.op = .lookup t a b false→actD C call ops base z s H=(Qcp C H t (val s a) (val s b) false).map (fun v=>(v,H))∧ftD C ops base z s H = .rd ((Op.lookup t a b false).operands.toList.flatMap fun x=>ref1 (val s x)):=fun {z t a b} H hg ho=>by
  unfold actD ftD;rw [hg,ho];simp only [want,foot,evOne_pure (C:=C) (call:=call) (op:=.lookup t a b false) rfl,Ql];cases Qcp C H t (val s a) (val s b) false with
  | none=>exact ⟨rfl,trivial⟩
  | some v=>exact ⟨rfl,trivial⟩
 have me:∀{z:It} {t:Nat} {a b:Operand} (H:Hp),z.o.guard=none→z.o.op = .mapEntry t a b→actD C call ops base z s H=Qbb C H t (val s a) (val s b)∧ftD C ops base z s H = .wr [] (ref1 (val s a)):=fun {z t a b} H hg ho=>by
  unfold actD ftD;rw [hg,ho];simp only [want,foot,evOne_pure (C:=C) (call:=call) (op:=.mapEntry t a b) rfl,Ql];cases Qbb C H t (val s a) (val s b) with
  | none=>exact ⟨rfl,trivial⟩
  | some v=>exact ⟨rfl,trivial⟩
 unfold okP at hok
 split at hok
 ·rename_i gy gx
  split at hok
  ·rename_i t a b t' a' b' oy ox;rcases Qak t t' with ⟨hb,e⟩|⟨hb,e⟩
   ·subst e;rw [(lk H gy oy).1] at hy;obtain ⟨v',h1,h2⟩:=Option.map_eq_some_iff.1 hy;simp only [Prod.mk.injEq] at h2; obtain ⟨rfl,rfl⟩:=h2;refine ⟨H2,hxx,?_,rfl,?_⟩
    ·rw [(me H gx ox).1] at hxx;rw [(lk H2 gy oy).1,lk_eq hxx,h1]; rfl
    ·rw [(lk H2 gy oy).2,(lk H gy oy).2]
   ·rw [hb] at hok; cases hok
  ·rename_i t' a' b' t a b oy ox;rcases Qak t t' with ⟨hb,e⟩|⟨hb,e⟩
   ·subst e;rw [(lk H1 gx ox).1] at hxx;obtain ⟨v',h1,h2⟩:=Option.map_eq_some_iff.1 hxx;simp only [Prod.mk.injEq] at h2; obtain ⟨rfl,rfl⟩:=h2;have hy':=hy;rw [(me H gy oy).1] at hy';refine ⟨H,?_,hy,?_,rfl⟩
    ·rw [(lk H gx ox).1,←lk_eq hy',h1]; rfl
    ·rw [(lk H gx ox).2,(lk H1 gx ox).2]
   ·rw [hb] at hok; cases hok
  ·cases hok
 ·cases hok

theorem val_put{d:Option Nat}{v:AV}{x:Operand}(h:∀t,d=some t→x≠.tmp t):val (putO n s d v) x=val s x:=by
 cases d with
 | none=>rfl
 | some t =>
  cases x with
  | tmp k =>
   have hne:k≠t:=fun e=>h t rfl (by rw [e]);simp only [val,putO];cases Nat.blt t n with
   | false=>rfl
   | true=>exact Qbi 12 s t k v hne
  | _=>rfl
theorem dstOf_eq{j:Nat} : (ops.toArray[j]?).bind (·.dst)=dstOf ops j:=by
 unfold dstOf; rw [List.getElem?_toArray]; cases ops[j]?<;>rfl
theorem want_put{d:Option Nat}{v:AV}{o:Oper}(h:∀t,d=some t→t∉o.looksAt ops.toArray):want ops (putO n s d v) o.guard=want ops s o.guard:=by
 cases d with
 | none=>rfl
 | some t =>
  unfold want;cases hg:o.guard with
  | none=>rfl
  | some q =>
   obtain ⟨j,b⟩:=q;simp only;cases hd:dstOf ops j with
   | none=>rfl
   | some k =>
    have hne:k≠t:=fun e=>h t rfl (by
     unfold Oper.looksAt;simp only [hg];rw [dstOf_eq,hd,e]; simp)
    simp only [putO];cases Nat.blt t n with
    | false=>rfl
    | true=>simp only [cond_true,Qbi 12 s t k v hne]
theorem act_put{x:It}{d:Option Nat}{v:AV}(h:∀t,d=some t→t∉x.o.looksAt ops.toArray):actD C call ops base x (putO n s d v) H=actD C call ops base x s H∧ftD C ops base x (putO n s d v) H=ftD C ops base x s H:=by
 have hv:∀y∈x.o.op.operands,val (putO n s d v) y=val s y:=fun y hy=>val_put fun t ht hyt=>h t ht (by
  subst hyt;exact List.mem_append_left _ (List.mem_filterMap.2 ⟨.tmp t,by simpa using hy,rfl⟩))
 have e:=ev_congr (C:=C) (call:=call) (nid:=base+x.nid) (H:=H) hv;unfold actD ftD evOne;rw [want_put h,e.1,e.2];exact ⟨rfl,rfl⟩
theorem putO_comm{d e:Option Nat}{v u:AV}(h:∀t,d=some t→e≠some t):putO n (putO n s d v) e u=putO n (putO n s e u) d v:=by
 cases d with
 | none=>rfl
 | some t=>cases e with
  | none=>rfl
  | some k =>
   have hne:k≠t:=fun he=>h t rfl (by rw [he]);simp only [putO];cases Nat.blt t n<;>cases Nat.blt k n<;>simp only [cond_true,cond_false];exact put_comm 12 s t k v u hne
theorem swapD(hx:∀k,C.ext k=none){x y:It}{st1 st2:Tr×Hp}{fy fx:Fp}(hap:Oper.apart ops.toArray y.o x.o=true)(hy:stepD C call n ops base y (s,H)=some (st1,fy))(hxx:stepD C call n ops base x st1=some (st2,fx))(hok:(okP y.o x.o||okF fy fx)=true)
  (hny:base+y.nid<H.length) (hnx:base+x.nid<H.length):∃st1',stepD C call n ops base x (s,H)=some (st1',fx)∧stepD C call n ops base y st1'=some (st2,fy):=by
 obtain ⟨a1,a2,a3⟩:=Oper.apart_spec hap;rw [stepD_eq] at hy;obtain ⟨⟨v,H1⟩,e1,e2⟩:=Option.map_eq_some_iff.1 hy;simp only [Prod.mk.injEq] at e2; obtain ⟨rfl,rfl⟩:=e2;rw [stepD_eq] at hxx;obtain ⟨⟨u,H2⟩,e3,e4⟩:=Option.map_eq_some_iff.1 hxx;simp only [Prod.mk.injEq] at e4; obtain ⟨rfl,rfl⟩:=e4;have p1:=fun H=>act_put (C:=C) (call:=call) (n:=n) (ops:=ops) (base:=base) (s:=s) (H:=H) (x:=x) (d:=y.o.dst) (v:=v) a1;rw [(p1 _).1] at e3;rw [(p1 _).2] at hok;obtain ⟨H1',b1,b2,b3,b4⟩:∃H1',actD C call ops base x s H=some (u,H1')∧actD C call ops base y s H1'=some (v,H2)∧ftD C ops base x s H=ftD C ops base x s H1∧ftD C ops base y s H1'=ftD C ops base y s H:=by
  rcases Bool.or_eq_true _ _ ▸ hok with hok | hok
  ·exact swapLk e1 e3 hok
  ·exact swapH hx e1 e3 hok hny hnx
 have p2:=fun H=>act_put (C:=C) (call:=call) (n:=n) (ops:=ops) (base:=base) (s:=s) (H:=H) (x:=y) (d:=x.o.dst) (v:=u) a3;refine ⟨(putO n s x.o.dst u,H1'),?_,?_⟩
 ·rw [stepD_eq,b1,Option.map_some,(p1 _).2,b3]
 ·rw [stepD_eq,(p2 _).1,b2,Option.map_some,(p2 _).2,b4];simp only;rw [putO_comm a2]
end
end Go.Proofs.Ytbgjlpdeoljmiaa
namespace Go.Proofs.Ytbgjlpdeoljmiaa
set_option linter.unusedSimpArgs false
set_option linter.unusedVariables false
open Go.RowKit
section
variable {P:Program} {C:Cfg} {w w':World} {X:Nat→Prop} {φ φ':Phi} {a:Act} {D:List Deferred}
variable {H H' H1 H2:Hp} {nid n base:Nat} {call:Bool→Nat→List AV→Hp→Outs (AV×Hp)} {ops:List Oper} {s:Tr}
theorem evDL_anti:∀(L:List It){recs recs':List (It×Fp)}{st st':Tr×Hp},(∀r∈recs',r∈recs)→evDL C call n ops base L recs st=some st'→evDL C call n ops base L recs' st=some st'
 | [],_,_,_,_,_,h=>h
 | x::L,recs,recs',st,st',hs,h=>by
  simp only [evDL] at h ⊢
  split at h
  ·cases h
  ·rename_i st1 fp hx;cases hb:recs.all fun r=>cross r x fp with
   | false=>rw [hb] at h; cases h
   | true =>
    rw [hb] at h;rw [List.all_eq_true] at hb;have hb':(recs'.all fun r=>cross r x fp)=true:=by
     rw [List.all_eq_true]; exact fun r hr=>hb r (hs r hr)
    rw [hb'];exact evDL_anti L (fun r hr=>by
     rcases List.mem_cons.1 hr with rfl | hr
     ·exact List.mem_cons_self
     ·exact List.mem_cons_of_mem _ (hs r hr)) h
theorem disj_symm{a b:List Nat}(h:disj a b=true):disj b a=true:=by
 unfold disj at *;rw [List.all_eq_true];intro x hx;rw [List.all_eq_true];intro y hy;rw [List.all_eq_true] at h;have:=h y hy;rw [List.all_eq_true] at this;have:=this x hx;rcases Qak x y with ⟨h1,e⟩|⟨h1,e⟩
 ·subst e; simp at this
 ·rw [h1]; rfl
theorem okF_symm{f g:Fp}(h:okF f g=true):okF g f=true:=by
 cases f with
 | rd R=>cases g with
  | rd R'=>rfl
  | wr Z W=>exact h
  | sh F m=>exact h
  | all=>cases R<;>first | rfl | cases h
 | wr Z W=>cases g with
  | rd R=>exact h
  | wr Z' W'=>exact disj_symm h
  | sh F m=>exact h
  | all=>cases h
 | sh F m=>cases g with
  | rd R=>exact h
  | wr Z W=>exact h
  | sh _ _=>cases h
  | all=>cases h
 | all=>cases g with
  | rd R=>cases R<;>first | rfl | cases h
  | wr _ _=>cases h
  | sh _ _=>cases h
  | all=>cases h
theorem okP_symm{a b:Oper}(h:okP a b=true):okP b a=true:=by
 unfold okP at h
 split at h
 ·rename_i ga gb
  split at h
  ·rename_i oa ob;unfold okP; simp only [ga,gb,oa,ob]; exact h
  ·rename_i oa ob;unfold okP; simp only [ga,gb,oa,ob]; exact h
  ·cases h
 ·cases h
theorem stepD_len(hx:∀k,C.ext k=none){x:It}{st1:Tr×Hp}{fp:Fp}(h:stepD C call n ops base x (s,H)=some (st1,fp))(hn:base+x.nid<H.length):H.length≤st1.2.length:=by
 rw [stepD_eq] at h;obtain ⟨⟨v,H1⟩,e1,e2⟩:=Option.map_eq_some_iff.1 h;simp only [Prod.mk.injEq] at e2; obtain ⟨rfl,rfl⟩:=e2;cases hf:ftD C ops base x s H with
 | rd R=>rw [(act_rd hf _ _ e1).1]; exact Nat.le_refl _
 | wr Z W=>rw [(act_wr hx hn hf _ _ e1).1]; exact Nat.le_refl _
 | sh F m =>
  obtain ⟨k0,k1,_⟩:=(act_sh hx hf).1 _ _ e1;rw [k0]; exact k1
 | all =>
  unfold ftD at hf;unfold actD at e1;cases hw:want ops s x.o.guard with
  | none=>rw [hw] at e1; cases e1
  | some b=>cases b with
   | false=>rw [hw] at hf; cases hf
   | true =>
    rw [hw] at hf e1;simp only at hf e1
    split at e1
    ·rename_i r hr;rw [hf] at e1;simp only [okLen] at e1;cases hb:Nat.ble H.length r.2.length with
     | false=>rw [hb] at e1; cases e1
     | true=>rw [hb] at e1; simp only [cond_true,Option.some.injEq] at e1; subst e1; simpa using hb
    ·cases e1
theorem bubble(hx:∀k,C.ext k=none){x:It}{L2:List It} : ∀(L1:List It){recs:List (It×Fp)}{s:Tr}{H:Hp}{st':Tr×Hp},evDL C call n ops base (L1++x::L2) recs (s,H)=some st' →
  (∀y∈L1,bit x.anc y.i=false∧Oper.apart ops.toArray y.o x.o=true)→(∀y∈L1,base+y.nid<H.length)→base+x.nid<H.length →
  ∃st1 fp,stepD C call n ops base x (s,H)=some (st1,fp)∧(∀r∈recs,cross r x fp=true)∧evDL C call n ops base (L1++L2) ((x,fp)::recs) st1=some st'
 | [],recs,s,H,st',h,_,_,_=>by
  simp only [List.nil_append,evDL] at h ⊢
  split at h
  ·cases h
  ·rename_i st1 fp hs;cases hb:recs.all fun r=>cross r x fp with
   | false=>rw [hb] at h; cases h
   | true=>rw [hb] at h; exact ⟨st1,fp,hs,List.all_eq_true.1 hb,h⟩
 | y::L1,recs,s,H,st',h,hL,hn,hnx=>by
  simp only [List.cons_append,evDL] at h ⊢
  split at h
  ·cases h
  ·rename_i st1 fy hs;cases hb:recs.all fun r=>cross r y fy with
   | false=>rw [hb] at h; cases h
   | true =>
    rw [hb] at h;simp only [cond_true] at h;have hlen:=stepD_len hx hs (hn y (by simp));obtain ⟨stx,fx,k1,k2,k3⟩:=bubble hx L1 (s:=st1.1) (H:=st1.2) h (fun z hz=>hL z (List.mem_cons_of_mem _ hz)) (fun z hz=>Nat.lt_of_lt_of_le (hn z (List.mem_cons_of_mem _ hz)) hlen) (Nat.lt_of_lt_of_le hnx hlen);have hok:(okP y.o x.o||okF fy fx)=true:=by
     have:=k2 (y,fy) (by simp);unfold cross at this;rw [(hL y (by simp)).1] at this; simpa using this
    obtain ⟨st1',m1,m2⟩:=swapD hx (hL y (by simp)).2 hs k1 hok (hn y (by simp)) hnx;refine ⟨st1',fx,m1,fun r hr=>k2 r (List.mem_cons_of_mem _ hr),?_⟩;rw [m2];have:(((x,fx)::recs).all fun r=>cross r y fy)=true:=by
     have hs:(okP x.o y.o||okF fx fy)=true:=by
      rcases Bool.or_eq_true _ _ ▸ hok with h | h
      ·rw [okP_symm h]; rfl
      ·rw [okF_symm h]; simp
     rw [List.all_cons,hb]; unfold cross; rw [hs]; simp
    simp only [this,cond_true];exact evDL_anti _ (fun r hr=>by
     rcases List.mem_cons.1 hr with rfl | hr
     ·exact List.mem_cons_of_mem _ List.mem_cons_self
     ·rcases List.mem_cons.1 hr with rfl | hr
      ·exact List.mem_cons_self
      ·exact List.mem_cons_of_mem _ (List.mem_cons_of_mem _ hr)) k3

theorem bit_sub{a b:Nat}(h:Nat.beq (Nat.land a b) a=true){j:Nat}(hj:bit a j=true):bit b j=true:=by
 have e:Nat.land a b=a:=Nat.eq_of_beq_eq_true h;rw [bit_eq] at *;have:Nat.testBit (a &&& b) j=Nat.testBit a j:=congrArg (Nat.testBit · j) e;rw [Nat.testBit_and,hj] at this;simpa using this
theorem binds_eq(e:Edge):Region.binds .any e=bindsAny e:=by
 unfold Region.binds bindsAny; cases e.ground<;>rfl
theorem needL_bit(j:Nat):∀l:List Edge,bit (needL l) j=true↔∃e∈l,bindsAny e=true∧e.on=j
 | []=>by simp [needL,bit_eq]
 | e::r=>by
  have ih:=needL_bit j r;simp only [needL];cases hb:bindsAny e with
  | false =>
   simp only [cond_false,ih]
   constructor
   ·rintro ⟨x,hx,h⟩; exact ⟨x,List.mem_cons_of_mem _ hx,h⟩
   ·rintro ⟨x,hx,h1,h2⟩
    rcases List.mem_cons.1 hx with rfl | hx
    ·rw [hb] at h1; cases h1
    ·exact ⟨x,hx,h1,h2⟩
  | true =>
   simp only [cond_true,bit_orBit,Bool.or_eq_true,ih,decide_eq_true_eq]
   constructor
   ·rintro (⟨x,hx,h⟩ | h)
    ·exact ⟨x,List.mem_cons_of_mem _ hx,h⟩
    ·exact ⟨e,by simp,hb,h⟩
   ·rintro ⟨x,hx,h1,h2⟩
    rcases List.mem_cons.1 hx with rfl | hx
    ·exact .inr h2
    ·exact .inl ⟨x,hx,h1,h2⟩
def Gr2(base:Nat)(φ:Phi)(H:Hp)(φ':Phi)(H':Hp):Prop:=H.length≤H'.length∧∀k,k<base→φ k = .fresh→φ' k = .fresh
theorem Gr2.refl(base:Nat)(φ:Phi)(H:Hp):Gr2 base φ H φ H:=⟨Nat.le_refl _,fun _ _ h=>h⟩
theorem Gr2.trans{φ'':Phi}{H'':Hp}(h:Gr2 base φ H φ' H')(k:Gr2 base φ' H' φ'' H''):Gr2 base φ H φ'' H'':=⟨Nat.le_trans h.1 k.1,fun i hi e=>k.2 i hi (h.2 i hi e)⟩
def Rel(ops:List Oper)(y x:It):Prop:=(bit x.anc y.i=true∨Oper.apart ops.toArray y.o x.o=true)∧y.i≠x.i∧(Qcz y.o.op=true→y.nid<x.nid)
structure Inv (ops:List Oper) (L0:List It) (listed:Array Bool) (L:List It):Prop where
 unl:∀j,(∃z∈L,z.i=j)↔listed.getD j true=false
 siz:listed.size=ops.length
 sub:∀z∈L,z∈L0
 op:∀z∈L0,ops[z.i]?=some z.o∧z.need=needL z.o.after.toList
 pw:L.Pairwise (Rel ops)
 head:∀L1 x L2,L=L1++x::L2→∀j,bit x.need j=true→listed.getD j false=true∨∃y∈L1,y.i=j
 anc:∀x∈L0,∀j,bit x.anc j=true→bit x.need j=true∨∃y∈L0,bit x.need y.i=true∧bit y.anc j=true
 uniq:∀x∈L0,∀y∈L0,x.i=y.i→x=y
 closed:∀y∈L0,listed.getD y.i false=true→∀j,bit y.anc j=true→listed.getD j false=true
theorem getD_tf{listed:Array Bool}{j:Nat}(h:listed.getD j false=true):listed.getD j true=true:=by
 simp only [Array.getD_eq_getD_getElem?] at *;cases hg:listed[j]? with
 | none=>rfl
 | some b=>rw [hg] at h; exact h
theorem Inv.ancs{L0 L:List It}{listed:Array Bool}{x:It}(h:Inv ops L0 listed L)(hx:x∈L0)(hr:∀j,bit x.need j=true→listed.getD j false=true)(j:Nat)(hj:bit x.anc j=true):listed.getD j false=true:=by
 rcases h.anc x hx j hj with h1 | ⟨y,hy,h1,h2⟩
 ·exact hr j h1
 ·exact h.closed y hy (hr y.i h1) j h2
theorem Inv.next{L0:List It}{listed:Array Bool}{L1 L2:List It}{x:It}(h:Inv ops L0 listed (L1++x::L2))(hr:∀j,bit x.need j=true→listed.getD j false=true):Inv ops L0 (listed.setIfInBounds x.i true) (L1++L2):=by
 have hpw:=h.pw;rw [List.pairwise_append,List.pairwise_cons] at hpw;obtain ⟨p1,⟨p2,p3⟩,p4⟩:=hpw;have hlt:x.i<listed.size:=by
  rw [h.siz];have:=(h.op x (h.sub x (by simp))).1;exact (List.getElem?_eq_some_iff.1 this).1
 have self:(listed.setIfInBounds x.i true).getD x.i false=true:=by simp [Array.getD,hlt]
 refine ⟨fun j=>?_,by simp [h.siz],fun z hz=>h.sub z ?_,h.op,?_,fun M1 z M2 hM j hj=>?_,h.anc,h.uniq,fun y hy hyl j hj=>?_⟩
 ·by_cases e:x.i=j
  ·subst e;have:(listed.setIfInBounds x.i true).getD x.i true=true:=by simp [Array.getD,hlt]
   rw [this]
   constructor
   ·rintro ⟨z,hz,he⟩
    rcases List.mem_append.1 hz with hz | hz
    ·exact absurd he (p4 z hz x (by simp)).2.1
    ·exact absurd he.symm (p2 z hz).2.1
   ·intro hc; cases hc
  ·rw [getD_set_ne true e,←h.unl j]
   constructor
   ·rintro ⟨z,hz,he⟩
    exact ⟨z,by rcases List.mem_append.1 hz with hz | hz<;>simp [hz],he⟩
   ·rintro ⟨z,hz,he⟩
    rcases List.mem_append.1 hz with hz | hz
    ·exact ⟨z,by simp [hz],he⟩
    ·rcases List.mem_cons.1 hz with rfl | hz
     ·exact absurd he e
     ·exact ⟨z,by simp [hz],he⟩
 ·rcases List.mem_append.1 hz with hz | hz<;>simp [hz]
 ·rw [List.pairwise_append];exact ⟨p1,p3,fun a ha b hb=>p4 a ha b (List.mem_cons_of_mem _ hb)⟩
 ·rcases List.append_eq_append_iff.1 hM with ⟨K,h1,h2⟩|⟨K,h1,h2⟩
  ·-- M1 = L1 ++ K, L2 = K ++ z :: M2
   have:=h.head (L1++x::K) z M2 (by rw [h2]; simp) j hj;rcases this with h3 | ⟨y,hy,he⟩
   ·exact .inl (getD_set_true h3)
   ·rcases List.mem_append.1 hy with hy | hy
    ·exact .inr ⟨y,by rw [h1]; simp [hy],he⟩
    ·rcases List.mem_cons.1 hy with rfl | hy
     ·left; rw [←he]; exact self
     ·exact .inr ⟨y,by rw [h1]; simp [hy],he⟩
  ·cases K with
   | nil =>
    simp at h2;have:=h.head (L1++[x]) z M2 (by rw [←h2]; simp) j hj;rcases this with h3 | ⟨y,hy,he⟩
    ·exact .inl (getD_set_true h3)
    ·rcases List.mem_append.1 hy with hy | hy
     ·exact .inr ⟨y,by simp at h1; rw [←h1]; exact hy,he⟩
     ·simp at hy; subst hy; left; rw [←he]; exact self
   | cons z' K =>
    simp only [List.cons_append,List.cons.injEq] at h2;obtain ⟨rfl,h2⟩:=h2;have:=h.head M1 z (K++x::L2) (by rw [h1]; simp) j hj;rcases this with h3 | h3
    ·exact .inl (getD_set_true h3)
    ·exact .inr h3
 ·by_cases e:x.i=y.i
  ·-- y has x's place: its ancestors are listed
   have hx0:=h.sub x (by simp);have:=h.uniq x hx0 y hy e;subst this;exact getD_set_true (h.ancs hx0 hr j hj)
  ·rw [getD_set_ne false e] at hyl;exact getD_set_true (h.closed y hy hyl j hj)
theorem ready_iff{L0 L:List It}{listed:Array Bool}(h:Inv ops L0 listed L){i:Nat}(hi:i∈Region.ready .any ops.toArray listed):∃x∈L,x.i=i∧∀j,bit x.need j=true→listed.getD j false=true:=by
 obtain ⟨h0,o,ho,hall⟩:=mem_ready.1 hi;obtain ⟨x,hx,rfl⟩:=(h.unl i).2 h0;refine ⟨x,hx,rfl,fun j hj=>?_⟩;obtain ⟨h1,h2⟩:=h.op x (h.sub x hx);rw [List.getElem?_toArray,h1] at ho;cases ho;rw [h2,needL_bit] at hj;obtain ⟨e,he,hb,rfl⟩:=hj;exact hall e (by simpa using he) (by rw [binds_eq]; exact hb)
theorem ready_of{L0 L:List It}{listed:Array Bool}(h:Inv ops L0 listed L){x:It}(hx:x∈L)(hr:∀j,bit x.need j=true→listed.getD j false=true):x.i∈Region.ready .any ops.toArray listed:=by
 obtain ⟨h1,h2⟩:=h.op x (h.sub x hx);refine mem_ready.2 ⟨(h.unl x.i).1 ⟨x,hx,rfl⟩,x.o,by rw [List.getElem?_toArray]; exact h1,fun e he hb=>hr e.on ?_⟩;rw [h2,needL_bit];exact ⟨e,by simpa using he,by rw [←binds_eq]; exact hb,rfl⟩
theorem builtin_nid{b:Builtin}{ts:List Nat}{args:List AV}(hb:b≠.append)(k:Nat):Qax C nid H b ts args=Qax C k H b ts args:=by
 unfold Qax;cases b<;>first
  | rfl
  | (exact absurd rfl hb)
  | (rcases ts with _ | ⟨t,_ | ⟨u,_ | ⟨v,r⟩⟩⟩<;>rcases args with _ | ⟨x,_ | ⟨y,_ | ⟨z,r'⟩⟩⟩<;>rfl)
theorem nid_free{ρ:Operand→AV}{op:Op}(h:Qcz op=false)(k:Nat):evOp C call nid ρ H op=evOp C call k ρ H op:=by
 unfold evOp
 ·skip
  cases op with
  | call c =>
   obtain ⟨callee,args,ts⟩:=c;cases callee with
   | builtin b =>
    have hb:b≠.append:=fun e=>by subst e; simp [Qcz] at h
    simp only [Ql,builtin_nid hb (nid:=nid) k]
   | _=>rfl
  | makeFunc fn first cs=>cases fn<;>rfl
  | next x b=>cases b<;>rfl
  | makeMap t r=>simp [Qcz] at h
  | range t x=>simp [Qcz] at h
  | _=>first | rfl | (simp [Qcz] at h; done)
theorem any_ok{ro:Option Nat}(hC:Qad P C)(hcall:CallOK P call){L0:List It}{st':Tr×Hp}{Q:Exit→Act→World→Prop} :
  ∀(m:Nat){L:List It}{recs:List (It×Fp)}{s:Tr}{H:Hp}{φ:Phi}{a:Act}{w:World}{listed:Array Bool},L.length=m→Inv ops L0 listed L→evDL C call n ops base L recs (s,H)=some st'→SR D X n s H φ a w →
   (∀z∈L,base+z.nid<H.length)→(∀z∈L,Qcz z.o.op=true→φ (base+z.nid) = .fresh) →
   (∀φ' a' w',SR D X n st'.1 st'.2 φ' a' w'→Ev φ w φ' w'→Gr2 base φ H φ' st'.2→Q .normal a' w')→wpAnyIn (Fr ro) 0 P .any ops.toArray Q m listed a w
 | 0,L,recs,s,H,φ,a,w,listed,hm,hI,h,hS,hn,hf,hQ=>by
  have:L=[]:=List.length_eq_zero_iff.1 hm;subst this;simp only [evDL,Option.some.injEq] at h; subst h;refine ⟨?_,hQ φ a w hS (Ev.refl _ _) (Gr2.refl _ _ _)⟩;rw [List.eq_nil_iff_forall_not_mem];intro i hi;obtain ⟨x,hx,_⟩:=ready_iff hI hi;cases hx
 | m+1,L,recs,s,H,φ,a,w,listed,hm,hI,h,hS,hn,hf,hQ=>by
  refine ⟨fun hr0=>?_,fun i hi=>?_⟩
  ·cases L with
   | nil=>simp at hm
   | cons x L =>
    have:=ready_of hI (x:=x) (by simp) (fun j hj=>by
     rcases hI.head [] x L rfl j hj with h1 | ⟨y,hy,_⟩
     ·exact h1
     ·cases hy)
    rw [hr0] at this; cases this
  ·obtain ⟨x,hx,rfl,hrx⟩:=ready_iff hI hi;obtain ⟨L1,L2,rfl⟩:=List.append_of_mem hx;have hpw:=hI.pw;rw [List.pairwise_append] at hpw;have hx0:=hI.sub x hx;have hL1:∀y∈L1,bit x.anc y.i=false∧Oper.apart ops.toArray y.o x.o=true:=by
    intro y hy;have hb:bit x.anc y.i=false:=by
     cases hb:bit x.anc y.i with
     | false=>rfl
     | true =>
      have h1:=getD_tf (hI.ancs hx0 hrx y.i hb);rw [(hI.unl y.i).1 ⟨y,by simp [hy],rfl⟩] at h1; cases h1
    refine ⟨hb,?_⟩;rcases (hpw.2.2 y hy x (by simp)).1 with h1 | h1
    ·rw [hb] at h1; cases h1
    ·exact h1
   obtain ⟨st1,fp,k1,k2,k3⟩:=bubble hC.noext L1 h hL1 (fun y hy=>hn y (by simp [hy])) (hn x (by simp));have hlen:=stepD_len hC.noext k1 (hn x (by simp));have hI':=hI.next hrx
   have hm':(L1++L2).length=m:=by simp at hm ⊢; omega
   have hmem:∀z∈L1++L2,z∈L1++x::L2:=fun z hz=>by rcases List.mem_append.1 hz with hz | hz<;>simp [hz]
   obtain ⟨hop,_⟩:=hI.op x hx0
   -- what follows
   have cont:∀{s1:Tr} {H1:Hp} {φ':Phi} {a':Act} {w':World},st1=(s1,H1)→SR D X n s1 H1 φ' a' w'→Ev φ w φ' w'→(∀k,k<H.length→(Qcz x.o.op=true→k≠base+x.nid)→φ k = .fresh→φ' k = .fresh)→wpAnyIn (Fr ro) 0 P .any ops.toArray Q m (listed.setIfInBounds x.i true) a' w':=by
    intro s1 H1 φ' a' w' he hS' ev hfr;subst he;refine any_ok hC hcall m hm' hI' k3 hS' (fun z hz=>Nat.lt_of_lt_of_le (hn z (hmem z hz)) hlen) (fun z hz hc=>?_) (fun φ'' a'' w'' r1 r2 r3=>hQ φ'' a'' w'' r1 (ev.trans r2) ?_)
    ·refine hfr _ (hn z (hmem z hz)) (fun hcx=>?_) (hf z (hmem z hz) hc);rcases List.mem_append.1 hz with hz | hz
     ·have:=(hpw.2.2 z hz x (by simp)).2.2 hc; omega
     ·have h2:=hpw.2.1;rw [List.pairwise_cons] at h2;have:=(h2.1 z hz).2.2 hcx; omega
    ·exact Gr2.trans ⟨hlen,fun k hk e=>hfr k (by have:=hn x (by simp); omega) (fun _=>by omega) e⟩ r3
   unfold wpOpIn;rw [List.getElem?_toArray,hop];simp only;rw [stepD_eq] at k1;obtain ⟨⟨v,H1⟩,e1,e2⟩:=Option.map_eq_some_iff.1 k1;simp only [Prod.mk.injEq] at e2; obtain ⟨e2,e3⟩:=e2;unfold actD at e1;cases hw:want ops s x.o.guard with
   | none=>rw [hw] at e1; cases e1
   | some b=>cases b with
    | false =>
     rw [hw] at e1; simp only [Option.some.injEq,Prod.mk.injEq] at e1; obtain ⟨rfl,rfl⟩:=e1;rw [if_neg (by rw [want_ok hS hw]; decide)];exact ⟨fun _ _=>trivial,cont e2.symm (hS.put (Ev.refl _ _) hS.hr vr_undef x.o.dst) (Ev.refl _ _) (fun _ _ _ h=>h)⟩
    | true =>
     rw [hw] at e1; simp only at e1;rw [if_pos (want_ok hS hw)]
     split at e1
     ·rename_i r hr;have hrv:r=(v,H1):=by
       revert e1
       cases okLen H r.2 (foot C (base+x.nid) (val s) H x.o.op)<;>intro e1
       ·cases e1
       ·simpa using e1
      subst hrv;have hev:evOp C call (base+x.nid) (val s) H x.o.op=some [(v,H1)]:=by
       unfold evOne at hr
       split at hr
       ·rename_i r' h'; simp only [Option.some.injEq] at hr; rw [h',hr]
       ·cases hr
      cases hcx:Qcz x.o.op with
      | true =>
       refine op_ok hC hcall hS.hr ⟨hf x (by simp) hcx,Nat.le_of_lt (hn x (by simp))⟩ hS.val hev fun v' w' hnx=>?_;obtain ⟨r,hmr,φ',h1,h2,h3,h4,h5⟩:=hnx;rw [List.mem_singleton] at hmr; subst hmr;exact cont e2.symm (hS.put h3 h2 h1 x.o.dst) h3 (fun k hk hne e=>h5 k (hne hcx) hk e)
      | false =>
       refine op_ok hC hcall hS.hr hS.hr.free hS.val ((nid_free hcx H.length).symm.trans hev) fun v' w' hnx=>?_;obtain ⟨r,hmr,φ',h1,h2,h3,h4,h5⟩:=hnx;rw [List.mem_singleton] at hmr; subst hmr;exact cont e2.symm (hS.put h3 h2 h1 x.o.dst) h3 (fun k hk _ e=>h5 k (by omega) hk e)
     ·cases e1
end
end Go.Proofs.Ytbgjlpdeoljmiaa
namespace Go.Proofs.Ytbgjlpdeoljmiaa
set_option linter.unusedSimpArgs false
set_option linter.unusedVariables false
open Go.RowKit
section
variable {P:Program} {C:Cfg} {w w':World} {X:Nat→Prop} {φ φ':Phi} {a:Act} {D:List Deferred}
variable {H H' H1 H2:Hp} {nid n base:Nat} {call:Bool→Nat→List AV→Hp→Outs (AV×Hp)} {ops:List Oper} {s:Tr}
theorem items_mem:∀(l:List Oper)(k:Nat)(x:It),x∈items k l→k≤x.i∧l[x.i-k]?=some x.o∧x.need=needL x.o.after.toList
 | [],_,_,h=>by cases h
 | o::r,k,x,h=>by
  rcases List.mem_cons.1 h with rfl | h
  ·exact ⟨Nat.le_refl _,by simp,rfl⟩
  ·obtain ⟨h1,h2,h3⟩:=items_mem r (k+1) x h;refine ⟨by omega,?_,h3⟩;rw [show x.i-k=(x.i-(k+1))+1 from by omega]; simpa using h2
theorem items_cov:∀(l:List Oper)(k j:Nat),j<l.length→∃x∈items k l,x.i=k+j
 | [],_,_,h=>by simp at h
 | o::r,k,0,_=>⟨_,List.mem_cons_self,rfl⟩
 | o::r,k,j+1,h=>by
  obtain ⟨x,hx,he⟩:=items_cov r (k+1) j (by simpa using h);exact ⟨x,List.mem_cons_of_mem _ hx,by omega⟩
theorem items_len:∀(l:List Oper)(k:Nat),(items k l).length=l.length
 | [],_=>rfl
 | o::r,k=>by simp [items,items_len r (k+1)]
theorem take_mem{done:Nat} : ∀{l:List It} {x:It} {r:List It},takeReady done l=some (x,r)→(∀z,z∈l↔z=x∨z∈r)∧l.length=r.length+1
 | [],x,r,h=>by cases h
 | y::l,x,r,h=>by
  simp only [takeReady] at h;cases hb:Nat.beq (Nat.land y.need done) y.need with
  | true =>
   rw [hb] at h; simp only [cond_true,Option.some.injEq,Prod.mk.injEq] at h; obtain ⟨rfl,rfl⟩:=h;exact ⟨fun z=>by simp,rfl⟩
  | false =>
   rw [hb] at h; simp only [cond_false] at h
   split at h
   ·rename_i x' r' h';simp only [Option.some.injEq,Prod.mk.injEq] at h; obtain ⟨rfl,rfl⟩:=h;obtain ⟨h1,h2⟩:=take_mem h';refine ⟨fun z=>?_,by simp [h2]⟩;rw [List.mem_cons,h1 z,List.mem_cons]
    constructor
    ·rintro (h | h | h)
     ·exact .inr (.inl h)
     ·exact .inl h
     ·exact .inr (.inr h)
    ·rintro (h | h | h)
     ·exact .inr (.inl h)
     ·exact .inl h
     ·exact .inr (.inr h)
   ·cases h
theorem plan_ok:∀(f done k:Nat)(tbl:List (Nat×Nat))(l L:List It),plan f done k tbl l=some L→L.length=l.length∧(∀z∈L,∃y∈l,y.i=z.i∧y.need=z.need∧y.o=z.o)∧∀y∈l,∃z∈L,z.i=y.i
 | f,done,k,tbl,[],L,h=>by
  cases f<;>(simp only [plan,Option.some.injEq] at h; subst h; exact ⟨rfl,fun z hz=>(by cases hz),fun y hy=>(by cases hy)⟩)
 | 0,done,k,tbl,y::l,L,h=>by simp [plan] at h
 | f+1,done,k,tbl,y::l,L,h=>by
  simp only [plan] at h
  split at h
  ·cases h
  ·rename_i x r hx;obtain ⟨h1,h2⟩:=take_mem hx
   split at h
   ·rename_i L' hL';simp only [Option.some.injEq] at h; subst h;obtain ⟨k1,k2,k3⟩:=plan_ok f _ _ _ r L' hL';refine ⟨by simp only [List.length_cons] at h2 ⊢; omega,fun z hz=>?_,fun z hz=>?_⟩
    ·rcases List.mem_cons.1 hz with rfl | hz
     ·exact ⟨x,(h1 x).2 (.inl rfl),rfl,rfl,rfl⟩
     ·obtain ⟨q,hq,he⟩:=k2 z hz;exact ⟨q,(h1 q).2 (.inr hq),he⟩
    ·rcases (h1 z).1 hz with rfl | hz
     ·exact ⟨_,List.mem_cons_self,rfl⟩
     ·obtain ⟨q,hq,he⟩:=k3 z hz;exact ⟨q,List.mem_cons_of_mem _ hq,he⟩
   ·cases h
theorem ancOf_bit{need j:Nat} : ∀{tbl:List (Nat×Nat)},bit (ancOf need tbl) j=true→bit need j=true∨∃p∈tbl,bit need p.1=true∧bit p.2 j=true
 | [],h=>.inl h
 | (i,c)::r,h=>by
  simp only [ancOf] at h;cases hb:bit need i with
  | false =>
   rw [hb] at h;rcases ancOf_bit (tbl:=r) h with h | ⟨p,hp,h⟩
   ·exact .inl h
   ·exact .inr ⟨p,List.mem_cons_of_mem _ hp,h⟩
  | true =>
   rw [hb] at h;simp only [cond_true,bit_or,Bool.or_eq_true] at h;rcases h with h | h
   ·exact .inr ⟨(i,c),List.mem_cons_self,hb,h⟩
   ·rcases ancOf_bit (tbl:=r) h with h | ⟨p,hp,h⟩
    ·exact .inl h
    ·exact .inr ⟨p,List.mem_cons_of_mem _ hp,h⟩
theorem chk_ok{m:Nat} : ∀(L:List It)(tbl:List (Nat×Nat))(prev:List It)(done k:Nat),chkL ops.toArray m tbl prev done k L=true→tbl=prev.map (fun y=>(y.i,y.anc))→(∀j,bit done j=true↔∃y∈prev,y.i=j)→(∀y∈prev,Qcz y.o.op=true→y.nid<k) →
  k≤m∧(∀x∈L,x.nid≤m)∧L.Pairwise (Rel ops)∧(∀y∈prev,∀x∈L,k≤x.nid∧Rel ops y x)∧(∀x∈L,k≤x.nid)∧(∀L1 x L2,L=L1++x::L2→∀j,bit x.need j=true→(∃y∈prev,y.i=j)∨∃y∈L1,y.i=j) ∧
  ∀x∈L,∀j,bit x.anc j=true→bit x.need j=true∨∃y,(y∈prev∨y∈L)∧bit x.need y.i=true∧bit y.anc j=true
 | [],tbl,prev,done,k,h,_,_,_=>by
  simp only [chkL] at h;exact ⟨by simpa using h,fun x hx=>(by cases hx),List.Pairwise.nil,fun y _ x hx=>(by cases hx),fun x hx=>(by cases hx),fun L1 x L2 hL=>(by simp at hL),fun x hx=>(by cases hx)⟩
 | x::L,tbl,prev,done,k,h,ht,hd,hk=>by
  simp only [chkL,Bool.and_eq_true] at h;obtain ⟨⟨⟨⟨⟨h1,h2⟩,h3⟩,h4⟩,h5⟩,h6⟩:=h;have h1:=Nat.eq_of_beq_eq_true h1;have h4:=Nat.eq_of_beq_eq_true h4;rw [List.all_eq_true] at h5;have hdx:¬∃y∈prev,y.i=x.i:=fun hc=>by
   rw [(hd x.i).2 hc] at h3; cases h3
  have hkk:k≤(bif Qcz x.o.op then k+1 else k):=by cases Qcz x.o.op<;>simp
  obtain ⟨g1,g2,g3,g4,g5,g6,g7⟩:=chk_ok L ((x.i,x.anc)::tbl) (x::prev) (orBit done x.i) _ h6 (by rw [ht]; rfl) (fun j=>by
   rw [bit_orBit,Bool.or_eq_true,hd j,decide_eq_true_eq]
   constructor
   ·rintro (⟨y,hy,he⟩ | he)
    ·exact ⟨y,List.mem_cons_of_mem _ hy,he⟩
    ·exact ⟨x,List.mem_cons_self,he⟩
   ·rintro ⟨y,hy,he⟩
    rcases List.mem_cons.1 hy with rfl | hy
    ·exact .inr he
    ·exact .inl ⟨y,hy,he⟩) (fun y hy hc=>by
   rcases List.mem_cons.1 hy with rfl | hy
   ·rw [hc,h4]; simp
   ·exact Nat.lt_of_lt_of_le (hk y hy hc) hkk)
  refine ⟨Nat.le_trans hkk g1,fun z hz=>?_,?_,fun y hy z hz=>?_,fun z hz=>?_,fun L1 z L2 hL j hj=>?_,fun z hz j hj=>?_⟩
  ·rcases List.mem_cons.1 hz with rfl | hz
   ·rw [h4]; exact Nat.le_trans hkk g1
   ·exact g2 z hz
  ·rw [List.pairwise_cons];exact ⟨fun z hz=>(g4 x List.mem_cons_self z hz).2,g3⟩
  ·rcases List.mem_cons.1 hz with rfl | hz
   ·refine ⟨by omega,?_,fun e=>hdx ⟨y,hy,e⟩,fun hc=>by rw [h4]; exact hk y hy hc⟩;have:=h5 y hy
    rwa [Bool.or_eq_true] at this
   ·have:=g4 y (List.mem_cons_of_mem _ hy) z hz;exact ⟨Nat.le_trans hkk this.1,this.2⟩
  ·rcases List.mem_cons.1 hz with rfl | hz
   ·omega
   ·exact Nat.le_trans hkk (g5 z hz)
  ·cases L1 with
   | nil =>
    simp only [List.nil_append,List.cons.injEq] at hL;obtain ⟨rfl,rfl⟩:=hL;exact .inl ((hd j).1 (bit_sub h2 hj))
   | cons y L1 =>
    simp only [List.cons_append,List.cons.injEq] at hL;obtain ⟨rfl,rfl⟩:=hL;rcases g6 L1 z L2 rfl j hj with ⟨q,hq,he⟩|⟨q,hq,he⟩
    ·rcases List.mem_cons.1 hq with rfl | hq
     ·exact .inr ⟨_,List.mem_cons_self,he⟩
     ·exact .inl ⟨q,hq,he⟩
    ·exact .inr ⟨q,List.mem_cons_of_mem _ hq,he⟩
  ·rcases List.mem_cons.1 hz with rfl | hz
   ·rw [h1] at hj;rcases ancOf_bit hj with hj | ⟨p,hp,hb1,hb2⟩
    ·exact .inl hj
    ·rw [ht] at hp;obtain ⟨y,hy,rfl⟩:=List.mem_map.1 hp;exact .inr ⟨y,.inl hy,hb1,hb2⟩
   ·rcases g7 z hz j hj with h | ⟨y,hy,hb⟩
    ·exact .inl h
    ·refine .inr ⟨y,?_,hb⟩;rcases hy with hy | hy
     ·rcases List.mem_cons.1 hy with rfl | hy
      ·exact .inr List.mem_cons_self
      ·exact .inl hy
     ·exact .inr (List.mem_cons_of_mem _ hy)
theorem pw_uniq:∀{L:List It},L.Pairwise (Rel ops)→∀x∈L,∀y∈L,x.i=y.i→x=y
 | [],_,x,hx,_,_,_=>by cases hx
 | z::L,h,x,hx,y,hy,e=>by
  rw [List.pairwise_cons] at h;rcases List.mem_cons.1 hx with e1 | hx'
  ·rcases List.mem_cons.1 hy with e2 | hy'
   ·rw [e1,e2]
   ·rw [e1] at e; exact absurd e (h.1 y hy').2.1
  ·rcases List.mem_cons.1 hy with e2 | hy'
   ·rw [e2] at e; exact absurd e.symm (h.1 x hx').2.1
   ·exact pw_uniq h.2 x hx' y hy' e
theorem hget_pad{k o:Nat} : hget (H++List.replicate k none) o=hget H o:=by
 unfold hget
 by_cases h:o<H.length
 ·rw [List.getElem?_append_left h]
 ·rw [List.getElem?_append_right (by omega),List.getElem?_eq_none (l:=H) (by omega),List.getElem?_replicate]
  by_cases h2:o-H.length<k
  ·rw [if_pos h2]
  ·rw [if_neg h2]
theorem HR.pad(h:HR X φ H w)(k:Nat):HR X φ (H++List.replicate k none) w :=
 h.next (Ev.refl φ w) (fun o ho=>h.fresh o (by simp at ho; omega)) (fun o z l ho=>by rw [hget_pad]; exact h.live o z l ho) (fun o x hx=>.inl ⟨by rw [hget_pad] at hx; exact hx,rfl,fun _ _ _ _ _=>rfl⟩) (fun o l b p ho _=>.inl ho)
theorem draw_ok(hC:Qad P C){call:Bool→Nat→List AV→Hp→Outs (AV×Hp)}(hcall:CallOK P call):DrawOK P C call:=by
 intro ro D X n ops s H s' H' φ a w id hplan hev hS;unfold evDrawn at hev;simp only at hev;unfold planOK at hplan
 split at hev
 ·cases hev
 ·rename_i L hL;rw [hL] at hplan;simp only at hplan;obtain ⟨p1,p2,p3⟩:=plan_ok _ _ _ _ _ _ hL;obtain ⟨c1,c2,c3,_,_,c6,c7⟩:=chk_ok L [] [] 0 0 hplan rfl (fun j=>by simp [bit_eq]) (fun y hy=>by cases hy);refine wpIn_region_any hC.mixed ?_;have hsz:ops.toArray.size=ops.length:=by simp
  have hI:Inv ops L (Array.replicate ops.toArray.size false) L:=by
   refine ⟨fun j=>?_,by simp,fun z hz=>hz,fun z hz=>?_,c3,fun L1 x L2 he j hj=>?_,fun x hx j hj=>?_,pw_uniq c3,fun y _ hl=>?_⟩
   ·have:((Array.replicate ops.toArray.size false).getD j true=false)↔j<ops.length:=by
     rw [Array.getD_eq_getD_getElem?,Array.getElem?_replicate,hsz]
     split<;>simp_all
    rw [this]
    constructor
    ·rintro ⟨z,hz,rfl⟩
     obtain ⟨y,hy,he,_⟩:=p2 z hz;obtain ⟨_,h2,_⟩:=items_mem _ _ _ hy;have:=(List.getElem?_eq_some_iff.1 h2).1;omega
    ·intro hj;obtain ⟨y,hy,he⟩:=items_cov ops 0 j hj;obtain ⟨z,hz,he2⟩:=p3 y hy;exact ⟨z,hz,by omega⟩
   ·obtain ⟨y,hy,he,hn,ho⟩:=p2 z hz;obtain ⟨_,h2,h3⟩:=items_mem _ _ _ hy;refine ⟨?_,by rw [←hn,←ho]; exact h3⟩;rw [←he,←ho]; simpa using h2
   ·rcases c6 L1 x L2 he j hj with ⟨y,hy,_⟩ | h
    ·cases hy
    ·exact .inr h
   ·rcases c7 x hx j hj with h | ⟨y,hy,h⟩
    ·exact .inl h
    ·rcases hy with hy | hy
     ·cases hy
     ·exact .inr ⟨y,hy,h⟩
   ·have:(Array.replicate ops.toArray.size false).getD y.i false=false:=by
     rw [Array.getD_eq_getD_getElem?,Array.getElem?_replicate]; split<;>rfl
    rw [this] at hl; cases hl
  have hS':SR D X n s (H++List.replicate (countNew ops+1) none) φ a w.drew:=⟨hS.defers,hS.size,fun t=>VR.stay Ev.drew X _ _ (hS.slots t),hS.hr.drew.pad _⟩;have hlen:ops.toArray.size=L.length:=by rw [p1,items_len,hsz]
  refine any_ok (base:=H.length) hC hcall (st':=(s',H')) ops.toArray.size hlen.symm hI hev hS' (fun z hz=>?_) (fun z hz _=>hS.hr.fresh _ (by omega)) (fun φ' a' w' h1 h2 h3=>?_)
  ·have:=c2 z hz; simp; omega
  ·refine ⟨_,List.mem_singleton.2 rfl,rfl,φ',h1,Ev.drew.trans h2,?_,h3.2⟩;have:=h3.1; simp at this; show H.length≤H'.length; omega
end
end Go.Proofs.Ytbgjlpdeoljmiaa
namespace Go.Proofs.Ytbgjlpdeoljmiaa
set_option linter.unusedSimpArgs false
set_option linter.unusedVariables false
open Go.RowKit
def tyF:List (Nat×TI)→Nat→Option TI
 | [],_=>none
 | (k,i)::r,t=>bif Nat.beq k t then some i else tyF r t
theorem tyF_mem:∀{l:List (Nat×TI)} {t:Nat} {ti:TI},tyF l t=some ti→(t,ti)∈l
 | [],_,_,h=>by cases h
 | (k,i)::r,t,ti,h=>by
  simp only [tyF] at h;rcases Qak k t with ⟨hb,e⟩|⟨hb,e⟩
  ·rw [hb] at h; simp only [cond_true,Option.some.injEq] at h; subst h; subst e; exact List.mem_cons_self
  ·rw [hb] at h; exact List.mem_cons_of_mem _ (tyF_mem h)
def fnChk(P:Program) : Bool := P.funcs.toList.all fun f => !(f.name == "runtime.NumGoroutine") && (match f.body with | some c => codeOK c | none => true)
theorem cfgOK_of{P:Program}{l:List (Nat×TI)}{byref:Nat→Bool}{keep:Nat→Nat→Option (List Nat)}{deep:Nat→Bool}(h1:l.all (fun q=>Qcn P q.1 q.2)=true)(h2:fnChk P=true)(h3:P.follows .mixedOrders=true):Qad P ⟨tyF l,fun k=>P.funcs[k]?,byref,fun _=>none,keep,deep⟩ where
 ty t ti h:=List.all_eq_true.1 h1 (t,ti) (tyF_mem h)
 fn k f h:=h
 name k f h:=by
  have:=List.all_eq_true.1 h2 f (by simpa using Array.mem_of_getElem? h);rw [Bool.and_eq_true] at this;simpa using this.1
 code k f c h hb:=by
  have:=List.all_eq_true.1 h2 f (by simpa using Array.mem_of_getElem? h);rw [Bool.and_eq_true,hb] at this;exact this.2
 mixed:=h3
 noext _:=rfl
end Go.Proofs.Ytbgjlpdeoljmiaa
namespace Go.Proofs.Ytbgjlpdeoljmiaa
set_option linter.unusedSimpArgs false
set_option linter.unusedVariables false
open Go.RowKit
def AllP:List Prop→Prop
 | []=>True
 | p::l=>p∧AllP l
theorem Qy:∀{a b:List Prop},AllP (a++b)↔AllP a∧AllP b
 | [],b=>by simp [AllP]
 | p::a,b=>by simp only [List.cons_append,AllP,Qy (a:=a),and_assoc]

structure EvB (base:Nat) (φ:Phi) (w:World) (φ':Phi) (w':World):Prop where
 os:w'.os=w.os
 tape:w'.tape=w.tape
 output:w'.output=w.output∧w.drawn≤w'.drawn
 size:w.heap.size≤w'.heap.size
 heap:∀b,b<w.heap.size→¬blkOf φ b→w'.heap[b]?=w.heap[b]?
 blk:∀b,b<w.heap.size→blkOf φ' b→blkOf φ b
 ids:∀o,o<base→φ o≠.fresh→φ' o=φ o∨φ' o = .dead∨∃l,φ o = .at false l∧φ' o = .at true l
 fr:∀o,o<base→φ o = .fresh→φ' o = .fresh
section
variable {P:Program} {C:Cfg} {w w' w'':World} {Y Y' X:Nat→Prop} {φ φ' φ'':Phi} {H H' H'':Hp}
variable {nid n base:Nat} {s s':Tr} {a:Act} {D:List Deferred} {st:Tr×Hp}
theorem EvB.refl(base:Nat)(φ:Phi)(w:World):EvB base φ w φ w:=⟨rfl,rfl,⟨rfl,Nat.le_refl _⟩,Nat.le_refl _,fun _ _ _=>rfl,fun _ _ h=>h,fun _ _ _=>.inl rfl,fun _ _ h=>h⟩
theorem EvB.trans(h:EvB base φ w φ' w')(k:EvB base φ' w' φ'' w''):EvB base φ w φ'' w'' where
 os:=k.os.trans h.os
 tape:=k.tape.trans h.tape
 output:=⟨k.output.1.trans h.output.1,Nat.le_trans h.output.2 k.output.2⟩
 size:=Nat.le_trans h.size k.size
 heap b hb hn:=(k.heap b (Nat.lt_of_lt_of_le hb h.size) (fun hc=>hn (h.blk b hb hc))).trans (h.heap b hb hn)
 blk b hb hc:=h.blk b hb (k.blk b (Nat.lt_of_lt_of_le hb h.size) hc)
 ids o ho hf:=by
  rcases h.ids o ho hf with h1 | h1 | ⟨l,h0,h1⟩
  ·rcases k.ids o ho (by rw [h1]; exact hf) with h2 | h2 | ⟨l,h2,h3⟩
   ·exact .inl (h2.trans h1)
   ·exact .inr (.inl h2)
   ·exact .inr (.inr ⟨l,h1.symm.trans h2,h3⟩)
  ·rcases k.ids o ho (by rw [h1]; intro h; cases h) with h2 | h2 | ⟨l,h2,_⟩
   ·exact .inr (.inl (h2.trans h1))
   ·exact .inr (.inl h2)
   ·rw [h1] at h2; cases h2
  ·rcases k.ids o ho (by rw [h1]; intro h; cases h) with h2 | h2 | ⟨l',h2,_⟩
   ·exact .inr (.inr ⟨l,h0,h2.trans h1⟩)
   ·exact .inr (.inl h2)
   ·rw [h1] at h2; cases h2
 fr o ho hf:=k.fr o ho (h.fr o ho hf)
theorem Ev.b(h:Ev φ w φ' w')(hf:∀o,o<base→φ o = .fresh→φ' o = .fresh):EvB base φ w φ' w':=⟨h.os,h.tape,h.output,h.size,h.heap,h.blk,fun o _=>h.ids o,hf⟩
def rfree:Code→Bool
 | .rangeFunc ..=>false
 | .seq a b=>rfree a&&rfree b
 | .cond _ a b=>rfree a&&rfree b
 | .block _ a=>rfree a
 | .loop a=>rfree a
 | _=>true
def MkOK(B:Nat)(ms:List Deferred)(φ:Phi)(w:World):Prop:=ms.Pairwise (fun a b=>a≠b)∧∀m∈ms,∃d,m = { target:=.collected d,args:=#[] }∧B≤d∧w.heap[d]?=some (.deferred (some []))∧¬blkOf φ d
def SRM(b:Bool)(B:Nat)(D:List Deferred)(X:Nat→Prop)(n:Nat)(s:Tr)(H:Hp)(φ:Phi)(a:Act)(w:World):Prop :=
 ∃ms,SR (ms++D) X n s H φ a w∧MkOK B ms φ w∧(b=true→ms=[])
theorem SRM.of{b:Bool}{B:Nat}(h:SR D X n s H φ a w):SRM b B D X n s H φ a w:=⟨[],h,⟨List.Pairwise.nil,fun m hm=>by cases hm⟩,fun _=>rfl⟩
theorem SRM.sr{B:Nat}(h:SRM true B D X n s H φ a w):SR D X n s H φ a w:=by
 obtain ⟨ms,h1,_,h3⟩:=h;rw [h3 rfl] at h1; exact h1
theorem SRM.weak{b c:Bool}{B:Nat}(hc:c=true→b=true)(h:SRM b B D X n s H φ a w):SRM c B D X n s H φ a w:=by
 obtain ⟨ms,h1,h2,h3⟩:=h;exact ⟨ms,h1,h2,fun e=>h3 (hc e)⟩
theorem MkOK.step{B:Nat}{ms:List Deferred}(h:MkOK B ms φ w)(ev:EvB base φ w φ' w'):MkOK B ms φ' w':=⟨h.1,fun m hm=>by
 obtain ⟨d,e,hB,hg,hb⟩:=h.2 m hm;have hd:d<w.heap.size:=by
  rcases Nat.lt_or_ge d w.heap.size with hlt | hge
  ·exact hlt
  ·rw [Array.getElem?_eq_none hge] at hg; cases hg
 exact ⟨d,e,hB,by rw [ev.heap d hd hb]; exact hg,fun hc=>hb (ev.blk d hd hc)⟩⟩
theorem MkOK.from{B B':Nat}{ms:List Deferred}(hB:B≤B')(h:MkOK B' ms φ w):MkOK B ms φ w:=⟨h.1,fun m hm=>by
 obtain ⟨d,e1,e2,e3⟩:=h.2 m hm;exact ⟨d,e1,Nat.le_trans hB e2,e3⟩⟩
def PostB(b:Bool)(D:List Deferred)(X:Nat→Prop)(n base:Nat)(φ:Phi)(w:World)(Q:Ex×Tr×Hp→Prop)(e:Exit)(a':Act)(w':World):Prop :=
 ∃r,Q r∧exOf r.1=e∧∃φ',SRM b w.heap.size D X n r.2.1 r.2.2 φ' a' w'∧EvB base φ w φ' w'∧base≤r.2.2.length
theorem PostB.from{b:Bool}{Q:Ex×Tr×Hp→Prop}{e:Exit}{a':Act}{w2:World}(ev:EvB base φ w φ' w')(h:PostB b D X n base φ' w' Q e a' w2):PostB b D X n base φ w Q e a' w2:=by
 obtain ⟨r,hq,he,φ'',⟨ms,h1,h4,h5⟩,h2,h3⟩:=h;exact ⟨r,hq,he,φ'',⟨ms,h1,h4.from ev.size,h5⟩,ev.trans h2,h3⟩
theorem PostB.fromM{b c:Bool}{ms:List Deferred}{Q:Ex×Tr×Hp→Prop}{e:Exit}{a':Act}{w2:World}(ev:EvB base φ w φ' w')(hm:MkOK w.heap.size ms φ' w')(hc:c=true→b=true∧ms=[])(h:PostB b (ms++D) X n base φ' w' Q e a' w2):PostB c D X n base φ w Q e a' w2:=by
 obtain ⟨r,hq,he,φ'',⟨ms2,h1,h4,h5⟩,h2,h3⟩:=h;refine ⟨r,hq,he,φ'',⟨ms2++ms,by rw [List.append_assoc]; exact h1,⟨List.pairwise_append.2 ⟨h4.1,hm.1,fun a ha b hb e=>?_⟩,fun m hmm=>?_⟩,fun e=>by rw [h5 (hc e).1,(hc e).2]; rfl⟩,ev.trans h2,h3⟩
 ·obtain ⟨d,e1,e2,_⟩:=h4.2 a ha;obtain ⟨d',f1,_,f3,_⟩:=hm.2 b hb;rw [e1,f1] at e
  injection e with e _
  injection e with e
  subst e;rw [Array.getElem?_eq_none e2] at f3; cases f3
 ·rcases List.mem_append.1 hmm with hmm | hmm
  ·exact (h4.from ev.size).2 m hmm
  ·exact (hm.step h2).2 m hmm
theorem PostB.weak{b c:Bool}(hc:c=true→b=true){Q:Ex×Tr×Hp→Prop}{e:Exit}{a':Act}(h:PostB b D X n base φ w Q e a' w'):PostB c D X n base φ w Q e a' w':=by
 obtain ⟨r,hq,he,φ'',h1,h2,h3⟩:=h;exact ⟨r,hq,he,φ'',h1.weak hc,h2,h3⟩
theorem PostB.mono{b:Bool}{Q Q':Ex×Tr×Hp→Prop}{e:Exit}{a':Act}(hq:∀r,Q r→Q' r)(h:PostB b D X n base φ w Q e a' w'):PostB b D X n base φ w Q' e a' w':=by
 obtain ⟨r,h0,h1⟩:=h;exact ⟨r,hq r h0,h1⟩
def T(P:Program)(n base:Nat)(c:Code)(st:Tr×Hp)(Q:Ex×Tr×Hp→Prop):Prop :=
 codeOK c=true→∀{ro:Option Nat},(ro=none∨rfree c=true)→∀{D:List Deferred} X φ a w,SR D X n st.1 st.2 φ a w→base≤st.2.length→c.wpIn (Fr ro) 0 P (PostB (rfree c) D X n base φ w Q) a w
def TL(P:Program)(n base f:Nat)(c:Code)(st:Tr×Hp)(Q:Ex×Tr×Hp→Prop):Prop :=
 codeOK c=true→∀{ro:Option Nat},(ro=none∨rfree c=true)→∀{D:List Deferred} X φ a w,SR D X n st.1 st.2 φ a w→base≤st.2.length→Code.roundsIn (Fr ro) 0 P c (PostB (rfree c) D X n base φ w Q) f a w
theorem T.mono{c:Code}{Q Q':Ex×Tr×Hp→Prop}(h:T P n base c st Q)(hq:∀r,Q r→Q' r):T P n base c st Q':=fun hc ro hr D X φ a w hS hb=>Code.wpIn_mono (fun _ _ _ h=>h.mono hq) (h hc hr X φ a w hS hb)
theorem wp_from{ro:Option Nat}{b:Bool}{c:Code}{Q:Ex×Tr×Hp→Prop}(ev:EvB base φ w φ' w')(h:c.wpIn (Fr ro) 0 P (PostB b D X n base φ' w' Q) a w'):c.wpIn (Fr ro) 0 P (PostB b D X n base φ w Q) a w':=Code.wpIn_mono (fun _ _ _ h=>h.from ev) h
theorem T.skip{Q:Ex×Tr×Hp→Prop}(h:Q (.norm,st)):T P n base .skip st Q:=fun _ ro _ D X φ a w hS hb=>wpIn_skip ⟨_,h,rfl,φ,.of hS,EvB.refl _ _ _,hb⟩
theorem T.exit{i:Nat}{Q:Ex×Tr×Hp→Prop}(h:Q (.exit i,st)):T P n base (.exit i) st Q:=fun _ ro _ D X φ a w hS hb=>wpIn_exit ⟨_,h,rfl,φ,.of hS,EvB.refl _ _ _,hb⟩
theorem T.ret{Q:Ex×Tr×Hp→Prop}(h:Q (.ret,st)):T P n base .ret st Q:=fun _ ro _ D X φ a w hS hb=>wpIn_ret ⟨_,h,rfl,φ,.of hS,EvB.refl _ _ _,hb⟩
theorem T.seq{x y:Code}{Q1 Q:Ex×Tr×Hp→Prop}(h1:T P n base x st Q1)(h2:∀r,Q1 r→match r.1 with | .norm=>T P n base y r.2 Q | _=>Q r):T P n base (.seq x y) st Q:=by
 intro hc ro hro D X φ a w hS hb;simp only [codeOK,Bool.and_eq_true] at hc;simp only [rfree,Bool.and_eq_true] at hro ⊢;refine wpIn_seq (Code.wpIn_mono ?_ (h1 hc.1 (hro.imp id fun h=>h.1) X φ a w hS hb))
 rintro e a' w' ⟨⟨ex,st'⟩,hq,he,φ',k1,k2,k3⟩
 have hw:(rfree x&&rfree y)=true→rfree x=true:=fun h=>by rw [Bool.and_eq_true] at h; exact h.1
 have:=h2 _ hq;cases ex with
 | norm =>
  simp only [exOf] at he; subst he;obtain ⟨ms,m1,m2,m3⟩:=k1;exact Code.wpIn_mono (fun _ _ _ h=>h.fromM k2 m2 fun e=>by rw [Bool.and_eq_true] at e; exact ⟨e.2,m3 e.1⟩) (this hc.2 (hro.imp id fun h=>h.2) X φ' a' w' m1 k3)
 | exit i=>simp only [exOf] at he; subst he; exact ⟨_,this,rfl,φ',k1.weak hw,k2,k3⟩
 | ret=>simp only [exOf] at he; subst he; exact ⟨_,this,rfl,φ',k1.weak hw,k2,k3⟩
 | pan ch=>simp only [exOf] at he; subst he; exact ⟨_,this,rfl,φ',k1.weak hw,k2,k3⟩
theorem T.cond{c:Operand}{x y:Code}{b:Bool}{Q:Ex×Tr×Hp→Prop}(hc:val st.1 c = .pl (.bool b))(h1:b=true→T P n base x st Q)(h2:b=false→T P n base y st Q):T P n base (.cond c x y) st Q:=by
 intro hk ro hro D X φ a w hS hb;simp only [codeOK,Bool.and_eq_true] at hk;simp only [rfree,Bool.and_eq_true] at hro ⊢;have hv:=hS.val c;rw [hc] at hv;simp only [VR,PR] at hv;refine wpIn_cond hv ?_;cases b with
 | true =>
  have:=h1 rfl hk.1 (hro.imp id fun h=>h.1) X φ a w hS hb;exact Code.wpIn_mono (fun _ _ _ h=>PostB.weak (b:=rfree x) (fun e=>by rw [Bool.and_eq_true] at e; exact e.1) h) (by simpa using this)
 | false =>
  have:=h2 rfl hk.2 (hro.imp id fun h=>h.2) X φ a w hS hb;exact Code.wpIn_mono (fun _ _ _ h=>PostB.weak (b:=rfree y) (fun e=>by rw [Bool.and_eq_true] at e; exact e.2) h) (by simpa using this)
def blkEx(i:Nat):Ex→Ex
 | .exit j=>bif Nat.beq j i then .norm else .exit j
 | e=>e
theorem T.block{i:Nat}{c:Code}{Q:Ex×Tr×Hp→Prop}(h:T P n base c st fun r=>Q (blkEx i r.1,r.2)):T P n base (.block i c) st Q:=by
 intro hk ro hro D X φ a w hS hb;simp only [codeOK] at hk;simp only [rfree] at hro ⊢;refine wpIn_block (Code.wpIn_mono ?_ (h hk hro X φ a w hS hb))
 rintro e a' w' ⟨⟨ex,st'⟩,hq,he,φ',k1,k2,k3⟩
 cases ex with
 | norm=>simp only [exOf] at he; subst he; exact ⟨_,hq,rfl,φ',k1,k2,k3⟩
 | ret=>simp only [exOf] at he; subst he; exact ⟨_,hq,rfl,φ',k1,k2,k3⟩
 | pan ch=>simp only [exOf] at he; subst he; exact ⟨_,hq,rfl,φ',k1,k2,k3⟩
 | exit j =>
  simp only [exOf] at he; subst he;simp only [Exit.inBlock];rcases Qak j i with ⟨hbq,e⟩|⟨hbq,e⟩
  ·rw [if_pos e];exact ⟨_,hq,by simp [blkEx,hbq,exOf],φ',k1,k2,k3⟩
  ·rw [if_neg e];exact ⟨_,hq,by simp [blkEx,hbq,exOf],φ',k1,k2,k3⟩
theorem T.loop{f:Nat}{c:Code}{Q:Ex×Tr×Hp→Prop}(h:TL P n base f c st Q):T P n base (.loop c) st Q:=by
 intro hk ro hro D X φ a w hS hb;simp only [codeOK] at hk;exact wpIn_loop_rounds f (h hk hro X φ a w hS hb)
theorem rounds_fromM{ro:Option Nat}{b:Bool}{ms:List Deferred}{c:Code}{Q:Ex×Tr×Hp→Prop}(ev:EvB base φ w φ' w')(hm:MkOK w.heap.size ms φ' w')(hb:b=true→ms=[]):∀{f:Nat} {a:Act} {w2:World},Code.roundsIn (Fr ro) 0 P c (PostB b (ms++D) X n base φ' w' Q) f a w2→Code.roundsIn (Fr ro) 0 P c (PostB b D X n base φ w Q) f a w2
 | 0,_,_,h=>h
 | f+1,a,w2,h=>by
  rw [roundsIn_succ] at h ⊢;refine Code.wpIn_mono ?_ h;intro e a' w3 hq;cases e<;>first | exact PostB.fromM ev hm (fun e=>⟨e,hb e⟩) hq | exact rounds_fromM (f:=f) ev hm hb hq
theorem TL.step{f:Nat}{c:Code}{Q1 Q:Ex×Tr×Hp→Prop}(h1:T P n base c st Q1)(h2:∀r,Q1 r→match r.1 with | .norm=>TL P n base f c r.2 Q | _=>Q r):TL P n base (f+1) c st Q:=by
 intro hk ro hro D X φ a w hS hb;rw [roundsIn_succ];refine Code.wpIn_mono ?_ (h1 hk hro X φ a w hS hb)
 rintro e a' w' ⟨⟨ex,st'⟩,hq,he,φ',k1,k2,k3⟩
 have:=h2 _ hq;cases ex with
 | norm =>
  simp only [exOf] at he; subst he;obtain ⟨ms,m1,m2,m3⟩:=k1;exact rounds_fromM (f:=f) k2 m2 m3 (this hk hro X φ' a' w' m1 k3)
 | exit i=>simp only [exOf] at he; subst he; exact ⟨_,this,rfl,φ',k1,k2,k3⟩
 | ret=>simp only [exOf] at he; subst he; exact ⟨_,this,rfl,φ',k1,k2,k3⟩
 | pan ch=>simp only [exOf] at he; subst he; exact ⟨_,this,rfl,φ',k1,k2,k3⟩


def Wk(x y:AV):Prop:=∀(w:World)(Y:Nat→Prop)(φ:Phi)(v:Value),VR w Y φ x v→VR w Y φ y v
def WkP(x y:PV):Prop:=(oneP x=true→oneP y=true)∧∀(w:World)(Y:Nat→Prop)(v:Value),PR w Y x v→PR w Y y v
theorem Wk.refl(x:AV):Wk x x:=fun _ _ _ _ h=>h
theorem WkP.nil{f:Fl}{sz sz':Nat} : WkP (.sl f sz []) (.sl .any sz' []):=⟨id,fun w Y v h=>by
 simp only [PR] at h ⊢;obtain ⟨A,c,h1,h2,h3,_,h5⟩:=h;exact ⟨A,c,h1,h2,h3,trivial,.inl rfl⟩⟩
def WkPL:List PV→List PV→Prop
 | [],[]=>True
 | a::x,b::y=>WkP a b∧WkPL x y
 | _,_=>False
theorem WkPL.prl{Y:Nat→Prop} : ∀{x y:List PV} {vs:List Value},WkPL x y→PRL w Y x vs→PRL w Y y vs
 | [],[],_,_,h=>h
 | a::x,b::y,vs,hw,h=>by
  simp only [PRL] at h ⊢;obtain ⟨v,r,e,h0,h1,h2⟩:=h;exact ⟨v,r,e,hw.1.1 h0,hw.1.2 _ _ _ h1,WkPL.prl hw.2 h2⟩
 | [],_::_,_,h,_=>h.elim
 | _::_,[],_,h,_=>h.elim
theorem WkP.agg{x y:List PV}(h:WkPL x y):WkP (.agg x) (.agg y):=⟨fun h=>(by cases h),fun w Y v hv=>by
 simp only [PR] at hv ⊢;obtain ⟨vs,e,hl⟩:=hv;exact ⟨vs,e,h.prl hl⟩⟩
theorem Wk.pl{x y:PV}(h:WkP x y):Wk (.pl x) (.pl y):=fun w Y φ v hv=>by simp only [VR] at hv ⊢; exact h.2 _ _ _ hv
def WkL:List AV→List AV→Prop
 | [],[]=>True
 | a::x,b::y=>Wk a b∧WkL x y
 | _,_=>False
theorem WkL.vrt:∀{x y:List AV} {vs:List Value},WkL x y→VRT w Y φ x vs→VRT w Y φ y vs
 | [],[],_,_,h=>h
 | a::x,b::y,vs,hw,h=>by
  simp only [VRT] at h ⊢;obtain ⟨v,r,e,h1,h2⟩:=h;exact ⟨v,r,e,hw.1 _ _ _ _ h1,WkL.vrt hw.2 h2⟩
 | [],_::_,_,h,_=>h.elim
 | _::_,[],_,h,_=>h.elim

def idxN(o:Nat):List Nat→Nat→Option Nat
 | [],_=>none
 | x::r,j=>bif Nat.beq x o then some j else idxN o r (j+1)
def renO(base:Nat)(m:List Nat)(o:Nat):Option Nat:=bif Nat.blt o base then some o else idxN o m base
mutual
def renA(f:Nat→Option Nat):AV→AV
 | .pl p=>.pl p
 | .un=>.un
 | .ip cs i=>.ip cs i
 | .own o=>match f o with | some k=>.own k | none=>.un
 | .vw o i j=>match f o with | some k=>.vw k i j | none=>.un
 | .bp o i=>match f o with | some k=>.bp k i | none=>.un
 | .ep o i j=>match f o with | some k=>.ep k i j | none=>.un
 | .mp o=>match f o with | some k=>.mp k | none=>.un
 | .it o=>match f o with | some k=>.it k | none=>.un
 | .yl o=>match f o with | some k=>.yl k | none=>.un
 | .tup cs=>.tup (renL f cs)
 | .clo k cs=>.clo k (renL f cs)
 | .agg cs=>bif (renL f cs).all oneA then .agg (renL f cs) else .un
def renL(f:Nat→Option Nat):List AV→List AV
 | []=>[]
 | c::r=>renA f c::renL f r
end
def renOb(f:Nat→Option Nat):Ob→Option Ob
 | .box t cs=>bif (renL f cs).all oneA then some (.box t (renL f cs)) else none
 | .abox t cs es=>bif (renL f cs).all oneA then some (.abox t (renL f cs) es) else none
 | .row z sz es=>some (.row z sz es)
 | .drow sz es=>some (.drow sz es)
 | .brow e s=>some (.brow e s)
 | .map kvs=>some (.map kvs)
 | .lp c st pend cs=>some (.lp c st pend (renL f cs))
 | .iter o n seen=>match f o with | some k=>some (.iter k n seen) | none=>none
def renH(f:Nat→Option Nat):Hp→Option Hp
 | []=>some []
 | none::r=>(renH f r).map (none::·)
 | some x::r=>match renOb f x with | some y=>(renH f r).map (some y::·) | none=>none
def keepS(f:Nat→Option Nat)(s:Tr):List Nat→Tr
 | []=>.leaf
 | t::r=>(keepS f s r).put 12 t (renA f (s.get 12 t))
def okM(base:Nat):List Nat→Bool
 | []=>true
 | o::r=>Nat.ble base o&&!(r.any (Nat.beq o))&&okM base r
def tidy(base:Nat)(m keep:List Nat)(st:Tr×Hp):Option (Tr×Hp) :=
 bif okM base m&&Nat.ble base st.2.length then (match renH (renO base m) (st.2.take base++m.map (hget st.2)) with
  | some H=>some (keepS (renO base m) st.1 keep,H)
  | none=>none) else none
structure RenOK (w:World) (Y Y':Nat→Prop) (f:Nat→Option Nat) (φ φ':Phi):Prop where
 sub:∀b,Y' b→Y b
 to:∀o k,f o=some k→φ' k=φ o
mutual
theorem VR.ren{f:Nat→Option Nat}(hr:RenOK w Y Y' f φ φ'):∀(x:AV)(v:Value),VR w Y φ x v→VR w Y' φ' (renA f x) v
 | .pl p,v,h=>by simp only [renA,VR] at h ⊢; exact PR.sub hr.sub h
 | .un,v,h=>by simp only [renA,VR]
 | .ip cs i,v,h=>by
  have:=VR.stay (φ:=noPhi) (φ':=noPhi) (w:=w) (w':=w) (Ev.refl noPhi w) (fun b=>Y b) (.ip cs i) v;simp only [renA,VR] at h ⊢;obtain ⟨b,o,e,hb,hlt,hc⟩:=h;refine ⟨b,o,e,fun hy=>hb (hr.sub b hy),hlt,?_⟩;exact PRC.stay ⟨Nat.le_refl _,fun _ _ _ _=>rfl,fun b _=>hr.sub b⟩ (fun _ _ h=>h) o cs hc
 | .own o,v,h=>by
  simp only [renA];cases hf:f o with
  | none=>simp only [VR]
  | some k=>simp only [VR] at h ⊢; rw [hr.to o k hf]; exact h
 | .vw o i j,v,h=>by
  simp only [renA];cases hf:f o with
  | none=>simp only [VR]
  | some k=>simp only [VR] at h ⊢; rw [hr.to o k hf]; exact h
 | .bp o i,v,h=>by
  simp only [renA];cases hf:f o with
  | none=>simp only [VR]
  | some k=>simp only [VR] at h ⊢; rw [hr.to o k hf]; exact h
 | .ep o i j,v,h=>by
  simp only [renA];cases hf:f o with
  | none=>simp only [VR]
  | some k=>simp only [VR] at h ⊢; rw [hr.to o k hf]; exact h
 | .mp o,v,h=>by
  simp only [renA];cases hf:f o with
  | none=>simp only [VR]
  | some k=>simp only [VR] at h ⊢; rw [hr.to o k hf]; exact h
 | .yl o,v,h=>by
  simp only [renA];cases hf:f o with
  | none=>simp only [VR]
  | some k=>simp only [VR] at h ⊢; rw [hr.to o k hf]; exact h
 | .it o,v,h=>by
  simp only [renA];cases hf:f o with
  | none=>simp only [VR]
  | some k=>simp only [VR] at h ⊢; rw [hr.to o k hf]; exact h
 | .tup cs,v,h=>by
  simp only [renA,VR] at h ⊢;obtain ⟨vs,e,hl⟩:=h;exact ⟨vs,e,VRT.ren hr cs vs hl⟩
 | .clo k cs,v,h=>by
  simp only [renA,VR] at h ⊢;obtain ⟨vs,e,hl⟩:=h;exact ⟨vs,e,VRT.ren hr cs vs hl⟩
 | .agg cs,v,h=>by
  simp only [renA];cases ha:(renL f cs).all oneA with
  | false=>simp only [cond_false,VR]
  | true =>
   simp only [cond_true,VR] at h ⊢;obtain ⟨vs,e,hl⟩:=h;exact ⟨vs,e,VRL.ren hr cs vs ha hl⟩
theorem VRL.ren{f:Nat→Option Nat}(hr:RenOK w Y Y' f φ φ'):∀(cs:List AV)(vs:List Value),(renL f cs).all oneA=true→VRL w Y φ cs vs→VRL w Y' φ' (renL f cs) vs
 | [],vs,_,h=>by simpa only [renL,VRL] using h
 | c::cs,vs,ha,h=>by
  simp only [renL,List.all_cons,Bool.and_eq_true] at ha;simp only [renL,VRL] at h ⊢;obtain ⟨v,r,e,_,h1,h2⟩:=h;exact ⟨v,r,e,ha.1,VR.ren hr c v h1,VRL.ren hr cs r ha.2 h2⟩
theorem VRT.ren{f:Nat→Option Nat}(hr:RenOK w Y Y' f φ φ'):∀(cs:List AV)(vs:List Value),VRT w Y φ cs vs→VRT w Y' φ' (renL f cs) vs
 | [],vs,h=>by simpa only [renL,VRT] using h
 | c::cs,vs,h=>by
  simp only [renL,VRT] at h ⊢;obtain ⟨v,r,e,h1,h2⟩:=h;exact ⟨v,r,e,VR.ren hr c v h1,VRT.ren hr cs r h2⟩
end
theorem MR.sub{Y Y':Nat→Prop}(hs:∀b,Y' b→Y b){i:Nat}{kvs:List (PV×PV)}{es:List MapEntry}(h:MR w Y i kvs es):MR w Y' i kvs es:=MR.stay ⟨Nat.le_refl _,fun _ _ _ _=>rfl,fun b _=>hs b⟩ i kvs es h
theorem renL_pl(f:Nat→Option Nat):∀es:List PV,renL f (es.map AV.pl)=es.map AV.pl
 | []=>rfl
 | p::r=>by rw [List.map_cons,renL,renL_pl f r]; rfl
theorem renL_tail(f:Nat→Option Nat)(es:List PV):∀cs:List AV,renL f (cs++es.map AV.pl)=renL f cs++es.map AV.pl
 | []=>renL_pl f es
 | c::r=>by rw [List.cons_append,renL,renL,renL_tail f es r]; rfl
theorem VRL.ones{w:World}{Y:Nat→Prop}{φ:Phi} : ∀{cs:List AV} {vs:List Value},VRL w Y φ cs vs→cs.all oneA=true
 | [],_,_=>rfl
 | c::r,vs,h=>by
  simp only [VRL] at h;obtain ⟨_,_,_,ho,_,hr⟩:=h;rw [List.all_cons,ho,hr.ones]; rfl
theorem OR.ren{f:Nat→Option Nat}(hr:RenOK w Y Y' f φ φ'){z:Bool}{l:Loc}{x y:Ob}(h:renOb f x=some y)(ho:OR w Y φ z l x):OR w Y' φ' z l y:=by
 cases x with
 | box t cs =>
  simp only [renOb] at h;cases ha:(renL f cs).all oneA with
  | false=>simp [ha] at h
  | true =>
   simp only [ha,cond_true,Option.some.injEq] at h; subst h;simp only [OR] at ho ⊢;obtain ⟨hz,b,vs,hA,hg,hv⟩:=ho;exact ⟨hz,b,vs,hA,hg,VRL.ren hr cs vs ha hv⟩
 | abox t cs es =>
  simp only [renOb] at h;cases ha:(renL f cs).all oneA with
  | false=>simp [ha] at h
  | true =>
   simp only [ha,cond_true,Option.some.injEq] at h; subst h;simp only [OR] at ho ⊢;obtain ⟨hz,b,vs,hA,hg,hv⟩:=ho;refine ⟨hz,b,vs,hA,hg,?_⟩;rw [←renL_tail];refine VRL.ren hr _ vs ?_ hv;rw [renL_tail,List.all_append,ha,Bool.true_and];have hn:=hv.ones;rw [List.all_append,Bool.and_eq_true] at hn;exact hn.2
 | row fz sz es =>
  simp only [renOb,Option.some.injEq] at h; subst h;simp only [OR] at ho ⊢;obtain ⟨hz,h1,h2,h3,h4,h5⟩:=ho;refine ⟨hz,h1,h2,h3,h4,h5.imp id ?_⟩
  rintro ⟨b,p,t,cs,hA,hg,hs,hE,hY⟩
  exact ⟨b,p,t,cs,hA,hg,hs,PRE.stay ⟨Nat.le_refl _,fun _ _ _ _=>rfl,fun b _=>hr.sub b⟩ (fun _ _ h=>h) p es hE,fun hz hc=>hY hz (hr.sub b hc)⟩
 | drow sz es =>
  simp only [renOb,Option.some.injEq] at h; subst h;simp only [OR] at ho ⊢;exact ho
 | brow e s =>
  simp only [renOb,Option.some.injEq] at h; subst h;simp only [OR] at ho ⊢;exact ho
 | map kvs =>
  simp only [renOb,Option.some.injEq] at h; subst h;simp only [OR] at ho ⊢;obtain ⟨hz,b,es,hA,hg,hm⟩:=ho;exact ⟨hz,b,es,hA,hg,hm.sub hr.sub⟩
 | lp c st pend cs =>
  simp only [renOb,Option.some.injEq] at h; subst h;simp only [OR] at ho ⊢;obtain ⟨hz,b,fn,d,vs,hA,hg,hv⟩:=ho;exact ⟨hz,b,fn,d,vs,hA,hg,VRT.ren hr cs vs hv⟩
 | iter o n seen =>
  simp only [renOb] at h;cases hf:f o with
  | none=>simp [hf] at h
  | some k =>
   simp only [hf,Option.some.injEq] at h; subst h;simp only [OR] at ho ⊢;rw [hr.to o k hf]; exact ho
theorem renH_at{f:Nat→Option Nat} : ∀{H H':Hp},renH f H=some H'→H'.length=H.length∧∀o,(∀x,hget H o=some x→∃y,renOb f x=some y∧hget H' o=some y)∧(hget H o=none→hget H' o=none)
 | [],H',h=>by
  simp only [renH,Option.some.injEq] at h; subst h;exact ⟨rfl,fun o=>⟨fun x hx=>(by simp [hget] at hx),fun h=>h⟩⟩
 | none::r,H',h=>by
  simp only [renH,Option.map_eq_some_iff] at h;obtain ⟨H1,h1,rfl⟩:=h;obtain ⟨k1,k2⟩:=renH_at h1;refine ⟨by simp [k1],fun o=>?_⟩;cases o with
  | zero=>exact ⟨fun x hx=>by simp [hget] at hx,fun _=>rfl⟩
  | succ o=>rw [Qcv.1 o,Qcv.1 o]; exact k2 o
 | some x::r,H',h=>by
  simp only [renH] at h
  split at h
  ·rename_i y hy;simp only [Option.map_eq_some_iff] at h;obtain ⟨H1,h1,rfl⟩:=h;obtain ⟨k1,k2⟩:=renH_at h1;refine ⟨by simp [k1],fun o=>?_⟩;cases o with
   | zero=>exact ⟨fun x' hx=>by simp [hget] at hx; subst hx; exact ⟨y,hy,rfl⟩,fun h=>by simp [hget] at h⟩
   | succ o=>rw [Qcv.1 o,Qcv.1 o]; exact k2 o
  ·cases h
theorem idxN_at{o:Nat} : ∀{m:List Nat} {j k:Nat},idxN o m j=some k→j≤k∧m[k-j]?=some o
 | [],j,k,h=>by simp [idxN] at h
 | x::r,j,k,h=>by
  simp only [idxN] at h;rcases Qak x o with ⟨hb,e⟩|⟨hb,e⟩
  ·simp only [hb,cond_true,Option.some.injEq] at h; subst h; subst e; exact ⟨Nat.le_refl _,by simp⟩
  ·simp only [hb,cond_false] at h;obtain ⟨h1,h2⟩:=idxN_at h;exact ⟨by omega,by rw [show k-j=(k-(j+1))+1 from by omega]; simpa using h2⟩
theorem okM_ge:∀{m:List Nat},okM base m=true→∀{j o:Nat},m[j]?=some o→base≤o
 | [],_,j,o,h=>by simp at h
 | x::r,hk,j,o,h=>by
  simp only [okM,Bool.and_eq_true] at hk;cases j with
  | zero=>simp at h; subst h; exact ble_t hk.1.1
  | succ j=>exact okM_ge hk.2 (by simpa using h)
theorem okM_inj:∀{m:List Nat},okM base m=true→∀{i j o:Nat},m[i]?=some o→m[j]?=some o→i=j
 | [],_,i,j,o,h,_=>by simp at h
 | x::r,hk,i,j,o,hi,hj=>by
  simp only [okM,Bool.and_eq_true] at hk;have no:∀{k:Nat},r[k]?=some x→False:=fun {k} h=>by
   have h2:=hk.1.2;rw [Bool.not_eq_true',←Bool.not_eq_true,List.any_eq_true] at h2;exact h2 ⟨x,List.mem_of_getElem? h,by simp⟩
  cases i with
  | zero =>
   simp at hi; subst hi;cases j with
   | zero=>rfl
   | succ j=>exact (no (by simpa using hj)).elim
  | succ i =>
   cases j with
   | zero=>simp at hj; subst hj; exact (no (by simpa using hi)).elim
   | succ j=>rw [okM_inj hk.2 (i:=i) (j:=j) (by simpa using hi) (by simpa using hj)]
def renPhi(base:Nat)(m:List Nat)(φ:Phi):Phi:=fun o=>if o<base then φ o else match m[o-base]? with | some k=>φ k | none=>.fresh
theorem keepS_vr{f:Nat→Option Nat}{s:Tr}{t:Nat} : ∀(l:List Nat),(keepS f s l).get 12 t = .un∨(keepS f s l).get 12 t=renA f (s.get 12 t)
 | []=>.inl (Qcs _ _)
 | k::r=>by
  simp only [keepS]
  by_cases e:t=k
  ·subst e;rcases Qca 12 (keepS f s r) t (renA f (s.get 12 t)) with h | h
   ·exact .inr h
   ·exact .inl h
  ·rw [Qbi 12 _ _ _ _ e]; exact keepS_vr r
theorem tidy_ok{m keep:List Nat}{st':Tr×Hp}(h:tidy base m keep st=some st')(hS:SR D X n st.1 st.2 φ a w):∃φ',SR D X n st'.1 st'.2 φ' a w∧EvB base φ w φ' w∧base≤st'.2.length:=by
 unfold tidy at h;cases hb:(okM base m&&Nat.ble base st.2.length) with
 | false=>simp [hb] at h
 | true =>
  simp only [hb,cond_true] at h;rw [Bool.and_eq_true] at hb;obtain ⟨hm,hlen⟩:=hb;have hlen:=ble_t hlen
  split at h
  ·rename_i H' hH';simp only [Option.some.injEq] at h; subst h;obtain ⟨hl,hat⟩:=renH_at hH';have hl':H'.length=base+m.length:=by rw [hl]; simp; omega
   have hg:∀o,hget (st.2.take base++m.map (hget st.2)) o=if o<base then hget st.2 o else match m[o-base]? with | some k=>hget st.2 k | none=>none:=fun o=>by
    have htk:(st.2.take base).length=base:=by simp; omega
    by_cases ho:o<base
    ·rw [if_pos ho];simp only [hget];rw [List.getElem?_append_left (by omega),List.getElem?_take,if_pos ho]
    ·rw [if_neg ho];unfold hget;rw [List.getElem?_append_right (by omega),htk,List.getElem?_map];cases m[o-base]? with
     | none=>rfl
     | some k =>
      simp only [Option.map_some];cases st.2[k]? with
      | none=>rfl
      | some x=>cases x<;>rfl
   have inv:∀o,o<base∨(∃k,m[o-base]?=some k∧renPhi base m φ o=φ k∧base≤k)∨renPhi base m φ o = .fresh:=fun o=>by
    by_cases ho:o<base
    ·exact .inl ho
    ·right
     unfold renPhi;rw [if_neg ho];cases hk:m[o-base]? with
     | none=>exact .inr rfl
     | some k=>exact .inl ⟨k,rfl,rfl,okM_ge hm hk⟩
   have low:∀o,o<base→renPhi base m φ o=φ o:=fun o ho=>by unfold renPhi; rw [if_pos ho]
   have src:∀o z l,renPhi base m φ o = .at z l→∃k,φ k = .at z l∧hget (st.2.take base++m.map (hget st.2)) o=hget st.2 k∧(o<base∧k=o∨¬o<base∧m[o-base]?=some k∧base≤k):=fun o z l ho=>by
    rcases inv o with hlt | ⟨k,hk,e,hge⟩ | e
    ·rw [low o hlt] at ho; exact ⟨o,ho,by rw [hg,if_pos hlt],.inl ⟨hlt,rfl⟩⟩
    ·rw [e] at ho
     by_cases hlt:o<base
     ·rw [low o hlt] at e;exact ⟨o,e.trans ho,by rw [hg,if_pos hlt],.inl ⟨hlt,rfl⟩⟩
     ·exact ⟨k,ho,by rw [hg,if_neg hlt,hk],.inr ⟨hlt,hk,hge⟩⟩
    ·rw [e] at ho; cases ho
   have uniq:∀o o' k k',(o<base∧k=o∨¬o<base∧m[o-base]?=some k∧base≤k)→(o'<base∧k'=o'∨¬o'<base∧m[o'-base]?=some k'∧base≤k')→k=k'→o=o':=by
    rintro o o' k k' (⟨h1,rfl⟩|⟨h1,h2,h3⟩) (⟨k1,rfl⟩|⟨k1,k2,k3⟩) e
    ·exact e
    ·omega
    ·omega
    ·subst e;have:=okM_inj hm h2 k2; omega
   have hren:RenOK w (YOf X φ) (YOf X (renPhi base m φ)) (renO base m) φ (renPhi base m φ):=by
    refine ⟨fun b hb=>hb.imp id ?_,fun o k hk=>?_⟩
    ·rintro ⟨o,l,p,ho,hA⟩
     obtain ⟨k,hk,_⟩:=src o false l ho;exact ⟨k,l,p,hk,hA⟩
    ·unfold renO at hk;cases hlt:Nat.blt o base with
     | true =>
      simp only [hlt,cond_true,Option.some.injEq] at hk; subst hk;exact low o (by simpa [Nat.blt_eq] using hlt)
     | false =>
      simp only [hlt,cond_false] at hk;obtain ⟨h1,h2⟩:=idxN_at hk;unfold renPhi;rw [if_neg (by omega),h2]
   have ev:EvB base φ w (renPhi base m φ) w:=by
    refine ⟨rfl,rfl,⟨rfl,Nat.le_refl _⟩,Nat.le_refl _,fun _ _ _=>rfl,fun b _ hb=>?_,fun o ho _=>.inl (low o ho),fun o ho h=>by rw [low o ho]; exact h⟩;obtain ⟨o,l,p,ho,hA⟩:=hb;obtain ⟨k,hk,_⟩:=src o false l ho;exact ⟨k,l,p,hk,hA⟩
   refine ⟨renPhi base m φ,⟨hS.defers,hS.size,fun t=>?_,?_⟩,ev,by rw [hl']; omega⟩
   ·rcases keepS_vr (f:=renO base m) (s:=st.1) (t:=t) keep with e | e
    ·rw [e]; simp only [VR]
    ·rw [e]; exact VR.ren hren _ _ (hS.slots t)
   ·refine ⟨fun o ho=>?_,fun o z l ho=>?_,fun o y hy=>?_,fun o o' l l' b p p' ho ho' hA hA'=>?_,fun o l b p ho hA=>?_,⟨hS.hr.xlt.lt,hS.hr.xlt.tab.sub fun b ⟨o,l,p,ho,hA⟩=>by
    obtain ⟨k,hk,_⟩:=src o false l ho;exact ⟨k,l,p,hk,hA⟩⟩⟩
    ·have ho':H'.length≤o:=ho;unfold renPhi;rw [if_neg (by omega),List.getElem?_eq_none (by omega)]
    ·obtain ⟨k,hk,he,_⟩:=src o z l ho;obtain ⟨x,hx⟩:=hS.hr.live k z l hk;obtain ⟨y,_,hy⟩:=(hat o).1 x (he.trans hx);exact ⟨y,hy⟩
    ·cases hx:hget (st.2.take base++m.map (hget st.2)) o with
     | none=>rw [(hat o).2 hx] at hy; cases hy
     | some x =>
      obtain ⟨y',h1,h2⟩:=(hat o).1 x hx;rw [hy] at h2; cases h2;rw [hg] at hx
      by_cases hlt:o<base
      ·rw [if_pos hlt] at hx;obtain ⟨z,l,hl2,hO⟩:=hS.hr.ob o x hx;exact ⟨z,l,by rw [low o hlt]; exact hl2,OR.ren hren h1 hO⟩
      ·rw [if_neg hlt] at hx;cases hk:m[o-base]? with
       | none=>rw [hk] at hx; cases hx
       | some k =>
        rw [hk] at hx;obtain ⟨z,l,hl2,hO⟩:=hS.hr.ob k x hx;refine ⟨z,l,?_,OR.ren hren h1 hO⟩;unfold renPhi;rw [if_neg hlt,hk]; exact hl2
    ·obtain ⟨k,hk,_,c⟩:=src o false l ho;obtain ⟨k',hk',_,c'⟩:=src o' false l' ho';exact uniq o o' k k' c c' (hS.hr.inj k k' l l' b p p' hk hk' hA hA')
    ·obtain ⟨k,hk,_⟩:=src o false l ho;exact hS.hr.out k l b p hk hA
  ·cases h
end
end Go.Proofs.Ytbgjlpdeoljmiaa
